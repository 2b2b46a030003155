/- The reference's head of a frame: bit, sum, begins. -/
import Derived.Test.YtipadidfiffkjaaFrUnpack
import Derived.Test.YtipadidfiffkjaaRHash
import Derived.Laws.ResultCell
import Derived.Laws.IdiomRangeMap
namespace Go.Proofs.Ytipadidfiffkjaa
open Go.RowKit Go.PostSums Go.PostMem
theorem u8and1 (x : Nat) (h : x < 256) : Go.bits .and .u8 (x : Int) 1 = ((x % 2 : Nat) : Int) :=
  (show ∀ x : Fin 256, Go.bits .and .u8 (x.val : Int) 1 = ((x.val % 2 : Nat) : Int) by decide +kernel) ⟨x, h⟩
theorem u8eq1 (x : Nat) (h : x < 256) : (Go.bits .and .u8 (x : Int) 1 == 1) = decide (x % 2 = 1) := by
  rw [u8and1 x h]
  rcases (show x % 2 = 0 ∨ x % 2 = 1 by omega) with e | e <;> rw [e] <;> rfl
def bitPost (x k : Nat) (w : World) (e : Ending) (w' : World) : Prop := e = .returned (.bool (decide (x / k % 2 = 1))) ∧ w = w'
theorem rbit4 (x : Nat) (w : World) (h : x < 256) : Calls Try.prog 36 #[.int .u8 (x : Int), .int .i64 4] w (bitPost x 16 w) := by
  have h1 : (Go.bits .and .u8 ((x : Int) / 16) 1 == 1) = decide (x / 16 % 2 = 1) := u8eq1 (x / 16) (by omega)
  go_enter Try.func36, Try.ntmps36
  go_wp2_with fail
  go_ret
  unfold bitPost
  rw [← h1]
  exact ⟨rfl, rfl⟩
theorem rbit3 (x : Nat) (w : World) (h : x < 256) : Calls Try.prog 36 #[.int .u8 (x : Int), .int .i64 3] w (bitPost x 8 w) := by
  have h1 : (Go.bits .and .u8 ((x : Int) / 8) 1 == 1) = decide (x / 8 % 2 = 1) := u8eq1 (x / 8) (by omega)
  go_enter Try.func36, Try.ntmps36
  go_wp2_with fail
  go_ret
  unfold bitPost
  rw [← h1]
  exact ⟨rfl, rfl⟩
theorem rbit2 (x : Nat) (w : World) (h : x < 256) : Calls Try.prog 36 #[.int .u8 (x : Int), .int .i64 2] w (bitPost x 4 w) := by
  have h1 : (Go.bits .and .u8 ((x : Int) / 4) 1 == 1) = decide (x / 4 % 2 = 1) := u8eq1 (x / 4) (by omega)
  go_enter Try.func36, Try.ntmps36
  go_wp2_with fail
  go_ret
  unfold bitPost
  rw [← h1]
  exact ⟨rfl, rfl⟩
theorem rfixed_at (s : ByteArray) (n : Nat) (x : Int) (w : World) (hx : x = (n : Int)) (hs : s.size ≤ 140737488351232) (h1 : 1 ≤ n) (h8 : n ≤ 8) :
    Calls Try.prog 14 #[.string s, .int .i64 x] w (FixPost s n w) := by
  subst hx; exact RFixed_any s n w hs h1 h8
theorem fixedN_four (l : List UInt8) : fixedN l 4 = if l.length < 4 then (0, 5) else (leN l 4, 0) := by
  unfold fixedN
  split
  · rfl
  · rw [if_neg]
    have := leN_lt l 4
    have e : (256 : Nat) ^ 4 = 4294967296 := by decide
    omega
set_option maxRecDepth 100000 in
set_option maxHeartbeats 1600000 in
theorem rsum_any (s : ByteArray) (a : Nat) (t : ByteArray) (w : World) (hs : s.size ≤ 140737488351232) (ha : a ≤ s.size) (ht : t.size ≤ 140737488351232) :
    Calls Try.prog 23 #[.string s, .int .i64 (a : Int), .string t] w fun e w' => e = .returned (.int .i64 (sumE s.data.toList true t.data.toList a : Nat)) ∧ Below w.heap.size w w' := by
  unfold sumE
  rw [if_pos rfl, list_size]
  have k1 : (0 : Int) ≤ (a : Int) := by omega
  have k2 : (a : Int) ≤ (s.size : Int) := by omega
  have hx : ∀ k, k = s.size → (s.extract a k).size = s.size - a ∧ (s.extract a k).data.toList = s.data.toList.drop a := by
    rintro k rfl
    refine ⟨by simp, ?_⟩
    simp [List.take_of_length_le]
  obtain ⟨z, hz⟩ : ∃ z, z = s.extract a s.size := ⟨_, rfl⟩
  obtain ⟨hzs, hzl⟩ := hx s.size rfl
  rw [← hz] at hzs hzl
  have hzb : z.size ≤ 140737488351232 := by omega
  have HZ := Lib.hid hz; clear hz hx
  have hf := fixedN_four z.data.toList
  rw [list_size, hzl, hzs] at hf
  by_cases hc : s.size < a + 4
  · rw [if_pos hc]
    rw [if_pos (by omega), ← hzl] at hf
    have HF := Lib.hid hf; clear hf
    go_enter Try.func23, Try.ntmps23
    go_wp2_with (first
      | (go_at_call 14; rw [← HZ.out]; (with_reducible refine (rfixed_at z 4 4 _ rfl hzb (by decide) (by decide)).mono ?_); rintro e w1 ⟨rfl, rfl⟩; rw [HF.out]))
    go_ret
    exact ⟨rfl, Below.refl _ _⟩
  · rw [if_neg hc]
    rw [if_neg (by omega)] at hf
    generalize leN (s.data.toList.drop a) 4 = x at hf ⊢
    rw [← hzl] at hf
    have HF := Lib.hid hf; clear hf
    obtain ⟨q, hq⟩ : ∃ q, q = hashN 0 t.data.toList := ⟨_, rfl⟩
    have HS : Hid (∀ w', Calls Try.prog 37 #[.string t, .int .i64 0] w' fun e w'' => e = .returned (.int .i64 (q : Int)) ∧ Below w'.heap.size w' w'') := Lib.hid fun w' => by rw [hq]; exact RHash_any t 0 w' ht
    rw [← hq]
    clear hq
    by_cases hxq : x = q
    · rw [if_pos hxq]
      have hxq' : (x : Int) = (q : Int) := by omega
      go_enter Try.func23, Try.ntmps23
      go_wp2_with (first
        | (go_at_call 14; rw [← HZ.out]; (with_reducible refine (rfixed_at z 4 4 _ rfl hzb (by decide) (by decide)).mono ?_); rintro e w1 ⟨rfl, rfl⟩; rw [HF.out])
        | (go_at_call 37; (with_reducible refine (HS.out _).mono ?_); rintro e w2 ⟨rfl, hb⟩))
      go_ret
      exact ⟨rfl, hb⟩
    · rw [if_neg hxq]
      have hxq' : ¬ (x : Int) = (q : Int) := by omega
      go_enter Try.func23, Try.ntmps23
      go_wp2_with (first
        | (go_at_call 14; rw [← HZ.out]; (with_reducible refine (rfixed_at z 4 4 _ rfl hzb (by decide) (by decide)).mono ?_); rintro e w1 ⟨rfl, rfl⟩; rw [HF.out])
        | (go_at_call 37; (with_reducible refine (HS.out _).mono ?_); rintro e w2 ⟨rfl, hb⟩))
      go_ret
      exact ⟨rfl, hb⟩
end Go.Proofs.Ytipadidfiffkjaa
