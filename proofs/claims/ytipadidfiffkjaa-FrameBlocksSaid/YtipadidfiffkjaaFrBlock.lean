/- summed, unpacked. -/
import Derived.Test.YtipadidfiffkjaaFrSizes
namespace Go.Proofs.Ytipadidfiffkjaa
open Go.RowKit Go.PostSums Go.PostMem
def summedR (l : List UInt8) (on : Bool) (t : List UInt8) (f : FSt) : Except Nat FSt :=
  if on then (if l.length < f.a + 4 then .error 5 else if leN (l.drop f.a) 4 = hashN 0 t then .ok { f with a := f.a + 4 } else .error 71) else .ok f
set_option maxRecDepth 100000 in
set_option maxHeartbeats 1600000 in
theorem summed_any (B b : Nat) (s : ByteArray) (f : FSt) (l : List UInt8) (m : Int) (on : Bool) (t : ByteArray) (w : World) (hm : (Go.bits .and .u8 (f.flag : Int) m == 0) = !on) (h : Fr w B b s f l) (hs : s.size ≤ 140737488351232) (ha : f.a ≤ s.size) (ht : t.size ≤ 140737488351232) (hBw : B ≤ w.heap.size) :
    Calls Try.prog 33 #[.pointer (some ⟨b, 0, none⟩), .int .u8 m, .string t] w (StepPost B b s l (summedR s.data.toList on t.data.toList f) w) := by
  unfold summedR
  rw [list_size]
  obtain ⟨-, -, -, d3, -⟩ := h.cells
  cases on
  · rw [if_neg (by decide)]
    simp only [Bool.not_false] at hm
    go_enter Try.func33, Try.ntmps33
    go_wp2_with fail
    go_ret
    exact ⟨Kept.refl _ _ _, rfl, h⟩
  · rw [if_pos rfl]
    simp only [Bool.not_true] at hm
    by_cases hc : s.size < f.a + 4
    · rw [if_pos hc]
      go_enter Try.func33, Try.ntmps33
      go_wp2_with (go_at_call 32; (with_reducible refine (number_any B b s f l _ h hs ha).mono ?_); rintro e w1 ⟨hk, hp⟩; rw [if_pos hc] at hp; obtain ⟨rfl, hF⟩ := hp)
      go_ret
      exact ⟨hk, rfl⟩
    · rw [if_neg hc]
      generalize hx : leN (s.data.toList.drop f.a) 4 = x
      obtain ⟨q, hq⟩ : ∃ q, q = hashN 0 t.data.toList := ⟨_, rfl⟩
      have HS : Hid (∀ w', Calls Try.prog 40 #[.string t, .int .i64 0] w' fun e w'' => e = .returned (.int .i64 (q : Int)) ∧ Below w'.heap.size w' w'') := Lib.hid fun w' => by rw [hq]; exact Hash_any t 0 w' ht
      rw [← hq]
      clear hq
      by_cases hxq : x = q
      · rw [if_pos hxq]
        have hxq' : (x : Int) = (q : Int) := by omega
        go_enter Try.func33, Try.ntmps33
        go_wp2_with (first
          | (go_at_call 32; (with_reducible refine (number_any B b s f l _ h hs ha).mono ?_); rintro e w1 ⟨hk, hp⟩; rw [if_neg hc, hx] at hp; obtain ⟨rfl, hF⟩ := hp)
          | (go_at_call 40; (with_reducible refine (HS.out _).mono ?_); rintro e w2 ⟨rfl, hb⟩))
        go_ret
        exact ⟨hk.trans (Kept.of_below hb (Nat.le_trans hBw hk.size)), rfl, hF.other hb⟩
      · rw [if_neg hxq]
        have hxq' : ¬ (x : Int) = (q : Int) := by omega
        go_enter Try.func33, Try.ntmps33
        go_wp2_with (first
          | (go_at_call 32; (with_reducible refine (number_any B b s f l _ h hs ha).mono ?_); rintro e w1 ⟨hk, hp⟩; rw [if_neg hc, hx] at hp; obtain ⟨rfl, hF⟩ := hp)
          | (go_at_call 40; (with_reducible refine (HS.out _).mono ?_); rintro e w2 ⟨rfl, hb⟩))
        go_ret
        exact ⟨hk.trans (Kept.of_below hb (Nat.le_trans hBw hk.size)), rfl⟩
/-- a packed block's plain bytes -/
def unpackedR (room : Nat) (t : List UInt8) : List UInt8 × Nat :=
  let r := PostLz.unpack t ((min room 1048576 : Nat) : Int)
  (r.1, if r.2 = 4 ∧ room ≤ 1048576 then 70 else r.2)
def UnpPost (f : FSt) (t : ByteArray) (w : World) (e : Ending) (w' : World) : Prop :=
  e = .returned (.tuple #[.string (strOf (unpackedR f.room t.data.toList).1), .int .i64 ((unpackedR f.room t.data.toList).2 : Int)]) ∧ Below w.heap.size w w'
set_option maxRecDepth 100000 in
set_option maxHeartbeats 1600000 in
theorem unpacked_any (B b : Nat) (s : ByteArray) (f : FSt) (l : List UInt8) (t : ByteArray) (w : World) (h : Fr w B b s f l) (ht : t.size ≤ 140737488351232) :
    Calls Try.prog 34 #[.pointer (some ⟨b, 0, none⟩), .string t] w (UnpPost f t w) := by
  unfold UnpPost unpackedR
  obtain ⟨-, -, -, -, d4, -⟩ := h.cells
  have e4 : ∀ w', Below w.heap.size w w' → w'.cell? ⟨b, 4, none⟩ = some (.int .i64 (f.room : Int)) := fun w' hb => (h.other hb).cells.2.2.2.2.1
  obtain ⟨a, most, flag, room, size⟩ := f
  simp only at d4 e4 ⊢
  clear h
  obtain ⟨M, hM⟩ : ∃ M : Nat, M = min room 1048576 := ⟨_, rfl⟩
  rw [← hM]
  have HM := Lib.hid hM; clear hM
  have HU : Hid (∀ (x : Int), x = (M : Int) → ∀ w', Calls Try.prog 43 #[.string t, .int .i64 x] w' (UnpackPost t M w')) := Lib.hid fun x hx w' => by subst hx; exact Unpack_any t M w' ht
  unfold UnpackPost at HU
  generalize PostLz.unpack t.data.toList (M : Int) = r at HU ⊢
  obtain ⟨u, c⟩ := r
  simp only at HU ⊢
  by_cases hc : c = 4
  · subst hc
    by_cases hr : room ≤ 1048576
    · rw [if_pos ⟨rfl, hr⟩]
      have hr' : (room : Int) ≤ 1048576 := by omega
      go_enter Try.func34, Try.ntmps34
      go_wp2_with (go_at_call 43; have hM := HM.out; (with_reducible refine (HU.out _ (by first | omega | (split <;> omega)) _).mono ?_); clear hM; rintro e w1 ⟨rfl, hb⟩; have d4' := e4 _ hb)
      go_ret2
      exact ⟨rfl, hb⟩
    · rw [if_neg (fun h => hr h.2)]
      have hr' : ¬ (room : Int) ≤ 1048576 := by omega
      go_enter Try.func34, Try.ntmps34
      go_wp2_with (go_at_call 43; have hM := HM.out; (with_reducible refine (HU.out _ (by first | omega | (split <;> omega)) _).mono ?_); clear hM; rintro e w1 ⟨rfl, hb⟩; have d4' := e4 _ hb)
      go_ret2
      exact ⟨rfl, hb⟩
  · rw [if_neg (fun h => hc h.1)]
    have hc' : ¬ (c : Int) = 4 := by omega
    go_enter Try.func34, Try.ntmps34
    go_wp2_with (go_at_call 43; have hM := HM.out; (with_reducible refine (HU.out _ (by first | omega | (split <;> omega)) _).mono ?_); clear hM; rintro e w1 ⟨rfl, hb⟩; have d4' := e4 _ hb)
    all_goals (go_ret2; exact ⟨rfl, hb⟩)
end Go.Proofs.Ytipadidfiffkjaa
