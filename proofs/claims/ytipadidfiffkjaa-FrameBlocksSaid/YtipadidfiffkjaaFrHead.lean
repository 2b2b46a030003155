/- The steps of a frame's head: begins, flags, sizes, headed; summed, fixed, sum. -/
import Derived.Test.YtipadidfiffkjaaFrame
namespace Go.Proofs.Ytipadidfiffkjaa
open Go.RowKit Go.PostSums Go.PostMem
/-- what a step answers: an error, or none and the frame's next state -/
def StepPost (B b : Nat) (s : ByteArray) (l : List UInt8) (r : Except Nat FSt) (w : World) (e : Ending) (w' : World) : Prop :=
  Kept b B w w' ∧ match r with
    | .error c => e = .returned (.int .i64 (c : Int))
    | .ok f => e = .returned (.int .i64 0) ∧ Fr w' B b s f l
def magicL : List UInt8 := [4, 34, 77, 24]
def beginsR (l : List UInt8) (f : FSt) : Except Nat FSt :=
  if l.length < f.a + 4 then .error 5 else if (l.drop f.a).take 4 = magicL then .ok { f with a := f.a + 4 } else .error 70
theorem list_size (s : ByteArray) : s.data.toList.length = s.size := by simp
set_option maxRecDepth 100000 in
set_option maxHeartbeats 1600000 in
theorem begins_any (B b : Nat) (s : ByteArray) (f : FSt) (l : List UInt8) (w : World) (h : Fr w B b s f l) (hs : s.size ≤ 140737488351232) (ha : f.a ≤ s.size) :
    Calls Try.prog 15 #[.pointer (some ⟨b, 0, none⟩)] w (StepPost B b s l (beginsR s.data.toList f) w) := by
  unfold beginsR
  rw [list_size]
  by_cases hc : s.size < f.a + 4
  · rw [if_pos hc]
    go_enter Try.func15, Try.ntmps15
    go_wp2_with (go_at_call 29; (with_reducible refine (take_at B b s f l 4 4 _ rfl h hs ha (by decide)).mono ?_); rintro e w1 ⟨hk, hp⟩; rw [if_pos hc] at hp; obtain ⟨rfl, hF⟩ := hp)
    go_ret
    exact ⟨hk, rfl⟩
  · rw [if_neg hc]
    by_cases hm : (s.data.toList.drop f.a).take 4 = magicL
    · rw [if_pos hm]
      have hz : strOf ((s.data.toList.drop f.a).take 4) = ⟨#[4, 34, 77, 24]⟩ := by rw [hm]; rfl
      go_enter Try.func15, Try.ntmps15
      go_wp2_with (go_at_call 29; (with_reducible refine (take_at B b s f l 4 4 _ rfl h hs ha (by decide)).mono ?_); rintro e w1 ⟨hk, hp⟩; rw [if_neg hc, hz] at hp; obtain ⟨rfl, hF⟩ := hp)
      go_ret
      exact ⟨hk, rfl, hF⟩
    · rw [if_neg hm]
      have hne : strOf ((s.data.toList.drop f.a).take 4) ≠ ⟨#[4, 34, 77, 24]⟩ := fun e => hm (strOf_inj (e.trans rfl))
      generalize hz : strOf ((s.data.toList.drop f.a).take 4) = z at hne
      have hb : (!z.toList == [4, 34, 77, 24]) = true := by
        rw [Bool.not_eq_true', beq_eq_false_iff_ne]
        intro e
        rw [Go.ByteArray.toList_eq] at e
        exact hne (by rw [← strOf_self z, e]; rfl)
      go_enter Try.func15, Try.ntmps15
      go_wp2_with (go_at_call 29; (with_reducible refine (take_at B b s f l 4 4 _ rfl h hs ha (by decide)).mono ?_); rintro e w1 ⟨hk, hp⟩; rw [if_neg hc, hz] at hp; obtain ⟨rfl, hF⟩ := hp)
      go_ret
      exact ⟨hk, rfl⟩
theorem u8and3 (x : Nat) (h : x < 256) : Go.bits .and .u8 (x : Int) 3 = ((x % 4 : Nat) : Int) :=
  (show ∀ x : Fin 256, Go.bits .and .u8 (x.val : Int) 3 = ((x.val % 4 : Nat) : Int) by decide +kernel) ⟨x, h⟩
theorem u8and15 (x : Nat) (h : x < 256) : Go.bits .and .u8 (x : Int) 15 = ((x % 16 : Nat) : Int) :=
  (show ∀ x : Fin 256, Go.bits .and .u8 (x.val : Int) 15 = ((x.val % 16 : Nat) : Int) by decide +kernel) ⟨x, h⟩
theorem u8and8 (x : Nat) (h : x < 256) : Go.bits .and .u8 (x : Int) 8 = ((8 * (x / 8 % 2) : Nat) : Int) :=
  (show ∀ x : Fin 256, Go.bits .and .u8 (x.val : Int) 8 = ((8 * (x.val / 8 % 2) : Nat) : Int) by decide +kernel) ⟨x, h⟩
theorem u8and4 (x : Nat) (h : x < 256) : Go.bits .and .u8 (x : Int) 4 = ((4 * (x / 4 % 2) : Nat) : Int) :=
  (show ∀ x : Fin 256, Go.bits .and .u8 (x.val : Int) 4 = ((4 * (x.val / 4 % 2) : Nat) : Int) by decide +kernel) ⟨x, h⟩
theorem u8and16 (x : Nat) (h : x < 256) : Go.bits .and .u8 (x : Int) 16 = ((16 * (x / 16 % 2) : Nat) : Int) :=
  (show ∀ x : Fin 256, Go.bits .and .u8 (x.val : Int) 16 = ((16 * (x.val / 16 % 2) : Nat) : Int) by decide +kernel) ⟨x, h⟩
def flagsR (l : List UInt8) (f : FSt) : Except Nat FSt :=
  if l.length < f.a + 1 then .error 5 else if at8 l f.a / 32 ≠ 3 ∨ at8 l f.a % 4 ≠ 0 then .error 70 else .ok { f with a := f.a + 1, flag := at8 l f.a }
set_option maxRecDepth 100000 in
set_option maxHeartbeats 1600000 in
theorem flags_any (B b : Nat) (s : ByteArray) (f : FSt) (l : List UInt8) (w : World) (h : Fr w B b s f l) (hs : s.size ≤ 140737488351232) (ha : f.a ≤ s.size) :
    Calls Try.prog 16 #[.pointer (some ⟨b, 0, none⟩)] w (StepPost B b s l (flagsR s.data.toList f) w) := by
  unfold flagsR
  rw [list_size]
  by_cases hc : s.size < f.a + 1
  · rw [if_pos hc]
    go_enter Try.func16, Try.ntmps16
    go_wp2_with (go_at_call 30; (with_reducible refine (byte_any B b s f l _ h hs ha).mono ?_); rintro e w1 ⟨hk, hp⟩; rw [if_pos hc] at hp; obtain ⟨rfl, hF⟩ := hp; obtain ⟨-, -, -, d3, -⟩ := hF.cells; have f3 := hF.free 3)
    go_ret
    exact ⟨hk.trans (kept_set w1 b B 3 _), rfl⟩
  · rw [if_neg hc]
    have hx := at8_lt s.data.toList f.a
    generalize hxe : at8 s.data.toList f.a = x at hx
    have hu := u8and3 x hx
    by_cases h1 : x / 32 = 3
    · have i1 : (x : Int) / 32 = 3 := by omega
      by_cases h2 : x % 4 = 0
      · have i2 : (Go.bits .and .u8 (x : Int) 3 != 0) = false := by rw [hu, h2]; rfl
        rw [if_neg (by omega)]
        go_enter Try.func16, Try.ntmps16
        go_wp2_with (go_at_call 30; (with_reducible refine (byte_any B b s f l _ h hs ha).mono ?_); rintro e w1 ⟨hk, hp⟩; rw [if_neg hc, hxe] at hp; obtain ⟨rfl, hF⟩ := hp; obtain ⟨-, -, -, d3, -⟩ := hF.cells; have f3 := hF.free 3)
        go_ret
        exact ⟨hk.trans (kept_set w1 b B 3 _), rfl, hF.flag_ x⟩
      · have i2 : (Go.bits .and .u8 (x : Int) 3 != 0) = true := by rw [hu]; exact bne_iff_ne.2 (by omega)
        rw [if_pos (.inr h2)]
        go_enter Try.func16, Try.ntmps16
        go_wp2_with (go_at_call 30; (with_reducible refine (byte_any B b s f l _ h hs ha).mono ?_); rintro e w1 ⟨hk, hp⟩; rw [if_neg hc, hxe] at hp; obtain ⟨rfl, hF⟩ := hp; obtain ⟨-, -, -, d3, -⟩ := hF.cells; have f3 := hF.free 3)
        go_ret
        exact ⟨hk.trans (kept_set w1 b B 3 _), rfl⟩
    · have i1 : ¬ (x : Int) / 32 = 3 := by omega
      rw [if_pos (.inl h1)]
      go_enter Try.func16, Try.ntmps16
      go_wp2_with (go_at_call 30; (with_reducible refine (byte_any B b s f l _ h hs ha).mono ?_); rintro e w1 ⟨hk, hp⟩; rw [if_neg hc, hxe] at hp; obtain ⟨rfl, hF⟩ := hp; obtain ⟨-, -, -, d3, -⟩ := hF.cells; have f3 := hF.free 3)
      go_ret
      exact ⟨hk.trans (kept_set w1 b B 3 _), rfl⟩
end Go.Proofs.Ytipadidfiffkjaa
