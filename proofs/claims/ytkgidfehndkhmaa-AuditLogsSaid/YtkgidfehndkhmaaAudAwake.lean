/- The walk of postroadlaw18.awake. -/
import Derived.Test.YtkgidfehndkhmaaAudAcks
import Derived.Test.YtkgidfehndkhmaaAudFet
import Derived.Test.YtkgidfehndkhmaaAudMake
namespace Go.Proofs.Ytkgidfehndkhmaa
open Go.RowKit Go.PostAud Go.PostMem
theorem two_acks (x y : Ack) (hx : x.wf) (hy : y.wf) (T : TypeId) (w : World) : AcksAt (w.alloc (.cells (x.cells ++ y.cells).toArray T)) (w.heap.size + 1) (some ⟨w.heap.size, 0, none⟩) 2 [x, y] := by
  refine ⟨rfl, .inr ⟨_, rfl, Nat.lt_succ_self _, fun i z hz => ?_⟩⟩
  have h := at_alloc w (x.cells ++ y.cells) T
  match i, hz with
  | 0, hz =>
    obtain rfl := Option.some.inj hz
    refine ⟨hx, fun j v hj => ?_⟩
    have hjl : j < x.cells.length := (List.getElem?_eq_some_iff.1 hj).1
    exact h j v (by rw [List.getElem?_append_left hjl]; exact hj)
  | 1, hz =>
    obtain rfl := Option.some.inj hz
    refine ⟨hy, fun j v hj => ?_⟩
    have := h (6 + j) v (by rw [List.getElem?_append_right (by simp [Ack.cells])]; simpa [Ack.cells] using hj)
    rw [Addr.add_lit] at this
    rw [Addr.add_lit, Addr.add_lit]
    simpa using this
set_option maxRecDepth 100000 in
set_option maxHeartbeats 1600000 in
theorem awake18 (w : World) : Calls Try.prog 12 #[] w fun e w' => e = .returned (.bool true) ∧ Below w.heap.size w w' := by
  have C1 : Hid (∀ w : World, Calls Try.prog 10 #[.slice (some ⟨w.heap.size, 0, none⟩) 2 2] (w.alloc (.cells #[.int .i64 0, .int .i64 0, .int .i64 0, .int .i64 0, .int .i64 0, .int .i64 2, .int .i64 0, .int .i64 0, .int .i64 1, .int .i64 0, .int .i64 1, .int .i64 1] 38)) fun e w' => e = .returned (.tuple #[.int .i64 110, .int .i64 1]) ∧ Below w.heap.size w w') := Lib.hid fun w => by
    have h := Acks_any (some ⟨w.heap.size, 0, none⟩) 2 2 (w.heap.size + 1) [⟨0, ⟨0, 0⟩, 0, 0, 2⟩, ⟨0, ⟨0, 1⟩, 0, 1, 1⟩] _ (two_acks ⟨0, ⟨0, 0⟩, 0, 0, 2⟩ ⟨0, ⟨0, 1⟩, 0, 1, 1⟩ (by unfold Ack.wf i64; decide) (by unfold Ack.wf i64; decide) 38 w) (by simp) (by decide)
    exact h.mono fun e w' ⟨h1, h2⟩ => ⟨h1, bstep ((Below.refl w.heap.size w).alloc (Nat.le_refl _) _) h2⟩
  have C2 : Hid (∀ w : World, Calls Try.prog 10 #[.slice (some ⟨w.heap.size, 0, none⟩) 2 2] (w.alloc (.cells #[.int .i64 0, .int .i64 0, .int .i64 0, .int .i64 0, .int .i64 0, .int .i64 2, .int .i64 0, .int .i64 0, .int .i64 0, .int .i64 0, .int .i64 0, .int .i64 2] 38)) fun e w' => e = .returned (.tuple #[.int .i64 0, .int .i64 0]) ∧ Below w.heap.size w w') := Lib.hid fun w => by
    have h := Acks_any (some ⟨w.heap.size, 0, none⟩) 2 2 (w.heap.size + 1) [⟨0, ⟨0, 0⟩, 0, 0, 2⟩, ⟨0, ⟨0, 0⟩, 0, 0, 2⟩] _ (two_acks ⟨0, ⟨0, 0⟩, 0, 0, 2⟩ ⟨0, ⟨0, 0⟩, 0, 0, 2⟩ (by unfold Ack.wf i64; decide) (by unfold Ack.wf i64; decide) 38 w) (by simp) (by decide)
    exact h.mono fun e w' ⟨h1, h2⟩ => ⟨h1, bstep ((Below.refl w.heap.size w).alloc (Nat.le_refl _) _) h2⟩
  have C3 : Hid (∀ w : World, Calls Try.prog 13 #[.slice (some ⟨w.heap.size + 1, 0, none⟩) 1 1, .slice none 0 0] ((w.alloc (.cells #[.int .i64 0, .string ⟨#[107]⟩, .string ⟨#[]⟩, .bool false] 49)).alloc (.cells #[.int .i64 0, .int .i64 0, .int .i64 0, .int .i64 0, .slice (some ⟨w.heap.size, 0, none⟩) 1 1] 52)) fun e w' => e = .returned (.tuple #[.int .i64 3, .int .i64 0]) ∧ Below w.heap.size w w') := Lib.hid fun w => by
    have hb := ((Below.refl w.heap.size w).alloc (Nat.le_refl _) (.cells #[.int .i64 0, .string ⟨#[107]⟩, .string ⟨#[]⟩, .bool false] 49)).alloc (by simp) (.cells #[.int .i64 0, .int .i64 0, .int .i64 0, .int .i64 0, .slice (some ⟨w.heap.size, 0, none⟩) 1 1] 52)
    have h1 := (at_alloc w (Rec.cells ⟨0, ⟨#[107]⟩, ⟨#[]⟩, false⟩) 49).later ((Below.refl _ _).alloc (Nat.le_refl _) (.cells #[.int .i64 0, .int .i64 0, .int .i64 0, .int .i64 0, .slice (some ⟨w.heap.size, 0, none⟩) 1 1] 52))
    have h2 := at_alloc (w.alloc (.cells #[.int .i64 0, .string ⟨#[107]⟩, .string ⟨#[]⟩, .bool false] 49)) [.int .i64 0, .int .i64 0, .int .i64 0, .int .i64 0, .slice (some ⟨w.heap.size, 0, none⟩) 1 1] 52
    rw [show (w.alloc (.cells #[.int .i64 0, .string ⟨#[107]⟩, .string ⟨#[]⟩, .bool false] 49)).heap.size = w.heap.size + 1 by simp] at h2
    have hF : FetsAt ((w.alloc (.cells #[.int .i64 0, .string ⟨#[107]⟩, .string ⟨#[]⟩, .bool false] 49)).alloc (.cells #[.int .i64 0, .int .i64 0, .int .i64 0, .int .i64 0, .slice (some ⟨w.heap.size, 0, none⟩) 1 1] 52)) (w.heap.size + 2) (some ⟨w.heap.size + 1, 0, none⟩) 1 [⟨0, 0, 0, 0, [⟨0, ⟨#[107]⟩, ⟨#[]⟩, false⟩]⟩] := by
      refine ⟨rfl, by decide, .inr ⟨_, rfl, Nat.lt_succ_self _, fun i z hz => ?_⟩⟩
      match i, hz with
      | 0, hz =>
        obtain rfl := Option.some.inj hz
        refine ⟨by unfold Fet.wf i64; decide, some ⟨w.heap.size, 0, none⟩, 1, 1, h2, rfl, by decide, .inr ⟨_, rfl, Nat.lt_succ_of_lt (Nat.lt_succ_self _), fun i z hz => ?_⟩⟩
        match i, hz with
        | 0, hz =>
          obtain rfl := Option.some.inj hz
          exact ⟨by unfold Rec.wf i64; decide, h1⟩
    have h := Fetches_any (some ⟨w.heap.size + 1, 0, none⟩) none 1 1 0 0 (w.heap.size + 2) _ [] _ hF ⟨rfl, by decide, .inl rfl⟩
    exact h.mono fun e w' ⟨h1, h2⟩ => ⟨h1, bstep hb h2⟩
  go_enter Try.func12, Try.ntmps12
  go_wp2_with (first
    | (go_at_call 10; with_reducible refine (C1.out _).mono ?_; rintro e W1 ⟨rfl, hW1⟩; have HW1 := Lib.hid hW1; clear hW1)
    | (go_at_call 10; with_reducible refine (C2.out _).mono ?_; rintro e W2 ⟨rfl, hW2⟩; have HW2 := Lib.hid hW2; clear hW2)
    | (go_at_call 13; with_reducible refine (C3.out _).mono ?_; rintro e W3 ⟨rfl, hW3⟩; have HW3 := Lib.hid hW3; clear hW3))
  go_ret
  exact ⟨rfl, bstep (bstep HW1.out HW2.out) HW3.out⟩
end Go.Proofs.Ytkgidfehndkhmaa
