/- The walks of good, Good, meet, bare. -/
import Derived.Test.YtkgidfehndkhmaaRows
import Derived.Test.YtkgidfehndkhmaaAudPlain
import Derived.WalkSpells
import Derived.WalkLawsBesides
import Derived.Below
import Derived.Test.YtkgidfehndkhmaaMapU
import Derived.Deep.DeepCutAuto
import Derived.Lib.Hide
namespace Go.Proofs.Ytkgidfehndkhmaa
open Go.RowKit Go.PostAud
set_option maxRecDepth 100000 in
theorem good_any (a : Ack) (w : World) : Calls Try.prog 18 #[a.v] w fun e w' => e = .returned (.bool (good a)) ∧ Below w.heap.size w w' := by
  obtain ⟨s, ⟨p, q⟩, r, b, c⟩ := a
  unfold Ack.v good
  simp only
  go_enter Try.func18, Try.ntmps18
  go_wp2_with (fail)
  all_goals (go_ret; refine ⟨?_, (Below.refl _ _).alloc (Nat.le_refl _) _⟩; simp_all <;> omega)
set_option maxRecDepth 100000 in
theorem Good_any (a : Ack) (w : World) : Calls Try.prog 19 #[a.v] w fun e w' => e = .returned (.bool (good a)) ∧ Below w.heap.size w w' := by
  obtain ⟨s, ⟨p, q⟩, r, b, c⟩ := a
  unfold Ack.v good
  simp only
  go_enter Try.func19, Try.ntmps19
  go_wp2_with (fail)
  all_goals (go_ret; refine ⟨?_, (Below.refl _ _).alloc (Nat.le_refl _) _⟩; simp_all <;> omega)
set_option maxRecDepth 100000 in
theorem meet_any (a b : Ack) (w : World) (ha : good a = true) (hb : good b = true) : Calls Try.prog 20 #[a.v, b.v] w fun e w' => e = .returned (.bool (meets a b)) ∧ Below w.heap.size w w' := by
  obtain ⟨s, ⟨p, q⟩, r, b1, c⟩ := a
  obtain ⟨s', ⟨p', q'⟩, r', b2, c'⟩ := b
  unfold good at ha hb
  simp only [Bool.and_eq_true, decide_eq_true_eq] at ha hb
  unfold Ack.v meets
  simp only
  have e1 : IntKind.i64.wrap (b1 + c) = b1 + c := by rw [IntKind.wrap_i64]; omega
  have e2 : IntKind.i64.wrap (b2 + c') = b2 + c' := by rw [IntKind.wrap_i64]; omega
  have H1 := Lib.hid ha
  have H2 := Lib.hid hb
  clear ha hb
  go_enter Try.func20, Try.ntmps20
  go_wp2_with (fail)
  all_goals (go_ret; refine ⟨?_, ((Below.refl _ _).alloc (Nat.le_refl _) _).alloc (by simp) _⟩; simp_all <;> omega)
set_option maxRecDepth 100000 in
theorem bare_any (r : Rec) (w : World) : Calls Try.prog 21 #[r.v] w fun e w' => e = .returned (bare r).v ∧ Below w.heap.size w w' := by
  obtain ⟨o, k, v, g⟩ := r
  unfold Rec.v bare
  simp only
  go_enter Try.func21, Try.ntmps21
  go_wp2_with (fail)
  exact bodyPost_ret (v := .agg #[.int .i64 0, .string k, .string v, .bool g]) (by simp [results, Try.results21, go_sem]) rfl ⟨rfl, ((Below.refl _ _).alloc (Nat.le_refl _) _).alloc (by simp) _⟩
end Go.Proofs.Ytkgidfehndkhmaa
