/- ends: what stands behind a frame's blocks. -/
import Derived.Test.YtipadidfiffkjaaFrBlocks
namespace Go.Proofs.Ytipadidfiffkjaa
open Go.RowKit Go.PostSums Go.PostMem
theorem fstring_any (B b : Nat) (s : ByteArray) (f : FSt) (l : List UInt8) (w : World) (h : Fr w B b s f l) (hBw : B ≤ w.heap.size) :
    Calls Try.prog 21 #[.pointer (some ⟨b, 6, none⟩)] w fun e w' => e = .returned (.string (strOf l)) ∧ Fr w' B b s f l ∧ Kept b B w w' := by
  obtain ⟨p, v, h0⟩ := h
  refine (String_at B b _ _ 6 l w h0 (by decide) hBw).mono ?_
  rintro e w' ⟨rfl, h1, hk⟩
  exact ⟨rfl, ⟨_, _, h1⟩, hk⟩
def endsR (s : List UInt8) (out : List UInt8) (f : FSt) : Except Nat FSt :=
  if onOf f 8 = true ∧ f.size ≠ out.length then .error 70 else summedR s (onOf f 4) out f
theorem on8 (f : FSt) (hf : f.flag < 256) : (Go.bits .and .u8 (f.flag : Int) 8 != 0) = onOf f 8 := by
  rw [u8and8 f.flag hf, onOf]
  rcases (show f.flag / 8 % 2 = 0 ∨ f.flag / 8 % 2 = 1 by omega) with e | e <;> rw [e] <;> rfl
theorem on4 (f : FSt) (hf : f.flag < 256) : (Go.bits .and .u8 (f.flag : Int) 4 == 0) = !onOf f 4 := by
  rw [u8and4 f.flag hf, onOf]
  rcases (show f.flag / 4 % 2 = 0 ∨ f.flag / 4 % 2 = 1 by omega) with e | e <;> rw [e] <;> rfl
theorem ret_step {B b : Nat} {s : ByteArray} {l : List UInt8} {r : Except Nat FSt} {e : Ending} {w : World} (h : match r with
    | .error c => e = .returned (.int .i64 (c : Int))
    | .ok f => e = .returned (.int .i64 0) ∧ Fr w B b s f l) : ∃ c : Int, e = .returned (.int .i64 c) := by
  split at h
  · exact ⟨_, h⟩
  · exact ⟨_, h.1⟩
set_option maxRecDepth 100000 in
set_option maxHeartbeats 1600000 in
theorem ends_any (B b : Nat) (s : ByteArray) (f : FSt) (l : List UInt8) (w : World) (h : Fr w B b s f l) (hs : s.size ≤ 140737488351232) (ha : f.a ≤ s.size) (hf : f.flag < 256) (hl : l.length ≤ 1048576) (hBw : B ≤ w.heap.size) :
    Calls Try.prog 20 #[.pointer (some ⟨b, 0, none⟩)] w (StepPost B b s l (endsR s.data.toList l f) w) := by
  have h8 := on8 f hf
  have H4 := Lib.hid (on4 f hf)
  obtain ⟨-, -, -, d3, -, d5⟩ := h.cells
  unfold endsR
  have hz : (strOf l).size ≤ 140737488351232 := by rw [strOf_size]; omega
  have HZ := Lib.hid (strOf_list l)
  have HF := Lib.hid h; clear h
  by_cases hon : onOf f 8 = true
  · rw [hon] at h8
    by_cases hn : f.size = l.length
    · rw [if_neg (fun h => h.2 hn)]
      have hn' : (f.size : Int) = (l.length : Int) := by omega
      go_enter Try.func20, Try.ntmps20
      go_wp2_with fail
      go_quiet (first | (go_at_call 35; exact Calls.quiet_of_same (flen_any B b s _ l _ (HF.out.drewN _))))
      have hbq : B ≤ (w.drewN nq).heap.size := hBw
      go_wp2_with (first
        | (go_at_call 21; (with_reducible refine (fstring_any B b s _ l _ (HF.out.drewN nq) hbq).mono ?_); rintro e w1 ⟨rfl, hF1, hk1⟩)
        | (go_at_call 33; (with_reducible refine (summed_any B b s f l 4 (onOf f 4) _ _ H4.out hF1 hs ha hz (Nat.le_trans hBw (Nat.le_trans (kept_drewN w b B nq).size hk1.size))).mono ?_); rintro e w2 ⟨hk2, hp⟩; rw [HZ.out] at hp; obtain ⟨c, rfl⟩ := ret_step hp; have HP := Lib.hid hp; clear hp))
      go_ret
      exact ⟨((kept_drewN w b B nq).trans hk1).trans hk2, HP.out⟩
    · rw [if_pos ⟨hon, hn⟩]
      have hn' : ¬ (f.size : Int) = (l.length : Int) := by omega
      go_enter Try.func20, Try.ntmps20
      go_wp2_with fail
      go_quiet (first | (go_at_call 35; exact Calls.quiet_of_same (flen_any B b s _ l _ (HF.out.drewN _))))
      go_wp2_with fail
      go_ret
      exact ⟨kept_drewN _ _ _ _, rfl⟩
  · rw [if_neg (fun h => hon h.1)]
    rw [Bool.not_eq_true] at hon
    rw [hon] at h8
    go_enter Try.func20, Try.ntmps20
    go_wp2_with fail
    go_quiet (fail)
    have hbq : B ≤ (w.drewN nq).heap.size := hBw
    go_wp2_with (first
      | (go_at_call 21; (with_reducible refine (fstring_any B b s _ l _ (HF.out.drewN nq) hbq).mono ?_); rintro e w1 ⟨rfl, hF1, hk1⟩)
      | (go_at_call 33; (with_reducible refine (summed_any B b s f l 4 (onOf f 4) _ _ H4.out hF1 hs ha hz (Nat.le_trans hBw (Nat.le_trans (kept_drewN w b B nq).size hk1.size))).mono ?_); rintro e w2 ⟨hk2, hp⟩; rw [HZ.out] at hp; obtain ⟨c, rfl⟩ := ret_step hp; have HP := Lib.hid hp; clear hp))
    go_ret
    exact ⟨((kept_drewN w b B nq).trans hk1).trans hk2, HP.out⟩
end Go.Proofs.Ytipadidfiffkjaa
