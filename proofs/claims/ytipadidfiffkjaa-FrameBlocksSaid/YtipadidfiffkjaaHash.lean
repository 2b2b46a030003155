/- sums.Hash; what awake of the statements of layer 2 asks. -/
import Derived.Test.YtipadidfiffkjaaSum
namespace Go.Proofs.Ytipadidfiffkjaa
open Go.RowKit Go.PostSums
theorem grown_below {w w' : World} (h : w.grownBy w' none) : Below w.heap.size w w' := ⟨h.os, h.tape, h.output, h.size, fun k hk => h.block k hk (by simp)⟩
/-- a world that has grown, and writes to a block that is new, is as it was below -/
theorem below_new {w w1 w2 : World} {b : Nat} (h : Below w.heap.size w w1) (hb : w.heap.size ≤ b) (hg : w1.grownBy w2 (some b)) : Below w.heap.size w w2 :=
  h.grown hg h.size (fun k hk => by simp at hk; omega)
theorem below_drewN (w : World) (m B : Nat) : Below B w (w.drewN m) := ⟨rfl, rfl, rfl, Nat.le_refl _, fun _ _ => rfl⟩
set_option maxHeartbeats 400000 in
theorem Hash_any (s : ByteArray) (seed : Int) (w : World) (hs : s.size ≤ 140737488351232) :
    Calls Try.prog 40 #[.string s, .int .i64 seed] w fun e w' => e = .returned (.int .i64 (hashN (seed % 4294967296).toNat s.data.toList : Nat)) ∧ Below w.heap.size w w' := by
  obtain ⟨q, hq⟩ : ∃ q : Nat, seed % 4294967296 = q := ⟨(seed % 4294967296).toNat, by omega⟩
  have hq2 : q < 4294967296 := by omega
  have HQ := Lib.hid (show (seed % 4294967296).toNat = q by omega)
  have HS := Lib.hid hs
  have hlen : 0 + s.size ≤ 9223372036854775807 := by omega
  go_enter Try.func40, Try.ntmps40
  go_wp2_with (first | (go_at_call 48; refine (begun_any q _ hq2).mono ?_; rintro e W ⟨rfl, hW⟩; have HW := Lib.hid hW; clear hW hs hq))
  have HI : Hid (IsHasher W w.heap.size q (.of q) 0 []) := Lib.hid (by rw [HW.out]; exact hasher_new q w)
  refine (Write_any w.heap.size q 0 (.of q) [] s W HI.out (by simp) HS.out hlen).mono ?_
  rintro e W2 ⟨rfl, hI2, hG⟩
  have HI2 : Hid (IsHasher W2 w.heap.size q (lanes (.of q) s.data.toList).1 s.size (lanes (.of q) s.data.toList).2) := Lib.hid (by rw [List.nil_append, Nat.zero_add] at hI2; exact hI2)
  have HB : Hid (Below w.heap.size w W2) := Lib.hid (below_new (w1 := W) (by rw [HW.out]; exact (Below.refl _ _).alloc (Nat.le_refl _) _) (Nat.le_refl _) hG)
  have hsn : s.size ≤ 9223372036854775807 := by omega
  have Hsn := Lib.hid hsn
  clear hI2 hG hlen hsn
  go_wp2_with (first | (go_at_call 50; refine (Sum_any w.heap.size q s.size _ _ W2 HI2.out Hsn.out).mono ?_; rintro e W3 ⟨rfl, ⟨m, rfl⟩⟩))
  go_ret
  refine ⟨?_, HB.out.trans (below_drewN W2 m _)⟩
  rw [HQ.out]
  unfold hashN
  rw [show s.data.toList.length = s.size by simp]
  rfl
end Go.Proofs.Ytipadidfiffkjaa
