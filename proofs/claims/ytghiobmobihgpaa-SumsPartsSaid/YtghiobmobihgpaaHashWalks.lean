/- The walks of SumsHash, SumsNobody. -/
import Derived.Test.YtghiobmobihgpaaAwake02
import Derived.Test.YtghiobmobihgpaaRHash
namespace Go.Proofs.Ytghiobmobihgpaa
open Go.RowKit Go.PostSums
set_option maxHeartbeats 400000 in
theorem SumsHash_walk (s : ByteArray) (seed : Int) (w : World) (hs : s.size ≤ 140737488351232) (_ : (Lit.int .i64 seed).wf = true) :
    Calls Try.prog 4 #[.string s, .int .i64 seed] w fun e w' => e = .returned (.bool true) ∧ Below w.heap.size w w' := by
  go_enter Try.func4, Try.ntmps4
  go_wp2_with (first
    | (go_at_call 14; refine (Hash_any s seed _ hs).mono ?_; rintro e W1 ⟨rfl, hB1⟩)
    | (go_at_call 15; refine (RHash_any s seed _ hs).mono ?_; rintro e W2 ⟨rfl, hB2⟩)
    | (go_at_call 13; refine (awake02 _).mono ?_; rintro e W3 ⟨rfl, hB3⟩))
  go_ret
  exact ⟨rfl, (hB1.trans (hB2.mono hB1.size)).trans (hB3.mono (Nat.le_trans hB1.size hB2.size))⟩
end Go.Proofs.Ytghiobmobihgpaa
