/- The walk of AuditAcks. -/
import Derived.Test.YtkgidfehndkhmaaAudAwake
import Derived.Test.YtkgidfehndkhmaaAudRef
namespace Go.Proofs.Ytkgidfehndkhmaa
open Go.RowKit Go.PostAud Go.PostMem
set_option maxRecDepth 100000 in
set_option maxHeartbeats 1600000 in
theorem AuditAcks_walk (A : Option Addr) (n cap : Nat) (l : List Ack) (w : World) (hA : AcksAt w w.heap.size A n l) (hn : n ≤ maxLen) :
    Calls Try.prog 3 #[.slice A n cap] w fun e w' => e = .returned (.bool true) ∧ Below w.heap.size w w' := by
  have C1 := Lib.hid (Acks_any A n cap w.heap.size l w hA (Nat.le_refl _) hn)
  have C2 : Hid (∀ W1, Below w.heap.size w W1 → Calls Try.prog 11 #[.slice A n cap] W1 fun e w' => e = .returned (.tuple #[.int .i64 (acksAns l).1, .int .i64 (acksAns l).2]) ∧ Below W1.heap.size W1 w') :=
    Lib.hid fun W1 h => RAcks_any A n cap w.heap.size l W1 (hA.below h) h.size hn
  clear hA
  generalize (acksAns l).1 = e1 at C1 C2
  generalize (acksAns l).2 = e2 at C1 C2
  go_enter Try.func3, Try.ntmps3
  go_wp2_with (first
    | (go_at_call 10; with_reducible refine (C1.out).mono ?_; rintro e W1 ⟨rfl, hW1⟩; have HW1 := Lib.hid hW1; clear hW1)
    | (go_at_call 11; with_reducible refine (C2.out _ HW1.out).mono ?_; rintro e W2 ⟨rfl, hW2⟩; have HW2 := Lib.hid hW2; clear hW2)
    | (go_at_call 12; refine (awake18 _).mono ?_; rintro e W3 ⟨rfl, hW3⟩; have HW3 := Lib.hid hW3; clear hW3))
  go_ret
  exact ⟨rfl, bstep (bstep HW1.out HW2.out) HW3.out⟩
end Go.Proofs.Ytkgidfehndkhmaa
