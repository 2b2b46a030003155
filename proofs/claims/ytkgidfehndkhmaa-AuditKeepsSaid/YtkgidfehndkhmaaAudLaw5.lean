/- The walk of AuditKeeps. -/
import Derived.Test.YtkgidfehndkhmaaAudKeep
import Derived.Test.YtkgidfehndkhmaaAudKLacks
import Derived.Test.YtkgidfehndkhmaaAudAwake
import Derived.Test.YtkgidfehndkhmaaAudWords
namespace Go.Proofs.Ytkgidfehndkhmaa
open Go.RowKit Go.PostAud Go.PostMem
set_option maxRecDepth 100000 in
set_option maxHeartbeats 1600000 in
theorem AuditKeeps_walk (A0 : Option Addr) (n0 cap0 : Nat) (ks : List Ack) (A : Option Addr) (n cap : Nat) (l : List Fet) (A2 : Option Addr) (n2 cap2 : Nat) (sd : List Sd) (w : World)
    (hK : AcksAt w w.heap.size A0 n0 ks) (hn0 : n0 ≤ maxLen) (_ : n0 ≤ cap0) (_ : cap0 ≤ maxLen) (hy0 : n0 * 48 ≤ 140737488351232) (hA : FetsAt w w.heap.size A n l) (hD : SdsAt w w.heap.size A2 n2 sd) (hby : n2 * 40 ≤ 140737488351232) :
    Calls Try.prog 7 #[.slice A0 n0 cap0, .slice A n cap, .slice A2 n2 cap2] w fun e w' => e = .returned (.bool true) ∧ Below w.heap.size w w' := by
  have C0 := Lib.hid (words_any A2 n2 cap2 w.heap.size sd w hD (Nat.le_refl _) hby)
  have C1 : Hid (∀ (W1 : World) A3 c3, Below w.heap.size w W1 ∧ SdsAt W1 W1.heap.size A3 n2 sd → Calls Try.prog 16 #[.slice A0 n0 cap0, .slice A n cap, .slice A3 n2 c3] W1 fun e w' => e = .returned (.tuple #[.int .i64 (keepAns ks l sd).1, .int .i64 (keepAns ks l sd).2]) ∧ Below W1.heap.size W1 w') :=
    Lib.hid fun W1 A3 c3 h => Keeps_any A0 A A3 n0 cap0 n cap n2 c3 W1.heap.size ks l sd W1 ((hK.below h.1).base h.1.size) (by omega) ((hA.below h.1).base h.1.size) h.2
  have C2 : Hid (∀ (W1 : World), Below w.heap.size w W1 → Calls Try.prog 17 #[.slice A0 n0 cap0, .slice A n cap, .slice A2 n2 cap2] W1 fun e w' => e = .returned (.tuple #[.int .i64 (keepAns ks l sd).1, .int .i64 (keepAns ks l sd).2]) ∧ Below W1.heap.size W1 w') :=
    Lib.hid fun W1 h => RKeeps_any A0 A A2 n0 cap0 n cap n2 cap2 w.heap.size ks l sd W1 (hK.below h) hn0 (hA.below h) (hD.below h) h.size
  clear hK hA hD
  generalize (keepAns ks l sd).1 = e1 at C1 C2
  generalize (keepAns ks l sd).2 = e2 at C1 C2
  go_enter Try.func7, Try.ntmps7
  go_wp2_with (first
    | (go_at_call 14; with_reducible refine (C0.out).mono ?_; rintro e W0 ⟨A3, c3, rfl, hs0, hW0⟩; have HW0 := Lib.hid (And.intro hW0 hs0); clear hW0 hs0)
    | (go_at_call 16; with_reducible refine (C1.out _ _ _ HW0.out).mono ?_; rintro e W1 ⟨rfl, hW1⟩; have HW1 := Lib.hid (HW0.out.1.trans (hW1.mono HW0.out.1.size)); clear hW1)
    | (go_at_call 17; with_reducible refine (C2.out _ HW1.out).mono ?_; rintro e W2 ⟨rfl, hW2⟩; have HW2 := Lib.hid hW2; clear hW2)
    | (go_at_call 12; refine (awake18 _).mono ?_; rintro e W3 ⟨rfl, hW3⟩; have HW3 := Lib.hid hW3; clear hW3))
  go_ret
  exact ⟨rfl, bstep (bstep HW1.out HW2.out) HW3.out⟩
end Go.Proofs.Ytkgidfehndkhmaa
