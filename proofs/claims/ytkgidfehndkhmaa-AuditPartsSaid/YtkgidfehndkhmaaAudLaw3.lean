/- The walk of AuditParts. -/
import Derived.Test.YtkgidfehndkhmaaAudAwake
import Derived.Test.YtkgidfehndkhmaaAudWords
import Derived.Test.YtkgidfehndkhmaaAudPart
import Derived.WalkSpells
namespace Go.PostAud
theorem AcksAt.take {w : World} {base : Nat} {A : Option Addr} {n : Nat} {l : List Ack} (h : AcksAt w base A n l) {k : Nat} (hk : k ≤ n) : AcksAt w base A k (l.take k) := by
  obtain ⟨h1, h2 | ⟨a, h2, h3, h4⟩⟩ := h
  · exact ⟨take_len (by omega), .inl (by omega)⟩
  · exact ⟨take_len (by omega), .inr ⟨a, h2, h3, fun i x hx => h4 i x (by rw [List.getElem?_take] at hx; split at hx; exact hx; exact nomatch hx)⟩⟩
theorem FetsAt.take {w : World} {base : Nat} {A : Option Addr} {n : Nat} {l : List Fet} (h : FetsAt w base A n l) {k : Nat} (hk : k ≤ n) : FetsAt w base A k (l.take k) := by
  obtain ⟨h1, h0, h2 | ⟨a, h2, h3, h4⟩⟩ := h
  · exact ⟨take_len (by omega), by omega, .inl (by omega)⟩
  · exact ⟨take_len (by omega), by omega, .inr ⟨a, h2, h3, fun i x hx => h4 i x (by rw [List.getElem?_take] at hx; split at hx; exact hx; exact nomatch hx)⟩⟩
end Go.PostAud
namespace Go.Proofs.Ytkgidfehndkhmaa
open Go.RowKit Go.PostAud Go.PostMem
def QRel (w0 : World) (n : Nat) (v6 : Value) (wr : World) : Prop := ∃ (k : Nat), k ≤ n + 1 ∧ v6 = .int .i64 (k : Int) ∧ Hid (Below w0.heap.size w0 wr)
def QRel2 (w0 : World) (n n2 : Nat) (A3 : Option Addr) (sd : List Sd) (v6 : Value) (wr : World) : Prop := ∃ (k : Nat), k ≤ n + 1 ∧ v6 = .int .i64 (k : Int) ∧ Hid (Below w0.heap.size w0 wr ∧ SdsAt wr wr.heap.size A3 n2 sd)
def PartC (e1 i1 f1 j1 : Int) (k : Nat) : Prop :=
  ((e1 == 0) = true ∧ (e1 != 0) = false ∧ (f1 != 0) = false) ∨ ((e1 == 0) = false ∧ (e1 != 0) = true ∧ decide ((k : Int) ≤ i1) = true ∧ (f1 != 0) = false ∧ decide (i1 < (k : Int)) = false) ∨
  ((e1 == 0) = false ∧ (e1 != 0) = true ∧ decide ((k : Int) ≤ i1) = false ∧ decide (i1 < (k : Int)) = true ∧ (f1 != e1) = false ∧ (j1 != i1) = false)
theorem partC {X Y : Int × Int} {k : Nat} (h : PartOk X Y k) : PartC X.1 X.2 Y.1 Y.2 k := by
  unfold PartC
  rcases h with ⟨h1, h2⟩ | ⟨h1, h2, h3⟩ | ⟨h1, h2, h3, h4⟩
  · exact .inl ⟨by simp [h1], by simp [h1], by simp [h2]⟩
  · exact .inr (.inl ⟨by simp [h1], by simp [h1], by simp [h2], by simp [h3], decide_eq_false (by omega)⟩)
  · exact .inr (.inr ⟨by simp [h1], by simp [h1], decide_eq_false (by omega), by simp [h2], by simp [h3], by simp [h4]⟩)
set_option maxRecDepth 100000 in
set_option maxHeartbeats 1600000 in
theorem AuditParts_walk (A0 : Option Addr) (n0 cap0 : Nat) (ks : List Ack) (A : Option Addr) (n cap : Nat) (l : List Fet) (A2 : Option Addr) (n2 cap2 : Nat) (sd : List Sd) (w : World)
    (hK : AcksAt w w.heap.size A0 n0 ks) (hn0 : n0 ≤ maxLen) (hc0 : n0 ≤ cap0) (hc0' : cap0 ≤ maxLen) (hy0 : n0 * 48 ≤ 140737488351232) (hA : FetsAt w w.heap.size A n l) (hc : n ≤ cap) (hy : n * 56 ≤ 140737488351232) (hD : SdsAt w w.heap.size A2 n2 sd) (hby : n2 * 40 ≤ 140737488351232) :
    Calls Try.prog 6 #[.slice A0 n0 cap0, .slice A n cap, .slice A2 n2 cap2] w fun e w' => e = .returned (.bool true) ∧ Below w.heap.size w w' := by
  have hn := hA.2.1
  unfold maxLen at hn hn0 hc0'
  have CK := Lib.hid (Acks_any A0 n0 cap0 w.heap.size ks w hK (Nat.le_refl _) (by unfold maxLen; omega))
  have CL : Hid (∀ (k : Nat), k ≤ n0 → ∃ f1 j1, PartC (acksAns ks).1 (acksAns ks).2 f1 j1 k ∧ ∀ (W1 : World) (c : Nat), Below w.heap.size w W1 → Calls Try.prog 10 #[.slice A0 k c] W1 fun e w' => e = .returned (.tuple #[.int .i64 f1, .int .i64 j1]) ∧ Below W1.heap.size W1 w') :=
    Lib.hid fun k hk => ⟨_, _, partC (parts_acks ks k (by rw [hK.1]; exact hk)), fun W1 c h => Acks_any A0 k c w.heap.size (ks.take k) W1 ((hK.below h).take hk) h.size (by unfold maxLen; omega)⟩
  have C0 : Hid (∀ W1, Below w.heap.size w W1 → Calls Try.prog 14 #[.slice A2 n2 cap2] W1 fun e w' => ∃ A' c', e = .returned (.slice A' n2 c') ∧ SdsAt w' w'.heap.size A' n2 sd ∧ Below W1.heap.size W1 w') := Lib.hid fun W1 h => words_any A2 n2 cap2 w.heap.size sd W1 (hD.below h) h.size hby
  have C1 : Hid (∀ (W1 : World) A3 c3, Below w.heap.size w W1 ∧ SdsAt W1 W1.heap.size A3 n2 sd → Calls Try.prog 13 #[.slice A n cap, .slice A3 n2 c3] W1 fun e w' => e = .returned (.tuple #[.int .i64 (fetAns l sd).1, .int .i64 (fetAns l sd).2]) ∧ Below W1.heap.size W1 w') :=
    Lib.hid fun W1 A3 c3 h => Fetches_any A A3 n cap n2 c3 W1.heap.size l sd W1 ((hA.below h.1).base h.1.size) h.2
  have C2 : Hid (∀ (k : Nat), k ≤ n → ∃ f1 j1, PartC (fetAns l sd).1 (fetAns l sd).2 f1 j1 k ∧ ∀ (W1 : World) A3 (c3 c : Nat), Below w.heap.size w W1 ∧ SdsAt W1 W1.heap.size A3 n2 sd → Calls Try.prog 13 #[.slice A k c, .slice A3 n2 c3] W1 fun e w' => e = .returned (.tuple #[.int .i64 f1, .int .i64 j1]) ∧ Below W1.heap.size W1 w') :=
    Lib.hid fun k hk => ⟨_, _, partC (parts_fets l sd k (by rw [hA.1]; exact hk)), fun W1 A3 c3 c h => Fetches_any A A3 k c n2 c3 W1.heap.size (l.take k) sd W1 (((hA.below h.1).take hk).base h.1.size) h.2⟩
  clear hK hA hD
  generalize (acksAns ks).1 = e1 at CK CL
  generalize (acksAns ks).2 = i1 at CK CL
  generalize (fetAns l sd).1 = e2 at C1 C2
  generalize (fetAns l sd).2 = i2 at C1 C2
  go_enter Try.func6, Try.ntmps6
  go_wp2_with (go_at_call 10; with_reducible refine (CK.out).mono ?_; rintro e W1 ⟨rfl, hW1⟩; have HW1 := Lib.hid hW1; clear hW1)
  go_loopw [9] (fun v9 w9 => QRel w n0 v9 w9) (fun v9 _ => n0 + 1 - (intOf v9).toNat)
  case atStart => exact ⟨0, by omega, rfl, HW1⟩
  case round =>
    obtain ⟨k, hk, rfl, Hr⟩ := hrel
    by_cases hlt : k ≤ n0
    · obtain ⟨f1, j1, hp, hcall⟩ := CL.out k hlt
      have HC := Lib.hid hcall
      clear hcall
      rcases hp with ⟨t1, t2, t3⟩ | ⟨t1, t2, t3, t4, t5⟩ | ⟨t1, t2, t3, t4, t5, t6⟩
      all_goals
        go_wp2_with (go_at_call 10; with_reducible refine (HC.out _ _ Hr.out).mono ?_; rintro e W2 ⟨rfl, hW2⟩; have HW2 := Lib.hid hW2; clear hW2)
        go_roundw
        case rel => exact ⟨k + 1, by omega, by go_num, Lib.hid (bstep Hr.out HW2.out)⟩
        case measure => simp [intOf]; omega
    · go_wp2_with (first
        | (go_at_call 14; with_reducible refine (C0.out _ Hr.out).mono ?_; rintro e W0 ⟨A3, c3, rfl, hs0, hW0⟩; have HW0 := Lib.hid (And.intro (bstep Hr.out hW0) hs0); clear hW0 hs0)
        | (go_at_call 13; with_reducible refine (C1.out _ _ _ HW0.out).mono ?_; rintro e W3 ⟨rfl, hW3⟩; have HW3 := Lib.hid hW3; clear hW3))
      clear Hr HW1
      go_loopw [13] (fun v13 w9 => QRel2 w n n2 A3 sd v13 w9) (fun v13 _ => n + 1 - (intOf v13).toNat)
      case atStart => exact ⟨0, by omega, rfl, Lib.hid ⟨bstep HW0.out.1 HW3.out, (HW0.out.2.later HW3.out).base HW3.out.size⟩⟩
      case round =>
        clear HW0 HW3
        obtain ⟨k2, hk2, rfl, Hr⟩ := hrel
        by_cases hlt2 : k2 ≤ n
        · obtain ⟨f1, j1, hp, hcall⟩ := C2.out k2 hlt2
          have HC := Lib.hid hcall
          clear hcall
          rcases hp with ⟨t1, t2, t3⟩ | ⟨t1, t2, t3, t4, t5⟩ | ⟨t1, t2, t3, t4, t5, t6⟩
          all_goals
            go_wp2_with (go_at_call 13; with_reducible refine (HC.out _ _ _ _ Hr.out).mono ?_; rintro e W2 ⟨rfl, hW2⟩; have HW2 := Lib.hid hW2; clear hW2)
            go_roundw
            case rel => exact ⟨k2 + 1, by omega, by go_num, Lib.hid ⟨bstep Hr.out.1 HW2.out, (Hr.out.2.later HW2.out).base HW2.out.size⟩⟩
            case measure => simp [intOf]; omega
        · go_wp2_with (go_at_call 12; refine (awake18 _).mono ?_; rintro e W3 ⟨rfl, hW3⟩; have HW3 := Lib.hid hW3; clear hW3)
          go_ret
          exact ⟨rfl, bstep Hr.out.1 HW3.out⟩
end Go.Proofs.Ytkgidfehndkhmaa
