/- The walk of postroadtold.Acks. -/
import Derived.Test.YtkgidfehndkhmaaAudLeaf
import Derived.Test.YtkgidfehndkhmaaAudKeys
import Derived.Test.YtkgidfehndkhmaaAudEq
import Derived.Test.YtkgidfehndkhmaaAudRows
import Derived.Test.YtkgidfehndkhmaaMem
import Derived.Test.YtkgidfehndkhmaaQuietArms
namespace Go.Proofs.Ytkgidfehndkhmaa
open Go.RowKit Go.PostAud Go.PostMem
def RRel (w : World) (n : Nat) (l : List Ack) (v4 : Value) (wr : World) : Prop := ∃ (i : Nat), i ≤ n ∧ v4 = .int .i64 (i : Int) ∧ Hid (Below w.heap.size w wr ∧ ∀ j, j < i → badAt l j = false)
def RRel2 (w : World) (i : Nat) (l : List Ack) (x : Ack) (v5 : Value) (wr : World) : Prop := ∃ (k : Nat), k ≤ i ∧ v5 = .int .i64 (k : Int) ∧ Hid (Below w.heap.size w wr ∧ ∀ j y, j < k → l[j]? = some y → clash y x = false)
set_option maxRecDepth 100000 in
set_option maxHeartbeats 800000 in
theorem RAcks_any (A : Option Addr) (n cap base : Nat) (l : List Ack) (w : World) (hA : AcksAt w base A n l) (hbase : base ≤ w.heap.size) (hn : n ≤ maxLen) :
    Calls Try.prog 11 #[.slice A n cap] w fun e w' => e = .returned (.tuple #[.int .i64 (acksAns l).1, .int .i64 (acksAns l).2]) ∧ Below w.heap.size w w' := by
  unfold maxLen at hn
  have HA := Lib.hid hA
  have HS := Lib.hid hbase
  have hlen : Hid (l.length = n) := Lib.hid hA.1
  clear hA hbase
  go_enter Try.func11, Try.ntmps11
  go_wp2_with (fail)
  go_loopw [4] (fun v4 wr => RRel w n l v4 wr) (fun v4 _ => n - (intOf v4).toNat)
  case atStart => exact ⟨0, by omega, rfl, Lib.hid ⟨Below.refl _ _, fun _ h => absurd h (by omega)⟩⟩
  case round =>
    obtain ⟨i, hi, rfl, Hr⟩ := hrel
    by_cases hlt : i < n
    · obtain ⟨a, x, rfl, hx, hwf, hat⟩ := (HA.out.below (Hr.out.1.mono HS.out)).get hlt
      have HX := Lib.hid hx
      have HW := Lib.hid hwf
      have HGR : Hid (∀ w', Calls Try.prog 19 #[.agg #[.int .i64 x.step, .int .i64 x.id.prod, .int .i64 x.id.seq, .int .i64 x.err, .int .i64 x.base, .int .i64 x.count]] w' fun e w'' => e = .returned (.bool (good x)) ∧ Below w'.heap.size w' w'') := Lib.hid (Good_any x)
      obtain ⟨c0, c1, c2, c3, c4, c5⟩ := At.six hat
      clear hx hwf hat
      by_cases he : x.err = 0
      · have hd : (x.err != 0) = false := by simpa using he
        have HE := Lib.hid he
        clear he
        by_cases hg : good x = true
        · rw [hg] at HGR
          go_wp2_with (first
            | (go_at_call 19; with_reducible refine (HGR.out _).mono ?_; rintro e W1 ⟨rfl, hW1⟩; have HW1 := Lib.hid hW1; clear hW1))
          go_loopw [5] (fun v5 wr => RRel2 w i l x v5 wr) (fun v5 _ => i - (intOf v5).toNat)
          case atStart => exact ⟨0, by omega, rfl, Lib.hid ⟨bstep Hr.out.1 HW1.out, fun _ _ h => absurd h (by omega)⟩⟩
          case round =>
            clear c0 c1 c2 c3 c4 c5
            obtain ⟨k, hk, rfl, Hr2⟩ := hrel
            by_cases hlt2 : k < i
            · have HB2 := Lib.hid (Hr2.out.1.mono HS.out)
              obtain ⟨a', x2, e1, hx2, hwf2, hat2⟩ := (HA.out.below HB2.out).get hlt
              obtain rfl := Option.some.inj e1
              obtain rfl : x2 = x := Option.some.inj (hx2.symm.trans HX.out)
              obtain ⟨c0, c1, c2, c3, c4, c5⟩ := At.six hat2
              have CX := Lib.hid (At.six_lat hat2)
              clear hat2 hx2 hwf2 e1
              obtain ⟨a', y, e1, hy, hwfy, haty⟩ := (HA.out.below HB2.out).get (show k < n by omega)
              obtain rfl := Option.some.inj e1
              obtain ⟨b0, b1, b2, b3, b4, b5⟩ := At.six haty
              have CY := Lib.hid (At.six_lat haty)
              have HY := Lib.hid hy
              clear haty e1 hy
              have HGY : Hid (∀ w', Calls Try.prog 19 #[.agg #[.int .i64 y.step, .int .i64 y.id.prod, .int .i64 y.id.seq, .int .i64 y.err, .int .i64 y.base, .int .i64 y.count]] w' fun e w'' => e = .returned (.bool (good y)) ∧ Below w'.heap.size w' w'') := Lib.hid (Good_any y)
              by_cases hgy : good y = true
              · rw [hgy] at HGY
                go_wp2_with (first
                  | (go_at_call 19; with_reducible refine (HGY.out _).mono ?_; rintro e W2 ⟨rfl, hW2⟩; have HW2 := Lib.hid hW2; clear hW2))
                clear c0 c1 c2 c3 c4 c5 b0 b1 b2 b3 b4 b5
                obtain ⟨c0, c1, c2, c3, c4, c5⟩ := CX.out
                obtain ⟨b0, b1, b2, b3, b4, b5⟩ := CY.out
                have hv := eqlId y.id.prod y.id.seq x2.id.prod x2.id.seq
                have hgd := fun (w : World) (p q : Operand) (xs ys : Array Value) => run_eqGuard_agg (P := Try.prog) w .eql 36 p q xs ys guardId
                have HM : Hid (∀ w', Calls Try.prog 20 #[.agg #[.int .i64 y.step, .int .i64 y.id.prod, .int .i64 y.id.seq, .int .i64 y.err, .int .i64 y.base, .int .i64 y.count], .agg #[.int .i64 x2.step, .int .i64 x2.id.prod, .int .i64 x2.id.seq, .int .i64 x2.err, .int .i64 x2.base, .int .i64 x2.count]] w' fun e w'' => e = .returned (.bool (meets y x2)) ∧ Below w'.heap.size w' w'') := Lib.hid (fun w' => meet_any y x2 w' hgy hg)
                have HC := Lib.hid (clash_cases y x2 hgy)
                refine QuietTail.wp_all (fun w' => ∃ z : Lat wr, w' = z.val) (by kernel_rfl) (by kernel_rfl) ((LatOf.refl wr).step HW2.out).drew ?_
                rcases HC.out with ⟨hs, h1, hc⟩ | ⟨hs, h1, h2, hc⟩ | ⟨hs, h1, h2, hc⟩ | ⟨hs, h1, hc⟩ | ⟨hs, h1, hc⟩
                all_goals
                  have HCL := Lib.hid hc
                  clear hc HC
                  try rw [h1] at HM
                  simp only [hs] at hv
                  iterate 12 (go_big_quiet_step (fail))
                  refine wpQuiet_nil ?_
                  rintro _ ⟨z, rfl⟩
                  go_wp2_with (fail)
                  refine QuietTail.wp_all (fun w' => ∃ z : Lat wr, w' = z.val) (by kernel_rfl) (by kernel_rfl) (LatOf.drew ⟨z, rfl⟩) ?_
                  iterate 42 (go_big_quiet_step (with_reducible exact call_at HM.out _))
                  refine wpQuiet_nil ?_
                  rintro _ ⟨z2, rfl⟩
                  go_wp2_with (fail)
                · go_ret2
                  rw [acksAns_bad HX.out (by unfold badAck; rw [take_any_true l i k y _ hlt2 HY.out HCL.out]; simp [HE.out]) Hr.out.2]
                  exact ⟨rfl, bstep Hr2.out.1 z2.below⟩
                · go_ret2
                  rw [acksAns_bad HX.out (by unfold badAck; rw [take_any_true l i k y _ hlt2 HY.out HCL.out]; simp [HE.out]) Hr.out.2]
                  exact ⟨rfl, bstep Hr2.out.1 z2.below⟩
                · go_roundw
                  case rel =>
                    refine ⟨k + 1, by omega, by go_num, Lib.hid ⟨bstep Hr2.out.1 z2.below, fun j y' hj hy' => ?_⟩⟩
                    rcases Nat.lt_succ_iff_lt_or_eq.1 hj with h | rfl
                    · exact Hr2.out.2 j y' h hy'
                    · obtain rfl := Option.some.inj (hy'.symm.trans HY.out)
                      exact HCL.out
                  case measure => simp [intOf]; omega
                · go_ret2
                  rw [acksAns_bad HX.out (by unfold badAck; rw [take_any_true l i k y _ hlt2 HY.out HCL.out]; simp [HE.out]) Hr.out.2]
                  exact ⟨rfl, bstep Hr2.out.1 z2.below⟩
                · go_roundw
                  case rel =>
                    refine ⟨k + 1, by omega, by go_num, Lib.hid ⟨bstep Hr2.out.1 z2.below, fun j y' hj hy' => ?_⟩⟩
                    rcases Nat.lt_succ_iff_lt_or_eq.1 hj with h | rfl
                    · exact Hr2.out.2 j y' h hy'
                    · obtain rfl := Option.some.inj (hy'.symm.trans HY.out)
                      exact HCL.out
                  case measure => simp [intOf]; omega
              · rw [Bool.not_eq_true] at hgy
                rw [hgy] at HGY
                go_wp2_with (first
                  | (go_at_call 19; with_reducible refine (HGY.out _).mono ?_; rintro e W2 ⟨rfl, hW2⟩; have HW2 := Lib.hid hW2; clear hW2))
                go_roundw
                case rel =>
                  refine ⟨k + 1, by omega, by go_num, Lib.hid ⟨bstep Hr2.out.1 HW2.out, fun j y' hj hy' => ?_⟩⟩
                  rcases Nat.lt_succ_iff_lt_or_eq.1 hj with h | rfl
                  · exact Hr2.out.2 j y' h hy'
                  · obtain rfl := Option.some.inj (hy'.symm.trans HY.out)
                    unfold clash; rw [hgy]; rfl
                case measure => simp [intOf]; omega
            · obtain rfl : k = i := by omega
              have hk2 : decide ((k : Int) < (k : Int)) = false := by simp
              go_wp2_with (fail)
              go_roundw
              case rel =>
                refine ⟨k + 1, by omega, by go_num, Lib.hid ⟨Hr2.out.1, fun j hj => ?_⟩⟩
                rcases Nat.lt_succ_iff_lt_or_eq.1 hj with h | rfl
                · exact Hr.out.2 j h
                · rw [badAt_of HX.out]
                  unfold badAck
                  rw [hg, take_any _ _ _ Hr2.out.2]
                  simp
              case measure => simp [intOf]; omega
        · rw [Bool.not_eq_true] at hg
          rw [hg] at HGR
          go_wp2_with (first
            | (go_at_call 19; with_reducible refine (HGR.out _).mono ?_; rintro e W1 ⟨rfl, hW1⟩; have HW1 := Lib.hid hW1; clear hW1))
          go_ret2
          rw [acksAns_bad HX.out (by unfold badAck; rw [hg]; simp [HE.out]) Hr.out.2]
          exact ⟨rfl, bstep Hr.out.1 HW1.out⟩
      · have hd : (x.err != 0) = true := by simpa using he
        go_wp2_with (fail)
        go_roundw
        case rel =>
          refine ⟨i + 1, by omega, by go_num, Lib.hid ⟨Hr.out.1, fun j hj => ?_⟩⟩
          rcases Nat.lt_succ_iff_lt_or_eq.1 hj with h | rfl
          · exact Hr.out.2 j h
          · rw [badAt_of HX.out]; unfold badAck; simp [he]
        case measure => simp [intOf]; omega
    · obtain rfl : i = n := by omega
      go_wp2_with (fail)
      go_ret2
      rw [acksAns_ok (fun j hj => Hr.out.2 j (by rw [hlen.out] at hj; exact hj))]
      exact ⟨rfl, Hr.out.1⟩
end Go.Proofs.Ytkgidfehndkhmaa
