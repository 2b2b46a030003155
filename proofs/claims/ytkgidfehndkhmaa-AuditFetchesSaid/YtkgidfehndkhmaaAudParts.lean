/- The walk of postroadtold.parts. -/
import Derived.Test.YtkgidfehndkhmaaAudLeaf
import Derived.Test.YtkgidfehndkhmaaAudEq
import Derived.Test.YtkgidfehndkhmaaAudSpec2
import Derived.Test.YtkgidfehndkhmaaMem
import Derived.Test.YtkgidfehndkhmaaQuietArms
namespace Go.Proofs.Ytkgidfehndkhmaa
open Go.RowKit Go.PostAud Go.PostMem
def PRel (w0 : World) (m : Nat) (l : List Fet) (i : Nat) (f : Fet) (v6 : Value) (wr : World) : Prop := ∃ (k : Nat), k ≤ m ∧ v6 = .int .i64 (k : Int) ∧ Hid (Below w0.heap.size w0 wr ∧ ∀ j x, j < k → f.recs[j]? = some x → recBad l i f j x = false)
def PRel2 (w0 : World) (l : List Fet) (i : Nat) (x : Rec) (v7 : Value) (wr : World) : Prop := ∃ (j : Nat), j ≤ i ∧ v7 = .int .i64 (j : Int) ∧ Hid (Below w0.heap.size w0 wr ∧ ∀ q g, q < j → l[q]? = some g → (decide (g.err = 0) && g.recs.any fun y => decide (y.off = x.off) && !decide (y = x)) = false)
def PRel3 (w0 : World) (m : Nat) (g : Fet) (x : Rec) (v8 : Value) (wr : World) : Prop := ∃ (k : Nat), k ≤ m ∧ v8 = .int .i64 (k : Int) ∧ Hid (Below w0.heap.size w0 wr ∧ ∀ q y, q < k → g.recs[q]? = some y → (decide (y.off = x.off) && !decide (y = x)) = false)
set_option maxRecDepth 100000 in
set_option maxHeartbeats 6400000 in
theorem parts_any (A : Option Addr) (n cap base i : Nat) (l : List Fet) (f : Fet) (w : World) (hA : FetsAt w base A n l) (hi : i < n) (hf : l[i]? = some f) :
    Calls Try.prog 22 #[.slice A n cap, .int .i64 (i : Int)] w fun e w' => e = .returned (.bool (parts l i f)) ∧ Below w.heap.size w w' := by
  have hn := hA.2.1
  unfold maxLen at hn
  have HA := Lib.hid hA
  have HL := Lib.hid hf
  obtain ⟨a, f', A', m, c, rfl, hx, hwf, hat, hrc⟩ := hA.get hi
  obtain rfl := Option.some.inj (hx.symm.trans hf)
  have HAT := Lib.hid hat
  have HRC := Lib.hid hrc
  have hm := hrc.2.1
  unfold maxLen at hm
  have hlen2 : Hid (f'.recs.length = m) := Lib.hid hrc.1
  obtain ⟨c0, c1, c2, c3, c4⟩ := At.five hat
  clear hA hx hwf hat hrc hf
  go_enter Try.func22, Try.ntmps22
  go_wp2_with (fail)
  clear c0 c1 c2 c3 c4
  go_loopw [6] (fun v6 w9 => PRel w m l i f' v6 w9) (fun v6 _ => m - (intOf v6).toNat)
  case atStart => exact ⟨0, by omega, rfl, Lib.hid ⟨Below.refl _ _, fun _ _ h => absurd h (by omega)⟩⟩
  case round =>
    obtain ⟨k, hk, rfl, Hr⟩ := hrel
    by_cases hlt : k < m
    · obtain ⟨a2, x, rfl, hx, hwf, hat⟩ := (HRC.out.later Hr.out.1).get hlt
      have HX := Lib.hid hx
      have HAX := Lib.hid hat
      obtain ⟨b0, b1, b2, b3⟩ := At.four hat
      obtain ⟨c0, c1, c2, c3, c4⟩ := At.five (HAT.out.later Hr.out.1)
      clear hx hwf hat
      clear b0 b1 b2 b3 c0 c1 c2 c3 c4
      have CB := Lib.hid (At.four_lat HAX.out)
      have CC := Lib.hid (At.five_lat (HAT.out.later Hr.out.1))
      have HB0 := Lib.hid (HRC.out.later Hr.out.1)
      rcases ord_cases f' k x (by rw [hlen2.out]; exact hlt) with ⟨h1, h2⟩ | ⟨h1, h2, h2', h3⟩ | ⟨h1, h2, h2', y, hy, h3⟩
      · have H2 := Lib.hid h2
        clear h2
        go_wp2_with (fail)
        obtain ⟨b0, b1, b2, b3⟩ := CB.out
        obtain ⟨c0, c1, c2, c3, c4⟩ := CC.out
        refine QuietTail.wp_all (fun w' => ∃ z : Lat wr, w' = z.val) (by kernel_rfl) (by kernel_rfl) (LatOf.refl wr).drew ?_
        iterate 29 (go_big_quiet_step (fail))
        refine wpQuiet_nil ?_
        rintro _ ⟨z, rfl⟩
        go_wp2_with (fail)
        go_ret
        refine ⟨?_, bstep Hr.out.1 z.below⟩
        rw [parts_true HX.out (by unfold recBad; rw [H2.out]; rfl)]
        rfl
      · have H2 := Lib.hid h3
        clear h3
        go_wp2_with (fail)
        obtain ⟨b0, b1, b2, b3⟩ := CB.out
        obtain ⟨c0, c1, c2, c3, c4⟩ := CC.out
        refine QuietTail.wp_all (fun w' => ∃ z : Lat wr, w' = z.val) (by kernel_rfl) (by kernel_rfl) (LatOf.refl wr).drew ?_
        iterate 29 (go_big_quiet_step (fail))
        refine wpQuiet_nil ?_
        rintro _ ⟨z, rfl⟩
        go_wp2_with (fail)
        have HZ := Lib.hid (bstep Hr.out.1 z.below)
        have HAZ := Lib.hid (HAX.out.later z.below)
        have HPK := Lib.hid Hr.out.2
        clear HAX CB CC b0 b1 b2 b3 c0 c1 c2 c3 c4 Hr
        generalize z.val = W1 at HZ HAZ ⊢
        go_loopw [7] (fun v7 w9 => PRel2 W1 l i x v7 w9) (fun v7 _ => i - (intOf v7).toNat)
        case atStart => exact ⟨0, by omega, rfl, Lib.hid ⟨Below.refl _ _, fun _ _ h => absurd h (by omega)⟩⟩
        case round =>
          obtain ⟨j, hj, rfl, Hr2⟩ := hrel
          by_cases hlt2 : j < i
          · obtain ⟨a', g, A3, m3, c3', e1, hg, hwfg, hatg, hrcg⟩ := (HA.out.later (bstep HZ.out Hr2.out.1)).get (show j < n by omega)
            obtain rfl := Option.some.inj e1
            have HG := Lib.hid hg
            have HATG := Lib.hid hatg
            have HRCG := Lib.hid hrcg
            have hm3 := hrcg.2.1
            unfold maxLen at hm3
            have hlen3 : Hid (g.recs.length = m3) := Lib.hid hrcg.1
            clear e1 hg hwfg hatg hrcg
            go_wp2_with (fail)
            go_loopw [8] (fun v8 w9 => PRel3 wr m3 g x v8 w9) (fun v8 _ => m3 - (intOf v8).toNat)
            case atStart => exact ⟨0, by omega, rfl, Lib.hid ⟨Below.refl _ _, fun _ _ h => absurd h (by omega)⟩⟩
            case round =>
              obtain ⟨q, hq, rfl, Hr3⟩ := hrel
              obtain ⟨e0, e1, e2, e3, e4⟩ := At.five (HATG.out.later Hr3.out.1)
              have HB3 := Lib.hid (bstep HZ.out (bstep Hr2.out.1 Hr3.out.1))
              have leave : ∀ (G : (decide (g.err = 0) && g.recs.any fun y => decide (y.off = x.off) && !decide (y = x)) = false) (V : World), Below W1.heap.size W1 V → PRel2 W1 l i x (.int .i64 ((j : Int) + 1)) V := fun G V hV => by
                refine ⟨j + 1, by omega, by go_num, Lib.hid ⟨hV, fun q' g' hq' hg' => ?_⟩⟩
                rcases Nat.lt_succ_iff_lt_or_eq.1 hq' with h | rfl
                · exact Hr2.out.2 q' g' h hg'
                · obtain rfl := Option.some.inj (hg'.symm.trans HG.out)
                  exact G
              have LV := Lib.hid leave
              clear leave
              by_cases hlt3 : q < m3
              · by_cases herr : g.err = 0
                · have hd : (g.err == 0) = true := by simpa using herr
                  have HERR := Lib.hid herr
                  clear herr
                  obtain ⟨a4, y, rfl, hy, _, haty⟩ := (HRCG.out.later Hr3.out.1).get hlt3
                  have HY := Lib.hid hy
                  have CY := Lib.hid (At.four_lat haty)
                  have CX := Lib.hid (At.four_lat ((HAZ.out.later Hr2.out.1).later Hr3.out.1))
                  have CG := Lib.hid (At.five_lat (HATG.out.later Hr3.out.1))
                  have CF := Lib.hid (At.five_lat (HAT.out.later HB3.out))
                  clear hy haty
                  go_wp2_with (fail)
                  clear e0 e1 e2 e3 e4
                  obtain ⟨b0, b1, b2, b3⟩ := CX.out
                  obtain ⟨d0, d1, d2, d3⟩ := CY.out
                  obtain ⟨e0, e1, e2, e3, e4⟩ := CG.out
                  have hv := neqRec y.off x.off y.key y.value x.key x.value y.gone x.gone
                  have hgd := fun (w : World) (p q : Operand) (xs ys : Array Value) => run_eqGuard_agg (P := Try.prog) w .neq 49 p q xs ys guardRec
                  have HC := Lib.hid (old_cases y x)
                  rcases HC.out with ⟨h5, h6⟩ | ⟨h5, h6, h7⟩ | ⟨h5, h6, h7⟩
                  · have HE := Lib.hid h6
                    clear h6 HC
                    refine QuietTail.wp_all (fun w' => ∃ z : Lat wr, w' = z.val) (by kernel_rfl) (by kernel_rfl) (LatOf.refl wr).drew ?_
                    iterate 30 (go_big_quiet_step (fail))
                    refine wpQuiet_nil ?_
                    rintro _ ⟨z, rfl⟩
                    go_wp2_with (fail)
                    go_roundw
                    case rel =>
                      refine ⟨q + 1, by omega, by go_num, Lib.hid ⟨bstep Hr3.out.1 z.below, fun q' y' hq' hy' => ?_⟩⟩
                      rcases Nat.lt_succ_iff_lt_or_eq.1 hq' with h | rfl
                      · exact Hr3.out.2 q' y' h hy'
                      · obtain rfl := Option.some.inj (hy'.symm.trans HY.out)
                        exact HE.out
                    case measure => simp [intOf]; omega
                  · have HE := Lib.hid h7
                    simp only [h6, Bool.not_true] at hv
                    clear h6 h7 HC
                    refine QuietTail.wp_all (fun w' => ∃ z : Lat wr, w' = z.val) (by kernel_rfl) (by kernel_rfl) (LatOf.refl wr).drew ?_
                    iterate 30 (go_big_quiet_step (fail))
                    refine wpQuiet_nil ?_
                    rintro _ ⟨z, rfl⟩
                    go_wp2_with (fail)
                    go_roundw
                    case rel =>
                      refine ⟨q + 1, by omega, by go_num, Lib.hid ⟨bstep Hr3.out.1 z.below, fun q' y' hq' hy' => ?_⟩⟩
                      rcases Nat.lt_succ_iff_lt_or_eq.1 hq' with h | rfl
                      · exact Hr3.out.2 q' y' h hy'
                      · obtain rfl := Option.some.inj (hy'.symm.trans HY.out)
                        exact HE.out
                    case measure => simp [intOf]; omega
                  · have HE := Lib.hid h7
                    simp only [h6, Bool.not_false] at hv
                    clear h6 h7 HC
                    refine QuietTail.wp_all (fun w' => ∃ z : Lat wr, w' = z.val) (by kernel_rfl) (by kernel_rfl) (LatOf.refl wr).drew ?_
                    iterate 30 (go_big_quiet_step (fail))
                    refine wpQuiet_nil ?_
                    rintro _ ⟨z, rfl⟩
                    go_wp2_with (fail)
                    go_ret
                    refine ⟨?_, bstep HB3.out z.below⟩
                    rw [parts_true HX.out (by
                      unfold recBad oldBad
                      rw [take_any_at hlt2 HG.out (by rw [decide_eq_true HERR.out, any_at HY.out HE.out]; rfl)]
                      simp)]
                    rfl
                · have hd : (g.err == 0) = false := by simpa using herr
                  have HERR := Lib.hid herr
                  clear herr
                  go_wp2_with (fail)
                  go_roundw
                  case rel => exact LV.out (by rw [decide_eq_false HERR.out]; rfl) _ (bstep Hr2.out.1 Hr3.out.1)
                  case measure => simp [intOf]; omega
              · obtain rfl : q = m3 := by omega
                go_wp2_with (fail)
                go_roundw
                case rel =>
                  refine LV.out ?_ _ (bstep Hr2.out.1 Hr3.out.1)
                  rw [any_false fun j y hy => Hr3.out.2 j y (by have := (List.getElem?_eq_some_iff.1 hy).1; rw [hlen3.out] at this; exact this) hy]
                  simp
                case measure => simp [intOf]; omega
          · obtain rfl : j = i := by omega
            go_wp2_with (fail)
            go_roundw
            case rel =>
              refine ⟨k + 1, by omega, by go_num, Lib.hid ⟨bstep HZ.out Hr2.out.1, fun q' y' hq' hy' => ?_⟩⟩
              rcases Nat.lt_succ_iff_lt_or_eq.1 hq' with h | rfl
              · exact HPK.out q' y' h hy'
              · obtain rfl := Option.some.inj (hy'.symm.trans HX.out)
                unfold recBad oldBad
                rw [H2.out, take_any _ _ _ Hr2.out.2]
                rfl
            case measure => simp [intOf]; omega
      · obtain ⟨a3, y', e3, hy', _, haty⟩ := HB0.out.get (show k - 1 < m by have := of_decide_eq_true h2'; omega)
        obtain rfl := Option.some.inj e3
        obtain rfl := Option.some.inj (hy'.symm.trans hy)
        have CY := Lib.hid (At.four_lat haty)
        clear haty e3 hy hy'
        have hk1 := of_decide_eq_true h2'
        have w1 : IntKind.i64.wrap ((k : Int) - 1) = (k : Int) - 1 := by rw [IntKind.wrap_i64]; omega
        have w2 : 0 ≤ (k : Int) - 1 := by omega
        have w3 : (k : Int) - 1 < (m : Int) := by omega
        have w4 : ((k : Int) - 1).toNat = k - 1 := by omega
        clear hk1
        rcases h3 with ⟨h3, h4⟩ | ⟨h3, h4⟩
        · have H2 := Lib.hid h4
          clear h4
          go_wp2_with (fail)
          obtain ⟨b0, b1, b2, b3⟩ := CB.out
          obtain ⟨c0, c1, c2, c3, c4⟩ := CC.out
          obtain ⟨d0, d1, d2, d3⟩ := CY.out
          refine QuietTail.wp_all (fun w' => ∃ z : Lat wr, w' = z.val) (by kernel_rfl) (by kernel_rfl) (LatOf.refl wr).drew ?_
          iterate 29 (go_big_quiet_step (fail))
          refine wpQuiet_nil ?_
          rintro _ ⟨z, rfl⟩
          go_wp2_with (fail)
          go_ret
          refine ⟨?_, bstep Hr.out.1 z.below⟩
          rw [parts_true HX.out (by unfold recBad; rw [H2.out]; rfl)]
          rfl
        · have H2 := Lib.hid h4
          clear h4
          go_wp2_with (fail)
          obtain ⟨b0, b1, b2, b3⟩ := CB.out
          obtain ⟨c0, c1, c2, c3, c4⟩ := CC.out
          obtain ⟨d0, d1, d2, d3⟩ := CY.out
          refine QuietTail.wp_all (fun w' => ∃ z : Lat wr, w' = z.val) (by kernel_rfl) (by kernel_rfl) (LatOf.refl wr).drew ?_
          iterate 29 (go_big_quiet_step (fail))
          refine wpQuiet_nil ?_
          rintro _ ⟨z, rfl⟩
          go_wp2_with (fail)
          clear d0 d1 d2 d3 CY w1 w2 w3 w4
          have HZ := Lib.hid (bstep Hr.out.1 z.below)
          have HAZ := Lib.hid (HAX.out.later z.below)
          have HPK := Lib.hid Hr.out.2
          clear HAX CB CC b0 b1 b2 b3 c0 c1 c2 c3 c4 Hr
          generalize z.val = W1 at HZ HAZ ⊢
          go_loopw [7] (fun v7 w9 => PRel2 W1 l i x v7 w9) (fun v7 _ => i - (intOf v7).toNat)
          case atStart => exact ⟨0, by omega, rfl, Lib.hid ⟨Below.refl _ _, fun _ _ h => absurd h (by omega)⟩⟩
          case round =>
            obtain ⟨j, hj, rfl, Hr2⟩ := hrel
            by_cases hlt2 : j < i
            · obtain ⟨a', g, A3, m3, c3', e1, hg, hwfg, hatg, hrcg⟩ := (HA.out.later (bstep HZ.out Hr2.out.1)).get (show j < n by omega)
              obtain rfl := Option.some.inj e1
              have HG := Lib.hid hg
              have HATG := Lib.hid hatg
              have HRCG := Lib.hid hrcg
              have hm3 := hrcg.2.1
              unfold maxLen at hm3
              have hlen3 : Hid (g.recs.length = m3) := Lib.hid hrcg.1
              clear e1 hg hwfg hatg hrcg
              go_wp2_with (fail)
              go_loopw [8] (fun v8 w9 => PRel3 wr m3 g x v8 w9) (fun v8 _ => m3 - (intOf v8).toNat)
              case atStart => exact ⟨0, by omega, rfl, Lib.hid ⟨Below.refl _ _, fun _ _ h => absurd h (by omega)⟩⟩
              case round =>
                obtain ⟨q, hq, rfl, Hr3⟩ := hrel
                obtain ⟨e0, e1, e2, e3, e4⟩ := At.five (HATG.out.later Hr3.out.1)
                have HB3 := Lib.hid (bstep HZ.out (bstep Hr2.out.1 Hr3.out.1))
                have leave : ∀ (G : (decide (g.err = 0) && g.recs.any fun y => decide (y.off = x.off) && !decide (y = x)) = false) (V : World), Below W1.heap.size W1 V → PRel2 W1 l i x (.int .i64 ((j : Int) + 1)) V := fun G V hV => by
                  refine ⟨j + 1, by omega, by go_num, Lib.hid ⟨hV, fun q' g' hq' hg' => ?_⟩⟩
                  rcases Nat.lt_succ_iff_lt_or_eq.1 hq' with h | rfl
                  · exact Hr2.out.2 q' g' h hg'
                  · obtain rfl := Option.some.inj (hg'.symm.trans HG.out)
                    exact G
                have LV := Lib.hid leave
                clear leave
                by_cases hlt3 : q < m3
                · by_cases herr : g.err = 0
                  · have hd : (g.err == 0) = true := by simpa using herr
                    have HERR := Lib.hid herr
                    clear herr
                    obtain ⟨a4, y, rfl, hy, _, haty⟩ := (HRCG.out.later Hr3.out.1).get hlt3
                    have HY := Lib.hid hy
                    have CY := Lib.hid (At.four_lat haty)
                    have CX := Lib.hid (At.four_lat ((HAZ.out.later Hr2.out.1).later Hr3.out.1))
                    have CG := Lib.hid (At.five_lat (HATG.out.later Hr3.out.1))
                    have CF := Lib.hid (At.five_lat (HAT.out.later HB3.out))
                    clear hy haty
                    go_wp2_with (fail)
                    clear e0 e1 e2 e3 e4
                    obtain ⟨b0, b1, b2, b3⟩ := CX.out
                    obtain ⟨d0, d1, d2, d3⟩ := CY.out
                    obtain ⟨e0, e1, e2, e3, e4⟩ := CG.out
                    have hv := neqRec y.off x.off y.key y.value x.key x.value y.gone x.gone
                    have hgd := fun (w : World) (p q : Operand) (xs ys : Array Value) => run_eqGuard_agg (P := Try.prog) w .neq 49 p q xs ys guardRec
                    have HC := Lib.hid (old_cases y x)
                    rcases HC.out with ⟨h5, h6⟩ | ⟨h5, h6, h7⟩ | ⟨h5, h6, h7⟩
                    · have HE := Lib.hid h6
                      clear h6 HC
                      refine QuietTail.wp_all (fun w' => ∃ z : Lat wr, w' = z.val) (by kernel_rfl) (by kernel_rfl) (LatOf.refl wr).drew ?_
                      iterate 30 (go_big_quiet_step (fail))
                      refine wpQuiet_nil ?_
                      rintro _ ⟨z, rfl⟩
                      go_wp2_with (fail)
                      go_roundw
                      case rel =>
                        refine ⟨q + 1, by omega, by go_num, Lib.hid ⟨bstep Hr3.out.1 z.below, fun q' y' hq' hy' => ?_⟩⟩
                        rcases Nat.lt_succ_iff_lt_or_eq.1 hq' with h | rfl
                        · exact Hr3.out.2 q' y' h hy'
                        · obtain rfl := Option.some.inj (hy'.symm.trans HY.out)
                          exact HE.out
                      case measure => simp [intOf]; omega
                    · have HE := Lib.hid h7
                      simp only [h6, Bool.not_true] at hv
                      clear h6 h7 HC
                      refine QuietTail.wp_all (fun w' => ∃ z : Lat wr, w' = z.val) (by kernel_rfl) (by kernel_rfl) (LatOf.refl wr).drew ?_
                      iterate 30 (go_big_quiet_step (fail))
                      refine wpQuiet_nil ?_
                      rintro _ ⟨z, rfl⟩
                      go_wp2_with (fail)
                      go_roundw
                      case rel =>
                        refine ⟨q + 1, by omega, by go_num, Lib.hid ⟨bstep Hr3.out.1 z.below, fun q' y' hq' hy' => ?_⟩⟩
                        rcases Nat.lt_succ_iff_lt_or_eq.1 hq' with h | rfl
                        · exact Hr3.out.2 q' y' h hy'
                        · obtain rfl := Option.some.inj (hy'.symm.trans HY.out)
                          exact HE.out
                      case measure => simp [intOf]; omega
                    · have HE := Lib.hid h7
                      simp only [h6, Bool.not_false] at hv
                      clear h6 h7 HC
                      refine QuietTail.wp_all (fun w' => ∃ z : Lat wr, w' = z.val) (by kernel_rfl) (by kernel_rfl) (LatOf.refl wr).drew ?_
                      iterate 30 (go_big_quiet_step (fail))
                      refine wpQuiet_nil ?_
                      rintro _ ⟨z, rfl⟩
                      go_wp2_with (fail)
                      go_ret
                      refine ⟨?_, bstep HB3.out z.below⟩
                      rw [parts_true HX.out (by
                        unfold recBad oldBad
                        rw [take_any_at hlt2 HG.out (by rw [decide_eq_true HERR.out, any_at HY.out HE.out]; rfl)]
                        simp)]
                      rfl
                  · have hd : (g.err == 0) = false := by simpa using herr
                    have HERR := Lib.hid herr
                    clear herr
                    go_wp2_with (fail)
                    go_roundw
                    case rel => exact LV.out (by rw [decide_eq_false HERR.out]; rfl) _ (bstep Hr2.out.1 Hr3.out.1)
                    case measure => simp [intOf]; omega
                · obtain rfl : q = m3 := by omega
                  go_wp2_with (fail)
                  go_roundw
                  case rel =>
                    refine LV.out ?_ _ (bstep Hr2.out.1 Hr3.out.1)
                    rw [any_false fun j y hy => Hr3.out.2 j y (by have := (List.getElem?_eq_some_iff.1 hy).1; rw [hlen3.out] at this; exact this) hy]
                    simp
                  case measure => simp [intOf]; omega
            · obtain rfl : j = i := by omega
              go_wp2_with (fail)
              go_roundw
              case rel =>
                refine ⟨k + 1, by omega, by go_num, Lib.hid ⟨bstep HZ.out Hr2.out.1, fun q' y' hq' hy' => ?_⟩⟩
                rcases Nat.lt_succ_iff_lt_or_eq.1 hq' with h | rfl
                · exact HPK.out q' y' h hy'
                · obtain rfl := Option.some.inj (hy'.symm.trans HX.out)
                  unfold recBad oldBad
                  rw [H2.out, take_any _ _ _ Hr2.out.2]
                  rfl
              case measure => simp [intOf]; omega
    · obtain rfl : k = m := by omega
      go_wp2_with (fail)
      go_ret
      refine ⟨?_, Hr.out.1⟩
      rw [parts_false (fun j x hx => Hr.out.2 j x (by have := (List.getElem?_eq_some_iff.1 hx).1; rw [hlen2.out] at this; exact this) hx)]
      rfl
end Go.Proofs.Ytkgidfehndkhmaa
