/- The walks of postroadtold.lacks and Keeps. -/
import Derived.Test.YtkgidfehndkhmaaAudKLater
namespace Go.Proofs.Ytkgidfehndkhmaa
open Go.RowKit Go.PostAud Go.PostMem
def M1 (w0 : World) (n : Nat) (ks : List Ack) (l : List Fet) (sd : List Sd) (f : Fet) (v10 : Value) (wr : World) : Prop := ∃ (i : Nat), i ≤ n ∧ v10 = .int .i64 (i : Int) ∧ Hid (Below w0.heap.size w0 wr ∧ ∀ j k st o key, j < i → HeldAt ks sd j k st o key → ¬ LacksBy ks l sd f (lastOff f.recs) st o key)
def M2 (w0 : World) (m : Nat) (ks : List Ack) (l : List Fet) (sd : List Sd) (f : Fet) (i : Nat) (v13 : Value) (wr : World) : Prop := ∃ (k : Nat), k ≤ m ∧ v13 = .int .i64 (k : Int) ∧ Hid (Below w0.heap.size w0 wr ∧ ∀ q st o key, q < k → HeldAt ks sd i q st o key → ¬ LacksBy ks l sd f (lastOff f.recs) st o key)
set_option maxRecDepth 100000 in
set_option maxHeartbeats 6400000 in
theorem lacks_any (A1 A2 A3 A4 : Option Addr) (n1 c1 n2 c2 n3 c3 m4 c4 base : Nat) (ks : List Ack) (l : List Fet) (sd : List Sd) (f : Fet) (w : World)
    (h1 : AcksAt w base A1 n1 ks) (hn1 : n1 ≤ maxLen) (h2 : FetsAt w base A2 n2 l) (h3 : SdsAt w base A3 n3 sd) (h4 : RecsAt w base A4 m4 f.recs) (hm4 : 0 < m4) (hbase : base ≤ w.heap.size) :
    Calls Try.prog 25 #[.slice A1 n1 c1, .slice A2 n2 c2, .slice A3 n3 c3, .agg #[.int .i64 f.step, .int .i64 f.at_, .int .i64 f.from_, .int .i64 f.err, .slice A4 m4 c4]] w fun e w' => e = .returned (.bool (lacksB ks l sd f)) ∧ Below w.heap.size w w' := by
  have hn2 := h2.2.1
  have hn3 := h3.2.1
  have hn4 := h4.2.1
  unfold maxLen at hn1 hn2 hn3 hn4
  have HD := Lib.hid h3
  have HR4 := Lib.hid h4
  have HS := Lib.hid hbase
  have hlen3 : Hid (sd.length = n3) := Lib.hid h3.1
  have HFI : Hid (∀ (W : World) (d : Pid), Below w.heap.size w W → Calls Try.prog 26 #[.slice A1 n1 c1, .agg #[.int .i64 d.prod, .int .i64 d.seq]] W fun e w' => e = .returned (ansFirst (firstGood ks d)) ∧ Below W.heap.size W w') :=
    Lib.hid fun W d h => first_any A1 n1 c1 base ks d W (h1.later h) (Nat.le_trans hbase h.size) (by unfold maxLen; omega)
  have HHA : Hid (∀ (W : World) (o : Int), Below w.heap.size w W → Calls Try.prog 28 #[.slice A4 m4 c4, .int .i64 o] W fun e w' => e = .returned (.bool (hasOff f.recs o)) ∧ Below W.heap.size W w') :=
    Lib.hid fun W o h => has_any A4 m4 c4 base f.recs o W (h4.later h)
  have HLA : Hid (∀ (W : World) (key : ByteArray) (o : Int), Below w.heap.size w W → Calls Try.prog 29 #[.slice A1 n1 c1, .slice A2 n2 c2, .slice A3 n3 c3, .string key, .int .i64 o] W fun e w' => e = .returned (.bool (laterB ks l sd key o)) ∧ Below W.heap.size W w') :=
    Lib.hid fun W key o h => later_any A1 A2 A3 n1 c1 n2 c2 n3 c3 base ks l sd key o W (h1.later h) (by unfold maxLen; omega) (h2.later h) (h3.later h) (Nat.le_trans hbase h.size)
  clear h1 h2 h3 hbase
  obtain ⟨a4, z, rfl, hz, _, hatz⟩ := h4.get (show m4 - 1 < m4 by omega)
  have hE : lastOff f.recs = z.off := by unfold lastOff; rw [h4.1, hz]
  have HE := Lib.hid hE
  have HATZ := Lib.hid hatz
  clear h4 hE hz hatz
  have hb0 := (Below.refl w.heap.size w).alloc (Nat.le_refl _) (.cells #[.int .i64 f.step, .int .i64 f.at_, .int .i64 f.from_, .int .i64 f.err, .slice (some a4) m4 c4] 52)
  have hr0 := at_alloc w (f.cells (.slice (some a4) m4 c4)) 52
  have H0 : Hid (Below w.heap.size w (w.alloc (.cells #[.int .i64 f.step, .int .i64 f.at_, .int .i64 f.from_, .int .i64 f.err, .slice (some a4) m4 c4] 52)) ∧ At (w.alloc (.cells #[.int .i64 f.step, .int .i64 f.at_, .int .i64 f.from_, .int .i64 f.err, .slice (some a4) m4 c4] 52)) ⟨w.heap.size, 0, none⟩ (f.cells (.slice (some a4) m4 c4))) := Lib.hid ⟨hb0, hr0⟩
  clear hb0 hr0
  obtain ⟨z0, z1, z2, z3⟩ := At.four (HATZ.out.later H0.out.1)
  have w1 : IntKind.i64.wrap ((m4 : Int) - 1) = (m4 : Int) - 1 := by rw [IntKind.wrap_i64]; omega
  have w2 : 0 ≤ (m4 : Int) - 1 := by omega
  have w3 : (m4 : Int) - 1 < (m4 : Int) := by omega
  have w4 : ((m4 : Int) - 1).toNat = m4 - 1 := by omega
  go_enter Try.func25, Try.ntmps25
  go_wp2_with (fail)
  clear z0 z1 z2 z3 w1 w2 w3 w4
  have HB0 := Lib.hid H0.out.1
  have HF0 := Lib.hid H0.out.2
  clear H0
  generalize w.alloc (.cells #[.int .i64 f.step, .int .i64 f.at_, .int .i64 f.from_, .int .i64 f.err, .slice (some a4) m4 c4] 52) = W0 at HB0 HF0 ⊢
  generalize w.heap.size = B at HF0 ⊢
  go_loopw [10] (fun v10 w9 => M1 W0 n3 ks l sd f v10 w9) (fun v10 _ => n3 - (intOf v10).toNat)
  case atStart => exact ⟨0, by omega, rfl, Lib.hid ⟨Below.refl _ _, fun _ _ _ _ _ h => absurd h (by omega)⟩⟩
  case round =>
    obtain ⟨i, hi, rfl, Hr⟩ := hrel
    have HWR := Lib.hid (HB0.out.trans (Hr.out.1.mono HB0.out.size))
    by_cases hlt : i < n3
    · obtain ⟨a, s, A', m, c, rfl, hx, hwf, hat, hrc⟩ := (HD.out.later HWR.out).get hlt
      have HX := Lib.hid hx
      have HAT := Lib.hid hat
      have HRC := Lib.hid hrc
      have hm := hrc.2.1
      unfold maxLen at hm
      have hlenf : Hid (s.recs.length = m) := Lib.hid hrc.1
      have HFS : Hid (∀ (W : World), Below w.heap.size w W → Calls Try.prog 27 #[.slice (some a) n3 c3, .int .i64 (i : Int)] W fun e w' => e = .returned (.bool (firstSd sd i s.id)) ∧ Below W.heap.size W w') :=
        Lib.hid fun W h => firstSaid_any (some a) n3 c3 base i sd s W (HD.out.later h) hlt hx
      obtain ⟨q0, q1, q2⟩ := At.three hat
      have HFC := Lib.hid (HFI.out wr s.id HWR.out)
      clear hx hwf hat hrc
      obtain ⟨wo, rfl⟩ : ∃ wo : World, wo = wr := ⟨_, rfl⟩
      have leave : ∀ (V : World), Below wo.heap.size wo V → (∀ k st o key, HeldAt ks sd i k st o key → ¬ LacksBy ks l sd f (lastOff f.recs) st o key) → M1 W0 n3 ks l sd f (.int .i64 ((i : Int) + 1)) V := fun V hV h => by
        refine ⟨i + 1, by omega, by go_num, Lib.hid ⟨bstep Hr.out.1 hV, fun j k st o key hj hg => ?_⟩⟩
        rcases Nat.lt_succ_iff_lt_or_eq.1 hj with h9 | rfl
        · exact Hr.out.2 j k st o key h9 hg
        · exact h k st o key hg
      have LV := Lib.hid leave
      clear leave
      cases hfg : firstGood ks s.id with
      | none =>
        have HFG := Lib.hid hfg
        rw [hfg] at HFC
        unfold ansFirst zeroA Ack.v at HFC
        clear hfg
        go_wp2_with (go_at_call 26; with_reducible refine (HFC.out).mono ?_; rintro e W1 ⟨rfl, hW1⟩; have HW1 := Lib.hid hW1; clear hW1)
        have HWO := Lib.hid (bstep HW1.out ((Below.refl W1.heap.size W1).alloc (Nat.le_refl _) (.cells #[.int .i64 0, .int .i64 0, .int .i64 0, .int .i64 0, .int .i64 0, .int .i64 0] 38)))
        go_roundw
        case rel => exact LV.out _ HWO.out (fun k st o key h => absurd h (held_none HX.out HFG.out))
        case measure => simp [intOf]; omega
      | some x =>
        have HFG := Lib.hid hfg
        rw [hfg] at HFC
        unfold ansFirst Ack.v at HFC
        obtain ⟨g1, g2, g3, g4⟩ := good_nums (firstGood_good hfg).1
        clear hfg
        have HFS2 : Hid (∀ (W1 : World), Below wo.heap.size wo W1 → Calls Try.prog 27 #[.slice (some a) n3 c3, .int .i64 (i : Int)] (W1.alloc (.cells #[.int .i64 x.step, .int .i64 x.id.prod, .int .i64 x.id.seq, .int .i64 x.err, .int .i64 x.base, .int .i64 x.count] 38)) fun e w' => e = .returned (.bool (firstSd sd i s.id)) ∧ Below W1.heap.size W1 w' ∧ At w' ⟨W1.heap.size, 0, none⟩ x.cells) := Lib.hid fun W1 h => by
          have hb := (Below.refl W1.heap.size W1).alloc (Nat.le_refl _) (.cells #[.int .i64 x.step, .int .i64 x.id.prod, .int .i64 x.id.seq, .int .i64 x.err, .int .i64 x.base, .int .i64 x.count] 38)
          exact (HFS.out _ (bstep (bstep HWR.out h) hb)).mono fun e w' ⟨h1, h2⟩ => ⟨h1, bstep hb h2, (at_alloc W1 x.cells 38).later h2⟩
        cases hfs : firstSd sd i s.id with
        | false =>
          have HFST := Lib.hid hfs
          rw [hfs] at HFS2
          clear hfs
          go_wp2_with (first
            | (go_at_call 26; with_reducible refine (HFC.out).mono ?_; rintro e W1 ⟨rfl, hW1⟩; have HW1 := Lib.hid hW1; clear hW1)
            | (go_at_call 27; with_reducible refine (HFS2.out _ HW1.out).mono ?_; rintro e W3 ⟨rfl, hW3, hxa⟩; have HW3 := Lib.hid (bstep HW1.out hW3); clear hW3 hxa))
          go_roundw
          case rel => exact LV.out _ HW3.out (fun k st o key h => absurd h (held_second HX.out HFST.out))
          case measure => simp [intOf]; omega
        | true =>
          have HFST := Lib.hid hfs
          rw [hfs] at HFS2
          clear hfs
          by_cases hst : f.step ≤ x.step
          · have hstd : decide (f.step ≤ x.step) = true := decide_eq_true hst
            have HST := Lib.hid hst
            clear hst
            go_wp2_with (first
              | (go_at_call 26; with_reducible refine (HFC.out).mono ?_; rintro e W1 ⟨rfl, hW1⟩; have HW1 := Lib.hid hW1; clear hW1)
              | (go_at_call 27; with_reducible refine (HFS2.out _ HW1.out).mono ?_; rintro e W3 ⟨rfl, hW3, hxa⟩; have HW3 := Lib.hid (bstep HW1.out hW3); clear hW3; obtain ⟨p0, p1, p2, p3, p4, p5⟩ := At.six0 hxa; obtain ⟨y0, y1, y2, y3, y4⟩ := At.five0 (HF0.out.later (bstep Hr.out.1 HW3.out)); clear hxa))
            go_roundw
            case rel =>
              refine LV.out _ HW3.out (fun k st o key h => ?_)
              obtain ⟨r, r1, r2, r3, r4, r5⟩ := held_at HX.out HFG.out h
              rintro ⟨u1, _⟩
              have := HST.out
              omega
            case measure => simp [intOf]; omega
          · have hstd : decide (f.step ≤ x.step) = false := decide_eq_false hst
            have HST := Lib.hid hst
            clear hst
            go_wp2_with (first
              | (go_at_call 26; with_reducible refine (HFC.out).mono ?_; rintro e W1 ⟨rfl, hW1⟩; have HW1 := Lib.hid hW1; clear hW1)
              | (go_at_call 27; with_reducible refine (HFS2.out _ HW1.out).mono ?_; rintro e W3 ⟨rfl, hW3, hxa⟩; have HW3 := Lib.hid (bstep HW1.out hW3); clear hW3; have HXA := Lib.hid hxa; obtain ⟨p0, p1, p2, p3, p4, p5⟩ := At.six0 hxa; obtain ⟨y0, y1, y2, y3, y4⟩ := At.five0 (HF0.out.later (bstep Hr.out.1 HW3.out)); clear hxa))
            clear q0 q1 q2 p0 p1 p2 p3 p4 p5 y0 y1 y2 y3 y4
            have HRW := Lib.hid (bstep HWR.out HW3.out)
            generalize W1.heap.size = B1 at HXA ⊢
            go_loopw [13] (fun v13 w9 => M2 W3 m ks l sd f i v13 w9) (fun v13 _ => m - (intOf v13).toNat)
            case atStart => exact ⟨0, by omega, rfl, Lib.hid ⟨Below.refl _ _, fun _ _ _ _ h => absurd h (by omega)⟩⟩
            case round =>
              obtain ⟨k, hk, rfl, Hr2⟩ := hrel
              obtain ⟨q0, q1, q2⟩ := At.three (HAT.out.later (bstep HW3.out Hr2.out.1))
              obtain ⟨p0, p1, p2, p3, p4, p5⟩ := At.six0 (HXA.out.later Hr2.out.1)
              obtain ⟨y0, y1, y2, y3, y4⟩ := At.five0 (HF0.out.later (bstep (bstep Hr.out.1 HW3.out) Hr2.out.1))
              by_cases hlt2 : k < m
              · by_cases hkc : (k : Int) < x.count
                · obtain ⟨a5, y, rfl, hy, _, haty⟩ := (HRC.out.later (bstep HW3.out Hr2.out.1)).get hlt2
                  have HY := Lib.hid hy
                  have HATY := Lib.hid haty
                  have HHE := Lib.hid (held_mk HX.out HFST.out HFG.out hy hkc)
                  obtain ⟨d0, d1, d2, d3⟩ := At.four haty
                  have HHC := Lib.hid (HHA.out wr (x.base + (k : Int)) (bstep HRW.out Hr2.out.1))
                  have HLC : Hid (∀ W, Below wr.heap.size wr W → _) := Lib.hid (fun W h => HLA.out W y.key (x.base + (k : Int)) (bstep (bstep HRW.out Hr2.out.1) h))
                  clear hy haty
                  have skip : ∀ (V : World), Below wr.heap.size wr V → ¬ LacksBy ks l sd f (lastOff f.recs) x.step (x.base + (k : Int)) y.key → M2 W3 m ks l sd f i (.int .i64 ((k : Int) + 1)) V := fun V hV hno => by
                    refine ⟨k + 1, by omega, by go_num, Lib.hid ⟨bstep Hr2.out.1 hV, fun q st o key hq h => ?_⟩⟩
                    rcases Nat.lt_succ_iff_lt_or_eq.1 hq with h9 | rfl
                    · exact Hr2.out.2 q st o key h9 h
                    · obtain ⟨r, r1, r2, rfl, rfl, rfl⟩ := held_at HX.out HFG.out h
                      obtain rfl := Option.some.inj (r1.symm.trans HY.out)
                      exact hno
                  have SK := Lib.hid skip
                  clear skip
                  by_cases hA : f.from_ ≤ x.base + (k : Int)
                  · have hAd : decide (f.from_ ≤ x.base + (k : Int)) = true := decide_eq_true hA
                    have HAA := Lib.hid hA
                    clear hA
                    by_cases hBB : x.base + (k : Int) ≤ z.off
                    · have hBd : decide (x.base + (k : Int) ≤ z.off) = true := decide_eq_true hBB
                      have HBB := Lib.hid hBB
                      clear hBB
                      cases hh : hasOff f.recs (x.base + (k : Int)) with
                      | true =>
                        have HH := Lib.hid hh
                        rw [hh] at HHC
                        clear hh
                        go_wp2_with (go_at_call 28; with_reducible refine (HHC.out).mono ?_; rintro e W5 ⟨rfl, hW5⟩; have HW5 := Lib.hid hW5; clear hW5 q0 q1 q2 d0 d1 d2 d3; obtain ⟨q0, q1, q2⟩ := At.three (HAT.out.later (bstep (bstep HW3.out Hr2.out.1) HW5.out)); obtain ⟨d0, d1, d2, d3⟩ := At.four (HATY.out.later HW5.out))
                        go_roundw
                        case rel => exact SK.out _ HW5.out (fun h => by have := h.2.2.2.1; rw [HH.out] at this; exact nomatch this)
                        case measure => simp [intOf]; omega
                      | false =>
                        have HH := Lib.hid hh
                        rw [hh] at HHC
                        clear hh
                        cases hl : laterB ks l sd y.key (x.base + (k : Int)) with
                        | true =>
                          have HL := Lib.hid hl
                          rw [hl] at HLC
                          clear hl
                          go_wp2_with (first
                            | (go_at_call 28; with_reducible refine (HHC.out).mono ?_; rintro e W5 ⟨rfl, hW5⟩; have HW5 := Lib.hid hW5; clear hW5 q0 q1 q2 d0 d1 d2 d3; obtain ⟨q0, q1, q2⟩ := At.three (HAT.out.later (bstep (bstep HW3.out Hr2.out.1) HW5.out)); obtain ⟨d0, d1, d2, d3⟩ := At.four (HATY.out.later HW5.out))
                            | (go_at_call 29; with_reducible refine (HLC.out _ HW5.out).mono ?_; rintro e W6 ⟨rfl, hW6⟩; have HW6 := Lib.hid hW6; clear hW6))
                          go_roundw
                          case rel => exact SK.out _ (bstep HW5.out HW6.out) (fun h => by have := HL.out; rw [laterB_false h.2.2.2.2] at this; exact nomatch this)
                          case measure => simp [intOf]; omega
                        | false =>
                          have HL := Lib.hid hl
                          rw [hl] at HLC
                          clear hl
                          go_wp2_with (first
                            | (go_at_call 28; with_reducible refine (HHC.out).mono ?_; rintro e W5 ⟨rfl, hW5⟩; have HW5 := Lib.hid hW5; clear hW5 q0 q1 q2 d0 d1 d2 d3; obtain ⟨q0, q1, q2⟩ := At.three (HAT.out.later (bstep (bstep HW3.out Hr2.out.1) HW5.out)); obtain ⟨d0, d1, d2, d3⟩ := At.four (HATY.out.later HW5.out))
                            | (go_at_call 29; with_reducible refine (HLC.out _ HW5.out).mono ?_; rintro e W6 ⟨rfl, hW6⟩; have HW6 := Lib.hid hW6; clear hW6))
                          go_ret
                          refine ⟨?_, bstep (bstep HRW.out Hr2.out.1) (bstep HW5.out HW6.out)⟩
                          rw [lacksB_true ⟨_, _, _, ⟨i, k, HHE.out⟩, HST.out, HAA.out, by rw [HE.out]; exact HBB.out, HH.out, fun h => by have := HL.out; rw [laterB_true h] at this; exact nomatch this⟩]
                          rfl
                    · have hBd : decide (x.base + (k : Int) ≤ z.off) = false := decide_eq_false hBB
                      have HBB := Lib.hid hBB
                      clear hBB
                      go_wp2_with (fail)
                      go_roundw
                      case rel => exact SK.out _ (Below.refl _ _) (fun h => by have h3 := h.2.2.1; rw [HE.out] at h3; exact HBB.out h3)
                      case measure => simp [intOf]; omega
                  · have hAd : decide (f.from_ ≤ x.base + (k : Int)) = false := decide_eq_false hA
                    have HAA := Lib.hid hA
                    clear hA
                    go_wp2_with (fail)
                    go_roundw
                    case rel => exact SK.out _ (Below.refl _ _) (fun h => HAA.out h.2.1)
                    case measure => simp [intOf]; omega
                · have hkd : decide ((k : Int) < x.count) = false := decide_eq_false hkc
                  have HKC := Lib.hid hkc
                  clear hkc
                  go_wp2_with (fail)
                  go_roundw
                  case rel =>
                    refine LV.out _ (bstep HW3.out Hr2.out.1) (fun q st o key h => ?_)
                    by_cases hq : q < k
                    · exact Hr2.out.2 q st o key hq h
                    · obtain ⟨r, r1, r2, _⟩ := held_at HX.out HFG.out h
                      have := HKC.out
                      omega
                  case measure => simp [intOf]; omega
              · obtain rfl : k = m := by omega
                go_wp2_with (fail)
                go_roundw
                case rel =>
                  refine LV.out _ (bstep HW3.out Hr2.out.1) (fun q st o key h => ?_)
                  refine Hr2.out.2 q st o key ?_ h
                  obtain ⟨r, r1, _⟩ := held_at HX.out HFG.out h
                  have := (List.getElem?_eq_some_iff.1 r1).1
                  rw [hlenf.out] at this; exact this
                case measure => simp [intOf]; omega
    · obtain rfl : i = n3 := by omega
      go_wp2_with (fail)
      go_ret
      refine ⟨?_, HWR.out⟩
      rw [lacksB_false (by
        rintro ⟨st, o, key, ⟨j, k, h⟩, h9⟩
        refine Hr.out.2 j k st o key ?_ h h9
        obtain ⟨s, _, _, h1, _⟩ := h
        have := (List.getElem?_eq_some_iff.1 h1).1
        rw [hlen3.out] at this; exact this)]
      rfl
def N1 (w0 : World) (n : Nat) (ks : List Ack) (l : List Fet) (sd : List Sd) (v8 : Value) (wr : World) : Prop := ∃ (i : Nat), i ≤ n ∧ v8 = .int .i64 (i : Int) ∧ Hid (Below w0.heap.size w0 wr ∧ ∀ j, j < i → keepAt ks l sd j = false)
set_option maxRecDepth 100000 in
set_option maxHeartbeats 3200000 in
theorem RKeeps_any (A1 A2 A3 : Option Addr) (n1 c1 n2 c2 n3 c3 base : Nat) (ks : List Ack) (l : List Fet) (sd : List Sd) (w : World)
    (h1 : AcksAt w base A1 n1 ks) (hn1 : n1 ≤ maxLen) (h2 : FetsAt w base A2 n2 l) (h3 : SdsAt w base A3 n3 sd) (hbase : base ≤ w.heap.size) :
    Calls Try.prog 17 #[.slice A1 n1 c1, .slice A2 n2 c2, .slice A3 n3 c3] w fun e w' => e = .returned (.tuple #[.int .i64 (keepAns ks l sd).1, .int .i64 (keepAns ks l sd).2]) ∧ Below w.heap.size w w' := by
  have hn2 := h2.2.1
  have hn3 := h3.2.1
  unfold maxLen at hn1 hn2 hn3
  have HA := Lib.hid h2
  have hlen2 : Hid (l.length = n2) := Lib.hid h2.1
  have HLK : Hid (∀ (W : World) (f : Fet) A4 (m4 c4 : Nat), Below w.heap.size w W → RecsAt W base A4 m4 f.recs → 0 < m4 → Calls Try.prog 25 #[.slice A1 n1 c1, .slice A2 n2 c2, .slice A3 n3 c3, .agg #[.int .i64 f.step, .int .i64 f.at_, .int .i64 f.from_, .int .i64 f.err, .slice A4 m4 c4]] W fun e w' => e = .returned (.bool (lacksB ks l sd f)) ∧ Below W.heap.size W w') :=
    Lib.hid fun W f A4 m4 c4 h hr hm => lacks_any A1 A2 A3 A4 n1 c1 n2 c2 n3 c3 m4 c4 base ks l sd f W (h1.later h) (by unfold maxLen; omega) (h2.later h) (h3.later h) hr hm (Nat.le_trans hbase h.size)
  clear h1 h2 h3 hbase
  go_enter Try.func17, Try.ntmps17
  go_wp2_with (fail)
  go_loopw [8] (fun v8 w9 => N1 w n2 ks l sd v8 w9) (fun v8 _ => n2 - (intOf v8).toNat)
  case atStart => exact ⟨0, by omega, rfl, Lib.hid ⟨Below.refl _ _, fun _ h => absurd h (by omega)⟩⟩
  case round =>
    obtain ⟨i, hi, rfl, Hr⟩ := hrel
    by_cases hlt : i < n2
    · obtain ⟨a, f, A', m, c, rfl, hx, hwf, hat, hrc⟩ := (HA.out.later Hr.out.1).get hlt
      have HX := Lib.hid hx
      have hm := hrc.2.1
      unfold maxLen at hm
      have hlenf : Hid (f.recs.length = m) := Lib.hid hrc.1
      have HLC := Lib.hid (HLK.out wr f A' m c Hr.out.1 hrc)
      obtain ⟨c0, c1, c2, c3, c4⟩ := At.five hat
      clear hx hwf hat hrc
      have skip : ∀ V : World, Below wr.heap.size wr V → keepBad ks l sd f = false → N1 w n2 ks l sd (.int .i64 ((i : Int) + 1)) V := fun V hV h0 => by
        refine ⟨i + 1, by omega, by go_num, Lib.hid ⟨bstep Hr.out.1 hV, fun j hj => ?_⟩⟩
        rcases Nat.lt_succ_iff_lt_or_eq.1 hj with h | rfl
        · exact Hr.out.2 j h
        · rw [keepAt_of HX.out, h0]
      have SK := Lib.hid skip
      clear skip
      by_cases he : f.err = 0
      · have hd : (f.err == 0) = true := by simpa using he
        have HE := Lib.hid he
        clear he
        by_cases hm0 : 0 < m
        · have HLD := Lib.hid (HLC.out hm0)
          have HM0 := Lib.hid hm0
          cases hl : lacksB ks l sd f with
          | true =>
            have HL := Lib.hid hl
            rw [hl] at HLD
            clear hl
            go_wp2_with (go_at_call 25; with_reducible refine (HLD.out).mono ?_; rintro e W1 ⟨rfl, hW1⟩; have HW1 := Lib.hid hW1; clear hW1)
            go_ret2
            rw [keepAns_bad HX.out (by unfold keepBad; rw [HL.out, hlenf.out, decide_eq_true HE.out, decide_eq_true HM0.out]; rfl) Hr.out.2]
            exact ⟨rfl, bstep Hr.out.1 HW1.out⟩
          | false =>
            have HL := Lib.hid hl
            rw [hl] at HLD
            clear hl
            go_wp2_with (go_at_call 25; with_reducible refine (HLD.out).mono ?_; rintro e W1 ⟨rfl, hW1⟩; have HW1 := Lib.hid hW1; clear hW1)
            go_roundw
            case rel => exact SK.out _ HW1.out (by unfold keepBad; rw [HL.out]; simp)
            case measure => simp [intOf]; omega
        · obtain rfl : m = 0 := by omega
          go_wp2_with (fail)
          go_roundw
          case rel => exact SK.out _ (Below.refl _ _) (by unfold keepBad; rw [hlenf.out]; simp)
          case measure => simp [intOf]; omega
      · have hd : (f.err == 0) = false := by simpa using he
        have HE := Lib.hid he
        clear he
        go_wp2_with (fail)
        go_roundw
        case rel => exact SK.out _ (Below.refl _ _) (by unfold keepBad; rw [decide_eq_false HE.out]; rfl)
        case measure => simp [intOf]; omega
    · obtain rfl : i = n2 := by omega
      go_wp2_with (fail)
      go_ret2
      rw [keepAns_ok (fun j hj => Hr.out.2 j (by rw [hlen2.out] at hj; exact hj))]
      exact ⟨rfl, Hr.out.1⟩
end Go.Proofs.Ytkgidfehndkhmaa
