/- The walk of postroadtold.later. -/
import Derived.Test.YtkgidfehndkhmaaAudKFirst
import Derived.Test.YtkgidfehndkhmaaAudFirst
namespace Go.Proofs.Ytkgidfehndkhmaa
open Go.RowKit Go.PostAud Go.PostMem
def L1 (w0 : World) (n : Nat) (l : List Fet) (key : ByteArray) (o : Int) (v11 : Value) (wr : World) : Prop := ∃ (i : Nat), i ≤ n ∧ v11 = .int .i64 (i : Int) ∧ Hid (Below w0.heap.size w0 wr ∧ ∀ j f, j < i → l[j]? = some f → f.err = 0 → ∀ (m : Nat) r, f.recs[m]? = some r → ¬ (r.key = key ∧ o < r.off))
def L2 (w0 : World) (m : Nat) (f : Fet) (key : ByteArray) (o : Int) (v12 : Value) (wr : World) : Prop := ∃ (k : Nat), k ≤ m ∧ v12 = .int .i64 (k : Int) ∧ Hid (Below w0.heap.size w0 wr ∧ ∀ (q : Nat) r, q < k → f.recs[q]? = some r → ¬ (r.key = key ∧ o < r.off))
def L3 (w0 : World) (n : Nat) (ks : List Ack) (sd : List Sd) (key : ByteArray) (o : Int) (v13 : Value) (wr : World) : Prop := ∃ (i : Nat), i ≤ n ∧ v13 = .int .i64 (i : Int) ∧ Hid (Below w0.heap.size w0 wr ∧ ∀ j k st o', j < i → HeldAt ks sd j k st o' key → o' ≤ o)
def L4 (w0 : World) (m : Nat) (ks : List Ack) (sd : List Sd) (i : Nat) (key : ByteArray) (o : Int) (v16 : Value) (wr : World) : Prop := ∃ (k : Nat), k ≤ m ∧ v16 = .int .i64 (k : Int) ∧ Hid (Below w0.heap.size w0 wr ∧ ∀ q st o', q < k → HeldAt ks sd i q st o' key → o' ≤ o)
def L0 (w0 : World) (v16 : Value) (wr : World) : Prop := v16 = .int .i64 0 ∧ Hid (Below w0.heap.size w0 wr)
set_option maxRecDepth 100000 in
set_option maxHeartbeats 3200000 in
theorem later_any (A1 A2 A3 : Option Addr) (n1 c1 n2 c2 n3 c3 base : Nat) (ks : List Ack) (l : List Fet) (sd : List Sd) (key : ByteArray) (o : Int) (w : World)
    (h1 : AcksAt w base A1 n1 ks) (hn1 : n1 ≤ maxLen) (h2 : FetsAt w base A2 n2 l) (h3 : SdsAt w base A3 n3 sd) (hbase : base ≤ w.heap.size) :
    Calls Try.prog 29 #[.slice A1 n1 c1, .slice A2 n2 c2, .slice A3 n3 c3, .string key, .int .i64 o] w fun e w' => e = .returned (.bool (laterB ks l sd key o)) ∧ Below w.heap.size w w' := by
  have hn2 := h2.2.1
  have hn3 := h3.2.1
  unfold maxLen at hn1 hn2 hn3
  have HA := Lib.hid h2
  have HD := Lib.hid h3
  have HS := Lib.hid hbase
  have hlen2 : Hid (l.length = n2) := Lib.hid h2.1
  have hlen3 : Hid (sd.length = n3) := Lib.hid h3.1
  have HFI : Hid (∀ (W : World) (d : Pid), Below w.heap.size w W → Calls Try.prog 26 #[.slice A1 n1 c1, .agg #[.int .i64 d.prod, .int .i64 d.seq]] W fun e w' => e = .returned (ansFirst (firstGood ks d)) ∧ Below W.heap.size W w') :=
    Lib.hid fun W d h => first_any A1 n1 c1 base ks d W (h1.later h) (Nat.le_trans hbase h.size) (by unfold maxLen; omega)
  clear h1 h2 h3 hbase
  go_enter Try.func29, Try.ntmps29
  go_wp2_with (fail)
  go_loopw [11] (fun v11 w9 => L1 w n2 l key o v11 w9) (fun v11 _ => n2 - (intOf v11).toNat)
  case atStart => exact ⟨0, by omega, rfl, Lib.hid ⟨Below.refl _ _, fun _ _ h => absurd h (by omega)⟩⟩
  case round =>
    obtain ⟨i, hi, rfl, Hr⟩ := hrel
    by_cases hlt : i < n2
    · obtain ⟨a, f, A', m, c, rfl, hx, hwf, hat, hrc⟩ := (HA.out.later Hr.out.1).get hlt
      have HX := Lib.hid hx
      have HAT := Lib.hid hat
      have HRC := Lib.hid hrc
      have hm := hrc.2.1
      unfold maxLen at hm
      have hlenf : Hid (f.recs.length = m) := Lib.hid hrc.1
      clear hx hwf hat hrc
      obtain ⟨wo, rfl⟩ : ∃ wo : World, wo = wr := ⟨_, rfl⟩
      go_wp2_with (fail)
      go_loopw [12] (fun v12 w9 => L2 wo m f key o v12 w9) (fun v12 _ => m - (intOf v12).toNat)
      case atStart => exact ⟨0, by omega, rfl, Lib.hid ⟨Below.refl _ _, fun _ _ h => absurd h (by omega)⟩⟩
      case round =>
        obtain ⟨k, hk, rfl, Hr2⟩ := hrel
        obtain ⟨e0, e1, e2, e3, e4⟩ := At.five (HAT.out.later Hr2.out.1)
        have leave : ∀ (V : World), Below wo.heap.size wo V → (f.err = 0 → ∀ (q : Nat) r, f.recs[q]? = some r → ¬ (r.key = key ∧ o < r.off)) → L1 w n2 l key o (.int .i64 ((i : Int) + 1)) V := fun V hV h => by
          refine ⟨i + 1, by omega, by go_num, Lib.hid ⟨bstep Hr.out.1 hV, fun j g hj hg he => ?_⟩⟩
          rcases Nat.lt_succ_iff_lt_or_eq.1 hj with h9 | rfl
          · exact Hr.out.2 j g h9 hg he
          · obtain rfl := Option.some.inj (hg.symm.trans HX.out)
            exact h he
        have LV := Lib.hid leave
        clear leave
        by_cases hlt2 : k < m
        · by_cases herr : f.err = 0
          · have hd : (f.err == 0) = true := by simpa using herr
            have HERR := Lib.hid herr
            clear herr
            obtain ⟨a4, y, rfl, hy, _, haty⟩ := (HRC.out.later Hr2.out.1).get hlt2
            have HY := Lib.hid hy
            obtain ⟨d0, d1, d2, d3⟩ := At.four haty
            clear hy haty
            rcases key_cases y.key key with ⟨q1, q2⟩ | ⟨q1, q2⟩
            · have HQ := Lib.hid q2
              clear q2
              by_cases ho : o < y.off
              · have HO := Lib.hid ho
                go_wp2_with (fail)
                go_ret
                refine ⟨?_, bstep Hr.out.1 Hr2.out.1⟩
                rw [laterB_true (.inl ⟨i, f, k, y, HX.out, HERR.out, HY.out, HQ.out, HO.out⟩)]
                rfl
              · have HO := Lib.hid ho
                have ho2 : decide (o < y.off) = false := decide_eq_false ho
                clear ho
                go_wp2_with (fail)
                go_roundw
                case rel =>
                  refine ⟨k + 1, by omega, by go_num, Lib.hid ⟨Hr2.out.1, fun q r hq hr => ?_⟩⟩
                  rcases Nat.lt_succ_iff_lt_or_eq.1 hq with h9 | rfl
                  · exact Hr2.out.2 q r h9 hr
                  · obtain rfl := Option.some.inj (hr.symm.trans HY.out)
                    exact fun h => HO.out h.2
                case measure => simp [intOf]; omega
            · have HQ := Lib.hid q2
              clear q2
              go_wp2_with (fail)
              go_roundw
              case rel =>
                refine ⟨k + 1, by omega, by go_num, Lib.hid ⟨Hr2.out.1, fun q r hq hr => ?_⟩⟩
                rcases Nat.lt_succ_iff_lt_or_eq.1 hq with h9 | rfl
                · exact Hr2.out.2 q r h9 hr
                · obtain rfl := Option.some.inj (hr.symm.trans HY.out)
                  exact fun h => HQ.out h.1
              case measure => simp [intOf]; omega
          · have hd : (f.err == 0) = false := by simpa using herr
            have HERR := Lib.hid herr
            clear herr
            go_wp2_with (fail)
            go_roundw
            case rel => exact LV.out _ Hr2.out.1 (fun h => absurd h HERR.out)
            case measure => simp [intOf]; omega
        · obtain rfl : k = m := by omega
          go_wp2_with (fail)
          go_roundw
          case rel => exact LV.out _ Hr2.out.1 (fun _ q r hr => Hr2.out.2 q r (by have := (List.getElem?_eq_some_iff.1 hr).1; rw [hlenf.out] at this; exact this) hr)
          case measure => simp [intOf]; omega
    · obtain rfl : i = n2 := by omega
      have HNF : Hid (¬ FetLater l key o) := Lib.hid (by
        rintro ⟨j, f, m, r, q1, q2, q3, q4, q5⟩
        exact Hr.out.2 j f (by have := (List.getElem?_eq_some_iff.1 q1).1; rw [hlen2.out] at this; exact this) q1 q2 m r q3 ⟨q4, q5⟩)
      have HB := Lib.hid Hr.out.1
      clear Hr
      go_wp2_with (fail)
      go_loopw [13] (fun v13 w9 => L3 w n3 ks sd key o v13 w9) (fun v13 _ => n3 - (intOf v13).toNat)
      case atStart => exact ⟨0, by omega, rfl, Lib.hid ⟨HB.out, fun _ _ _ _ h => absurd h (by omega)⟩⟩
      case round =>
        clear HB
        obtain ⟨i, hi, rfl, Hr⟩ := hrel
        by_cases hlt : i < n3
        · obtain ⟨a, s, A', m, c, rfl, hx, hwf, hat, hrc⟩ := (HD.out.later Hr.out.1).get hlt
          have HX := Lib.hid hx
          have HAT := Lib.hid hat
          have HRC := Lib.hid hrc
          have hm := hrc.2.1
          unfold maxLen at hm
          have hlenf : Hid (s.recs.length = m) := Lib.hid hrc.1
          have HFS : Hid (∀ (W : World), Below w.heap.size w W → Calls Try.prog 27 #[.slice (some a) n3 c3, .int .i64 (i : Int)] W fun e w' => e = .returned (.bool (firstSd sd i s.id)) ∧ Below W.heap.size W w') :=
            Lib.hid fun W h => firstSaid_any (some a) n3 c3 base i sd s W (HD.out.later h) hlt hx
          obtain ⟨q0, q1, q2⟩ := At.three hat
          have HFC := Lib.hid (HFI.out wr s.id Hr.out.1)
          clear hx hwf hat hrc
          obtain ⟨wo, rfl⟩ : ∃ wo : World, wo = wr := ⟨_, rfl⟩
          have leave : ∀ (V : World), Below w.heap.size w V → (∀ k st o', HeldAt ks sd i k st o' key → o' ≤ o) → L3 w n3 ks sd key o (.int .i64 ((i : Int) + 1)) V := fun V hV h => by
            refine ⟨i + 1, by omega, by go_num, Lib.hid ⟨hV, fun j k st o' hj hg => ?_⟩⟩
            rcases Nat.lt_succ_iff_lt_or_eq.1 hj with h9 | rfl
            · exact Hr.out.2 j k st o' h9 hg
            · exact h k st o' hg
          have LV := Lib.hid leave
          clear leave
          cases hfg : firstGood ks s.id with
          | none =>
            have HFG := Lib.hid hfg
            rw [hfg] at HFC
            unfold ansFirst zeroA Ack.v at HFC
            clear hfg
            go_wp2_with (go_at_call 26; with_reducible refine (HFC.out).mono ?_; rintro e W1 ⟨rfl, hW1⟩; have HW1 := Lib.hid hW1; clear hW1)
            have HW2 := Lib.hid (bstep (bstep Hr.out.1 HW1.out) ((Below.refl W1.heap.size W1).alloc (Nat.le_refl _) (.cells #[.int .i64 0, .int .i64 0, .int .i64 0, .int .i64 0, .int .i64 0, .int .i64 0] 38)))
            have HWO := Lib.hid (bstep HW1.out ((Below.refl W1.heap.size W1).alloc (Nat.le_refl _) (.cells #[.int .i64 0, .int .i64 0, .int .i64 0, .int .i64 0, .int .i64 0, .int .i64 0] 38)))
            generalize W1.alloc (.cells #[.int .i64 0, .int .i64 0, .int .i64 0, .int .i64 0, .int .i64 0, .int .i64 0] 38) = W2 at HW2 HWO ⊢
            clear q0 q1 q2
            go_loopw [16] (fun v16 w9 => L0 W2 v16 w9) (fun _ _ => 0)
            case atStart => exact ⟨rfl, Lib.hid (Below.refl _ _)⟩
            case round =>
              obtain ⟨rfl, Hr2⟩ := hrel
              obtain ⟨q0, q1, q2⟩ := At.three (HAT.out.later (bstep HWO.out Hr2.out))
              by_cases hm0 : 0 < m
              · go_wp2_with (fail)
                go_roundw
                case rel => exact LV.out _ (bstep HW2.out Hr2.out) (fun k st o' h => absurd h (held_none HX.out HFG.out))
                case measure => simp [intOf]; omega
              · obtain rfl : m = 0 := by omega
                go_wp2_with (fail)
                go_roundw
                case rel => exact LV.out _ (bstep HW2.out Hr2.out) (fun k st o' h => absurd h (held_none HX.out HFG.out))
                case measure => simp [intOf]; omega
          | some x =>
            have HFG := Lib.hid hfg
            rw [hfg] at HFC
            unfold ansFirst Ack.v at HFC
            obtain ⟨g1, g2, g3, g4⟩ := good_nums (firstGood_good hfg).1
            clear hfg
            go_wp2_with (go_at_call 26; with_reducible refine (HFC.out).mono ?_; rintro e W1 ⟨rfl, hW1⟩; have HW1 := Lib.hid hW1; clear hW1)
            have HXA := Lib.hid (at_alloc W1 x.cells 38)
            cases hfs : firstSd sd i s.id with
            | false =>
              have HFST := Lib.hid hfs
              rw [hfs] at HFS
              clear hfs HXA
              have HW2 := Lib.hid (bstep (bstep Hr.out.1 HW1.out) ((Below.refl W1.heap.size W1).alloc (Nat.le_refl _) (.cells #[.int .i64 x.step, .int .i64 x.id.prod, .int .i64 x.id.seq, .int .i64 x.err, .int .i64 x.base, .int .i64 x.count] 38)))
              have HWO := Lib.hid (bstep HW1.out ((Below.refl W1.heap.size W1).alloc (Nat.le_refl _) (.cells #[.int .i64 x.step, .int .i64 x.id.prod, .int .i64 x.id.seq, .int .i64 x.err, .int .i64 x.base, .int .i64 x.count] 38)))
              generalize W1.alloc (.cells #[.int .i64 x.step, .int .i64 x.id.prod, .int .i64 x.id.seq, .int .i64 x.err, .int .i64 x.base, .int .i64 x.count] 38) = W2 at HW2 HWO ⊢
              clear q0 q1 q2
              go_loopw [16] (fun v16 w9 => L0 W2 v16 w9) (fun _ _ => 0)
              case atStart => exact ⟨rfl, Lib.hid (Below.refl _ _)⟩
              case round =>
                obtain ⟨rfl, Hr2⟩ := hrel
                obtain ⟨q0, q1, q2⟩ := At.three (HAT.out.later (bstep HWO.out Hr2.out))
                by_cases hm0 : 0 < m
                · have HFC2 := Lib.hid (HFS.out wr (bstep HW2.out Hr2.out))
                  go_wp2_with (go_at_call 27; with_reducible refine (HFC2.out).mono ?_; rintro e W3 ⟨rfl, hW3⟩; have HW3 := Lib.hid hW3; clear hW3)
                  go_roundw
                  case rel => exact LV.out _ (bstep (bstep HW2.out Hr2.out) HW3.out) (fun k st o' h => absurd h (held_second HX.out HFST.out))
                  case measure => simp [intOf]; omega
                · obtain rfl : m = 0 := by omega
                  go_wp2_with (fail)
                  go_roundw
                  case rel => exact LV.out _ (bstep HW2.out Hr2.out) (fun k st o' h => absurd h (held_second HX.out HFST.out))
                  case measure => simp [intOf]; omega
            | true =>
              have HFST := Lib.hid hfs
              rw [hfs] at HFS
              clear hfs
              have HW2 := Lib.hid (bstep (bstep Hr.out.1 HW1.out) ((Below.refl W1.heap.size W1).alloc (Nat.le_refl _) (.cells #[.int .i64 x.step, .int .i64 x.id.prod, .int .i64 x.id.seq, .int .i64 x.err, .int .i64 x.base, .int .i64 x.count] 38)))
              have HWO := Lib.hid (bstep HW1.out ((Below.refl W1.heap.size W1).alloc (Nat.le_refl _) (.cells #[.int .i64 x.step, .int .i64 x.id.prod, .int .i64 x.id.seq, .int .i64 x.err, .int .i64 x.base, .int .i64 x.count] 38)))
              have HXA2 : Hid (At (W1.alloc (.cells #[.int .i64 x.step, .int .i64 x.id.prod, .int .i64 x.id.seq, .int .i64 x.err, .int .i64 x.base, .int .i64 x.count] 38)) ⟨W1.heap.size, 0, none⟩ x.cells) := HXA
              clear HXA
              generalize W1.alloc (.cells #[.int .i64 x.step, .int .i64 x.id.prod, .int .i64 x.id.seq, .int .i64 x.err, .int .i64 x.base, .int .i64 x.count] 38) = W2 at HW2 HWO HXA2 ⊢
              generalize W1.heap.size = B at HXA2 ⊢
              clear q0 q1 q2
              go_loopw [16] (fun v16 w9 => L4 W2 m ks sd i key o v16 w9) (fun v16 _ => m - (intOf v16).toNat)
              case atStart => exact ⟨0, by omega, rfl, Lib.hid ⟨Below.refl _ _, fun _ _ _ h => absurd h (by omega)⟩⟩
              case round =>
                obtain ⟨k, hk, rfl, Hr2⟩ := hrel
                have HB3 := Lib.hid (bstep HWO.out Hr2.out.1)
                obtain ⟨q0, q1, q2⟩ := At.three (HAT.out.later HB3.out)
                by_cases hlt2 : k < m
                · have HFC2 := Lib.hid (HFS.out wr (bstep HW2.out Hr2.out.1))
                  by_cases hkc : (k : Int) < x.count
                  · obtain ⟨a4, y, rfl, hy, _, haty⟩ := (HRC.out.later HB3.out).get hlt2
                    have HY := Lib.hid hy
                    have HATY := Lib.hid haty
                    have HHE := Lib.hid (held_mk HX.out HFST.out HFG.out hy hkc)
                    clear hy haty
                    rcases key_cases y.key key with ⟨t1, t2⟩ | ⟨t1, t2⟩
                    · have HQ := Lib.hid t2
                      clear t2
                      by_cases ho : o < x.base + (k : Int)
                      · have HO := Lib.hid ho
                        have ho2 : decide (o < x.base + (k : Int)) = true := decide_eq_true ho
                        clear ho
                        go_wp2_with (go_at_call 27; with_reducible refine (HFC2.out).mono ?_; rintro e W3 ⟨rfl, hW3⟩; have HW3 := Lib.hid hW3; clear hW3 q0 q1 q2; obtain ⟨q0, q1, q2⟩ := At.three (HAT.out.later (bstep HB3.out HW3.out)); obtain ⟨p0, p1, p2, p3, p4, p5⟩ := At.six0 (HXA2.out.later (bstep Hr2.out.1 HW3.out)); obtain ⟨d0, d1, d2, d3⟩ := At.four (HATY.out.later HW3.out))
                        go_ret
                        refine ⟨?_, bstep (bstep HW2.out Hr2.out.1) HW3.out⟩
                        rw [laterB_true (.inr ⟨_, _, ⟨i, k, by have := HHE.out; rwa [HQ.out] at this⟩, HO.out⟩)]
                        rfl
                      · have HO := Lib.hid ho
                        have ho2 : decide (o < x.base + (k : Int)) = false := decide_eq_false ho
                        clear ho
                        go_wp2_with (go_at_call 27; with_reducible refine (HFC2.out).mono ?_; rintro e W3 ⟨rfl, hW3⟩; have HW3 := Lib.hid hW3; clear hW3 q0 q1 q2; obtain ⟨q0, q1, q2⟩ := At.three (HAT.out.later (bstep HB3.out HW3.out)); obtain ⟨p0, p1, p2, p3, p4, p5⟩ := At.six0 (HXA2.out.later (bstep Hr2.out.1 HW3.out)); obtain ⟨d0, d1, d2, d3⟩ := At.four (HATY.out.later HW3.out))
                        go_roundw
                        case rel =>
                          refine ⟨k + 1, by omega, by go_num, Lib.hid ⟨bstep Hr2.out.1 HW3.out, fun q st o' hq h => ?_⟩⟩
                          rcases Nat.lt_succ_iff_lt_or_eq.1 hq with h9 | rfl
                          · exact Hr2.out.2 q st o' h9 h
                          · obtain ⟨r, r1, r2, r3, r4, r5⟩ := held_at HX.out HFG.out h
                            have := HO.out
                            omega
                        case measure => simp [intOf]; omega
                    · have HQ := Lib.hid t2
                      clear t2
                      go_wp2_with (go_at_call 27; with_reducible refine (HFC2.out).mono ?_; rintro e W3 ⟨rfl, hW3⟩; have HW3 := Lib.hid hW3; clear hW3 q0 q1 q2; obtain ⟨q0, q1, q2⟩ := At.three (HAT.out.later (bstep HB3.out HW3.out)); obtain ⟨p0, p1, p2, p3, p4, p5⟩ := At.six0 (HXA2.out.later (bstep Hr2.out.1 HW3.out)); obtain ⟨d0, d1, d2, d3⟩ := At.four (HATY.out.later HW3.out))
                      go_roundw
                      case rel =>
                        refine ⟨k + 1, by omega, by go_num, Lib.hid ⟨bstep Hr2.out.1 HW3.out, fun q st o' hq h => ?_⟩⟩
                        rcases Nat.lt_succ_iff_lt_or_eq.1 hq with h9 | rfl
                        · exact Hr2.out.2 q st o' h9 h
                        · obtain ⟨r, r1, r2, r3, r4, r5⟩ := held_at HX.out HFG.out h
                          obtain rfl := Option.some.inj (r1.symm.trans HY.out)
                          exact absurd r5.symm HQ.out
                      case measure => simp [intOf]; omega
                  · have hkd : decide ((k : Int) < x.count) = false := decide_eq_false hkc
                    have HKC := Lib.hid hkc
                    clear hkc
                    go_wp2_with (go_at_call 27; with_reducible refine (HFC2.out).mono ?_; rintro e W3 ⟨rfl, hW3⟩; have HW3 := Lib.hid hW3; clear hW3 q0 q1 q2; obtain ⟨p0, p1, p2, p3, p4, p5⟩ := At.six0 (HXA2.out.later (bstep Hr2.out.1 HW3.out)))
                    go_roundw
                    case rel =>
                      refine LV.out _ (bstep (bstep HW2.out Hr2.out.1) HW3.out) (fun q st o' h => ?_)
                      by_cases hq : q < k
                      · exact Hr2.out.2 q st o' hq h
                      · obtain ⟨r, r1, r2, r3, r4, r5⟩ := held_at HX.out HFG.out h
                        have := HKC.out
                        omega
                    case measure => simp [intOf]; omega
                · obtain rfl : k = m := by omega
                  go_wp2_with (fail)
                  go_roundw
                  case rel =>
                    refine LV.out _ (bstep HW2.out Hr2.out.1) (fun q st o' h => ?_)
                    refine Hr2.out.2 q st o' ?_ h
                    obtain ⟨r, r1, _⟩ := held_at HX.out HFG.out h
                    have := (List.getElem?_eq_some_iff.1 r1).1
                    rw [hlenf.out] at this; exact this
                  case measure => simp [intOf]; omega
        · obtain rfl : i = n3 := by omega
          go_wp2_with (fail)
          go_ret
          refine ⟨?_, Hr.out.1⟩
          rw [laterB_false (by
            rintro (h | ⟨st, o', ⟨j, k, h⟩, h9⟩)
            · exact HNF.out h
            · refine absurd h9 (Int.not_lt.2 (Hr.out.2 j k st o' ?_ h))
              obtain ⟨s, _, _, h1, _⟩ := h
              have := (List.getElem?_eq_some_iff.1 h1).1
              rw [hlen3.out] at this; exact this)]
          rfl
end Go.Proofs.Ytkgidfehndkhmaa
