/- The walks of postroadtold.first, firstSaid, has. -/
import Derived.Test.YtkgidfehndkhmaaAudLeaf
import Derived.Test.YtkgidfehndkhmaaAudEq
import Derived.Test.YtkgidfehndkhmaaAudKSpec
import Derived.Test.YtkgidfehndkhmaaMem
import Derived.Test.YtkgidfehndkhmaaQuietArms
namespace Go.Proofs.Ytkgidfehndkhmaa
open Go.RowKit Go.PostAud Go.PostMem
theorem At.two_lat {w : World} {b : Nat} {v0 v1 : Value} (h : At w ⟨b, 0, none⟩ [v0, v1]) : (∀ z : Lat w, z.val.cell? ⟨b, 0, none⟩ = some v0) ∧ (∀ z : Lat w, z.val.cell? ⟨b, 1, none⟩ = some v1) := by
  refine ⟨fun z => ?_, fun z => ?_⟩
  · have := (h.lat z) 0 _ rfl; rwa [Addr.add_zero'] at this
  · have := (h.lat z) 1 _ rfl; rwa [Addr.add_lit] at this
theorem first_cases (x : Ack) (d : Pid) : (good x = false ∧ (good x && decide (x.id = d)) = false) ∨ (good x = true ∧ decide ((⟨x.id.prod, x.id.seq⟩ : Pid) = ⟨d.prod, d.seq⟩) = false ∧ (good x && decide (x.id = d)) = false) ∨
    (good x = true ∧ decide ((⟨x.id.prod, x.id.seq⟩ : Pid) = ⟨d.prod, d.seq⟩) = true ∧ (good x && decide (x.id = d)) = true) := by
  have e : decide ((⟨x.id.prod, x.id.seq⟩ : Pid) = ⟨d.prod, d.seq⟩) = decide (x.id = d) := rfl
  rw [e]
  cases good x <;> by_cases h : x.id = d <;> simp [h]
def KRel (w0 : World) (n : Nat) (l : List Ack) (d : Pid) (v6 : Value) (wr : World) : Prop := ∃ (i : Nat), i ≤ n ∧ v6 = .int .i64 (i : Int) ∧ Hid (Below w0.heap.size w0 wr ∧ ∀ j y, j < i → l[j]? = some y → (good y && decide (y.id = d)) = false)
set_option maxRecDepth 100000 in
set_option maxHeartbeats 1600000 in
theorem first_any (A : Option Addr) (n cap base : Nat) (l : List Ack) (d : Pid) (w : World) (hA : AcksAt w base A n l) (hbase : base ≤ w.heap.size) (hn : n ≤ maxLen) :
    Calls Try.prog 26 #[.slice A n cap, .agg #[.int .i64 d.prod, .int .i64 d.seq]] w fun e w' => e = .returned (ansFirst (firstGood l d)) ∧ Below w.heap.size w w' := by
  unfold maxLen at hn
  have hlen : Hid (l.length = n) := Lib.hid hA.1
  go_enter Try.func26, Try.ntmps26
  go_wp2_with (fail)
  have hb0 := ((Below.refl w.heap.size w).alloc (Nat.le_refl _) (.cells #[.int .i64 d.prod, .int .i64 d.seq] 36)).alloc (by simp) (.cells #[.int .i64 0, .int .i64 0, .int .i64 0, .int .i64 0, .int .i64 0, .int .i64 0] 38)
  have hr0 := (at_alloc w [.int .i64 d.prod, .int .i64 d.seq] 36).later ((Below.refl _ _).alloc (Nat.le_refl _) (.cells #[.int .i64 0, .int .i64 0, .int .i64 0, .int .i64 0, .int .i64 0, .int .i64 0] 38))
  have hz0 := heap_alloc_new (w.alloc (.cells #[.int .i64 d.prod, .int .i64 d.seq] 36)) (.cells #[.int .i64 0, .int .i64 0, .int .i64 0, .int .i64 0, .int .i64 0, .int .i64 0] 38)
  rw [show (w.alloc (.cells #[.int .i64 d.prod, .int .i64 d.seq] 36)).heap.size = w.heap.size + 1 by simp] at hz0
  have hA0 := hA.below (hb0.mono hbase)
  have H0 := Lib.hid (And.intro hb0 (And.intro hr0 (And.intro hz0 hA0)))
  clear hb0 hr0 hz0 hA0 hA
  generalize (w.alloc (.cells #[.int .i64 d.prod, .int .i64 d.seq] 36)).alloc (.cells #[.int .i64 0, .int .i64 0, .int .i64 0, .int .i64 0, .int .i64 0, .int .i64 0] 38) = W0 at H0 ⊢
  have HB0 := Lib.hid H0.out.1
  have HI0 := Lib.hid H0.out.2.1
  have HZ0 := Lib.hid H0.out.2.2.1
  have HA := Lib.hid H0.out.2.2.2
  clear H0
  have HBB : Hid (∀ V : World, V.heap[w.heap.size + 1]? = some (.cells #[.int .i64 0, .int .i64 0, .int .i64 0, .int .i64 0, .int .i64 0, .int .i64 0] 38 (0, 0)) → w.heap.size ≤ V.heap.size) := Lib.hid fun V h => by
    have := (Array.getElem?_eq_some_iff.1 h).1; omega
  have HG1 : Hid (w.heap.size ≤ w.heap.size + 1) := Lib.hid (Nat.le_succ _)
  obtain ⟨B2, hB2⟩ : ∃ B2, B2 = w.heap.size + 1 := ⟨_, rfl⟩
  rw [← hB2] at HZ0 HG1 ⊢
  clear hB2 HBB
  generalize w.heap.size = B at HI0 ⊢
  go_loopw [6] (fun v6 w9 => KRel W0 n l d v6 w9) (fun v6 _ => n - (intOf v6).toNat)
  case atStart => exact ⟨0, by omega, rfl, Lib.hid ⟨Below.refl _ _, fun _ _ h => absurd h (by omega)⟩⟩
  case round =>
    obtain ⟨i, hi, rfl, Hr⟩ := hrel
    by_cases hlt : i < n
    · obtain ⟨a, x, rfl, hx, hwf, hat⟩ := (HA.out.later Hr.out.1).get hlt
      have HX := Lib.hid hx
      have HAT := Lib.hid hat
      have CX := Lib.hid (At.six_lat hat)
      have CI := Lib.hid (At.two_lat (HI0.out.later Hr.out.1))
      have HGR : Hid (∀ w', Calls Try.prog 19 #[.agg #[.int .i64 x.step, .int .i64 x.id.prod, .int .i64 x.id.seq, .int .i64 x.err, .int .i64 x.base, .int .i64 x.count]] w' fun e w'' => e = .returned (.bool (good x)) ∧ Below w'.heap.size w' w'') := Lib.hid (Good_any x)
      clear hx hwf hat
      have hv := eqlId x.id.prod x.id.seq d.prod d.seq
      have hgd := fun (w : World) (p q : Operand) (xs ys : Array Value) => run_eqGuard_agg (P := Try.prog) w .eql 36 p q xs ys guardId
      have HC := Lib.hid (first_cases x d)
      go_wp2_with (fail)
      obtain ⟨c0, c1, c2, c3, c4, c5⟩ := CX.out
      obtain ⟨d0, d1⟩ := CI.out
      refine QuietTail.wp_all (fun w' => ∃ z : Lat wr, w' = z.val) (by kernel_rfl) (by kernel_rfl) (LatOf.refl wr).drew ?_
      rcases HC.out with ⟨hg, hc⟩ | ⟨hg, hs, hc⟩ | ⟨hg, hs, hc⟩
      all_goals
        have HCL := Lib.hid hc
        clear hc HC
        rw [hg] at HGR
        try simp only [hs] at hv
        iterate 14 (go_big_quiet_step (with_reducible exact call_at HGR.out _))
        refine wpQuiet_nil ?_
        rintro _ ⟨z, rfl⟩
        clear c0 c1 c2 c3 c4 c5 d0 d1
      · go_wp2_with (fail)
        go_roundw
        case rel =>
          refine ⟨i + 1, by omega, by go_num, Lib.hid ⟨bstep Hr.out.1 z.below, fun j y hj hy => ?_⟩⟩
          rcases Nat.lt_succ_iff_lt_or_eq.1 hj with h | rfl
          · exact Hr.out.2 j y h hy
          · obtain rfl := Option.some.inj (hy.symm.trans HX.out)
            exact HCL.out
        case measure => simp [intOf]; omega
      · go_wp2_with (fail)
        go_roundw
        case rel =>
          refine ⟨i + 1, by omega, by go_num, Lib.hid ⟨bstep Hr.out.1 z.below, fun j y hj hy => ?_⟩⟩
          rcases Nat.lt_succ_iff_lt_or_eq.1 hj with h | rfl
          · exact Hr.out.2 j y h hy
          · obtain rfl := Option.some.inj (hy.symm.trans HX.out)
            exact HCL.out
        case measure => simp [intOf]; omega
      · have HV := Lib.hid (bstep Hr.out.1 z.below)
        have HVZ := Lib.hid ((HV.out.block B2 (Array.getElem?_eq_some_iff.1 HZ0.out).1).trans HZ0.out)
        obtain ⟨c0, c1, c2, c3, c4, c5⟩ := At.six (HAT.out.later z.below)
        have HF : Hid (firstGood l d = some x) := Lib.hid (by
          refine find_at HX.out HCL.out (fun j y hj hy => Hr.out.2 j y hj hy))
        clear HCL hv hgd HGR CX CI HAT Hr
        generalize z.val = V at HV HVZ c0 c1 c2 c3 c4 c5 ⊢
        have s0 := cell_of_row V B2 0 _ _ (0, 0) HVZ.out
        have s1 := cell_of_row V B2 1 _ _ (0, 0) HVZ.out
        have s2 := cell_of_row V B2 2 _ _ (0, 0) HVZ.out
        have s3 := cell_of_row V B2 3 _ _ (0, 0) HVZ.out
        have s4 := cell_of_row V B2 4 _ _ (0, 0) HVZ.out
        have s5 := cell_of_row V B2 5 _ _ (0, 0) HVZ.out
        simp only [List.getElem?_toArray, List.getElem?_cons_zero, List.getElem?_cons_succ] at s0 s1 s2 s3 s4 s5
        have f0 := frozen_of_row V B2 0 _ _ HVZ.out
        have f1 := frozen_of_row V B2 1 _ _ HVZ.out
        have f2 := frozen_of_row V B2 2 _ _ HVZ.out
        have f3 := frozen_of_row V B2 3 _ _ HVZ.out
        have f4 := frozen_of_row V B2 4 _ _ HVZ.out
        have f5 := frozen_of_row V B2 5 _ _ HVZ.out
        go_wp2_with (fail)
        have HB9 := Lib.hid (HB0.out.trans (HV.out.mono HB0.out.size))
        refine bodyPost_ret (v := .tuple #[.agg #[.int .i64 x.step, .int .i64 x.id.prod, .int .i64 x.id.seq, .int .i64 x.err, .int .i64 x.base, .int .i64 x.count], .bool true]) (by simp [results, Try.results26, go_sem, s0, s1, s2, s3, s4, s5]) rfl ⟨by rw [HF.out]; rfl, ?_⟩
        exact (((((HB9.out.setCell HG1.out _).setCell HG1.out _).setCell HG1.out _).setCell HG1.out _).setCell HG1.out _).setCell HG1.out _
    · obtain rfl : i = n := by omega
      have HVZ := Lib.hid ((Hr.out.1.block B2 (Array.getElem?_eq_some_iff.1 HZ0.out).1).trans HZ0.out)
      have HF : Hid (firstGood l d = none) := Lib.hid (find_no (fun j y hy => Hr.out.2 j y (by have := (List.getElem?_eq_some_iff.1 hy).1; rw [hlen.out] at this; exact this) hy))
      have s0 := cell_of_row wr B2 0 _ _ (0, 0) HVZ.out
      have s1 := cell_of_row wr B2 1 _ _ (0, 0) HVZ.out
      have s2 := cell_of_row wr B2 2 _ _ (0, 0) HVZ.out
      have s3 := cell_of_row wr B2 3 _ _ (0, 0) HVZ.out
      have s4 := cell_of_row wr B2 4 _ _ (0, 0) HVZ.out
      have s5 := cell_of_row wr B2 5 _ _ (0, 0) HVZ.out
      simp only [List.getElem?_toArray, List.getElem?_cons_zero, List.getElem?_cons_succ] at s0 s1 s2 s3 s4 s5
      have f0 := frozen_of_row wr B2 0 _ _ HVZ.out
      have f1 := frozen_of_row wr B2 1 _ _ HVZ.out
      have f2 := frozen_of_row wr B2 2 _ _ HVZ.out
      have f3 := frozen_of_row wr B2 3 _ _ HVZ.out
      have f4 := frozen_of_row wr B2 4 _ _ HVZ.out
      have f5 := frozen_of_row wr B2 5 _ _ HVZ.out
      go_wp2_with (fail)
      have HB9 := Lib.hid (HB0.out.trans (Hr.out.1.mono HB0.out.size))
      refine bodyPost_ret (v := .tuple #[.agg #[.int .i64 0, .int .i64 0, .int .i64 0, .int .i64 0, .int .i64 0, .int .i64 0], .bool false]) (by simp [results, Try.results26, go_sem, s0, s1, s2, s3, s4, s5]) rfl ⟨by rw [HF.out]; rfl, ?_⟩
      exact (((((HB9.out.setCell HG1.out _).setCell HG1.out _).setCell HG1.out _).setCell HG1.out _).setCell HG1.out _).setCell HG1.out _
def SRel' (w0 : World) (n : Nat) (l : List Sd) (d : Pid) (v5 : Value) (wr : World) : Prop := ∃ (k : Nat), k ≤ n ∧ v5 = .int .i64 (k : Int) ∧ Hid (Below w0.heap.size w0 wr ∧ ∀ j y, j < k → l[j]? = some y → decide (y.id = d) = false)
theorem said_cases (y : Sd) (d : Pid) : (decide ((⟨y.id.prod, y.id.seq⟩ : Pid) = ⟨d.prod, d.seq⟩) = false ∧ decide (y.id = d) = false) ∨ (decide ((⟨y.id.prod, y.id.seq⟩ : Pid) = ⟨d.prod, d.seq⟩) = true ∧ decide (y.id = d) = true) := by
  have e : decide ((⟨y.id.prod, y.id.seq⟩ : Pid) = ⟨d.prod, d.seq⟩) = decide (y.id = d) := rfl
  rw [e]
  by_cases h : y.id = d <;> simp [h]
set_option maxRecDepth 100000 in
set_option maxHeartbeats 1600000 in
theorem firstSaid_any (A : Option Addr) (n cap base i : Nat) (l : List Sd) (s : Sd) (w : World) (hA : SdsAt w base A n l) (hi : i < n) (hs : l[i]? = some s) :
    Calls Try.prog 27 #[.slice A n cap, .int .i64 (i : Int)] w fun e w' => e = .returned (.bool (firstSd l i s.id)) ∧ Below w.heap.size w w' := by
  have hn := hA.2.1
  unfold maxLen at hn
  have HA := Lib.hid hA
  obtain ⟨a, s', A', m, c, rfl, hx, hwf, hat, hrc⟩ := hA.get hi
  obtain rfl := Option.some.inj (hx.symm.trans hs)
  have HAT := Lib.hid hat
  clear hA hx hwf hat hrc hs
  go_enter Try.func27, Try.ntmps27
  go_wp2_with (fail)
  go_loopw [5] (fun v5 w9 => SRel' w i l s'.id v5 w9) (fun v5 _ => i - (intOf v5).toNat)
  case atStart => exact ⟨0, by omega, rfl, Lib.hid ⟨Below.refl _ _, fun _ _ h => absurd h (by omega)⟩⟩
  case round =>
    obtain ⟨k, hk, rfl, Hr⟩ := hrel
    by_cases hlt : k < i
    · obtain ⟨a2, y, A2, m2, c2, e2, hy, _, haty, _⟩ := (HA.out.later Hr.out.1).get (show k < n by omega)
      obtain rfl := Option.some.inj e2
      have HY := Lib.hid hy
      have CY := Lib.hid (At.three_lat haty)
      have CX := Lib.hid (At.three_lat (HAT.out.later Hr.out.1))
      clear haty e2 hy
      have hv := eqlId y.id.prod y.id.seq s'.id.prod s'.id.seq
      have hgd := fun (w : World) (p q : Operand) (xs ys : Array Value) => run_eqGuard_agg (P := Try.prog) w .eql 36 p q xs ys guardId
      have HC := Lib.hid (said_cases y s'.id)
      go_wp2_with (fail)
      obtain ⟨c0, c1, c2⟩ := CY.out
      obtain ⟨d0, d1, d2⟩ := CX.out
      refine QuietTail.wp_all (fun w' => ∃ z : Lat wr, w' = z.val) (by kernel_rfl) (by kernel_rfl) (LatOf.refl wr).drew ?_
      rcases HC.out with ⟨hs, hc⟩ | ⟨hs, hc⟩
      all_goals
        have HCL := Lib.hid hc
        clear hc HC
        simp only [hs] at hv
        iterate 11 (go_big_quiet_step (fail))
        refine wpQuiet_nil ?_
        rintro _ ⟨z, rfl⟩
        clear c0 c1 c2 d0 d1 d2
        go_wp2_with (fail)
      · go_roundw
        case rel =>
          refine ⟨k + 1, by omega, by go_num, Lib.hid ⟨bstep Hr.out.1 z.below, fun j y' hj hy' => ?_⟩⟩
          rcases Nat.lt_succ_iff_lt_or_eq.1 hj with h | rfl
          · exact Hr.out.2 j y' h hy'
          · obtain rfl := Option.some.inj (hy'.symm.trans HY.out)
            exact HCL.out
        case measure => simp [intOf]; omega
      · go_ret
        refine ⟨?_, bstep Hr.out.1 z.below⟩
        unfold firstSd
        rw [take_any_true l i k y _ hlt HY.out HCL.out]
        rfl
    · obtain rfl : k = i := by omega
      have hk2 : decide ((k : Int) < (k : Int)) = false := by simp
      go_wp2_with (fail)
      go_ret
      refine ⟨?_, Hr.out.1⟩
      unfold firstSd
      rw [take_any _ _ _ Hr.out.2]
      rfl
def HasRel (w0 : World) (n : Nat) (l : List Rec) (o : Int) (v5 : Value) (wr : World) : Prop := ∃ (k : Nat), k ≤ n ∧ v5 = .int .i64 (k : Int) ∧ Hid (Below w0.heap.size w0 wr ∧ ∀ (j : Nat) (y : Rec), j < k → l[j]? = some y → decide (y.off = o) = false)
set_option maxRecDepth 100000 in
set_option maxHeartbeats 1600000 in
theorem has_any (A : Option Addr) (n cap base : Nat) (l : List Rec) (o : Int) (w : World) (hA : RecsAt w base A n l) :
    Calls Try.prog 28 #[.slice A n cap, .int .i64 o] w fun e w' => e = .returned (.bool (hasOff l o)) ∧ Below w.heap.size w w' := by
  have hn := hA.2.1
  unfold maxLen at hn
  have HA := Lib.hid hA
  have hlen : Hid (l.length = n) := Lib.hid hA.1
  clear hA
  go_enter Try.func28, Try.ntmps28
  go_wp2_with (fail)
  go_loopw [5] (fun v5 w9 => HasRel w n l o v5 w9) (fun v5 _ => n - (intOf v5).toNat)
  case atStart => exact ⟨0, by omega, rfl, Lib.hid ⟨Below.refl _ _, fun _ _ h => absurd h (by omega)⟩⟩
  case round =>
    obtain ⟨k, hk, rfl, Hr⟩ := hrel
    by_cases hlt : k < n
    · obtain ⟨a, y, rfl, hy, _, hat⟩ := (HA.out.later Hr.out.1).get hlt
      have HY := Lib.hid hy
      obtain ⟨c0, c1, c2, c3⟩ := At.four hat
      clear hy hat
      by_cases he : y.off = o
      · have hd : (y.off == o) = true := by simpa using he
        have HE := Lib.hid he
        clear he
        go_wp2_with (fail)
        go_ret
        refine ⟨?_, Hr.out.1⟩
        unfold hasOff
        rw [any_at HY.out (decide_eq_true HE.out)]
        rfl
      · have hd : (y.off == o) = false := by simpa using he
        have HE := Lib.hid he
        clear he
        go_wp2_with (fail)
        go_roundw
        case rel =>
          refine ⟨k + 1, by omega, by go_num, Lib.hid ⟨Hr.out.1, fun j y' hj hy' => ?_⟩⟩
          rcases Nat.lt_succ_iff_lt_or_eq.1 hj with h | rfl
          · exact Hr.out.2 j y' h hy'
          · obtain rfl := Option.some.inj (hy'.symm.trans HY.out)
            exact decide_eq_false HE.out
        case measure => simp [intOf]; omega
    · obtain rfl : k = n := by omega
      go_wp2_with (fail)
      go_ret
      refine ⟨?_, Hr.out.1⟩
      unfold hasOff
      rw [any_false fun j y hy => Hr.out.2 j y (by have := (List.getElem?_eq_some_iff.1 hy).1; rw [hlen.out] at this; exact this) hy]
      rfl
end Go.Proofs.Ytkgidfehndkhmaa
