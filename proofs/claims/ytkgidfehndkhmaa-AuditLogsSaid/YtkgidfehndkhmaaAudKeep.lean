/- The walk of audit.Keeps. -/
import Derived.Test.YtkgidfehndkhmaaAudKeepSt
import Derived.Test.YtkgidfehndkhmaaLoud
import Derived.Test.YtkgidfehndkhmaaQuietArms
import Derived.Deep.CutBlock
import Derived.Deep.DeepCutAuto
import Derived.Deep.RegionHeld3
namespace Go.Proofs.Ytkgidfehndkhmaa
open Go.RowKit Go.PostAud Go.PostMem
theorem infoId : (Try.prog.info? 36).map (fun i => (i.zero, i.size, i.bytes)) = some (some (.agg #[.int .i64 0, .int .i64 0]), 2, 16) := by kernel_rfl
theorem id_one (a : Pid) : ∀ u ∈ a.cells, u.oneCell' = true := by
  intro u hu
  unfold Pid.cells at hu
  simp only [List.mem_cons, List.not_mem_nil, or_false] at hu
  rcases hu with rfl | rfl <;> rfl
theorem fld4 (x : Ack) (w : World) : (Instr.field 38 (.agg #[.int .i64 x.step, .int .i64 x.id.prod, .int .i64 x.id.seq, .int .i64 x.err, .int .i64 x.base, .int .i64 x.count]) 4).run Try.prog w = .ok (.int .i64 x.count) w := by kernel_rfl
theorem fld3 (x : Ack) (w : World) : (Instr.field 38 (.agg #[.int .i64 x.step, .int .i64 x.id.prod, .int .i64 x.id.seq, .int .i64 x.err, .int .i64 x.base, .int .i64 x.count]) 3).run Try.prog w = .ok (.int .i64 x.base) w := by kernel_rfl
def R1 (w : World) (base n : Nat) (sd : List Sd) (b1 : Nat) (v45 : Value) (wr : World) : Prop := ∃ (i : Nat), i ≤ n ∧ v45 = .int .i64 (i : Int) ∧ Hid (∃ g, Below w.heap.size w wr ∧ w.heap.size ≤ b1 ∧ MapU.IsMap wr Try.prog 36 b1 g ∧ WordsOk w base sd i g)
def R2 (w : World) (n : Nat) (ks : List Ack) (b1 b2 : Nat) (g1 : Value → Option Value) (v67 v14 : Value) (wr : World) : Prop := ∃ (i k : Nat) (A : Option Addr) (c : Nat), i ≤ n ∧ k ≤ i ∧ v67 = .int .i64 (i : Int) ∧ v14 = .slice A k c ∧
  Hid (∃ g2 ord, K2 w b1 b2 g1 g2 A k c ord wr ∧ FirstsOk ks i g1 g2 ∧ OrdOk g2 ord ∧ ord.length = k)
def R3 (w : World) (ks : List Ack) (sd : List Sd) (b1 b2 b3 : Nat) (g1 g2 : Value → Option Value) (A : Option Addr) (k c : Nat) (ord : List Pid) (v107 : Value) (wr : World) : Prop := ∃ (q : Nat), q ≤ k ∧ v107 = .int .i64 (q : Int) ∧
  Hid (∃ g3, K3 w b1 b2 b3 g1 g2 g3 A k c ord wr ∧ HiOk (S3 ks sd ord q 0) g3)
def R4 (w : World) (ks : List Ack) (sd : List Sd) (b1 b2 b3 : Nat) (g1 g2 : Value → Option Value) (A : Option Addr) (k c : Nat) (ord : List Pid) (q m : Nat) (d : Pid) (Bi : Nat) (v115 : Value) (wr : World) : Prop := ∃ (j : Nat), j ≤ m ∧ v115 = .int .i64 (j : Int) ∧
  Hid (∃ g3, K3 w b1 b2 b3 g1 g2 g3 A k c ord wr ∧ HiOk (S3 ks sd ord q j) g3 ∧ At wr ⟨Bi, 0, none⟩ d.cells ∧ Bi < wr.heap.size)
def R5 (w : World) (n2 : Nat) (ks : List Ack) (l : List Fet) (sd : List Sd) (b1 b2 b3 : Nat) (g1 g2 : Value → Option Value) (A : Option Addr) (k c : Nat) (ord : List Pid) (v140 : Value) (wr : World) : Prop := ∃ (i : Nat), i ≤ n2 ∧ v140 = .int .i64 (i : Int) ∧
  Hid (∃ g3, K3 w b1 b2 b3 g1 g2 g3 A k c ord wr ∧ HiOk (S5 ks l sd i 0) g3)
def R6 (w : World) (ks : List Ack) (l : List Fet) (sd : List Sd) (b1 b2 b3 : Nat) (g1 g2 : Value → Option Value) (A : Option Addr) (k c : Nat) (ord : List Pid) (i m : Nat) (v150 : Value) (wr : World) : Prop := ∃ (j : Nat), j ≤ m ∧ v150 = .int .i64 (j : Int) ∧
  Hid (∃ g3, K3 w b1 b2 b3 g1 g2 g3 A k c ord wr ∧ HiOk (S5 ks l sd i j) g3)
def R7 (w : World) (n2 : Nat) (ks : List Ack) (l : List Fet) (sd : List Sd) (b1 b2 b3 : Nat) (g1 g2 g3 : Value → Option Value) (A : Option Addr) (k c : Nat) (ord : List Pid) (v164 : Value) (wr : World) : Prop := ∃ (i : Nat), i ≤ n2 ∧ v164 = .int .i64 (i : Int) ∧
  Hid (K3 w b1 b2 b3 g1 g2 g3 A k c ord wr ∧ ∀ j, j < i → keepAt ks l sd j = false)
def R8 (w6 : World) (f : Fet) (b4 m : Nat) (v182 : Value) (wr : World) : Prop := ∃ (j : Nat), j ≤ m ∧ v182 = .int .i64 (j : Int) ∧ Hid (∃ g4, Below w6.heap.size w6 wr ∧ MapU.IsMap wr Try.prog 3 b4 g4 ∧ HaveOk f.recs j g4)
def R9 (w8 : World) (ks : List Ack) (l : List Fet) (sd : List Sd) (f : Fet) (ord : List Pid) (q : Nat) (v201 : Value) (wr : World) : Prop := ∃ (p : Nat), p ≤ q ∧ v201 = .int .i64 (p : Int) ∧
  Hid (Below w8.heap.size w8 wr ∧ ∀ p' d k' st o key, p' < p → ord[p']? = some d → HeldBy ks sd d k' st o key → ¬ LacksBy ks l sd f (lastOff f.recs) st o key)
def R10 (w9 : World) (ks : List Ack) (l : List Fet) (sd : List Sd) (f : Fet) (d : Pid) (m : Nat) (v212 : Value) (wr : World) : Prop := ∃ (j : Nat), j ≤ m ∧ v212 = .int .i64 (j : Int) ∧
  Hid (Below w9.heap.size w9 wr ∧ ∀ j' st o key, j' < j → HeldBy ks sd d j' st o key → ¬ LacksBy ks l sd f (lastOff f.recs) st o key)
set_option maxRecDepth 100000 in
set_option maxHeartbeats 25600000 in
theorem Keeps_any (A1 A2 A3 : Option Addr) (n1 c1 n2 c2 n3 c3 base : Nat) (ks : List Ack) (l : List Fet) (sd : List Sd) (w : World)
    (h1 : AcksAt w base A1 n1 ks) (hy1 : n1 * 16 ≤ 140737488351232) (h2 : FetsAt w base A2 n2 l) (h3 : SdsAt w base A3 n3 sd) :
    Calls Try.prog 16 #[.slice A1 n1 c1, .slice A2 n2 c2, .slice A3 n3 c3] w fun e w' => e = .returned (.tuple #[.int .i64 (keepAns ks l sd).1, .int .i64 (keepAns ks l sd).2]) ∧ Below w.heap.size w w' := by
  have hn2 := h2.2.1
  have hn3 := h3.2.1
  unfold maxLen at hn2 hn3
  have HA1 := Lib.hid h1
  have HA2 := Lib.hid h2
  have HA3 := Lib.hid h3
  have hlen1 : Hid (ks.length = n1) := Lib.hid h1.1
  have hlen2 : Hid (l.length = n2) := Lib.hid h2.1
  have hlen3 : Hid (sd.length = n3) := Lib.hid h3.1
  clear h1 h2 h3
  have hmm := @run_makeMap Try.prog
  go_enter Try.func16, Try.ntmps16
  go_wp2_with (fail)
  have HMM := Lib.hid hmm
  clear hmm
  have H0 : Hid (R1 w base n3 sd w.heap.size (.int .i64 ((0 : Nat) : Int)) (w.alloc (.map #[] 0))) := Lib.hid
    ⟨0, Nat.zero_le _, rfl, Lib.hid ⟨_, (Below.refl _ _).alloc (Nat.le_refl _) _, Nat.le_refl _, MapU.made w Try.prog 36, words_zero w base sd⟩⟩
  generalize w.alloc (.map #[] 0) = W0 at H0 ⊢
  obtain ⟨b1, hb1⟩ : ∃ b1, b1 = w.heap.size := ⟨_, rfl⟩
  rw [← hb1] at H0
  rw [← hb1]
  have HB1 := Lib.hid hb1
  clear hb1
  go_loopw [45] (fun v45 w9 => R1 w base n3 sd b1 v45 w9) (fun v45 _ => n3 - (intOf v45).toNat)
  case atStart => exact H0.out
  case round =>
    clear H0
    obtain ⟨i, hi, rfl, Hr⟩ := hrel
    obtain ⟨g, hg1, hg2, hg3, hg4⟩ := Hr.out
    have G1 := Lib.hid hg1
    have G2 := Lib.hid hg2
    have G3 := Lib.hid hg3
    have G4 := Lib.hid hg4
    clear hg1 hg2 hg3 hg4 Hr
    by_cases hlt : i < n3
    · obtain ⟨a, s, A', m, c, rfl, hx, hwf, hat, hrc⟩ := HA3.out.get hlt
      have HX := Lib.hid hx
      have HRC := Lib.hid hrc
      have HWF := Lib.hid hwf
      obtain ⟨q0, q1, q2⟩ := At.three (hat.later G1.out)
      clear hx hwf hat hrc
      have HS1 := Lib.hid ((Below.refl wr.heap.size wr).alloc (Nat.le_refl _) (.cells #[.int .i64 s.id.prod, .int .i64 s.id.seq, .slice A' m c] 47))
      have hkey : Hid (MapU.IsKey Try.prog 36 (.agg #[.int .i64 s.id.prod, .int .i64 s.id.seq])) := Lib.hid (id_key (a := s.id) HWF.out.1 HWF.out.2)
      have HM2 := Lib.hid (G3.out.of_block (HS1.out.block _ G3.out.lt))
      have HD : Hid (g s.id.v = none ∨ ∃ A m c, g s.id.v = some (.slice A m c)) := Lib.hid (by
        cases h : g s.id.v with
        | none => exact .inl rfl
        | some v =>
          obtain ⟨_, _, A, m, c, _, _, _, _, rfl, _⟩ := G4.out.1 _ _ h
          exact .inr ⟨A, m, c, rfl⟩)
      rcases HD.out with h0 | ⟨B, mB, cB, h0⟩
      · have hget : MapU.seen true (.slice none 0 0) (g (.agg #[.int .i64 s.id.prod, .int .i64 s.id.seq])) = .tuple #[.slice none 0 0, .bool false] := by
          rw [show g (.agg #[.int .i64 s.id.prod, .int .i64 s.id.seq]) = none from h0]; rfl
        have HG0 := Lib.hid h0
        clear h0 HD
        go_wp2_with (first
          | (at_lookup; refine MapU.wpList_look rfl (.tmp 50) (.tmp 52) 68 true rfl 36 44 lawId Try.underlying68 _ (zeroRecs _) b1 g rfl HM2.out (.agg #[.int .i64 s.id.prod, .int .i64 s.id.seq]) rfl hkey.out ?_; rw [hget])
          | (at_mapUpdate; refine MapU.wpList_put rfl (.tmp 58) (.tmp 60) (.tmp 62) 68 rfl 36 44 lawId Try.underlying68 b1 g rfl HM2.out (.agg #[.int .i64 s.id.prod, .int .i64 s.id.seq]) (.slice A' m c) rfl rfl hkey.out ?_; intro w7 hm7 hg7; go_frame))
        go_roundw
        case rel =>
          exact ⟨i + 1, by omega, by go_num, Lib.hid ⟨_, (bstep G1.out HS1.out).trans (below_grown hg7 (fun j hj => by cases hj; exact G2.out) (bstep G1.out HS1.out).size), G2.out, hm7, words_put G4.out HX.out HG0.out HRC.out⟩⟩
        case measure => simp [intOf]; omega
      · have hget : MapU.seen true (.slice none 0 0) (g (.agg #[.int .i64 s.id.prod, .int .i64 s.id.seq])) = .tuple #[.slice B mB cB, .bool true] := by
          rw [show g (.agg #[.int .i64 s.id.prod, .int .i64 s.id.seq]) = some (.slice B mB cB) from h0]; rfl
        have HG0 := Lib.hid h0
        clear h0 HD
        go_wp2_with (at_lookup; refine MapU.wpList_look rfl (.tmp 50) (.tmp 52) 68 true rfl 36 44 lawId Try.underlying68 _ (zeroRecs _) b1 g rfl HM2.out (.agg #[.int .i64 s.id.prod, .int .i64 s.id.seq]) rfl hkey.out ?_; rw [hget])
        go_roundw
        case rel =>
          exact ⟨i + 1, by omega, by go_num, Lib.hid ⟨g, bstep G1.out HS1.out, G2.out, HM2.out, words_skip G4.out HX.out (by rw [HG0.out]; simp)⟩⟩
        case measure => simp [intOf]; omega
    · obtain rfl : i = n3 := by omega
      have hmm := HMM.out
      go_wp2_with (fail)
      clear hmm
      have HWD : Hid (WordsOk w base sd sd.length g) := Lib.hid (by rw [hlen3.out]; exact G4.out)
      have HA := (Below.refl wr.heap.size wr).alloc (Nat.le_refl _) (.map #[] 0)
      have H0 : Hid (R2 w n1 ks b1 wr.heap.size g (.int .i64 ((0 : Nat) : Int)) (.slice none 0 0) (wr.alloc (.map #[] 0))) := Lib.hid
        ⟨0, 0, none, 0, Nat.zero_le _, Nat.le_refl _, rfl, rfl, Lib.hid ⟨_, [], ⟨bstep G1.out HA, G2.out, G1.out.size, Nat.ne_of_lt G3.out.lt, G3.out.of_block (HA.block _ G3.out.lt), MapU.made wr Try.prog 36, World.ownsRow_nil _ _ _ _⟩, firsts_zero ks g, ord_zero, rfl⟩⟩
      clear HA G1 G3 G4
      generalize wr.alloc (.map #[] 0) = W2 at H0 ⊢
      generalize wr.heap.size = b2 at H0 ⊢
      go_loopw [14, 67] (fun v14 v67 w9 => R2 w n1 ks b1 b2 g v67 v14 w9) (fun _ v67 _ => n1 - (intOf v67).toNat)
      case atStart => exact H0.out
      case round =>
        clear H0
        obtain ⟨i2, k, A, c, hi2, hk, rfl, rfl, Hr⟩ := hrel
        obtain ⟨g2, ord, hst, hfo, hoo, hol⟩ := Hr.out
        have HST := Lib.hid hst
        have HFO := Lib.hid hfo
        have HOO := Lib.hid hoo
        have HOL := Lib.hid hol
        clear Hr hst hfo hoo hol
        by_cases hlt2 : i2 < n1
        · obtain ⟨a, x, rfl, hx, hwf, hat⟩ := (HA1.out.later HST.out.below).get hlt2
          have HX := Lib.hid hx
          have HWF := Lib.hid hwf
          obtain ⟨q0, q1, q2, q3, q4, q5⟩ := At.six hat
          clear hx hwf hat
          have hkey : Hid (MapU.IsKey Try.prog 36 (.agg #[.int .i64 x.id.prod, .int .i64 x.id.seq])) := Lib.hid (id_key (a := x.id) HWF.out.2.1.1 HWF.out.2.1.2)
          have HGD : Hid (∀ w', Calls Try.prog 18 #[.agg #[.int .i64 x.step, .int .i64 x.id.prod, .int .i64 x.id.seq, .int .i64 x.err, .int .i64 x.base, .int .i64 x.count]] w' fun e w'' => e = .returned (.bool (good x)) ∧ Below w'.heap.size w' w'') := Lib.hid (good_any x)
          have HYD : Hid (∃ (Y : Ack) (t : Bool), MapU.seen true (Ack.v ⟨0, ⟨0, 0⟩, 0, 0, 0⟩) (g2 (.agg #[.int .i64 x.id.prod, .int .i64 x.id.seq])) = .tuple #[.agg #[.int .i64 Y.step, .int .i64 Y.id.prod, .int .i64 Y.id.seq, .int .i64 Y.err, .int .i64 Y.base, .int .i64 Y.count], .bool t] ∧ (t = false ↔ g2 x.id.v = none)) := Lib.hid (by
            cases h : g2 x.id.v with
            | none => exact ⟨zeroA, false, by rw [show g2 (.agg #[.int .i64 x.id.prod, .int .i64 x.id.seq]) = none from h]; rfl, by simp⟩
            | some v =>
              by_cases h1 : g x.id.v = none
              · have := (HFO.out x.id).1 h1; rw [h] at this; exact nomatch this
              · have h2 := (HFO.out x.id).2 h1
                rw [h] at h2
                obtain ⟨Y, _, hY⟩ := Option.map_eq_some_iff.1 h2.symm
                exact ⟨Y, true, by rw [show g2 (.agg #[.int .i64 x.id.prod, .int .i64 x.id.seq]) = some v from h, ← hY]; rfl, by simp⟩)
          have HSD : Hid (∃ (B : Option Addr) (mB cB : Nat) (t : Bool), MapU.seen true (.slice none 0 0) (g (.agg #[.int .i64 x.id.prod, .int .i64 x.id.seq])) = .tuple #[.slice B mB cB, .bool t] ∧ (t = false ↔ g x.id.v = none)) := Lib.hid (by
            cases h : g x.id.v with
            | none => exact ⟨none, 0, 0, false, by rw [show g (.agg #[.int .i64 x.id.prod, .int .i64 x.id.seq]) = none from h]; rfl, by simp⟩
            | some v =>
              obtain ⟨_, _, B, mB, cB, _, _, _, _, rfl, _⟩ := HWD.out.1 _ _ h
              exact ⟨B, mB, cB, true, by rw [show g (.agg #[.int .i64 x.id.prod, .int .i64 x.id.seq]) = some (.slice B mB cB) from h]; rfl, by simp⟩)
          obtain ⟨Y, t, hget2, ht⟩ := HYD.out
          obtain ⟨B, mB, cB, u, hget1, hu⟩ := HSD.out
          have HT := Lib.hid ht
          have HU := Lib.hid hu
          clear HYD HSD ht hu
          have HSX := Lib.hid ((Below.refl wr.heap.size wr).alloc (Nat.le_refl _) (.cells #[.int .i64 x.step, .int .i64 x.id.prod, .int .i64 x.id.seq, .int .i64 x.err, .int .i64 x.base, .int .i64 x.count] 38))
          have HSY := Lib.hid ((Below.refl wr.heap.size wr).alloc (Nat.le_refl _) (.cells #[.int .i64 x.step, .int .i64 x.id.prod, .int .i64 x.id.seq, .int .i64 x.err, .int .i64 x.base, .int .i64 x.count] 38) |>.alloc (by simp) (.cells #[.int .i64 Y.step, .int .i64 Y.id.prod, .int .i64 Y.id.seq, .int .i64 Y.err, .int .i64 Y.base, .int .i64 Y.count] 38))
          have HKX := Lib.hid (HST.out.step HSX.out)
          have HKY := Lib.hid (HST.out.step HSY.out)
          have HXY := Lib.hid ((at_alloc wr x.cells 38).later ((Below.refl _ _).alloc (Nat.le_refl _) (.cells #[.int .i64 Y.step, .int .i64 Y.id.prod, .int .i64 Y.id.seq, .int .i64 Y.err, .int .i64 Y.base, .int .i64 Y.count] 38)))
          have HLY : Hid (wr.heap.size < ((wr.alloc (.cells #[.int .i64 x.step, .int .i64 x.id.prod, .int .i64 x.id.seq, .int .i64 x.err, .int .i64 x.base, .int .i64 x.count] 38)).alloc (.cells #[.int .i64 Y.step, .int .i64 Y.id.prod, .int .i64 Y.id.seq, .int .i64 Y.err, .int .i64 Y.base, .int .i64 Y.count] 38)).heap.size) := Lib.hid (by simp; omega)
          have HNE : Hid (wr.heap.size ≠ b2) := Lib.hid (fun e => by have := HST.out.m2.lt; omega)
          obtain ⟨d0, d1, d2, d3, d4, d5⟩ := At.six0 HXY.out
          by_cases hput : good x = true ∧ t = false ∧ u = true
          · obtain ⟨hg, rfl, rfl⟩ := hput
            have HGX := Lib.hid hg
            rw [hg] at HGD
            have HE1 := Lib.hid (HT.out.1 rfl)
            have HE2 : Hid (g x.id.v ≠ none) := Lib.hid (fun e => by have := HU.out.2 e; exact nomatch this)
            clear hg HT HU
            go_wp2_with (first
              | (at_lookup; refine MapU.wpList_look rfl (.tmp 72) (.tmp 74) 56 true rfl 36 38 lawId Try.underlying56 _ (zeroAck _) b2 g2 rfl (HKX.out.m2) (.agg #[.int .i64 x.id.prod, .int .i64 x.id.seq]) rfl hkey.out ?_; rw [hget2])
              | (at_lookup; refine MapU.wpList_look rfl (.tmp 79) (.tmp 81) 68 true rfl 36 44 lawId Try.underlying68 _ (zeroRecs _) b1 g rfl (HKY.out.m1) (.agg #[.int .i64 x.id.prod, .int .i64 x.id.seq]) rfl hkey.out ?_; rw [hget1])
              | (go_at_call 18; (with_reducible refine (HGD.out _).mono ?_); rintro e W5 ⟨rfl, hW5⟩; have HK5 := Lib.hid (HKY.out.step hW5); have HX5 := Lib.hid (HXY.out.later hW5); have HL5 := Lib.hid (Nat.lt_of_lt_of_le HLY.out hW5.size); clear hW5 d0 d1 d2 d3 d4 d5; obtain ⟨d0, d1, d2, d3, d4, d5⟩ := At.six0 HX5.out)
              | (at_mapUpdate; refine MapU.wpList_put rfl (.tmp 94) (.tmp 96) (.tmp 97) 56 rfl 36 38 lawId Try.underlying56 b2 g2 rfl HK5.out.m2 (.agg #[.int .i64 x.id.prod, .int .i64 x.id.seq]) (.agg #[.int .i64 x.step, .int .i64 x.id.prod, .int .i64 x.id.seq, .int .i64 x.err, .int .i64 x.base, .int .i64 x.count]) rfl rfl hkey.out ?_; intro w7 hm7 hg7; go_frame; have HK7 := Lib.hid (HK5.out.put2 hg7 hm7); have HX7 := Lib.hid (At.grown HX5.out HL5.out hg7 HNE.out); clear hm7 hg7 d0 d1 d2 d3 d4 d5; obtain ⟨d0, d1, d2, d3, d4, d5⟩ := At.six0 HX7.out)
              | (at_builtin; refine wpList_row rfl (.tmp 98) (.tmp 101) 70 rfl w.heap.size 36 _ 2 16 infoId rfl (by decide) Try.underlying70 (.slice A k c) k (ord.flatMap Pid.cells) rfl HK7.out.row [.int .i64 x.id.prod, .int .i64 x.id.seq] rfl rfl (id_one x.id) (by unfold maxLen; omega) (by omega) HK7.out.below.size ?_; intro v8 w8 hown hold hg8))
            have HOWN := Lib.hid hown
            have HG8 := Lib.hid hg8
            obtain ⟨A', c', rfl, _, _⟩ := own_slice hown
            clear hown hold hg8
            refine ⟨⟨i2 + 1, k + 1, A', c', by omega, by omega, by go_num, rfl, Lib.hid ⟨_, ord ++ [x.id], HK7.out.more HG8.out ?_, firsts_put HFO.out HX.out HGX.out HE1.out HE2.out, ord_put HOO.out ⟨HWF.out.2.1.1, HWF.out.2.1.2⟩, by simp [HOL.out]⟩⟩, by simp [intOf]; omega⟩
            rw [List.flatMap_append, List.flatMap_cons, List.flatMap_nil, List.append_nil]
            exact HOWN.out
          · have HSK : Hid (good x = false ∨ g2 x.id.v ≠ none ∨ g x.id.v = none) := Lib.hid (by
              cases hgx : good x with
              | false => exact .inl rfl
              | true =>
                cases t with
                | true => exact .inr (.inl fun e => by have := HT.out.2 e; exact nomatch this)
                | false =>
                  cases u with
                  | false => exact .inr (.inr (HU.out.1 rfl))
                  | true => exact absurd ⟨hgx, rfl, rfl⟩ hput)
            cases t <;> cases u <;> cases hgx : good x
            all_goals (try (exfalso; exact hput ⟨hgx, rfl, rfl⟩))
            all_goals first
              | (rw [hgx] at HGD
                 clear hgx hput HT HU
                 go_wp2_with (first
                   | (at_lookup; refine MapU.wpList_look rfl (.tmp 72) (.tmp 74) 56 true rfl 36 38 lawId Try.underlying56 _ (zeroAck _) b2 g2 rfl (HKX.out.m2) (.agg #[.int .i64 x.id.prod, .int .i64 x.id.seq]) rfl hkey.out ?_; rw [hget2])
                   | (at_lookup; refine MapU.wpList_look rfl (.tmp 79) (.tmp 81) 68 true rfl 36 44 lawId Try.underlying68 _ (zeroRecs _) b1 g rfl (HKY.out.m1) (.agg #[.int .i64 x.id.prod, .int .i64 x.id.seq]) rfl hkey.out ?_; rw [hget1])
                   | (go_at_call 18; (with_reducible refine (HGD.out _).mono ?_); rintro e W5 ⟨rfl, hW5⟩; have HK5 := Lib.hid (HKY.out.step hW5); have HX5 := Lib.hid (HXY.out.later hW5); have HL5 := Lib.hid (Nat.lt_of_lt_of_le HLY.out hW5.size); clear hW5 d0 d1 d2 d3 d4 d5; obtain ⟨d0, d1, d2, d3, d4, d5⟩ := At.six0 HX5.out))
                 refine ⟨⟨i2 + 1, k, A, c, by omega, by omega, by go_num, rfl, Lib.hid ⟨g2, ord, HK5.out, firsts_skip HFO.out HX.out HSK.out, HOO.out, HOL.out⟩⟩, by simp [intOf]; omega⟩)
        · obtain rfl : i2 = n1 := by omega
          have HM : Hid (MapsOk w base ks sd g g2 ord) := Lib.hid ⟨HWD.out, by have := HFO.out; rw [← hlen1.out] at this; exact this, HOO.out⟩
          have hmm := HMM.out
          go_wp2_with (fail)
          clear hmm
          have HA3' := (Below.refl wr.heap.size wr).alloc (Nat.le_refl _) (.map #[] 0)
          have H0 : Hid (R3 w ks sd b1 b2 wr.heap.size g g2 A k c ord (.int .i64 ((0 : Nat) : Int)) (wr.alloc (.map #[] 0))) := Lib.hid
            ⟨0, Nat.zero_le _, rfl, Lib.hid ⟨_, ⟨HST.out.step HA3', HST.out.below.size, Nat.ne_of_lt HST.out.m1.lt, Nat.ne_of_lt HST.out.m2.lt, MapU.made wr Try.prog 9⟩, hi_zero.congr (s3_zero ks sd ord)⟩⟩
          clear HA3' HST HFO HOO HWD
          generalize wr.alloc (.map #[] 0) = W3 at H0 ⊢
          generalize wr.heap.size = b3 at H0 ⊢
          go_loopw [107] (fun v107 w9 => R3 w ks sd b1 b2 b3 g g2 A k c ord v107 w9) (fun v107 _ => k - (intOf v107).toNat)
          case atStart => exact H0.out
          case round =>
            clear H0
            obtain ⟨q, hq, rfl, Hr⟩ := hrel
            obtain ⟨g3, hst, hhi⟩ := Hr.out
            have HST := Lib.hid hst
            have HHI := Lib.hid hhi
            clear Hr hst hhi
            by_cases hlt3 : q < k
            · obtain ⟨g0, d, rfl, hd, hat⟩ := HST.out.two.id_at HOL.out hlt3
              have HDQ := Lib.hid hd
              obtain ⟨s, Aw, m, cw, x, hgs, hrc, hgx, hgood, hi1, hi2', hby⟩ := HM.out.at (List.mem_of_getElem? hd)
              have HRC := Lib.hid hrc
              have HBY := Lib.hid hby
              have hm := hrc.2.1
              unfold maxLen at hm
              have hlenr : Hid (s.recs.length = m) := Lib.hid hrc.1
              obtain ⟨z1, z2, z3, z4⟩ := good_nums hgood
              have hkey : Hid (MapU.IsKey Try.prog 36 (.agg #[.int .i64 d.prod, .int .i64 d.seq])) := Lib.hid (id_key (a := d) hi1 hi2')
              obtain ⟨q0, q1⟩ := At.two0 hat
              have hgetw : MapU.seen false (.slice none 0 0) (g (.agg #[.int .i64 d.prod, .int .i64 d.seq])) = .slice Aw m cw := by rw [show g (.agg #[.int .i64 d.prod, .int .i64 d.seq]) = some (.slice Aw m cw) from hgs]; rfl
              have hgetx : MapU.seen false (Ack.v ⟨0, ⟨0, 0⟩, 0, 0, 0⟩) (g2 (.agg #[.int .i64 d.prod, .int .i64 d.seq])) = .agg #[.int .i64 x.step, .int .i64 x.id.prod, .int .i64 x.id.seq, .int .i64 x.err, .int .i64 x.base, .int .i64 x.count] := by rw [show g2 (.agg #[.int .i64 d.prod, .int .i64 d.seq]) = some x.v from hgx]; rfl
              have HGX := Lib.hid hgetx
              clear hd hrc hby hgs hgx hgood hat hgetx hi1 hi2'
              have HSI := Lib.hid ((Below.refl wr.heap.size wr).alloc (Nat.le_refl _) (.cells #[.int .i64 d.prod, .int .i64 d.seq] 36))
              have HNB : Hid (wr.heap.size ≠ b3) := Lib.hid (fun e => by have := HST.out.m3.lt; omega)
              have HK4 := Lib.hid (HST.out.step HSI.out)
              go_wp2_with (at_lookup; refine MapU.wpList_look rfl (.tmp 111) (.tmp 112) 68 false rfl 36 44 lawId Try.underlying68 _ (zeroRecs _) b1 g rfl HK4.out.two.m1 (.agg #[.int .i64 d.prod, .int .i64 d.seq]) rfl hkey.out ?_; rw [hgetw])
              have H0 : Hid (R4 w ks sd b1 b2 b3 g g2 (some ⟨g0, 0, none⟩) k c ord q m d wr.heap.size (.int .i64 ((0 : Nat) : Int)) (wr.alloc (.cells #[.int .i64 d.prod, .int .i64 d.seq] 36))) := Lib.hid
                ⟨0, Nat.zero_le _, rfl, Lib.hid ⟨g3, HK4.out, HHI.out, at_alloc wr d.cells 36, by simp⟩⟩
              clear q0 q1 hgetw HSI HK4 HST HHI
              generalize wr.alloc (.cells #[.int .i64 d.prod, .int .i64 d.seq] 36) = W4 at H0 ⊢
              generalize wr.heap.size = Bi at H0 HNB ⊢
              go_loopw [115] (fun v115 w9 => R4 w ks sd b1 b2 b3 g g2 (some ⟨g0, 0, none⟩) k c ord q m d Bi v115 w9) (fun v115 _ => m - (intOf v115).toNat)
              case atStart => exact H0.out
              case round =>
                clear H0
                obtain ⟨j, hj, rfl, Hr⟩ := hrel
                obtain ⟨g3, hst, hhi, hid, hbi⟩ := Hr.out
                have HST := Lib.hid hst
                have HHI := Lib.hid hhi
                have HID := Lib.hid hid
                have HBI := Lib.hid hbi
                clear Hr hst hhi hid hbi
                by_cases hlt4 : j < m
                · obtain ⟨a, y, rfl, hy, hwf, hat⟩ := (HRC.out.later HST.out.two.below).get hlt4
                  have HY := Lib.hid hy
                  have HWF := Lib.hid hwf
                  obtain ⟨q0, q1, q2, q3⟩ := At.four hat
                  clear hy hwf hat
                  have HSR := Lib.hid ((Below.refl wr.heap.size wr).alloc (Nat.le_refl _) (.cells #[.int .i64 y.off, .string y.key, .string y.value, .bool y.gone] 49))
                  have HK5 := Lib.hid (HST.out.step HSR.out)
                  have HR5 := Lib.hid (at_alloc wr y.cells 49)
                  have HI5 := Lib.hid (HID.out.later HSR.out)
                  have HL5 : Hid (wr.heap.size < (wr.alloc (.cells #[.int .i64 y.off, .string y.key, .string y.value, .bool y.gone] 49)).heap.size) := Lib.hid (by simp)
                  have HN5 : Hid (wr.heap.size ≠ b3) := Lib.hid (fun e => by have := HST.out.m3.lt; omega)
                  have HB5 := Lib.hid (Nat.lt_of_lt_of_le HBI.out HSR.out.size)
                  obtain ⟨d0, d1⟩ := At.two0 HI5.out
                  have hgetx := HGX.out
                  have hf4 := fld4 x
                  by_cases hjc : (j : Int) < x.count
                  · have HJC := Lib.hid hjc
                    go_wp2_with (at_lookup; refine MapU.wpList_look rfl (.tmp 121) (.tmp 122) 56 false rfl 36 38 lawId Try.underlying56 _ (zeroAck _) b2 g2 rfl HK5.out.two.m2 (.agg #[.int .i64 d.prod, .int .i64 d.seq]) rfl hkey.out ?_; rw [hgetx])
                    clear hf4 q0 q1 q2 q3 d0 d1 hgetx
                    have w1 : IntKind.i64.wrap (x.base + (j : Int)) = x.base + (j : Int) := by rw [IntKind.wrap_i64]; omega
                    refine wp_region_noPanic ?_
                    refine Loud.wp_drawn (fun u v => u.grownBy v (some b3)) 9 10 261 (fun _ _ _ h1 h2 => grown_trans h1 h2) (fun u m => grown_drewN u m _) (by kernel_rfl) (fun _ _ _ _ _ h => h) rfl (by kernel_rfl) ?_
                    apply Exists.intro
                    apply And.intro
                    case left =>
                      intro w2 hw2
                      have hw2' := grown_trans (grown_drewN (wr.alloc (.cells #[.int .i64 y.off, .string y.key, .string y.value, .bool y.gone] 49)) 1 (some b3)) hw2
                      have HM2 := Lib.hid (HK5.out.two.m2.kept hw2' (fun e => HK5.out.n23 (Option.some.inj e)))
                      obtain ⟨q0, q1, q2, q3⟩ := At.four0 (At.grown HR5.out HL5.out hw2' HN5.out)
                      obtain ⟨d0, d1⟩ := At.two0 (At.grown HI5.out HB5.out hw2' HNB.out)
                      have hlk : ∀ m' : Nat, (Instr.lookup 56 (.map (some b2)) (.agg #[.int .i64 d.prod, .int .i64 d.seq]) false).run Try.prog (w2.drewN m') = .ok (.agg #[.int .i64 x.step, .int .i64 x.id.prod, .int .i64 x.id.seq, .int .i64 x.err, .int .i64 x.base, .int .i64 x.count]) (w2.drewN m') := fun m' => by
                        have := MapU.IsMap.look (w := w2.drewN m') false (HM2.out.of_block rfl) lawId Try.underlying56 (zeroAck _) hkey.out
                        rwa [HGX.out] at this
                      have hf3 := fld3 x
                      clear hw2 hw2'
                      simp only [List.take_succ_cons, List.take_zero]
                      iterate 9 (go_big_quiet_step (fail))
                      exact wpQuiet_nil rfl
                    case right =>
                      simp only [List.take_succ_cons, List.take_zero, List.drop_succ_cons, List.drop_zero]
                      unfold Loud.loudW
                      rintro _ ⟨m2, rfl⟩
                      have HSE : Hid (∀ V : World, Below (wr.alloc (.cells #[.int .i64 y.off, .string y.key, .string y.value, .bool y.gone] 49)).heap.size (wr.alloc (.cells #[.int .i64 y.off, .string y.key, .string y.value, .bool y.gone] 49)) V → Calls Try.prog 24 #[.map (some b3), .string y.key, .int .i64 (x.base + (j : Int))] V fun e V' => e = .returned (.tuple #[]) ∧ ∃ g', K3 w b1 b2 b3 g g2 g' (some ⟨g0, 0, none⟩) k c ord V' ∧ HiOk (fun k' o' => S3 ks sd ord q j k' o' ∨ (k' = y.key ∧ o' = x.base + (j : Int))) g' ∧ V.grownBy V' (some b3)) := Lib.hid (fun V hV =>
                        (sees_any b3 (S3 ks sd ord q j) g3 y.key (x.base + (j : Int)) V (HK5.out.step hV).m3 HHI.out HWF.out.2.1).mono fun e V' ⟨h1, g', h2, h3, h4⟩ => ⟨h1, g', (HK5.out.step hV).grow h4 h2, h3, h4⟩)
                      go_wp2_with (go_at_call 24; refine Calls.mono (HSE.out _ ?_) ?_; exact ⟨rfl, rfl, rfl, Nat.le_refl _, fun _ _ => rfl⟩; rintro e w6 ⟨rfl, g3', hm6, hh6, hg6⟩)
                      have HQ6 := Lib.hid (And.intro hm6 (And.intro hh6 hg6))
                      clear hm6 hh6 hg6 HSE w1
                      refine ⟨⟨HQ6.out.2.2.os, HQ6.out.2.2.tape, HQ6.out.2.2.output, HQ6.out.2.2.size, HQ6.out.2.2.block⟩, ?_⟩
                      unfold Loud.loudW
                      rintro _ ⟨m4, rfl⟩
                      go_wp2_with (fail)
                      refine NoPanic.normal ?_
                      go_wp2_with (fail)
                      have hgr := grown_trans (grown_drewN (wr.alloc (.cells #[.int .i64 y.off, .string y.key, .string y.value, .bool y.gone] 49)) (1 + m2) (some b3)) HQ6.out.2.2
                      refine ⟨⟨j + 1, by omega, by go_num, Lib.hid ⟨g3', HQ6.out.1.step ⟨rfl, rfl, rfl, Nat.le_refl _, fun _ _ => rfl⟩, HQ6.out.2.1.congr (s3_step (st0 := x.step) HDQ.out fun st o key => ?_), (At.grown HI5.out HB5.out hgr HNB.out).of_block rfl, Nat.lt_of_lt_of_le HB5.out hgr.size⟩⟩, by simp [intOf]; omega⟩
                      rw [HBY.out]
                      constructor
                      · rintro ⟨r, r1, r2, r3, r4, r5⟩
                        obtain rfl := Option.some.inj (r1.symm.trans HY.out)
                        exact ⟨r3, r4, r5⟩
                      · rintro ⟨r3, r4, r5⟩
                        exact ⟨y, HY.out, HJC.out, r3, r4, r5⟩
                  · have HJC := Lib.hid hjc
                    have hjd : decide ((j : Int) < x.count) = false := decide_eq_false hjc
                    clear hjc
                    go_wp2_with (at_lookup; refine MapU.wpList_look rfl (.tmp 121) (.tmp 122) 56 false rfl 36 38 lawId Try.underlying56 _ (zeroAck _) b2 g2 rfl HK5.out.two.m2 (.agg #[.int .i64 d.prod, .int .i64 d.seq]) rfl hkey.out ?_; rw [hgetx])
                    refine ⟨⟨j + 1, by omega, by go_num, Lib.hid ⟨g3, HK5.out, HHI.out.congr (s3_skip HDQ.out fun st o key h => ?_), HI5.out, HB5.out⟩⟩, by simp [intOf]; omega⟩
                    obtain ⟨r, r1, r2, _⟩ := (HBY.out _ _ _ _).1 h
                    exact HJC.out r2
                · obtain rfl : j = m := by omega
                  go_wp2_with (fail)
                  refine ⟨⟨q + 1, by omega, by go_num, Lib.hid ⟨g3, HST.out, HHI.out.congr (s3_next HDQ.out fun k' st o key h => ?_)⟩⟩, by simp [intOf]; omega⟩
                  obtain ⟨r, r1, _⟩ := (HBY.out _ _ _ _).1 h
                  have := (List.getElem?_eq_some_iff.1 r1).1
                  rw [hlenr.out] at this; exact this
            · obtain rfl : q = k := by omega
              go_wp2_with (fail)
              have H0 : Hid (R5 w n2 ks l sd b1 b2 b3 g g2 A q c ord (.int .i64 ((0 : Nat) : Int)) wr) := Lib.hid
                ⟨0, Nat.zero_le _, rfl, Lib.hid ⟨g3, HST.out, HHI.out.congr (fun key o => by rw [← HOL.out]; exact s3_all HM.out l key o)⟩⟩
              clear HST HHI
              generalize wr = W5 at H0 ⊢
              go_loopw [140] (fun v140 w9 => R5 w n2 ks l sd b1 b2 b3 g g2 A q c ord v140 w9) (fun v140 _ => n2 - (intOf v140).toNat)
              case atStart => exact H0.out
              case round =>
                clear H0
                obtain ⟨i, hi, rfl, Hr⟩ := hrel
                obtain ⟨g3, hst, hhi⟩ := Hr.out
                have HST := Lib.hid hst
                have HHI := Lib.hid hhi
                clear Hr hst hhi
                by_cases hlt5 : i < n2
                · obtain ⟨a, f, A', m, c', rfl, hf, hwf, hat, hrc⟩ := HA2.out.get hlt5
                  have HX := Lib.hid hf
                  have HRC := Lib.hid hrc
                  have hm := hrc.2.1
                  unfold maxLen at hm
                  have hlenf : Hid (f.recs.length = m) := Lib.hid hrc.1
                  obtain ⟨q0, q1, q2, q3, q4⟩ := At.five (hat.later HST.out.two.below)
                  clear hf hwf hat hrc
                  have HSF := Lib.hid ((Below.refl wr.heap.size wr).alloc (Nat.le_refl _) (.cells #[.int .i64 f.step, .int .i64 f.at_, .int .i64 f.from_, .int .i64 f.err, .slice A' m c'] 52))
                  have HK4 := Lib.hid (HST.out.step HSF.out)
                  by_cases herr : f.err = 0
                  · have hd : (f.err == 0) = true := by simpa using herr
                    have HERR := Lib.hid herr
                    clear herr
                    go_wp2_with (fail)
                    have H0 : Hid (R6 w ks l sd b1 b2 b3 g g2 A q c ord i m (.int .i64 ((0 : Nat) : Int)) (wr.alloc (.cells #[.int .i64 f.step, .int .i64 f.at_, .int .i64 f.from_, .int .i64 f.err, .slice A' m c'] 52))) := Lib.hid
                      ⟨0, Nat.zero_le _, rfl, Lib.hid ⟨g3, HK4.out, HHI.out⟩⟩
                    clear q0 q1 q2 q3 q4 HSF HK4 HST HHI
                    generalize wr.alloc (.cells #[.int .i64 f.step, .int .i64 f.at_, .int .i64 f.from_, .int .i64 f.err, .slice A' m c'] 52) = W6 at H0 ⊢
                    go_loopw [150] (fun v150 w9 => R6 w ks l sd b1 b2 b3 g g2 A q c ord i m v150 w9) (fun v150 _ => m - (intOf v150).toNat)
                    case atStart => exact H0.out
                    case round =>
                      clear H0
                      obtain ⟨j, hj, rfl, Hr⟩ := hrel
                      obtain ⟨g3, hst, hhi⟩ := Hr.out
                      have HST := Lib.hid hst
                      have HHI := Lib.hid hhi
                      clear Hr hst hhi
                      by_cases hlt6 : j < m
                      · obtain ⟨a6, y, rfl, hy, hwf, hat⟩ := (HRC.out.later HST.out.two.below).get hlt6
                        have HY := Lib.hid hy
                        obtain ⟨q0, q1, q2, q3⟩ := At.four hat
                        have HSR := Lib.hid ((Below.refl wr.heap.size wr).alloc (Nat.le_refl _) (.cells #[.int .i64 y.off, .string y.key, .string y.value, .bool y.gone] 49))
                        have HK5 := Lib.hid (HST.out.step HSR.out)
                        have HSE := Lib.hid (sees_any b3 (S5 ks l sd i j) g3 y.key y.off _ HK5.out.m3 HHI.out hwf.2.1)
                        clear hy hwf hat
                        go_wp2_with (go_at_call 24; (refine (HSE.out).mono ?_); rintro e w6 ⟨rfl, g3', hm6, hh6, hg6⟩)
                        refine ⟨⟨j + 1, by omega, by go_num, Lib.hid ⟨g3', HK5.out.grow hg6 hm6, hh6.congr (s5_step HX.out HERR.out HY.out)⟩⟩, by simp [intOf]; omega⟩
                      · obtain rfl : j = m := by omega
                        go_wp2_with (fail)
                        refine ⟨⟨i + 1, by omega, by go_num, Lib.hid ⟨g3, HST.out, HHI.out.congr (by rw [← hlenf.out]; exact s5_next HX.out)⟩⟩, by simp [intOf]; omega⟩
                  · have hd : (f.err == 0) = false := by simpa using herr
                    have HERR := Lib.hid herr
                    clear herr
                    go_wp2_with (fail)
                    refine ⟨⟨i + 1, by omega, by go_num, Lib.hid ⟨g3, HK4.out, HHI.out.congr (s5_skip HX.out HERR.out)⟩⟩, by simp [intOf]; omega⟩
                · obtain rfl : n2 = i := by omega
                  have HH5 : Hid (HiOk (S5 ks l sd l.length 0) g3) := Lib.hid (by rw [hlen2.out]; exact HHI.out)
                  clear HHI
                  go_wp2_with (fail)
                  clear hi hlt5
                  have H0 : Hid (R7 w n2 ks l sd b1 b2 b3 g g2 g3 A q c ord (.int .i64 ((0 : Nat) : Int)) wr) := Lib.hid
                    ⟨0, Nat.zero_le _, rfl, Lib.hid ⟨HST.out, fun _ h => absurd h (by omega)⟩⟩
                  clear HST
                  generalize wr = W7 at H0 ⊢
                  go_loopw [164] (fun v164 w9 => R7 w n2 ks l sd b1 b2 b3 g g2 g3 A q c ord v164 w9) (fun v164 _ => n2 - (intOf v164).toNat)
                  case atStart => exact H0.out
                  case round =>
                    clear H0
                    obtain ⟨i, hi, rfl, Hr⟩ := hrel
                    have HST := Lib.hid Hr.out.1
                    have HNB := Lib.hid Hr.out.2
                    clear Hr
                    by_cases hlt7 : i < n2
                    · obtain ⟨a, f, A', m, c', rfl, hf, hwf, hat, hrc⟩ := HA2.out.get hlt7
                      have HX := Lib.hid hf
                      have HRC := Lib.hid hrc
                      have hm := hrc.2.1
                      unfold maxLen at hm
                      have hlenf : Hid (f.recs.length = m) := Lib.hid hrc.1
                      obtain ⟨q0, q1, q2, q3, q4⟩ := At.five (hat.later HST.out.two.below)
                      clear hf hwf hat hrc
                      have HSF := Lib.hid ((Below.refl wr.heap.size wr).alloc (Nat.le_refl _) (.cells #[.int .i64 f.step, .int .i64 f.at_, .int .i64 f.from_, .int .i64 f.err, .slice A' m c'] 52))
                      have HK4 := Lib.hid (HST.out.step HSF.out)
                      have skip : ∀ V : World, K3 w b1 b2 b3 g g2 g3 A q c ord V → keepBad ks l sd f = false → R7 w n2 ks l sd b1 b2 b3 g g2 g3 A q c ord (.int .i64 ((i : Int) + 1)) V ∧ n2 - (intOf (.int .i64 ((i : Int) + 1))).toNat < n2 - (intOf (.int .i64 (i : Int))).toNat := fun V hV h0 => by
                        refine ⟨⟨i + 1, by omega, by go_num, Lib.hid ⟨hV, fun j hj => ?_⟩⟩, by simp [intOf]; omega⟩
                        rcases Nat.lt_succ_iff_lt_or_eq.1 hj with h | rfl
                        · exact HNB.out j h
                        · rw [keepAt_of HX.out, h0]
                      have SK7 := Lib.hid skip
                      clear skip
                      by_cases herr : f.err = 0
                      · have hd : (f.err != 0) = false := by simpa using herr
                        have HERR := Lib.hid herr
                        clear herr
                        by_cases hm0 : 0 < m
                        · have hm0d : ((m : Int) == 0) = false := beq_eq_false_iff_ne.2 (by omega)
                          have HF5 := Lib.hid (at_alloc wr (f.cells (.slice A' m c')) 52)
                          obtain ⟨a4, z, rfl, hz, _, hatz⟩ := (HRC.out.later HST.out.two.below).get (show m - 1 < m by omega)
                          have hE : lastOff f.recs = z.off := by unfold lastOff; rw [hlenf.out, hz]
                          have HE := Lib.hid hE
                          have HATZ := Lib.hid (hatz.later HSF.out)
                          clear hE hz hatz
                          have hmm := HMM.out
                          go_wp2_with (fail)
                          clear hmm q0 q1 q2 q3 q4
                          have H0 : Hid (R8 (wr.alloc (.cells #[.int .i64 f.step, .int .i64 f.at_, .int .i64 f.from_, .int .i64 f.err, .slice (some a4) m c'] 52)) f (wr.alloc (.cells #[.int .i64 f.step, .int .i64 f.at_, .int .i64 f.from_, .int .i64 f.err, .slice (some a4) m c'] 52)).heap.size m (.int .i64 ((0 : Nat) : Int)) ((wr.alloc (.cells #[.int .i64 f.step, .int .i64 f.at_, .int .i64 f.from_, .int .i64 f.err, .slice (some a4) m c'] 52)).alloc (.map #[] 0))) := Lib.hid
                            ⟨0, Nat.zero_le _, rfl, Lib.hid ⟨_, (Below.refl _ _).alloc (Nat.le_refl _) _, MapU.made _ Try.prog 3, have_zero _⟩⟩
                          rw [show (wr.alloc (.cells #[.int .i64 f.step, .int .i64 f.at_, .int .i64 f.from_, .int .i64 f.err, .slice (some a4) m c'] 52)).heap.size = wr.heap.size + 1 by simp] at H0
                          generalize (wr.alloc (.cells #[.int .i64 f.step, .int .i64 f.at_, .int .i64 f.from_, .int .i64 f.err, .slice (some a4) m c'] 52)).alloc (.map #[] 0) = W8 at H0 ⊢
                          have HLT : Hid ((wr.alloc (.cells #[.int .i64 f.step, .int .i64 f.at_, .int .i64 f.from_, .int .i64 f.err, .slice (some a4) m c'] 52)).heap.size ≤ wr.heap.size + 1) := Lib.hid (by simp)
                          have HF5' : Hid (At (wr.alloc (.cells #[.int .i64 f.step, .int .i64 f.at_, .int .i64 f.from_, .int .i64 f.err, .slice (some a4) m c'] 52)) ⟨wr.heap.size, 0, none⟩ [.int .i64 f.step, .int .i64 f.at_, .int .i64 f.from_, .int .i64 f.err, .slice (some a4) m c']) := HF5
                          clear HF5 HST HSF
                          generalize wr.alloc (.cells #[.int .i64 f.step, .int .i64 f.at_, .int .i64 f.from_, .int .i64 f.err, .slice (some a4) m c'] 52) = W6 at H0 HK4 HATZ HLT HF5' ⊢
                          generalize wr.heap.size + 1 = b4 at H0 HLT ⊢
                          generalize wr.heap.size = Bf at HF5' ⊢
                          go_loopw [182] (fun v182 w9 => R8 W6 f b4 m v182 w9) (fun v182 _ => m - (intOf v182).toNat)
                          case atStart => exact H0.out
                          case round =>
                            clear H0
                            obtain ⟨j, hj, rfl, Hr⟩ := hrel
                            obtain ⟨g4, hb8, hm8, hh8⟩ := Hr.out
                            have HB8 := Lib.hid hb8
                            have HM8 := Lib.hid hm8
                            have HH8 := Lib.hid hh8
                            clear Hr hb8 hm8 hh8
                            by_cases hlt8 : j < m
                            · obtain ⟨a8, y, e8, hy, hwf, hat⟩ := (HRC.out.later (bstep HK4.out.two.below HB8.out)).get hlt8
                              obtain rfl := Option.some.inj e8
                              have HY := Lib.hid hy
                              obtain ⟨q0, q1, q2, q3⟩ := At.four hat
                              have HSR := Lib.hid ((Below.refl wr.heap.size wr).alloc (Nat.le_refl _) (.cells #[.int .i64 y.off, .string y.key, .string y.value, .bool y.gone] 49))
                              have HM9 := Lib.hid (HM8.out.of_block (HSR.out.block _ HM8.out.lt))
                              have hkey : Hid (MapU.IsKey Try.prog 3 (.int .i64 y.off)) := Lib.hid (int_key hwf.1)
                              clear hy hwf hat e8
                              go_wp2_with (at_mapUpdate; refine MapU.wpList_put rfl (.tmp 186) (.tmp 188) (.const (.bool true)) 74 rfl 3 4 lawInt Try.underlying74 b4 g4 rfl HM9.out (.int .i64 y.off) (.bool true) rfl rfl hkey.out ?_; intro w7 hm7 hg7; go_frame)
                              refine ⟨⟨j + 1, by omega, by go_num, Lib.hid ⟨_, (bstep HB8.out HSR.out).trans (below_grown hg7 (fun j hj => by cases hj; exact HLT.out) (bstep HB8.out HSR.out).size), hm7, have_put HH8.out HY.out⟩⟩, by simp [intOf]; omega⟩
                            · obtain rfl : j = m := by omega
                              have HHV : Hid (HaveOk f.recs f.recs.length g4) := Lib.hid (by rw [hlenf.out]; exact HH8.out)
                              have HK8 := Lib.hid (HK4.out.step HB8.out)
                              have HF8 := Lib.hid (HF5'.out.later HB8.out)
                              have HZ8 := Lib.hid (HATZ.out.later HB8.out)
                              clear HH8 HK4 HF5' HATZ HB8
                              obtain ⟨z0, z1, z2, z3⟩ := At.four HZ8.out
                              obtain ⟨y0, y1, y2, y3, y4⟩ := At.five0 HF8.out
                              have w1 : IntKind.i64.wrap ((j : Int) - 1) = (j : Int) - 1 := by rw [IntKind.wrap_i64]; omega
                              have w2 : 0 ≤ (j : Int) - 1 := by omega
                              have w3 : (j : Int) - 1 < (j : Int) := by omega
                              have w4 : ((j : Int) - 1).toNat = j - 1 := by omega
                              go_wp2_with (fail)
                              clear z0 z1 z2 z3 y0 y1 y2 y3 y4 w1 w2 w3 w4 HZ8
                              obtain ⟨wo, rfl⟩ : ∃ wo : World, wo = wr := ⟨_, rfl⟩
                              go_loopw [201] (fun v201 w9 => R9 wo ks l sd f ord q v201 w9) (fun v201 _ => q - (intOf v201).toNat)
                              case atStart => exact ⟨0, by omega, rfl, Lib.hid ⟨Below.refl _ _, fun _ _ _ _ _ _ h => absurd h (by omega)⟩⟩
                              case round =>
                                obtain ⟨p, hp, rfl, Hr9⟩ := hrel
                                have HK9 := Lib.hid (HK8.out.step Hr9.out.1)
                                by_cases hlt9 : p < q
                                · obtain ⟨g0, d, rfl, hd, hat⟩ := HK9.out.two.id_at HOL.out hlt9
                                  have HDQ := Lib.hid hd
                                  obtain ⟨s, Aw, mw, cw, x, hgs, hrcw, hgx, hgood, hi1, hi2', hby⟩ := HM.out.at (List.mem_of_getElem? hd)
                                  have HRW := Lib.hid hrcw
                                  have HBY := Lib.hid hby
                                  have hmw := hrcw.2.1
                                  unfold maxLen at hmw
                                  have hlenr : Hid (s.recs.length = mw) := Lib.hid hrcw.1
                                  obtain ⟨z1, z2, z3, z4⟩ := good_nums hgood
                                  have hkey : Hid (MapU.IsKey Try.prog 36 (.agg #[.int .i64 d.prod, .int .i64 d.seq])) := Lib.hid (id_key (a := d) hi1 hi2')
                                  obtain ⟨q0, q1⟩ := At.two0 hat
                                  have hgetw : MapU.seen false (.slice none 0 0) (g (.agg #[.int .i64 d.prod, .int .i64 d.seq])) = .slice Aw mw cw := by rw [show g (.agg #[.int .i64 d.prod, .int .i64 d.seq]) = some (.slice Aw mw cw) from hgs]; rfl
                                  have hgetx : MapU.seen false (Ack.v ⟨0, ⟨0, 0⟩, 0, 0, 0⟩) (g2 (.agg #[.int .i64 d.prod, .int .i64 d.seq])) = .agg #[.int .i64 x.step, .int .i64 x.id.prod, .int .i64 x.id.seq, .int .i64 x.err, .int .i64 x.base, .int .i64 x.count] := by rw [show g2 (.agg #[.int .i64 d.prod, .int .i64 d.seq]) = some x.v from hgx]; rfl
                                  clear hd hrcw hby hgs hgx hgood hat hi1 hi2'
                                  have HSA := Lib.hid ((Below.refl wr.heap.size wr).alloc (Nat.le_refl _) (.cells #[.int .i64 d.prod, .int .i64 d.seq] 36))
                                  have HSB := Lib.hid (((Below.refl wr.heap.size wr).alloc (Nat.le_refl _) (.cells #[.int .i64 d.prod, .int .i64 d.seq] 36)).alloc (by simp) (.cells #[.int .i64 x.step, .int .i64 x.id.prod, .int .i64 x.id.seq, .int .i64 x.err, .int .i64 x.base, .int .i64 x.count] 38))
                                  have HKA := Lib.hid (HK9.out.step HSA.out)
                                  have HKB := Lib.hid (HK9.out.step HSB.out)
                                  have HIB := Lib.hid ((at_alloc wr d.cells 36).later ((Below.refl _ _).alloc (Nat.le_refl _) (.cells #[.int .i64 x.step, .int .i64 x.id.prod, .int .i64 x.id.seq, .int .i64 x.err, .int .i64 x.base, .int .i64 x.count] 38)))
                                  have HXB := Lib.hid (at_alloc (wr.alloc (.cells #[.int .i64 d.prod, .int .i64 d.seq] 36)) x.cells 38)
                                  have HMB := Lib.hid (HM8.out.of_block ((bstep Hr9.out.1 HSB.out).block _ HM8.out.lt))
                                  have HFB := Lib.hid (HF8.out.later (bstep Hr9.out.1 HSB.out))
                                  have HWB := Lib.hid (bstep Hr9.out.1 HSB.out)
                                  obtain ⟨d0, d1⟩ := At.two0 HIB.out
                                  go_wp2_with (first
                                    | (at_lookup; refine MapU.wpList_look rfl (.tmp 205) (.tmp 206) 56 false rfl 36 38 lawId Try.underlying56 _ (zeroAck _) b2 g2 rfl HKA.out.two.m2 (.agg #[.int .i64 d.prod, .int .i64 d.seq]) rfl hkey.out ?_; rw [hgetx])
                                    | (at_lookup; refine MapU.wpList_look rfl (.tmp 208) (.tmp 209) 68 false rfl 36 44 lawId Try.underlying68 _ (zeroRecs _) b1 g rfl HKB.out.two.m1 (.agg #[.int .i64 d.prod, .int .i64 d.seq]) rfl hkey.out ?_; rw [hgetw]))
                                  clear q0 q1 d0 d1 hgetw hgetx HSA HSB HKA HIB HK9
                                  rw [show (wr.alloc (.cells #[.int .i64 d.prod, .int .i64 d.seq] 36)).heap.size = wr.heap.size + 1 by simp] at HXB
                                  have HXB' : Hid (At ((wr.alloc (.cells #[.int .i64 d.prod, .int .i64 d.seq] 36)).alloc (.cells #[.int .i64 x.step, .int .i64 x.id.prod, .int .i64 x.id.seq, .int .i64 x.err, .int .i64 x.base, .int .i64 x.count] 38)) ⟨wr.heap.size + 1, 0, none⟩ x.cells) := HXB
                                  clear HXB
                                  generalize (wr.alloc (.cells #[.int .i64 d.prod, .int .i64 d.seq] 36)).alloc (.cells #[.int .i64 x.step, .int .i64 x.id.prod, .int .i64 x.id.seq, .int .i64 x.err, .int .i64 x.base, .int .i64 x.count] 38) = W9 at HKB HXB' HMB HFB HWB ⊢
                                  generalize wr.heap.size + 1 = B38 at HXB' ⊢
                                  go_loopw [212] (fun v212 w9 => R10 W9 ks l sd f d mw v212 w9) (fun v212 _ => mw - (intOf v212).toNat)
                                  case atStart => exact ⟨0, by omega, rfl, Lib.hid ⟨Below.refl _ _, fun _ _ _ _ h => absurd h (by omega)⟩⟩
                                  case round =>
                                    obtain ⟨j2, hj2, rfl, Hr10⟩ := hrel
                                    by_cases hlt10 : j2 < mw
                                    · obtain ⟨a10, y, rfl, hy, hwfy, haty⟩ := (HRW.out.later (HKB.out.two.below.trans (Hr10.out.1.mono HKB.out.two.below.size))).get hlt10
                                      have HY := Lib.hid hy
                                      have HWY := Lib.hid hwfy
                                      obtain ⟨q0, q1, q2, q3⟩ := At.four haty
                                      clear hy hwfy haty
                                      have HSR := Lib.hid ((Below.refl wr.heap.size wr).alloc (Nat.le_refl _) (.cells #[.int .i64 y.off, .string y.key, .string y.value, .bool y.gone] 49))
                                      have HBR := Lib.hid (bstep Hr10.out.1 HSR.out)
                                      have HKC := Lib.hid (HKB.out.step HBR.out)
                                      have HMC := Lib.hid (HMB.out.of_block (HBR.out.block _ HMB.out.lt))
                                      obtain ⟨r0, r1, r2, r3⟩ := At.four0 (at_alloc wr y.cells 49)
                                      obtain ⟨p0, p1, p2, p3, p4, p5⟩ := At.six0 (HXB'.out.later HBR.out)
                                      obtain ⟨y0, y1, y2, y3, y4⟩ := At.five0 (HFB.out.later HBR.out)
                                      by_cases hjc : (j2 : Int) < x.count
                                      · have hjd : decide ((j2 : Int) < x.count) = true := decide_eq_true hjc
                                        have HHE := Lib.hid ((HBY.out j2 x.step (x.base + (j2 : Int)) y.key).2 ⟨y, HY.out, hjc, rfl, rfl, rfl⟩)
                                        obtain ⟨o1, hg3, hiff⟩ := hi_later HH5.out ((held_iff _ _ _ _ _).2 ⟨d, j2, HHE.out⟩)
                                        have HIF := Lib.hid hiff
                                        have hk3 : MapU.IsKey Try.prog 9 (.string y.key) := str_key HWY.out.2.1
                                        have hk4 : MapU.IsKey Try.prog 3 (.int .i64 (x.base + (j2 : Int))) := int_key (WalkArith.wf_i64 (by omega))
                                        have hlk3 := MapU.IsMap.look false HKC.out.m3 lawStr Try.underlying72 (zeroInt _) hk3
                                        rw [hg3] at hlk3
                                        have HLK3 : Hid ((Instr.lookup 72 (.map (some b3)) (.string y.key) false).run Try.prog (wr.alloc (.cells #[.int .i64 y.off, .string y.key, .string y.value, .bool y.gone] 49)) = .ok (.int .i64 o1) (wr.alloc (.cells #[.int .i64 y.off, .string y.key, .string y.value, .bool y.gone] 49))) := Lib.hid hlk3
                                        have HLK4 : Hid ((Instr.lookup 74 (.map (some b4)) (.int .i64 (x.base + (j2 : Int))) false).run Try.prog (wr.alloc (.cells #[.int .i64 y.off, .string y.key, .string y.value, .bool y.gone] 49)) = .ok (MapU.seen false (.bool false) (g4 (.int .i64 (x.base + (j2 : Int))))) (wr.alloc (.cells #[.int .i64 y.off, .string y.key, .string y.value, .bool y.gone] 49))) := Lib.hid (MapU.IsMap.look false HMC.out lawInt Try.underlying74 (zeroBool _) hk4)
                                        have skip : ∀ (V : World), Below W9.heap.size W9 V → ¬ LacksBy ks l sd f (lastOff f.recs) x.step (x.base + (j2 : Int)) y.key → R10 W9 ks l sd f d mw (.int .i64 ((j2 : Int) + 1)) V ∧ mw - (intOf (.int .i64 ((j2 : Int) + 1))).toNat < mw - (intOf (.int .i64 (j2 : Int))).toNat := fun V hV hno => by
                                          refine ⟨⟨j2 + 1, by omega, by go_num, Lib.hid ⟨hV, fun j' st o key hj' h => ?_⟩⟩, by simp [intOf]; omega⟩
                                          rcases Nat.lt_succ_iff_lt_or_eq.1 hj' with h9 | rfl
                                          · exact Hr10.out.2 j' st o key h9 h
                                          · obtain ⟨r, e1, e2, rfl, rfl, rfl⟩ := (HBY.out _ _ _ _).1 h
                                            obtain rfl := Option.some.inj (e1.symm.trans HY.out)
                                            exact hno
                                        have SK := Lib.hid skip
                                        clear skip hg3 hiff hk3 hk4 hlk3
                                        by_cases hst : x.step < f.step
                                        · have hsd : decide (x.step < f.step) = true := decide_eq_true hst
                                          have HS1 := Lib.hid hst
                                          clear hst
                                          by_cases hA : f.from_ ≤ x.base + (j2 : Int)
                                          · have hAd : decide (f.from_ ≤ x.base + (j2 : Int)) = true := decide_eq_true hA
                                            have HAA := Lib.hid hA
                                            clear hA
                                            by_cases hBB : x.base + (j2 : Int) ≤ z.off
                                            · have hBd : decide (x.base + (j2 : Int) ≤ z.off) = true := decide_eq_true hBB
                                              have HBB := Lib.hid hBB
                                              clear hBB
                                              cases hh : hasOff f.recs (x.base + (j2 : Int)) with
                                              | true =>
                                                have HH := Lib.hid hh
                                                have hlk4 := HLK4.out
                                                rw [(have_all HHV.out _).1 hh] at hlk4
                                                have hlk4' : (Instr.lookup 74 (.map (some b4)) (.int .i64 (x.base + (j2 : Int))) false).run Try.prog (wr.alloc (.cells #[.int .i64 y.off, .string y.key, .string y.value, .bool y.gone] 49)) = .ok (.bool true) (wr.alloc (.cells #[.int .i64 y.off, .string y.key, .string y.value, .bool y.gone] 49)) := hlk4
                                                clear hlk4 hh
                                                go_wp2_with (fail)
                                                exact SK.out _ HBR.out (fun h => by have := h.2.2.2.1; rw [HH.out] at this; exact nomatch this)
                                              | false =>
                                                have HH := Lib.hid hh
                                                have hlk4 := HLK4.out
                                                rw [(have_all HHV.out _).2 hh] at hlk4
                                                have hlk4' : (Instr.lookup 74 (.map (some b4)) (.int .i64 (x.base + (j2 : Int))) false).run Try.prog (wr.alloc (.cells #[.int .i64 y.off, .string y.key, .string y.value, .bool y.gone] 49)) = .ok (.bool false) (wr.alloc (.cells #[.int .i64 y.off, .string y.key, .string y.value, .bool y.gone] 49)) := hlk4
                                                have hlk3 := HLK3.out
                                                clear hlk4 hh
                                                by_cases ho : o1 ≤ x.base + (j2 : Int)
                                                · have hod : decide (o1 ≤ x.base + (j2 : Int)) = true := decide_eq_true ho
                                                  have HNL := Lib.hid (HIF.out.1 ho)
                                                  clear ho
                                                  go_wp2_with (fail)
                                                  go_ret2
                                                  rw [keepAns_bad HX.out (by
                                                    unfold keepBad
                                                    rw [lacksB_true ⟨_, _, _, (held_iff _ _ _ _ _).2 ⟨d, j2, HHE.out⟩, HS1.out, HAA.out, by rw [HE.out]; exact HBB.out, HH.out, HNL.out⟩, decide_eq_true HERR.out, hlenf.out, decide_eq_true hm0]
                                                    rfl) HNB.out]
                                                  exact ⟨rfl, HKC.out.two.below⟩
                                                · have hod : decide (o1 ≤ x.base + (j2 : Int)) = false := decide_eq_false ho
                                                  have HNL := Lib.hid ho
                                                  clear ho
                                                  go_wp2_with (fail)
                                                  exact SK.out _ HBR.out (fun h => by have h3 := HIF.out.2 h.2.2.2.2; have := HNL.out; omega)
                                            · have hBd : decide (x.base + (j2 : Int) ≤ z.off) = false := decide_eq_false hBB
                                              have HBB := Lib.hid hBB
                                              clear hBB
                                              go_wp2_with (fail)
                                              exact SK.out _ HBR.out (fun h => by have h3 := h.2.2.1; rw [HE.out] at h3; have := HBB.out; omega)
                                          · have hAd : decide (f.from_ ≤ x.base + (j2 : Int)) = false := decide_eq_false hA
                                            have HAA := Lib.hid hA
                                            clear hA
                                            go_wp2_with (fail)
                                            exact SK.out _ HBR.out (fun h => by have h3 := h.2.1; have := HAA.out; omega)
                                        · have hsd : decide (x.step < f.step) = false := decide_eq_false hst
                                          have HS1 := Lib.hid hst
                                          clear hst
                                          go_wp2_with (fail)
                                          exact SK.out _ HBR.out (fun h => by have h3 := h.1; have := HS1.out; omega)
                                      · have hjd : decide ((j2 : Int) < x.count) = false := decide_eq_false hjc
                                        have HJC := Lib.hid hjc
                                        clear hjc
                                        go_wp2_with (fail)
                                        refine ⟨⟨j2 + 1, by omega, by go_num, Lib.hid ⟨HBR.out, fun j' st o key hj' h => ?_⟩⟩, by simp [intOf]; omega⟩
                                        rcases Nat.lt_succ_iff_lt_or_eq.1 hj' with h9 | rfl
                                        · exact Hr10.out.2 j' st o key h9 h
                                        · obtain ⟨r, e1, e2, _⟩ := (HBY.out _ _ _ _).1 h
                                          exact absurd e2 HJC.out
                                    · obtain rfl : j2 = mw := by omega
                                      go_wp2_with (fail)
                                      go_roundw
                                      case rel =>
                                        refine ⟨p + 1, by omega, by go_num, Lib.hid ⟨bstep HWB.out Hr10.out.1, fun p' d' k' st o key hp' hd' h => ?_⟩⟩
                                        rcases Nat.lt_succ_iff_lt_or_eq.1 hp' with h9 | rfl
                                        · exact Hr9.out.2 p' d' k' st o key h9 hd' h
                                        · obtain rfl := Option.some.inj (hd'.symm.trans HDQ.out)
                                          refine Hr10.out.2 k' st o key ?_ h
                                          obtain ⟨r, e1, _⟩ := (HBY.out _ _ _ _).1 h
                                          have := (List.getElem?_eq_some_iff.1 e1).1
                                          rw [hlenr.out] at this; exact this
                                      case measure => simp [intOf]; omega
                                · obtain rfl : p = q := by omega
                                  go_wp2_with (fail)
                                  refine SK7.out _ HK9.out ?_
                                  unfold keepBad
                                  rw [lacksB_false (by
                                    rintro ⟨st, o, key, hheld, hl⟩
                                    obtain ⟨d, k', h⟩ := (held_iff _ _ _ _ _).1 hheld
                                    obtain ⟨p', hp', e⟩ := List.getElem_of_mem (HM.out.held_ord h)
                                    exact Hr9.out.2 p' d k' st o key (by rw [← HOL.out]; exact hp') (by rw [List.getElem?_eq_getElem hp', e]) h hl)]
                                  simp
                        · obtain rfl : m = 0 := by omega
                          go_wp2_with (fail)
                          exact SK7.out _ HK4.out (by unfold keepBad; rw [hlenf.out]; simp)
                      · have hd : (f.err != 0) = true := by simpa using herr
                        have HERR := Lib.hid herr
                        clear herr
                        go_wp2_with (fail)
                        exact SK7.out _ HK4.out (by unfold keepBad; rw [decide_eq_false HERR.out]; rfl)
                    · obtain rfl : i = n2 := by omega
                      go_wp2_with (fail)
                      go_ret2
                      rw [keepAns_ok (fun j hj => HNB.out j (by rw [hlen2.out] at hj; exact hj))]
                      exact ⟨rfl, HST.out.two.below⟩
end Go.Proofs.Ytkgidfehndkhmaa
