/- The walk of audit.Fetches. -/
import Derived.Test.YtkgidfehndkhmaaAudLeaf
import Derived.Test.YtkgidfehndkhmaaAudEq
import Derived.Test.YtkgidfehndkhmaaAudSeen
import Derived.Test.YtkgidfehndkhmaaQuietArms
import Derived.Test.YtkgidfehndkhmaaMem
import Derived.Maps.RangeWalk
import Derived.Deep.CutBlock
import Derived.Deep.DeepCutAuto
namespace Go.Proofs.Ytkgidfehndkhmaa
open Go.RowKit Go.PostAud Go.PostMem
theorem bare_at (x : Rec) (w : World) : Calls Try.prog 21 #[.agg #[.int .i64 x.off, .string x.key, .string x.value, .bool x.gone]] w fun e w' => e = .returned (.agg #[.int .i64 0, .string x.key, .string x.value, .bool x.gone]) ∧ Below w.heap.size w w' := bare_any x w
structure FSt (w : World) (b b2 : Nat) (G g : Value → Option Value) (wr : World) : Prop where
  below : Below w.heap.size w wr
  lt1 : w.heap.size ≤ b
  lt2 : w.heap.size ≤ b2
  ne : b ≠ b2
  m1 : MapU.IsMap wr Try.prog 49 b G
  m2 : MapU.IsMap wr Try.prog 3 b2 g
theorem FSt.step {w : World} {b b2 : Nat} {G g : Value → Option Value} {wr wx : World} (h : FSt w b b2 G g wr) (hb : Below wr.heap.size wr wx) : FSt w b b2 G g wx :=
  ⟨bstep h.below hb, h.lt1, h.lt2, h.ne, h.m1.of_block (hb.block _ h.m1.lt), h.m2.of_block (hb.block _ h.m2.lt)⟩
theorem FSt.put {w : World} {b b2 : Nat} {G g g' : Value → Option Value} {wr wx : World} (h : FSt w b b2 G g wr) (hg : wr.grownBy wx (some b2)) (hm : MapU.IsMap wx Try.prog 3 b2 g') : FSt w b b2 G g' wx :=
  ⟨h.below.trans (below_grown hg (fun j hj => by cases hj; exact h.lt2) h.below.size), h.lt1, h.lt2, h.ne, h.m1.kept hg (fun e => h.ne (Option.some.inj e)), hm⟩
def HRel (w : World) (n : Nat) (l : List Fet) (sd : List Sd) (b b2 : Nat) (G : Value → Option Value) (v43 : Value) (wr : World) : Prop := ∃ (i : Nat), i ≤ n ∧ v43 = .int .i64 (i : Int) ∧ Hid (∃ g, FSt w b b2 G g wr ∧ AtOk l i g ∧ ∀ j, j < i → fetAt l sd j = 0)
/-- in a fetch: its cells lie in block B -/
def IRel (w : World) (m : Nat) (l : List Fet) (sd : List Sd) (i : Nat) (f : Fet) (S : Value) (b b2 B : Nat) (G g : Value → Option Value) (v54 v14 : Value) (wr : World) : Prop := ∃ (k : Nat) (u : Bool), k ≤ m ∧ v54 = .int .i64 (k : Int) ∧ v14 = .bool u ∧
  Hid (FSt w b b2 G g wr ∧ B < wr.heap.size ∧ At wr ⟨B, 0, none⟩ (f.cells S) ∧ u = ((f.recs.take k).any fun r => !saidIn sd r) ∧ ∀ q x, q < k → f.recs[q]? = some x → recBad l i f q x = false)
def JRel (w : World) (m : Nat) (f : Fet) (b b2 : Nat) (G g : Value → Option Value) (v110 : Value) (wr : World) : Prop := ∃ (k : Nat), k ≤ m ∧ v110 = .int .i64 (k : Int) ∧ Hid (∃ g', FSt w b b2 G g' wr ∧ AtPut g f.recs k g')
/-- while the first map is made -/
def GRel (w0 : World) (n : Nat) (sd : List Sd) (b : Nat) (v24 : Value) (wr : World) : Prop := ∃ (i : Nat), i ≤ n ∧ v24 = .int .i64 (i : Int) ∧ Hid (∃ g, Below w0.heap.size w0 wr ∧ w0.heap.size ≤ b ∧ MapU.IsMap wr Try.prog 49 b g ∧ Given (saidTo sd i [] 0) g)
def GRel2 (w0 : World) (m : Nat) (sd : List Sd) (i : Nat) (recs : List Rec) (b : Nat) (v31 : Value) (wr : World) : Prop := ∃ (k : Nat), k ≤ m ∧ v31 = .int .i64 (k : Int) ∧ Hid (∃ g, Below w0.heap.size w0 wr ∧ w0.heap.size ≤ b ∧ MapU.IsMap wr Try.prog 49 b g ∧ Given (saidTo sd i recs k) g)
set_option maxRecDepth 100000 in
set_option maxHeartbeats 6400000 in
theorem Fetches_any (A A2 : Option Addr) (n cap n2 cap2 base : Nat) (l : List Fet) (sd : List Sd) (w : World) (hA : FetsAt w base A n l) (hD : SdsAt w base A2 n2 sd) :
    Calls Try.prog 13 #[.slice A n cap, .slice A2 n2 cap2] w fun e w' => e = .returned (.tuple #[.int .i64 (fetAns l sd).1, .int .i64 (fetAns l sd).2]) ∧ Below w.heap.size w w' := by
  have hn := hA.2.1
  have hn2 := hD.2.1
  unfold maxLen at hn hn2
  have HA := Lib.hid hA
  have HD := Lib.hid hD
  have hlen : Hid (l.length = n) := Lib.hid hA.1
  have hlen2 : Hid (sd.length = n2) := Lib.hid hD.1
  clear hA hD
  have hmm := @run_makeMap Try.prog
  go_enter Try.func13, Try.ntmps13
  go_wp2_with (fail)
  have HMM := Lib.hid hmm
  clear hmm
  have H0 : Hid (GRel w n2 sd w.heap.size (.int .i64 ((0 : Nat) : Int)) (w.alloc (.map #[] 0))) := Lib.hid
    ⟨0, Nat.zero_le _, rfl, Lib.hid ⟨_, (Below.refl _ _).alloc (Nat.le_refl _) _, Nat.le_refl _, MapU.made w Try.prog 49, given_none.congr (saidTo_zero sd [])⟩⟩
  generalize w.alloc (.map #[] 0) = W0 at H0
  obtain ⟨b, hb⟩ : ∃ b, b = w.heap.size := ⟨_, rfl⟩
  rw [← hb] at H0
  rw [← hb]
  have HB := Lib.hid hb
  clear hb
  go_loopw [24] (fun v24 w9 => GRel w n2 sd b v24 w9) (fun v24 _ => n2 - (intOf v24).toNat)
  case atStart => exact H0.out
  case round =>
    clear H0
    obtain ⟨i, hi, rfl, Hr⟩ := hrel
    by_cases hlt : i < n2
    · obtain ⟨a, s, A', m, c, rfl, hx, hwf, hat, hrc⟩ := HD.out.get hlt
      have HX := Lib.hid hx
      have hm := hrc.2.1
      unfold maxLen at hm
      have hlen3 : Hid (s.recs.length = m) := Lib.hid hrc.1
      obtain ⟨c0, c1, c2⟩ := At.three (hat.later Hr.out.choose_spec.1)
      have HRC := Lib.hid hrc
      clear hx hwf hat hrc
      go_wp2_with (fail)
      have HS1 := Lib.hid ((Below.refl wr.heap.size wr).alloc (Nat.le_refl _) (.cells #[.int .i64 s.id.prod, .int .i64 s.id.seq, .slice A' m c] 47))
      obtain ⟨g, hg1, hg2, hg3, hg4⟩ := Hr.out
      have H1 : Hid (GRel2 w m sd i s.recs b (.int .i64 ((0 : Nat) : Int)) (wr.alloc (.cells #[.int .i64 s.id.prod, .int .i64 s.id.seq, .slice A' m c] 47))) := Lib.hid
        ⟨0, Nat.zero_le _, rfl, Lib.hid ⟨g, bstep hg1 HS1.out, hg2, hg3.of_block (HS1.out.block _ hg3.lt), hg4.congr fun r => by unfold saidTo; simp⟩⟩
      clear hg1 hg2 hg3 hg4 HS1 Hr c0 c1 c2
      generalize wr.alloc (.cells #[.int .i64 s.id.prod, .int .i64 s.id.seq, .slice A' m c] 47) = W1 at H1
      go_loopw [31] (fun v31 w9 => GRel2 w m sd i s.recs b v31 w9) (fun v31 _ => m - (intOf v31).toNat)
      case atStart => exact H1.out
      case round =>
        obtain ⟨k, hk, rfl, Hr2⟩ := hrel
        obtain ⟨g2, hg1, hg2, hg3, hg4⟩ := Hr2.out
        have G1 := Lib.hid hg1
        have G2 := Lib.hid hg2
        have G3 := Lib.hid hg3
        have G4 := Lib.hid hg4
        clear hg1 hg2 hg3 hg4 Hr2
        by_cases hlt2 : k < m
        · obtain ⟨a2, x, rfl, hx2, hwf2, hat2⟩ := (HRC.out.later G1.out).get hlt2
          have HX2 := Lib.hid hx2
          obtain ⟨d0, d1, d2, d3⟩ := At.four hat2
          have hkey : Hid (MapU.IsKey Try.prog 49 (.agg #[.int .i64 0, .string x.key, .string x.value, .bool x.gone])) := Lib.hid (rec_key (r := bare x) (WalkArith.wf_i64 (by unfold bare; simp)) hwf2.2.1 hwf2.2.2)
          have HBA := Lib.hid (bare_at x)
          have HS2 := Lib.hid ((Below.refl wr.heap.size wr).alloc (Nat.le_refl _) (.cells #[.int .i64 x.off, .string x.key, .string x.value, .bool x.gone] 49))
          clear hx2 hwf2 hat2
          go_wp2_with (first
            | (go_at_call 21; with_reducible refine (HBA.out _).mono ?_; rintro e W3 ⟨rfl, hW3⟩; have HW3 := Lib.hid (bstep HS2.out hW3); clear hW3)
            | (at_mapUpdate; refine MapU.wpList_put rfl (.tmp 35) (.tmp 37) (.const (.bool true)) 62 rfl 49 4 lawRec Try.underlying62 b g2 rfl (G3.out.of_block (HW3.out.block _ G3.out.lt)) (.agg #[.int .i64 0, .string x.key, .string x.value, .bool x.gone]) (.bool true) rfl rfl hkey.out ?_; intro w7 hm7 hg7; go_frame))
          go_roundw
          case rel =>
            exact ⟨k + 1, by omega, by go_num, Lib.hid ⟨_, (bstep G1.out HW3.out).trans (below_grown hg7 (fun j hj => by cases hj; exact G2.out) (bstep G1.out HW3.out).size), G2.out, hm7, (given_put G4.out x).congr (saidTo_step HX2.out)⟩⟩
          case measure => simp [intOf]; omega
        · obtain rfl : k = m := by omega
          go_wp2_with (fail)
          go_roundw
          case rel => exact ⟨i + 1, by omega, by go_num, Lib.hid ⟨g2, G1.out, G2.out, G3.out, G4.out.congr fun r => by rw [← hlen3.out]; exact saidTo_next HX.out [] r⟩⟩
          case measure => simp [intOf]; omega
    · obtain rfl : i = n2 := by omega
      have hmm := HMM.out
      go_wp2_with (fail)
      clear hmm
      obtain ⟨G, hg1, hg2, hg3, hg4⟩ := Hr.out
      have HG : Hid (Given (fun r => saidIn sd r = true) G) := Lib.hid (hg4.congr fun r => by rw [← hlen2.out]; exact saidTo_all [] r)
      have HB2 := (Below.refl wr.heap.size wr).alloc (Nat.le_refl _) (.map #[] 0)
      have H1 : Hid (HRel w n l sd b wr.heap.size G (.int .i64 ((0 : Nat) : Int)) (wr.alloc (.map #[] 0))) := Lib.hid
        ⟨0, Nat.zero_le _, rfl, Lib.hid ⟨_, ⟨bstep hg1 HB2, hg2, hg1.size, Nat.ne_of_lt hg3.lt, hg3.of_block (HB2.block _ hg3.lt), MapU.made wr Try.prog 3⟩, atOk_zero l, fun _ h => absurd h (by omega)⟩⟩
      clear hg1 hg2 hg3 hg4 HB2 Hr
      generalize wr.alloc (.map #[] 0) = W1 at H1 ⊢
      generalize wr.heap.size = b2 at H1 ⊢
      go_loopw [43] (fun v43 w9 => HRel w n l sd b b2 G v43 w9) (fun v43 _ => n - (intOf v43).toNat)
      case atStart => exact H1.out
      case round =>
        clear H1
        obtain ⟨i2, hi2, rfl, Hr⟩ := hrel
        by_cases hlt3 : i2 < n
        · obtain ⟨a, f, A', m, c, rfl, hx, hwf, hat, hrc⟩ := HA.out.get hlt3
          obtain ⟨g, hst, hao, hnb⟩ := Hr.out
          have HX := Lib.hid hx
          have HRC := Lib.hid hrc
          have hm := hrc.2.1
          unfold maxLen at hm
          have hlenf : Hid (f.recs.length = m) := Lib.hid hrc.1
          have HST0 := Lib.hid hst
          have HAO := Lib.hid hao
          have HNB := Lib.hid hnb
          have HF1 := Lib.hid ((Below.refl wr.heap.size wr).alloc (Nat.le_refl _) (.cells #[.int .i64 f.step, .int .i64 f.at_, .int .i64 f.from_, .int .i64 f.err, .slice A' m c] 52))
          have HFA := Lib.hid (at_alloc wr (f.cells (.slice A' m c)) 52)
          obtain ⟨c0, c1, c2, c3, c4⟩ := At.five (hat.later hst.below)
          clear hx hwf hat hrc hst hao hnb Hr
          by_cases he : f.err = 0
          · have hd : (f.err != 0) = false := by simpa using he
            have HE := Lib.hid he
            clear he
            have H2 : Hid (IRel w m l sd i2 f (.slice A' m c) b b2 wr.heap.size G g (.int .i64 ((0 : Nat) : Int)) (.bool false) (wr.alloc (.cells #[.int .i64 f.step, .int .i64 f.at_, .int .i64 f.from_, .int .i64 f.err, .slice A' m c] 52))) := Lib.hid
              ⟨0, false, Nat.zero_le _, rfl, rfl, Lib.hid ⟨HST0.out.step HF1.out, by simp, HFA.out, rfl, fun _ _ h => absurd h (by omega)⟩⟩
            go_wp2_with (fail)
            clear c0 c1 c2 c3 c4 HF1 HFA HST0
            generalize wr.alloc (.cells #[.int .i64 f.step, .int .i64 f.at_, .int .i64 f.from_, .int .i64 f.err, .slice A' m c] 52) = W3 at H2 ⊢
            generalize wr.heap.size = B at H2 ⊢
            go_loopw [14, 54] (fun v14 v54 w9 => IRel w m l sd i2 f (.slice A' m c) b b2 B G g v54 v14 w9) (fun _ v54 _ => m - (intOf v54).toNat)
            case atStart => exact H2.out
            case round =>
              clear H2
              obtain ⟨k, u, hk, rfl, rfl, Hr2⟩ := hrel
              have HST := Lib.hid Hr2.out.1
              have HBL := Lib.hid Hr2.out.2.1
              have HF := Lib.hid Hr2.out.2.2.1
              have HU := Lib.hid Hr2.out.2.2.2.1
              have HRB := Lib.hid Hr2.out.2.2.2.2
              clear Hr2
              by_cases hlt4 : k < m
              · obtain ⟨a2, x, rfl, hx2, hwf2, hat2⟩ := (HRC.out.later HST.out.below).get hlt4
                have HXE := Lib.hid hx2
                have HWF := Lib.hid hwf2
                obtain ⟨d0, d1, d2, d3⟩ := At.four hat2
                obtain ⟨e0, e1, e2, e3, e4⟩ := At.five0 HF.out
                have hkey : Hid (MapU.IsKey Try.prog 3 (.int .i64 x.off)) := Lib.hid (int_key hwf2.1)
                have HOL := Lib.hid (old_look HAO.out HNB.out x)
                clear hx2 hwf2 hat2
                rcases HOL.out with ⟨h0, ho2⟩ | ⟨Y, h0, ⟨hY, ho2⟩ | ⟨hY, ho2⟩⟩
                · have hget : MapU.seen true (Rec.v ⟨0, ⟨#[]⟩, ⟨#[]⟩, false⟩) (g (.int .i64 x.off)) = .tuple #[.agg #[.int .i64 0, .string ⟨#[]⟩, .string ⟨#[]⟩, .bool false], .bool false] := by rw [h0]; rfl
                  clear h0 HOL
                  have HS2 := Lib.hid (HST.out.step (((Below.refl wr.heap.size wr).alloc (Nat.le_refl _) (.cells #[.int .i64 x.off, .string x.key, .string x.value, .bool x.gone] 49)).alloc (by simp) (.cells #[.int .i64 0, .string ⟨#[]⟩, .string ⟨#[]⟩, .bool false] 49)))
                  have HX2 : Hid (At ((wr.alloc (.cells #[.int .i64 x.off, .string x.key, .string x.value, .bool x.gone] 49)).alloc (.cells #[.int .i64 0, .string ⟨#[]⟩, .string ⟨#[]⟩, .bool false] 49)) ⟨wr.heap.size, 0, none⟩ x.cells) := Lib.hid ((at_alloc wr x.cells 49).later ((Below.refl _ _).alloc (Nat.le_refl _) (.cells #[.int .i64 0, .string ⟨#[]⟩, .string ⟨#[]⟩, .bool false] 49)))
                  have HY2 := Lib.hid (at_alloc (wr.alloc (.cells #[.int .i64 x.off, .string x.key, .string x.value, .bool x.gone] 49)) [.int .i64 0, .string ⟨#[]⟩, .string ⟨#[]⟩, .bool false] 49)
                  have HF2 := Lib.hid (HF.out.later (((Below.refl wr.heap.size wr).alloc (Nat.le_refl _) (.cells #[.int .i64 x.off, .string x.key, .string x.value, .bool x.gone] 49)).alloc (by simp) (.cells #[.int .i64 0, .string ⟨#[]⟩, .string ⟨#[]⟩, .bool false] 49)))
                  have HB2 : Hid (B < ((wr.alloc (.cells #[.int .i64 x.off, .string x.key, .string x.value, .bool x.gone] 49)).alloc (.cells #[.int .i64 0, .string ⟨#[]⟩, .string ⟨#[]⟩, .bool false] 49)).heap.size) := Lib.hid (by have := HBL.out; simp; omega)
                  rw [show (wr.alloc (.cells #[.int .i64 x.off, .string x.key, .string x.value, .bool x.gone] 49)).heap.size = wr.heap.size + 1 by simp] at HY2
                  go_upto_region 21 with (at_lookup; refine MapU.wpList_look rfl (.tmp 60) (.tmp 62) 64 true rfl 3 49 lawInt Try.underlying64 _ (zeroRec _) b2 g rfl (HST.out.step ((Below.refl wr.heap.size wr).alloc (Nat.le_refl _) _)).m2 (.int .i64 x.off) rfl hkey.out ?_; rw [hget])
                  clear d0 d1 d2 d3 e0 e1 e2 e3 e4
                  have HO2 := Lib.hid ho2
                  clear ho2 hget
                  generalize (wr.alloc (.cells #[.int .i64 x.off, .string x.key, .string x.value, .bool x.gone] 49)).alloc (.cells #[.int .i64 0, .string ⟨#[]⟩, .string ⟨#[]⟩, .bool false] 49) = W2 at HS2 HX2 HY2 HF2 HB2 ⊢
                  rcases ord_cases f k x (by rw [hlenf.out]; exact hlt4) with ⟨h1, ho⟩ | ⟨h1, h2, h2', ho⟩ | ⟨h1, h2, h2', y, hy, ⟨h3, ho⟩ | ⟨h3, ho⟩⟩
                  · have HO := Lib.hid ho
                    clear ho
                    obtain ⟨q0, q1, q2, q3⟩ := At.four0_lat HX2.out
                    obtain ⟨p0, p1, p2, p3⟩ := At.four0_lat HY2.out
                    obtain ⟨e0, e1, e2, e3, e4⟩ := At.five0_lat HF2.out
                    refine QuietTail.wp_all (fun w' => ∃ z : Lat W2, w' = z.val) (by kernel_rfl) (by kernel_rfl) (LatOf.refl W2).drew ?_
                    iterate 29 (go_big_quiet_step (fail))
                    refine wpQuiet_nil ?_
                    rintro _ ⟨z, rfl⟩
                    go_wp2_with (fail)
                    go_ret2
                    rw [fetAns_bad HX.out (fetBad_parts HE.out (parts_true HXE.out (by unfold recBad; rw [HO.out]; simp))) (by decide) HNB.out]
                    exact ⟨rfl, bstep HS2.out.below z.below⟩
                  · have HO1 := Lib.hid ho
                    clear ho
                    obtain ⟨q0, q1, q2, q3⟩ := At.four0_lat HX2.out
                    obtain ⟨p0, p1, p2, p3⟩ := At.four0_lat HY2.out
                    obtain ⟨e0, e1, e2, e3, e4⟩ := At.five0_lat HF2.out
                    refine QuietTail.wp_all (fun w' => ∃ z : Lat W2, w' = z.val) (by kernel_rfl) (by kernel_rfl) (LatOf.refl W2).drew ?_
                    iterate 29 (go_big_quiet_step (fail))
                    refine wpQuiet_nil ?_
                    rintro _ ⟨z, rfl⟩
                    have HZF := Lib.hid (HF2.out.later z.below)
                    have HZX := Lib.hid (HX2.out.later z.below)
                    have HZS := Lib.hid (HS2.out.step z.below)
                    have HZB := Lib.hid (Nat.lt_of_lt_of_le HB2.out z.below.size)
                    have HNX := Lib.hid (show recBad l i2 f k x = false by unfold recBad; rw [HO1.out, HO2.out]; rfl)
                    clear q0 q1 q2 q3 p0 p1 p2 p3 e0 e1 e2 e3 e4
                    have fin : ∀ (u' : Bool) (V : World), FSt w b b2 G g V → Below z.val.heap.size z.val V → u' = (u || !saidIn sd x) → IRel w m l sd i2 f (.slice (some a2) m c) b b2 B G g (.int .i64 ((k : Int) + 1)) (.bool u') V := fun u' V h1 h2 h3 => by
                      refine ⟨k + 1, u', by omega, by go_num, rfl, Lib.hid ⟨h1, Nat.lt_of_lt_of_le HZB.out h2.size, HZF.out.later h2, ?_, fun q y hq hy => ?_⟩⟩
                      · rw [h3, List.take_add_one, HXE.out, HU.out, List.any_append]; simp
                      · rcases Nat.lt_succ_iff_lt_or_eq.1 hq with h | rfl
                        · exact HRB.out q y h hy
                        · obtain rfl := Option.some.inj (hy.symm.trans HXE.out)
                          exact HNX.out
                    have FIN := Lib.hid fin
                    clear fin HU
                    have HBA := Lib.hid (bare_at x)
                    have hkey3 : Hid (MapU.IsKey Try.prog 49 (.agg #[.int .i64 0, .string x.key, .string x.value, .bool x.gone])) := Lib.hid (rec_key (r := bare x) (WalkArith.wf_i64 (by unfold bare; simp)) HWF.out.2.1 HWF.out.2.2)
                    obtain ⟨p0, p1, p2, p3⟩ := At.four0 HZX.out
                    cases u with
                    | true =>
                      go_wp2_with (fail)
                      go_roundw
                      case rel => exact FIN.out true _ HZS.out (Below.refl _ _) rfl
                      case measure => simp [intOf]; omega
                    | false =>
                      cases hs : saidIn sd x with
                      | true =>
                        have hget3 : MapU.seen false (.bool false) (G (.agg #[.int .i64 0, .string x.key, .string x.value, .bool x.gone])) = .bool true := by
                          rw [show G (.agg #[.int .i64 0, .string x.key, .string x.value, .bool x.gone]) = some (.bool true) from (HG.out x).1 hs]; rfl
                        go_wp2_with (go_at_call 21; with_reducible refine (HBA.out _).mono ?_; rintro e W4 ⟨rfl, hW4⟩; have HW4 := Lib.hid hW4; clear hW4; have hlk := MapU.IsMap.look false (HZS.out.step HW4.out).m1 lawRec Try.underlying62 (zeroBool W4) hkey3.out; rw [hget3] at hlk)
                        go_roundw
                        case rel => exact FIN.out false _ (HZS.out.step HW4.out) HW4.out (by rw [hs]; rfl)
                        case measure => simp [intOf]; omega
                      | false =>
                        have hget3 : MapU.seen false (.bool false) (G (.agg #[.int .i64 0, .string x.key, .string x.value, .bool x.gone])) = .bool false := by
                          rw [show G (.agg #[.int .i64 0, .string x.key, .string x.value, .bool x.gone]) = none from (HG.out x).2 (by simp [hs])]; rfl
                        go_wp2_with (go_at_call 21; with_reducible refine (HBA.out _).mono ?_; rintro e W4 ⟨rfl, hW4⟩; have HW4 := Lib.hid hW4; clear hW4; have hlk := MapU.IsMap.look false (HZS.out.step HW4.out).m1 lawRec Try.underlying62 (zeroBool W4) hkey3.out; rw [hget3] at hlk)
                        go_roundw
                        case rel => exact FIN.out true _ (HZS.out.step HW4.out) HW4.out (by rw [hs]; rfl)
                        case measure => simp [intOf]; omega
                  · obtain ⟨a3, y', e3', hy', _, haty⟩ := (HRC.out.later HS2.out.below).get (show k - 1 < m by have := of_decide_eq_true h2'; omega)
                    obtain rfl := Option.some.inj e3'
                    obtain rfl := Option.some.inj (hy'.symm.trans hy)
                    have CY := Lib.hid haty
                    clear haty e3' hy hy'
                    have hk1 := of_decide_eq_true h2'
                    have w1 : IntKind.i64.wrap ((k : Int) - 1) = (k : Int) - 1 := by rw [IntKind.wrap_i64]; omega
                    have w2 : 0 ≤ (k : Int) - 1 := by omega
                    have w3 : (k : Int) - 1 < (m : Int) := by omega
                    have w4 : ((k : Int) - 1).toNat = k - 1 := by omega
                    clear hk1
                    have HO := Lib.hid ho
                    clear ho
                    obtain ⟨q0, q1, q2, q3⟩ := At.four0_lat HX2.out
                    obtain ⟨p0, p1, p2, p3⟩ := At.four0_lat HY2.out
                    obtain ⟨e0, e1, e2, e3, e4⟩ := At.five0_lat HF2.out
                    obtain ⟨d0, d1, d2, d3⟩ := At.four_lat CY.out
                    refine QuietTail.wp_all (fun w' => ∃ z : Lat W2, w' = z.val) (by kernel_rfl) (by kernel_rfl) (LatOf.refl W2).drew ?_
                    iterate 29 (go_big_quiet_step (fail))
                    refine wpQuiet_nil ?_
                    rintro _ ⟨z, rfl⟩
                    go_wp2_with (fail)
                    go_ret2
                    rw [fetAns_bad HX.out (fetBad_parts HE.out (parts_true HXE.out (by unfold recBad; rw [HO.out]; simp))) (by decide) HNB.out]
                    exact ⟨rfl, bstep HS2.out.below z.below⟩
                  · obtain ⟨a3, y', e3', hy', _, haty⟩ := (HRC.out.later HS2.out.below).get (show k - 1 < m by have := of_decide_eq_true h2'; omega)
                    obtain rfl := Option.some.inj e3'
                    obtain rfl := Option.some.inj (hy'.symm.trans hy)
                    have CY := Lib.hid haty
                    clear haty e3' hy hy'
                    have hk1 := of_decide_eq_true h2'
                    have w1 : IntKind.i64.wrap ((k : Int) - 1) = (k : Int) - 1 := by rw [IntKind.wrap_i64]; omega
                    have w2 : 0 ≤ (k : Int) - 1 := by omega
                    have w3 : (k : Int) - 1 < (m : Int) := by omega
                    have w4 : ((k : Int) - 1).toNat = k - 1 := by omega
                    clear hk1
                    have HO1 := Lib.hid ho
                    clear ho
                    obtain ⟨q0, q1, q2, q3⟩ := At.four0_lat HX2.out
                    obtain ⟨p0, p1, p2, p3⟩ := At.four0_lat HY2.out
                    obtain ⟨e0, e1, e2, e3, e4⟩ := At.five0_lat HF2.out
                    obtain ⟨d0, d1, d2, d3⟩ := At.four_lat CY.out
                    refine QuietTail.wp_all (fun w' => ∃ z : Lat W2, w' = z.val) (by kernel_rfl) (by kernel_rfl) (LatOf.refl W2).drew ?_
                    iterate 29 (go_big_quiet_step (fail))
                    refine wpQuiet_nil ?_
                    rintro _ ⟨z, rfl⟩
                    have HZF := Lib.hid (HF2.out.later z.below)
                    have HZX := Lib.hid (HX2.out.later z.below)
                    have HZS := Lib.hid (HS2.out.step z.below)
                    have HZB := Lib.hid (Nat.lt_of_lt_of_le HB2.out z.below.size)
                    have HNX := Lib.hid (show recBad l i2 f k x = false by unfold recBad; rw [HO1.out, HO2.out]; rfl)
                    clear q0 q1 q2 q3 p0 p1 p2 p3 e0 e1 e2 e3 e4
                    clear d0 d1 d2 d3 CY w1 w2 w3 w4
                    have fin : ∀ (u' : Bool) (V : World), FSt w b b2 G g V → Below z.val.heap.size z.val V → u' = (u || !saidIn sd x) → IRel w m l sd i2 f (.slice (some a2) m c) b b2 B G g (.int .i64 ((k : Int) + 1)) (.bool u') V := fun u' V h1 h2 h3 => by
                      refine ⟨k + 1, u', by omega, by go_num, rfl, Lib.hid ⟨h1, Nat.lt_of_lt_of_le HZB.out h2.size, HZF.out.later h2, ?_, fun q y hq hy => ?_⟩⟩
                      · rw [h3, List.take_add_one, HXE.out, HU.out, List.any_append]; simp
                      · rcases Nat.lt_succ_iff_lt_or_eq.1 hq with h | rfl
                        · exact HRB.out q y h hy
                        · obtain rfl := Option.some.inj (hy.symm.trans HXE.out)
                          exact HNX.out
                    have FIN := Lib.hid fin
                    clear fin HU
                    have HBA := Lib.hid (bare_at x)
                    have hkey3 : Hid (MapU.IsKey Try.prog 49 (.agg #[.int .i64 0, .string x.key, .string x.value, .bool x.gone])) := Lib.hid (rec_key (r := bare x) (WalkArith.wf_i64 (by unfold bare; simp)) HWF.out.2.1 HWF.out.2.2)
                    obtain ⟨p0, p1, p2, p3⟩ := At.four0 HZX.out
                    cases u with
                    | true =>
                      go_wp2_with (fail)
                      go_roundw
                      case rel => exact FIN.out true _ HZS.out (Below.refl _ _) rfl
                      case measure => simp [intOf]; omega
                    | false =>
                      cases hs : saidIn sd x with
                      | true =>
                        have hget3 : MapU.seen false (.bool false) (G (.agg #[.int .i64 0, .string x.key, .string x.value, .bool x.gone])) = .bool true := by
                          rw [show G (.agg #[.int .i64 0, .string x.key, .string x.value, .bool x.gone]) = some (.bool true) from (HG.out x).1 hs]; rfl
                        go_wp2_with (go_at_call 21; with_reducible refine (HBA.out _).mono ?_; rintro e W4 ⟨rfl, hW4⟩; have HW4 := Lib.hid hW4; clear hW4; have hlk := MapU.IsMap.look false (HZS.out.step HW4.out).m1 lawRec Try.underlying62 (zeroBool W4) hkey3.out; rw [hget3] at hlk)
                        go_roundw
                        case rel => exact FIN.out false _ (HZS.out.step HW4.out) HW4.out (by rw [hs]; rfl)
                        case measure => simp [intOf]; omega
                      | false =>
                        have hget3 : MapU.seen false (.bool false) (G (.agg #[.int .i64 0, .string x.key, .string x.value, .bool x.gone])) = .bool false := by
                          rw [show G (.agg #[.int .i64 0, .string x.key, .string x.value, .bool x.gone]) = none from (HG.out x).2 (by simp [hs])]; rfl
                        go_wp2_with (go_at_call 21; with_reducible refine (HBA.out _).mono ?_; rintro e W4 ⟨rfl, hW4⟩; have HW4 := Lib.hid hW4; clear hW4; have hlk := MapU.IsMap.look false (HZS.out.step HW4.out).m1 lawRec Try.underlying62 (zeroBool W4) hkey3.out; rw [hget3] at hlk)
                        go_roundw
                        case rel => exact FIN.out true _ (HZS.out.step HW4.out) HW4.out (by rw [hs]; rfl)
                        case measure => simp [intOf]; omega
                · have hget : MapU.seen true (Rec.v ⟨0, ⟨#[]⟩, ⟨#[]⟩, false⟩) (g (.int .i64 x.off)) = .tuple #[.agg #[.int .i64 Y.off, .string Y.key, .string Y.value, .bool Y.gone], .bool true] := by rw [h0]; rfl
                  have HY := Lib.hid hY
                  clear h0 HOL hY
                  have HS2 := Lib.hid (HST.out.step (((Below.refl wr.heap.size wr).alloc (Nat.le_refl _) (.cells #[.int .i64 x.off, .string x.key, .string x.value, .bool x.gone] 49)).alloc (by simp) (.cells #[.int .i64 Y.off, .string Y.key, .string Y.value, .bool Y.gone] 49)))
                  have HX2 : Hid (At ((wr.alloc (.cells #[.int .i64 x.off, .string x.key, .string x.value, .bool x.gone] 49)).alloc (.cells #[.int .i64 Y.off, .string Y.key, .string Y.value, .bool Y.gone] 49)) ⟨wr.heap.size, 0, none⟩ x.cells) := Lib.hid ((at_alloc wr x.cells 49).later ((Below.refl _ _).alloc (Nat.le_refl _) (.cells #[.int .i64 Y.off, .string Y.key, .string Y.value, .bool Y.gone] 49)))
                  have HY2 := Lib.hid (at_alloc (wr.alloc (.cells #[.int .i64 x.off, .string x.key, .string x.value, .bool x.gone] 49)) [.int .i64 Y.off, .string Y.key, .string Y.value, .bool Y.gone] 49)
                  have HF2 := Lib.hid (HF.out.later (((Below.refl wr.heap.size wr).alloc (Nat.le_refl _) (.cells #[.int .i64 x.off, .string x.key, .string x.value, .bool x.gone] 49)).alloc (by simp) (.cells #[.int .i64 Y.off, .string Y.key, .string Y.value, .bool Y.gone] 49)))
                  have HB2 : Hid (B < ((wr.alloc (.cells #[.int .i64 x.off, .string x.key, .string x.value, .bool x.gone] 49)).alloc (.cells #[.int .i64 Y.off, .string Y.key, .string Y.value, .bool Y.gone] 49)).heap.size) := Lib.hid (by have := HBL.out; simp; omega)
                  rw [show (wr.alloc (.cells #[.int .i64 x.off, .string x.key, .string x.value, .bool x.gone] 49)).heap.size = wr.heap.size + 1 by simp] at HY2
                  go_upto_region 21 with (at_lookup; refine MapU.wpList_look rfl (.tmp 60) (.tmp 62) 64 true rfl 3 49 lawInt Try.underlying64 _ (zeroRec _) b2 g rfl (HST.out.step ((Below.refl wr.heap.size wr).alloc (Nat.le_refl _) _)).m2 (.int .i64 x.off) rfl hkey.out ?_; rw [hget])
                  clear d0 d1 d2 d3 e0 e1 e2 e3 e4
                  have HO2 := Lib.hid ho2
                  clear ho2 hget
                  generalize (wr.alloc (.cells #[.int .i64 x.off, .string x.key, .string x.value, .bool x.gone] 49)).alloc (.cells #[.int .i64 Y.off, .string Y.key, .string Y.value, .bool Y.gone] 49) = W2 at HS2 HX2 HY2 HF2 HB2 ⊢
                  have hv := neqRec Y.off x.off Y.key Y.value x.key x.value Y.gone x.gone
                  have hgd := fun (w : World) (p q : Operand) (xs ys : Array Value) => run_eqGuard_agg (P := Try.prog) w .neq 49 p q xs ys guardRec
                  simp only [show decide ((⟨Y.off, Y.key, Y.value, Y.gone⟩ : Rec) = ⟨x.off, x.key, x.value, x.gone⟩) = true from decide_eq_true HY.out, Bool.not_true] at hv
                  rcases ord_cases f k x (by rw [hlenf.out]; exact hlt4) with ⟨h1, ho⟩ | ⟨h1, h2, h2', ho⟩ | ⟨h1, h2, h2', y, hy, ⟨h3, ho⟩ | ⟨h3, ho⟩⟩
                  · have HO := Lib.hid ho
                    clear ho
                    obtain ⟨q0, q1, q2, q3⟩ := At.four0_lat HX2.out
                    obtain ⟨p0, p1, p2, p3⟩ := At.four0_lat HY2.out
                    obtain ⟨e0, e1, e2, e3, e4⟩ := At.five0_lat HF2.out
                    refine QuietTail.wp_all (fun w' => ∃ z : Lat W2, w' = z.val) (by kernel_rfl) (by kernel_rfl) (LatOf.refl W2).drew ?_
                    iterate 29 (go_big_quiet_step (fail))
                    refine wpQuiet_nil ?_
                    rintro _ ⟨z, rfl⟩
                    go_wp2_with (fail)
                    go_ret2
                    rw [fetAns_bad HX.out (fetBad_parts HE.out (parts_true HXE.out (by unfold recBad; rw [HO.out]; simp))) (by decide) HNB.out]
                    exact ⟨rfl, bstep HS2.out.below z.below⟩
                  · have HO1 := Lib.hid ho
                    clear ho
                    obtain ⟨q0, q1, q2, q3⟩ := At.four0_lat HX2.out
                    obtain ⟨p0, p1, p2, p3⟩ := At.four0_lat HY2.out
                    obtain ⟨e0, e1, e2, e3, e4⟩ := At.five0_lat HF2.out
                    refine QuietTail.wp_all (fun w' => ∃ z : Lat W2, w' = z.val) (by kernel_rfl) (by kernel_rfl) (LatOf.refl W2).drew ?_
                    iterate 29 (go_big_quiet_step (fail))
                    refine wpQuiet_nil ?_
                    rintro _ ⟨z, rfl⟩
                    have HZF := Lib.hid (HF2.out.later z.below)
                    have HZX := Lib.hid (HX2.out.later z.below)
                    have HZS := Lib.hid (HS2.out.step z.below)
                    have HZB := Lib.hid (Nat.lt_of_lt_of_le HB2.out z.below.size)
                    have HNX := Lib.hid (show recBad l i2 f k x = false by unfold recBad; rw [HO1.out, HO2.out]; rfl)
                    clear q0 q1 q2 q3 p0 p1 p2 p3 e0 e1 e2 e3 e4
                    have fin : ∀ (u' : Bool) (V : World), FSt w b b2 G g V → Below z.val.heap.size z.val V → u' = (u || !saidIn sd x) → IRel w m l sd i2 f (.slice (some a2) m c) b b2 B G g (.int .i64 ((k : Int) + 1)) (.bool u') V := fun u' V h1 h2 h3 => by
                      refine ⟨k + 1, u', by omega, by go_num, rfl, Lib.hid ⟨h1, Nat.lt_of_lt_of_le HZB.out h2.size, HZF.out.later h2, ?_, fun q y hq hy => ?_⟩⟩
                      · rw [h3, List.take_add_one, HXE.out, HU.out, List.any_append]; simp
                      · rcases Nat.lt_succ_iff_lt_or_eq.1 hq with h | rfl
                        · exact HRB.out q y h hy
                        · obtain rfl := Option.some.inj (hy.symm.trans HXE.out)
                          exact HNX.out
                    have FIN := Lib.hid fin
                    clear fin HU
                    have HBA := Lib.hid (bare_at x)
                    have hkey3 : Hid (MapU.IsKey Try.prog 49 (.agg #[.int .i64 0, .string x.key, .string x.value, .bool x.gone])) := Lib.hid (rec_key (r := bare x) (WalkArith.wf_i64 (by unfold bare; simp)) HWF.out.2.1 HWF.out.2.2)
                    obtain ⟨p0, p1, p2, p3⟩ := At.four0 HZX.out
                    cases u with
                    | true =>
                      go_wp2_with (fail)
                      go_roundw
                      case rel => exact FIN.out true _ HZS.out (Below.refl _ _) rfl
                      case measure => simp [intOf]; omega
                    | false =>
                      cases hs : saidIn sd x with
                      | true =>
                        have hget3 : MapU.seen false (.bool false) (G (.agg #[.int .i64 0, .string x.key, .string x.value, .bool x.gone])) = .bool true := by
                          rw [show G (.agg #[.int .i64 0, .string x.key, .string x.value, .bool x.gone]) = some (.bool true) from (HG.out x).1 hs]; rfl
                        go_wp2_with (go_at_call 21; with_reducible refine (HBA.out _).mono ?_; rintro e W4 ⟨rfl, hW4⟩; have HW4 := Lib.hid hW4; clear hW4; have hlk := MapU.IsMap.look false (HZS.out.step HW4.out).m1 lawRec Try.underlying62 (zeroBool W4) hkey3.out; rw [hget3] at hlk)
                        go_roundw
                        case rel => exact FIN.out false _ (HZS.out.step HW4.out) HW4.out (by rw [hs]; rfl)
                        case measure => simp [intOf]; omega
                      | false =>
                        have hget3 : MapU.seen false (.bool false) (G (.agg #[.int .i64 0, .string x.key, .string x.value, .bool x.gone])) = .bool false := by
                          rw [show G (.agg #[.int .i64 0, .string x.key, .string x.value, .bool x.gone]) = none from (HG.out x).2 (by simp [hs])]; rfl
                        go_wp2_with (go_at_call 21; with_reducible refine (HBA.out _).mono ?_; rintro e W4 ⟨rfl, hW4⟩; have HW4 := Lib.hid hW4; clear hW4; have hlk := MapU.IsMap.look false (HZS.out.step HW4.out).m1 lawRec Try.underlying62 (zeroBool W4) hkey3.out; rw [hget3] at hlk)
                        go_roundw
                        case rel => exact FIN.out true _ (HZS.out.step HW4.out) HW4.out (by rw [hs]; rfl)
                        case measure => simp [intOf]; omega
                  · obtain ⟨a3, y', e3', hy', _, haty⟩ := (HRC.out.later HS2.out.below).get (show k - 1 < m by have := of_decide_eq_true h2'; omega)
                    obtain rfl := Option.some.inj e3'
                    obtain rfl := Option.some.inj (hy'.symm.trans hy)
                    have CY := Lib.hid haty
                    clear haty e3' hy hy'
                    have hk1 := of_decide_eq_true h2'
                    have w1 : IntKind.i64.wrap ((k : Int) - 1) = (k : Int) - 1 := by rw [IntKind.wrap_i64]; omega
                    have w2 : 0 ≤ (k : Int) - 1 := by omega
                    have w3 : (k : Int) - 1 < (m : Int) := by omega
                    have w4 : ((k : Int) - 1).toNat = k - 1 := by omega
                    clear hk1
                    have HO := Lib.hid ho
                    clear ho
                    obtain ⟨q0, q1, q2, q3⟩ := At.four0_lat HX2.out
                    obtain ⟨p0, p1, p2, p3⟩ := At.four0_lat HY2.out
                    obtain ⟨e0, e1, e2, e3, e4⟩ := At.five0_lat HF2.out
                    obtain ⟨d0, d1, d2, d3⟩ := At.four_lat CY.out
                    refine QuietTail.wp_all (fun w' => ∃ z : Lat W2, w' = z.val) (by kernel_rfl) (by kernel_rfl) (LatOf.refl W2).drew ?_
                    iterate 29 (go_big_quiet_step (fail))
                    refine wpQuiet_nil ?_
                    rintro _ ⟨z, rfl⟩
                    go_wp2_with (fail)
                    go_ret2
                    rw [fetAns_bad HX.out (fetBad_parts HE.out (parts_true HXE.out (by unfold recBad; rw [HO.out]; simp))) (by decide) HNB.out]
                    exact ⟨rfl, bstep HS2.out.below z.below⟩
                  · obtain ⟨a3, y', e3', hy', _, haty⟩ := (HRC.out.later HS2.out.below).get (show k - 1 < m by have := of_decide_eq_true h2'; omega)
                    obtain rfl := Option.some.inj e3'
                    obtain rfl := Option.some.inj (hy'.symm.trans hy)
                    have CY := Lib.hid haty
                    clear haty e3' hy hy'
                    have hk1 := of_decide_eq_true h2'
                    have w1 : IntKind.i64.wrap ((k : Int) - 1) = (k : Int) - 1 := by rw [IntKind.wrap_i64]; omega
                    have w2 : 0 ≤ (k : Int) - 1 := by omega
                    have w3 : (k : Int) - 1 < (m : Int) := by omega
                    have w4 : ((k : Int) - 1).toNat = k - 1 := by omega
                    clear hk1
                    have HO1 := Lib.hid ho
                    clear ho
                    obtain ⟨q0, q1, q2, q3⟩ := At.four0_lat HX2.out
                    obtain ⟨p0, p1, p2, p3⟩ := At.four0_lat HY2.out
                    obtain ⟨e0, e1, e2, e3, e4⟩ := At.five0_lat HF2.out
                    obtain ⟨d0, d1, d2, d3⟩ := At.four_lat CY.out
                    refine QuietTail.wp_all (fun w' => ∃ z : Lat W2, w' = z.val) (by kernel_rfl) (by kernel_rfl) (LatOf.refl W2).drew ?_
                    iterate 29 (go_big_quiet_step (fail))
                    refine wpQuiet_nil ?_
                    rintro _ ⟨z, rfl⟩
                    have HZF := Lib.hid (HF2.out.later z.below)
                    have HZX := Lib.hid (HX2.out.later z.below)
                    have HZS := Lib.hid (HS2.out.step z.below)
                    have HZB := Lib.hid (Nat.lt_of_lt_of_le HB2.out z.below.size)
                    have HNX := Lib.hid (show recBad l i2 f k x = false by unfold recBad; rw [HO1.out, HO2.out]; rfl)
                    clear q0 q1 q2 q3 p0 p1 p2 p3 e0 e1 e2 e3 e4
                    clear d0 d1 d2 d3 CY w1 w2 w3 w4
                    have fin : ∀ (u' : Bool) (V : World), FSt w b b2 G g V → Below z.val.heap.size z.val V → u' = (u || !saidIn sd x) → IRel w m l sd i2 f (.slice (some a2) m c) b b2 B G g (.int .i64 ((k : Int) + 1)) (.bool u') V := fun u' V h1 h2 h3 => by
                      refine ⟨k + 1, u', by omega, by go_num, rfl, Lib.hid ⟨h1, Nat.lt_of_lt_of_le HZB.out h2.size, HZF.out.later h2, ?_, fun q y hq hy => ?_⟩⟩
                      · rw [h3, List.take_add_one, HXE.out, HU.out, List.any_append]; simp
                      · rcases Nat.lt_succ_iff_lt_or_eq.1 hq with h | rfl
                        · exact HRB.out q y h hy
                        · obtain rfl := Option.some.inj (hy.symm.trans HXE.out)
                          exact HNX.out
                    have FIN := Lib.hid fin
                    clear fin HU
                    have HBA := Lib.hid (bare_at x)
                    have hkey3 : Hid (MapU.IsKey Try.prog 49 (.agg #[.int .i64 0, .string x.key, .string x.value, .bool x.gone])) := Lib.hid (rec_key (r := bare x) (WalkArith.wf_i64 (by unfold bare; simp)) HWF.out.2.1 HWF.out.2.2)
                    obtain ⟨p0, p1, p2, p3⟩ := At.four0 HZX.out
                    cases u with
                    | true =>
                      go_wp2_with (fail)
                      go_roundw
                      case rel => exact FIN.out true _ HZS.out (Below.refl _ _) rfl
                      case measure => simp [intOf]; omega
                    | false =>
                      cases hs : saidIn sd x with
                      | true =>
                        have hget3 : MapU.seen false (.bool false) (G (.agg #[.int .i64 0, .string x.key, .string x.value, .bool x.gone])) = .bool true := by
                          rw [show G (.agg #[.int .i64 0, .string x.key, .string x.value, .bool x.gone]) = some (.bool true) from (HG.out x).1 hs]; rfl
                        go_wp2_with (go_at_call 21; with_reducible refine (HBA.out _).mono ?_; rintro e W4 ⟨rfl, hW4⟩; have HW4 := Lib.hid hW4; clear hW4; have hlk := MapU.IsMap.look false (HZS.out.step HW4.out).m1 lawRec Try.underlying62 (zeroBool W4) hkey3.out; rw [hget3] at hlk)
                        go_roundw
                        case rel => exact FIN.out false _ (HZS.out.step HW4.out) HW4.out (by rw [hs]; rfl)
                        case measure => simp [intOf]; omega
                      | false =>
                        have hget3 : MapU.seen false (.bool false) (G (.agg #[.int .i64 0, .string x.key, .string x.value, .bool x.gone])) = .bool false := by
                          rw [show G (.agg #[.int .i64 0, .string x.key, .string x.value, .bool x.gone]) = none from (HG.out x).2 (by simp [hs])]; rfl
                        go_wp2_with (go_at_call 21; with_reducible refine (HBA.out _).mono ?_; rintro e W4 ⟨rfl, hW4⟩; have HW4 := Lib.hid hW4; clear hW4; have hlk := MapU.IsMap.look false (HZS.out.step HW4.out).m1 lawRec Try.underlying62 (zeroBool W4) hkey3.out; rw [hget3] at hlk)
                        go_roundw
                        case rel => exact FIN.out true _ (HZS.out.step HW4.out) HW4.out (by rw [hs]; rfl)
                        case measure => simp [intOf]; omega
                · have hget : MapU.seen true (Rec.v ⟨0, ⟨#[]⟩, ⟨#[]⟩, false⟩) (g (.int .i64 x.off)) = .tuple #[.agg #[.int .i64 Y.off, .string Y.key, .string Y.value, .bool Y.gone], .bool true] := by rw [h0]; rfl
                  have HY := Lib.hid hY
                  clear h0 HOL hY
                  have HS2 := Lib.hid (HST.out.step (((Below.refl wr.heap.size wr).alloc (Nat.le_refl _) (.cells #[.int .i64 x.off, .string x.key, .string x.value, .bool x.gone] 49)).alloc (by simp) (.cells #[.int .i64 Y.off, .string Y.key, .string Y.value, .bool Y.gone] 49)))
                  have HX2 : Hid (At ((wr.alloc (.cells #[.int .i64 x.off, .string x.key, .string x.value, .bool x.gone] 49)).alloc (.cells #[.int .i64 Y.off, .string Y.key, .string Y.value, .bool Y.gone] 49)) ⟨wr.heap.size, 0, none⟩ x.cells) := Lib.hid ((at_alloc wr x.cells 49).later ((Below.refl _ _).alloc (Nat.le_refl _) (.cells #[.int .i64 Y.off, .string Y.key, .string Y.value, .bool Y.gone] 49)))
                  have HY2 := Lib.hid (at_alloc (wr.alloc (.cells #[.int .i64 x.off, .string x.key, .string x.value, .bool x.gone] 49)) [.int .i64 Y.off, .string Y.key, .string Y.value, .bool Y.gone] 49)
                  have HF2 := Lib.hid (HF.out.later (((Below.refl wr.heap.size wr).alloc (Nat.le_refl _) (.cells #[.int .i64 x.off, .string x.key, .string x.value, .bool x.gone] 49)).alloc (by simp) (.cells #[.int .i64 Y.off, .string Y.key, .string Y.value, .bool Y.gone] 49)))
                  have HB2 : Hid (B < ((wr.alloc (.cells #[.int .i64 x.off, .string x.key, .string x.value, .bool x.gone] 49)).alloc (.cells #[.int .i64 Y.off, .string Y.key, .string Y.value, .bool Y.gone] 49)).heap.size) := Lib.hid (by have := HBL.out; simp; omega)
                  rw [show (wr.alloc (.cells #[.int .i64 x.off, .string x.key, .string x.value, .bool x.gone] 49)).heap.size = wr.heap.size + 1 by simp] at HY2
                  go_upto_region 21 with (at_lookup; refine MapU.wpList_look rfl (.tmp 60) (.tmp 62) 64 true rfl 3 49 lawInt Try.underlying64 _ (zeroRec _) b2 g rfl (HST.out.step ((Below.refl wr.heap.size wr).alloc (Nat.le_refl _) _)).m2 (.int .i64 x.off) rfl hkey.out ?_; rw [hget])
                  clear d0 d1 d2 d3 e0 e1 e2 e3 e4
                  have HO2 := Lib.hid ho2
                  clear ho2 hget
                  generalize (wr.alloc (.cells #[.int .i64 x.off, .string x.key, .string x.value, .bool x.gone] 49)).alloc (.cells #[.int .i64 Y.off, .string Y.key, .string Y.value, .bool Y.gone] 49) = W2 at HS2 HX2 HY2 HF2 HB2 ⊢
                  have hv := neqRec Y.off x.off Y.key Y.value x.key x.value Y.gone x.gone
                  have hgd := fun (w : World) (p q : Operand) (xs ys : Array Value) => run_eqGuard_agg (P := Try.prog) w .neq 49 p q xs ys guardRec
                  simp only [show decide ((⟨Y.off, Y.key, Y.value, Y.gone⟩ : Rec) = ⟨x.off, x.key, x.value, x.gone⟩) = false from decide_eq_false HY.out, Bool.not_false] at hv
                  rcases ord_cases f k x (by rw [hlenf.out]; exact hlt4) with ⟨h1, ho⟩ | ⟨h1, h2, h2', ho⟩ | ⟨h1, h2, h2', y, hy, ⟨h3, ho⟩ | ⟨h3, ho⟩⟩
                  · have HO := Lib.hid ho
                    clear ho
                    obtain ⟨q0, q1, q2, q3⟩ := At.four0_lat HX2.out
                    obtain ⟨p0, p1, p2, p3⟩ := At.four0_lat HY2.out
                    obtain ⟨e0, e1, e2, e3, e4⟩ := At.five0_lat HF2.out
                    refine QuietTail.wp_all (fun w' => ∃ z : Lat W2, w' = z.val) (by kernel_rfl) (by kernel_rfl) (LatOf.refl W2).drew ?_
                    iterate 29 (go_big_quiet_step (fail))
                    refine wpQuiet_nil ?_
                    rintro _ ⟨z, rfl⟩
                    go_wp2_with (fail)
                    go_ret2
                    rw [fetAns_bad HX.out (fetBad_parts HE.out (parts_true HXE.out (by unfold recBad; rw [HO.out]; simp))) (by decide) HNB.out]
                    exact ⟨rfl, bstep HS2.out.below z.below⟩
                  · have HO := HO2
                    obtain ⟨q0, q1, q2, q3⟩ := At.four0_lat HX2.out
                    obtain ⟨p0, p1, p2, p3⟩ := At.four0_lat HY2.out
                    obtain ⟨e0, e1, e2, e3, e4⟩ := At.five0_lat HF2.out
                    refine QuietTail.wp_all (fun w' => ∃ z : Lat W2, w' = z.val) (by kernel_rfl) (by kernel_rfl) (LatOf.refl W2).drew ?_
                    iterate 29 (go_big_quiet_step (fail))
                    refine wpQuiet_nil ?_
                    rintro _ ⟨z, rfl⟩
                    go_wp2_with (fail)
                    go_ret2
                    rw [fetAns_bad HX.out (fetBad_parts HE.out (parts_true HXE.out (by unfold recBad; rw [HO.out]; simp))) (by decide) HNB.out]
                    exact ⟨rfl, bstep HS2.out.below z.below⟩
                  · obtain ⟨a3, y', e3', hy', _, haty⟩ := (HRC.out.later HS2.out.below).get (show k - 1 < m by have := of_decide_eq_true h2'; omega)
                    obtain rfl := Option.some.inj e3'
                    obtain rfl := Option.some.inj (hy'.symm.trans hy)
                    have CY := Lib.hid haty
                    clear haty e3' hy hy'
                    have hk1 := of_decide_eq_true h2'
                    have w1 : IntKind.i64.wrap ((k : Int) - 1) = (k : Int) - 1 := by rw [IntKind.wrap_i64]; omega
                    have w2 : 0 ≤ (k : Int) - 1 := by omega
                    have w3 : (k : Int) - 1 < (m : Int) := by omega
                    have w4 : ((k : Int) - 1).toNat = k - 1 := by omega
                    clear hk1
                    have HO := Lib.hid ho
                    clear ho
                    obtain ⟨q0, q1, q2, q3⟩ := At.four0_lat HX2.out
                    obtain ⟨p0, p1, p2, p3⟩ := At.four0_lat HY2.out
                    obtain ⟨e0, e1, e2, e3, e4⟩ := At.five0_lat HF2.out
                    obtain ⟨d0, d1, d2, d3⟩ := At.four_lat CY.out
                    refine QuietTail.wp_all (fun w' => ∃ z : Lat W2, w' = z.val) (by kernel_rfl) (by kernel_rfl) (LatOf.refl W2).drew ?_
                    iterate 29 (go_big_quiet_step (fail))
                    refine wpQuiet_nil ?_
                    rintro _ ⟨z, rfl⟩
                    go_wp2_with (fail)
                    go_ret2
                    rw [fetAns_bad HX.out (fetBad_parts HE.out (parts_true HXE.out (by unfold recBad; rw [HO.out]; simp))) (by decide) HNB.out]
                    exact ⟨rfl, bstep HS2.out.below z.below⟩
                  · obtain ⟨a3, y', e3', hy', _, haty⟩ := (HRC.out.later HS2.out.below).get (show k - 1 < m by have := of_decide_eq_true h2'; omega)
                    obtain rfl := Option.some.inj e3'
                    obtain rfl := Option.some.inj (hy'.symm.trans hy)
                    have CY := Lib.hid haty
                    clear haty e3' hy hy'
                    have hk1 := of_decide_eq_true h2'
                    have w1 : IntKind.i64.wrap ((k : Int) - 1) = (k : Int) - 1 := by rw [IntKind.wrap_i64]; omega
                    have w2 : 0 ≤ (k : Int) - 1 := by omega
                    have w3 : (k : Int) - 1 < (m : Int) := by omega
                    have w4 : ((k : Int) - 1).toNat = k - 1 := by omega
                    clear hk1
                    have HO := HO2
                    obtain ⟨q0, q1, q2, q3⟩ := At.four0_lat HX2.out
                    obtain ⟨p0, p1, p2, p3⟩ := At.four0_lat HY2.out
                    obtain ⟨e0, e1, e2, e3, e4⟩ := At.five0_lat HF2.out
                    obtain ⟨d0, d1, d2, d3⟩ := At.four_lat CY.out
                    refine QuietTail.wp_all (fun w' => ∃ z : Lat W2, w' = z.val) (by kernel_rfl) (by kernel_rfl) (LatOf.refl W2).drew ?_
                    iterate 29 (go_big_quiet_step (fail))
                    refine wpQuiet_nil ?_
                    rintro _ ⟨z, rfl⟩
                    go_wp2_with (fail)
                    go_ret2
                    rw [fetAns_bad HX.out (fetBad_parts HE.out (parts_true HXE.out (by unfold recBad; rw [HO.out]; simp))) (by decide) HNB.out]
                    exact ⟨rfl, bstep HS2.out.below z.below⟩
              · obtain rfl : k = m := by omega
                have HALL : Hid (u = (f.recs.any fun r => !saidIn sd r)) := Lib.hid (by rw [HU.out, ← hlenf.out, List.take_length])
                have HP : Hid (parts l i2 f = false) := Lib.hid (parts_false fun q x hx => HRB.out q x (by have := (List.getElem?_eq_some_iff.1 hx).1; rw [hlenf.out] at this; exact this) hx)
                obtain ⟨e0, e1, e2, e3, e4⟩ := At.five0 HF.out
                clear HU HRB
                cases u with
                | true =>
                  go_wp2_with (fail)
                  go_ret2
                  rw [fetAns_bad HX.out (fetBad_none HE.out HP.out HALL.out.symm) (by decide) HNB.out]
                  exact ⟨rfl, HST.out.below⟩
                | false =>
                  go_wp2_with (fail)
                  clear e0 e1 e2 e3 e4
                  go_loopw [110] (fun v110 w9 => JRel w k f b b2 G g v110 w9) (fun v110 _ => k - (intOf v110).toNat)
                  case atStart => exact ⟨0, Nat.zero_le _, rfl, Lib.hid ⟨g, HST.out, atPut_zero _ _⟩⟩
                  case round =>
                    clear HST
                    obtain ⟨k2, hk2, rfl, Hr3⟩ := hrel
                    obtain ⟨g3, hst3, hap⟩ := Hr3.out
                    have HST := Lib.hid hst3
                    have HAP := Lib.hid hap
                    clear hst3 hap Hr3
                    by_cases hlt5 : k2 < k
                    · obtain ⟨a2, x, rfl, hx2, hwf2, hat2⟩ := (HRC.out.later HST.out.below).get hlt5
                      have HXE := Lib.hid hx2
                      obtain ⟨d0, d1, d2, d3⟩ := At.four hat2
                      have hkey : Hid (MapU.IsKey Try.prog 3 (.int .i64 x.off)) := Lib.hid (int_key hwf2.1)
                      have HS2 := Lib.hid (HST.out.step ((Below.refl wr.heap.size wr).alloc (Nat.le_refl _) (.cells #[.int .i64 x.off, .string x.key, .string x.value, .bool x.gone] 49)))
                      clear hx2 hwf2 hat2
                      go_wp2_with (at_mapUpdate; refine MapU.wpList_put rfl (.tmp 114) (.tmp 116) (.tmp 117) 64 rfl 3 49 lawInt Try.underlying64 b2 g3 rfl HS2.out.m2 (.int .i64 x.off) (.agg #[.int .i64 x.off, .string x.key, .string x.value, .bool x.gone]) rfl rfl hkey.out ?_; intro w7 hm7 hg7; go_frame)
                      go_roundw
                      case rel => exact ⟨k2 + 1, by omega, by go_num, Lib.hid ⟨_, HS2.out.put hg7 hm7, atPut_step HAP.out HXE.out⟩⟩
                      case measure => simp [intOf]; omega
                    · obtain rfl : k2 = k := by omega
                      go_wp2_with (fail)
                      go_roundw
                      case rel =>
                        refine ⟨i2 + 1, by omega, by go_num, Lib.hid ⟨g3, HST.out, atOk_put HAO.out HX.out HE.out (by rw [hlenf.out]; exact HAP.out), fun j hj => ?_⟩⟩
                        rcases Nat.lt_succ_iff_lt_or_eq.1 hj with h | rfl
                        · exact HNB.out j h
                        · rw [fetAt_of HX.out, fetBad_ok HP.out HALL.out.symm]
                      case measure => simp [intOf]; omega
          · have hd : (f.err != 0) = true := by simpa using he
            have HE := Lib.hid he
            clear he
            go_wp2_with (fail)
            go_roundw
            case rel =>
              refine ⟨i2 + 1, by omega, by go_num, Lib.hid ⟨g, HST0.out.step HF1.out, atOk_skip HAO.out HX.out HE.out, fun j hj => ?_⟩⟩
              rcases Nat.lt_succ_iff_lt_or_eq.1 hj with h | rfl
              · exact HNB.out j h
              · rw [fetAt_of HX.out, fetBad_skip HE.out]
            case measure => simp [intOf]; omega
        · obtain rfl : i2 = n := by omega
          obtain ⟨g, hst, hao, hnb⟩ := Hr.out
          go_wp2_with (fail)
          go_ret2
          rw [fetAns_ok (fun j hj => hnb j (by rw [hlen.out] at hj; exact hj))]
          exact ⟨rfl, hst.below⟩
end Go.Proofs.Ytkgidfehndkhmaa
