/- The walk of audit.Acks. -/
import Derived.Test.YtkgidfehndkhmaaAudLeaf
import Derived.Test.YtkgidfehndkhmaaAudEq
import Derived.Test.YtkgidfehndkhmaaAudRows
import Derived.Test.YtkgidfehndkhmaaAudFirst
import Derived.Test.YtkgidfehndkhmaaMem
import Derived.Maps.RangeWalk
import Derived.Deep.CutBlock
import Derived.Deep.DeepCutAuto
namespace Go.Proofs.Ytkgidfehndkhmaa
open Go.RowKit Go.PostAud Go.PostMem
structure ASt (w : World) (base : Nat) (A : Option Addr) (n : Nat) (l : List Ack) (b1 b2 i : Nat) (g1 g2 : Value → Option Value) (wr : World) : Prop where
  below : Below w.heap.size w wr
  b1lt : w.heap.size ≤ b1
  b2lt : w.heap.size ≤ b2
  bne : b1 ≠ b2
  m1 : MapU.IsMap wr Try.prog 36 b1 g1
  m2 : MapU.IsMap wr Try.prog 3 b2 g2
theorem ASt.step {w : World} {base : Nat} {A : Option Addr} {n : Nat} {l : List Ack} {b1 b2 i : Nat} {g1 g2 : Value → Option Value} {wr wx : World} (h : ASt w base A n l b1 b2 i g1 g2 wr) (hb : Below wr.heap.size wr wx) : ASt w base A n l b1 b2 i g1 g2 wx :=
  ⟨bstep h.below hb, h.b1lt, h.b2lt, h.bne, h.m1.of_block (hb.block _ h.m1.lt), h.m2.of_block (hb.block _ h.m2.lt)⟩
/-- in a round: the ack lies in block B as well -/
structure AIn (w : World) (base : Nat) (A : Option Addr) (n : Nat) (l : List Ack) (b1 b2 i : Nat) (g1 g2 : Value → Option Value) (B : Nat) (x : Ack) (wr : World) : Prop where
  st : ASt w base A n l b1 b2 i g1 g2 wr
  row : At wr ⟨B, 0, none⟩ x.cells
  n1 : b1 ≠ B
  n2 : b2 ≠ B
  old : w.heap.size ≤ B
  lt : B < wr.heap.size
theorem AIn.step {w : World} {base : Nat} {A : Option Addr} {n : Nat} {l : List Ack} {b1 b2 i : Nat} {g1 g2 : Value → Option Value} {B : Nat} {x : Ack} {wr wx : World} (h : AIn w base A n l b1 b2 i g1 g2 B x wr) (hb : Below wr.heap.size wr wx) : AIn w base A n l b1 b2 i g1 g2 B x wx :=
  ⟨h.st.step hb, h.row.below hb h.lt, h.n1, h.n2, h.old, Nat.lt_of_lt_of_le h.lt hb.size⟩
/-- an entry of the second map is written -/
theorem AIn.put2 {w : World} {base : Nat} {A : Option Addr} {n : Nat} {l : List Ack} {b1 b2 i : Nat} {g1 g2 g2' : Value → Option Value} {B : Nat} {x : Ack} {wr wx : World} (h : AIn w base A n l b1 b2 i g1 g2 B x wr)
    (hg : wr.grownBy wx (some b2)) (hm : MapU.IsMap wx Try.prog 3 b2 g2') : AIn w base A n l b1 b2 i g1 g2' B x wx :=
  ⟨⟨h.st.below.trans (below_grown hg (fun j hj => by cases hj; exact h.st.b2lt) h.st.below.size), h.st.b1lt, h.st.b2lt, h.st.bne, h.st.m1.kept hg (fun e => h.st.bne (Option.some.inj e)), hm⟩,
    h.row.of_block (hg.block _ h.lt (fun e => h.n2 (Option.some.inj e).symm)), h.n1, h.n2, h.old, Nat.lt_of_lt_of_le h.lt hg.size⟩
theorem ASt.put1 {w : World} {base : Nat} {A : Option Addr} {n : Nat} {l : List Ack} {b1 b2 i : Nat} {g1 g2 g1' : Value → Option Value} {wr wx : World} (h : ASt w base A n l b1 b2 i g1 g2 wr)
    (hg : wr.grownBy wx (some b1)) (hm : MapU.IsMap wx Try.prog 36 b1 g1') : ASt w base A n l b1 b2 i g1' g2 wx :=
  ⟨h.below.trans (below_grown hg (fun j hj => by cases hj; exact h.b1lt) h.below.size), h.b1lt, h.b2lt, h.bne, hm, h.m2.kept hg (fun e => h.bne (Option.some.inj e).symm)⟩
def ALp (w : World) (base : Nat) (A : Option Addr) (n : Nat) (l : List Ack) (b1 b2 i : Nat) (g1 g2 : Value → Option Value) (B : Nat) (x : Ack) (v10 : Value) (wx : World) : Prop :=
  ∃ m : Nat, (m : Int) ≤ x.count ∧ v10 = .int .i64 (x.base + (m : Int)) ∧ Hid (AIn w base A n l b1 b2 i g1 g2 B x wx ∧ ∀ j : Nat, j < m → g2 (.int .i64 (x.base + (j : Int))) = none ∨ g2 (.int .i64 (x.base + (j : Int))) = some x.id.v)
def ALq (w : World) (base : Nat) (A : Option Addr) (n : Nat) (l : List Ack) (b1 b2 i : Nat) (g1 g2 : Value → Option Value) (B : Nat) (x : Ack) (v13 : Value) (wx : World) : Prop :=
  ∃ m : Nat, (m : Int) ≤ x.count ∧ v13 = .int .i64 (x.base + (m : Int)) ∧ Hid (∃ g, AIn w base A n l b1 b2 i g1 g B x wx ∧ ∀ o : Int, g (.int .i64 o) = if x.base ≤ o ∧ o < x.base + (m : Int) then some x.id.v else g2 (.int .i64 o))
def ARel (w : World) (base : Nat) (A : Option Addr) (n : Nat) (l : List Ack) (b1 b2 : Nat) (v18 : Value) (wr : World) : Prop := ∃ (i : Nat), i ≤ n ∧ v18 = .int .i64 (i : Int) ∧ Hid (∃ g1 g2, ASt w base A n l b1 b2 i g1 g2 wr ∧ FirstOk l i g1 ∧ TakenOk l i g2 ∧ ∀ j, j < i → badAt l j = false)
set_option maxRecDepth 100000 in
set_option maxHeartbeats 6400000 in
theorem Acks_any (A : Option Addr) (n cap base : Nat) (l : List Ack) (w : World) (hA : AcksAt w base A n l) (hbase : base ≤ w.heap.size) (hn : n ≤ maxLen) :
    Calls Try.prog 10 #[.slice A n cap] w fun e w' => e = .returned (.tuple #[.int .i64 (acksAns l).1, .int .i64 (acksAns l).2]) ∧ Below w.heap.size w w' := by
  unfold maxLen at hn
  have HA := Lib.hid hA
  have HS := Lib.hid hbase
  have hlen : Hid (l.length = n) := Lib.hid hA.1
  clear hA hbase
  have hmm := @run_makeMap Try.prog
  go_enter Try.func10, Try.ntmps10
  go_wp2_with (fail)
  clear hmm
  have H0 : Hid (ASt w base A n l w.heap.size (w.heap.size + 1) 0 (fun _ => none) (fun _ => none) ((w.alloc (.map #[] 0)).alloc (.map #[] 0))) := Lib.hid (by
    have hb1 := (Below.refl w.heap.size w).alloc (Nat.le_refl _) (.map #[] 0)
    have hs : (w.alloc (.map #[] 0)).heap.size = w.heap.size + 1 := by simp
    have hb2 := (Below.refl (w.alloc (.map #[] 0)).heap.size (w.alloc (.map #[] 0))).alloc (Nat.le_refl _) (.map #[] 0)
    have m1 := MapU.made w Try.prog 36
    have m2 := MapU.made (w.alloc (.map #[] 0)) Try.prog 3
    rw [hs] at m2
    exact ⟨bstep hb1 hb2, Nat.le_refl _, by omega, by omega, m1.of_block (hb2.block _ m1.lt), m2⟩)
  generalize (w.alloc (.map #[] 0)).alloc (.map #[] 0) = W0 at H0
  obtain ⟨b1, hb1⟩ : ∃ b1, b1 = w.heap.size := ⟨_, rfl⟩
  obtain ⟨b2, hb2⟩ : ∃ b2, b2 = w.heap.size + 1 := ⟨_, rfl⟩
  rw [← hb2] at H0
  rw [← hb2]
  have HB2 := Lib.hid hb2
  clear hb2
  go_loopw [18] (fun v18 wr => ARel w base A n l w.heap.size b2 v18 wr) (fun v18 _ => n - (intOf v18).toNat)
  case atStart => exact ⟨0, by omega, rfl, Lib.hid ⟨_, _, H0.out, firstOk_zero _, takenOk_zero _, fun _ h => absurd h (by omega)⟩⟩
  case round =>
    clear H0
    obtain ⟨i, hi, rfl, Hr⟩ := hrel
    obtain ⟨g1, g2, hst, hfo, hto, hnb⟩ := Hr.out
    have HST := Lib.hid hst
    have HF := Lib.hid hfo
    have HT := Lib.hid hto
    have HN := Lib.hid hnb
    clear Hr hst hfo hto hnb
    by_cases hlt : i < n
    · obtain ⟨a, x, rfl, hx, hwf, hat⟩ := (HA.out.below (HST.out.below.mono HS.out)).get hlt
      have HX := Lib.hid hx
      have HW := Lib.hid hwf
      have HG : Hid (∀ w', Calls Try.prog 18 #[.agg #[.int .i64 x.step, .int .i64 x.id.prod, .int .i64 x.id.seq, .int .i64 x.err, .int .i64 x.base, .int .i64 x.count]] w' fun e w'' => e = .returned (.bool (good x)) ∧ Below w'.heap.size w' w'') := Lib.hid (good_any x)
      obtain ⟨c0, c1, c2, c3, c4, c5⟩ := At.six hat
      clear hx hwf hat
      have hB0 := (Below.refl wr.heap.size wr).alloc (Nat.le_refl _) (.cells #[.int .i64 x.step, .int .i64 x.id.prod, .int .i64 x.id.seq, .int .i64 x.err, .int .i64 x.base, .int .i64 x.count] 38)
      have HB0 := Lib.hid hB0
      clear hB0
      by_cases he : x.err = 0
      · have hd : (x.err != 0) = false := by simpa using he
        have HE := Lib.hid he
        clear he
        by_cases hg : good x = true
        · rw [hg] at HG
          have HI0 : Hid (AIn w base (some a) n l w.heap.size b2 i g1 g2 wr.heap.size x (wr.alloc (.cells #[.int .i64 x.step, .int .i64 x.id.prod, .int .i64 x.id.seq, .int .i64 x.err, .int .i64 x.base, .int .i64 x.count] 38))) := Lib.hid
            ⟨HST.out.step HB0.out, at_alloc wr x.cells _, Nat.ne_of_lt HST.out.m1.lt, Nat.ne_of_lt HST.out.m2.lt, HST.out.below.size, by simp⟩
          have hkid : MapU.IsKey Try.prog 36 (.agg #[.int .i64 x.id.prod, .int .i64 x.id.seq]) := id_key (a := x.id) HW.out.2.1.1 HW.out.2.1.2
          have HK := Lib.hid hkid
          clear hkid
          go_upto_region 9 with (go_at_call 18; with_reducible refine (HG.out _).mono ?_; rintro e W1 ⟨rfl, hW1⟩; have HI := Lib.hid (HI0.out.step hW1); clear hW1; obtain ⟨d0, d1, d2, d3, d4, d5⟩ := At.six0 HI.out.row)
          clear c0 c1 c2 c3 c4 c5 HB0 HI0 HG HST
          have HD : Hid (g1 x.id.v = none ∨ ∃ Y : Ack, g1 x.id.v = some Y.v) := Lib.hid (by
            cases h : g1 x.id.v with
            | none => exact .inl rfl
            | some v =>
              obtain ⟨k, y, _, _, _, _, rfl⟩ := HF.out.1 _ _ h
              exact .inr ⟨y, rfl⟩)
          have fin : ∀ (Y : Ack) (W2 : World), Hid (g1 x.id.v = some Y.v) → (Y.base ≠ x.base ∨ Y.count ≠ x.count) → Hid (Below w.heap.size w W2) → ((Ending.returned (Value.tuple #[.int .i64 110, .int .i64 (i : Int)])) = Ending.returned (.tuple #[.int .i64 (acksAns l).1, .int .i64 (acksAns l).2]) ∧ Below w.heap.size w W2) := fun Y W2 h1 h2 h3 => by
            rw [acksAns_bad HX.out (bad_other HF.out hg h1.out h2) HN.out]
            exact ⟨rfl, h3.out⟩
          have FIN := Lib.hid fin
          clear fin
          rcases HD.out with h0 | ⟨Y, h0⟩
          · have hget : MapU.seen true (Ack.v ⟨0, ⟨0, 0⟩, 0, 0, 0⟩) (g1 (.agg #[.int .i64 x.id.prod, .int .i64 x.id.seq])) = .tuple #[.agg #[.int .i64 0, .int .i64 0, .int .i64 0, .int .i64 0, .int .i64 0, .int .i64 0], .bool false] := by
              rw [show g1 (.agg #[.int .i64 x.id.prod, .int .i64 x.id.seq]) = none from h0]; rfl
            have HGE := Lib.hid h0
            clear h0
            go_upto_region 12 with (at_lookup; refine MapU.wpList_look rfl (.tmp 31) (.tmp 33) 56 true rfl 36 38 lawId Try.underlying56 _ (zeroAck _) w.heap.size g1 rfl HI.out.st.m1 (.agg #[.int .i64 x.id.prod, .int .i64 x.id.seq]) rfl HK.out ?_; rw [hget])
            have HI2 := Lib.hid (HI.out.step ((Below.refl W1.heap.size W1).alloc (Nat.le_refl _) (.cells #[.int .i64 0, .int .i64 0, .int .i64 0, .int .i64 0, .int .i64 0, .int .i64 0] 38)))
            generalize W1.alloc (.cells #[.int .i64 0, .int .i64 0, .int .i64 0, .int .i64 0, .int .i64 0, .int .i64 0] 38) = W2 at HI2
            have HG1 : Hid (g1 x.id.v = none ∨ ∃ Y : Ack, g1 x.id.v = some Y.v ∧ Y.base = x.base ∧ Y.count = x.count) := Lib.hid (.inl HGE.out)
            clear d0 d1 d2 d3 d4 d5 hget HI HGE FIN HD
            generalize wr.heap.size = B at HI2 ⊢
            obtain ⟨c0, c1, c2, c3, c4, c5⟩ := At.six0 HI2.out.row
            obtain ⟨p1, p2, p3, p4⟩ := good_nums hg
            go_wp2_with (fail)
            clear c0 c1 c2 c3 c4 c5
            go_loopw [10] (fun v10 wx => ALp w base (some a) n l w.heap.size b2 i g1 g2 B x v10 wx) (fun v10 _ => (x.base + x.count - intOf v10).toNat)
            case atStart => exact ⟨0, by omega, by simp, Lib.hid ⟨HI2.out, fun _ h => absurd h (by omega)⟩⟩
            case round =>
              clear HI2
              obtain ⟨m, hm, rfl, Hm⟩ := hrel
              have HI3 := Lib.hid Hm.out.1
              obtain ⟨c0, c1, c2, c3, c4, c5⟩ := At.six0 HI3.out.row
              have w1 : IntKind.i64.wrap (x.base + (m : Int) - x.base) = (m : Int) := by rw [IntKind.wrap_i64]; omega
              by_cases hlt3 : (m : Int) < x.count
              · have hkey : Hid (MapU.IsKey Try.prog 3 (.int .i64 (x.base + (m : Int)))) := Lib.hid (int_key (WalkArith.wf_i64 (by omega)))
                have w2 : IntKind.i64.wrap (x.base + (m : Int) + 1) = x.base + (m : Int) + 1 := by rw [IntKind.wrap_i64]; omega
                have HD2 : Hid (g2 (.int .i64 (x.base + (m : Int))) = none ∨ ∃ y : Pid, g2 (.int .i64 (x.base + (m : Int))) = some y.v) := Lib.hid (by
                  cases h : g2 (.int .i64 (x.base + (m : Int))) with
                  | none => exact .inl rfl
                  | some v =>
                    obtain ⟨k, y, _, _, _, _, _, rfl⟩ := HT.out.1 _ _ h
                    exact .inr ⟨y.id, rfl⟩)
                rcases HD2.out with h0 | ⟨y, h0⟩
                · have hget : MapU.seen true (Pid.v ⟨0, 0⟩) (g2 (.int .i64 (x.base + (m : Int)))) = .tuple #[.agg #[.int .i64 0, .int .i64 0], .bool false] := by rw [h0]; rfl
                  have HGE2 := Lib.hid h0
                  clear h0
                  go_wp2_with (at_lookup; refine MapU.wpList_look rfl (.tmp 65) (.tmp 66) 57 true rfl 3 36 lawInt Try.underlying57 _ (zeroId _) b2 g2 rfl HI3.out.st.m2 (.int .i64 (x.base + (m : Int))) rfl hkey.out ?_; rw [hget])
                  go_roundw
                  case rel =>
                    refine ⟨m + 1, by omega, by rw [show x.base + ((m + 1 : Nat) : Int) = x.base + (m : Int) + 1 by omega], Lib.hid ⟨HI3.out.step ((Below.refl _ _).alloc (Nat.le_refl _) _), fun j hj => ?_⟩⟩
                    rcases Nat.lt_succ_iff_lt_or_eq.1 hj with h | rfl
                    · exact Hm.out.2 j h
                    · exact .inl HGE2.out
                  case measure => simp [intOf]; omega
                · have hget : MapU.seen true (Pid.v ⟨0, 0⟩) (g2 (.int .i64 (x.base + (m : Int)))) = .tuple #[.agg #[.int .i64 y.prod, .int .i64 y.seq], .bool true] := by rw [h0]; rfl
                  have HGE2 := Lib.hid h0
                  clear h0
                  have HI4 := Lib.hid (HI3.out.step ((Below.refl wr.heap.size wr).alloc (Nat.le_refl _) (.cells #[.int .i64 y.prod, .int .i64 y.seq] 36)))
                  obtain ⟨q0, q1, q2, q3, q4, q5⟩ := At.six0 HI4.out.row
                  have hv := neqId y.prod y.seq x.id.prod x.id.seq
                  have hgd := fun (w : World) (p q : Operand) (xs ys : Array Value) => run_eqGuard_agg (P := Try.prog) w .neq 36 p q xs ys guardId
                  by_cases hs : decide ((⟨y.prod, y.seq⟩ : Pid) = ⟨x.id.prod, x.id.seq⟩) = true
                  · simp only [hs, Bool.not_true] at hv
                    have HSM := Lib.hid hs
                    clear hs
                    go_wp2_with (at_lookup; refine MapU.wpList_look rfl (.tmp 65) (.tmp 66) 57 true rfl 3 36 lawInt Try.underlying57 _ (zeroId _) b2 g2 rfl HI3.out.st.m2 (.int .i64 (x.base + (m : Int))) rfl hkey.out ?_; rw [hget])
                    go_roundw
                    case rel =>
                      refine ⟨m + 1, by omega, by rw [show x.base + ((m + 1 : Nat) : Int) = x.base + (m : Int) + 1 by omega], Lib.hid ⟨HI4.out, fun j hj => ?_⟩⟩
                      rcases Nat.lt_succ_iff_lt_or_eq.1 hj with h | rfl
                      · exact Hm.out.2 j h
                      · right
                        rw [HGE2.out, show y = x.id from of_decide_eq_true HSM.out]
                    case measure => simp [intOf]; omega
                  · rw [Bool.not_eq_true] at hs
                    simp only [hs, Bool.not_false] at hv
                    have HSM := Lib.hid hs
                    clear hs
                    go_wp2_with (at_lookup; refine MapU.wpList_look rfl (.tmp 65) (.tmp 66) 57 true rfl 3 36 lawInt Try.underlying57 _ (zeroId _) b2 g2 rfl HI3.out.st.m2 (.int .i64 (x.base + (m : Int))) rfl hkey.out ?_; rw [hget])
                    go_ret2
                    rw [acksAns_bad HX.out (bad_taken HT.out hg HGE2.out (by omega) (by omega) (fun e => of_decide_eq_false HSM.out (pid_v_inj e))) HN.out]
                    exact ⟨rfl, HI4.out.st.below⟩
              · have hme : Hid ((m : Int) = x.count) := Lib.hid (by omega)
                go_wp2_with (fail)
                clear c0 c1 c2 c3 c4 c5 w1
                go_loopw [13] (fun v13 wx => ALq w base (some a) n l w.heap.size b2 i g1 g2 B x v13 wx) (fun v13 _ => (x.base + x.count - intOf v13).toNat)
                case atStart => exact ⟨0, by omega, by simp, Lib.hid ⟨g2, HI3.out, fun o => by rw [if_neg (by omega)]⟩⟩
                case round =>
                  clear HI3
                  obtain ⟨m2, hm2, rfl, Hm2⟩ := hrel
                  obtain ⟨g, hin, hsp⟩ := Hm2.out
                  have HI5 := Lib.hid hin
                  have HSP := Lib.hid hsp
                  clear hin hsp
                  obtain ⟨c0, c1, c2, c3, c4, c5⟩ := At.six0 HI5.out.row
                  have w1 : IntKind.i64.wrap (x.base + (m2 : Int) - x.base) = (m2 : Int) := by rw [IntKind.wrap_i64]; omega
                  by_cases hlt4 : (m2 : Int) < x.count
                  · have hkey : Hid (MapU.IsKey Try.prog 3 (.int .i64 (x.base + (m2 : Int)))) := Lib.hid (int_key (WalkArith.wf_i64 (by omega)))
                    have w2 : IntKind.i64.wrap (x.base + (m2 : Int) + 1) = x.base + (m2 : Int) + 1 := by rw [IntKind.wrap_i64]; omega
                    go_wp2_with (at_mapUpdate; refine MapU.wpList_put rfl (.tmp 89) (.tmp 90) (.tmp 92) 57 rfl 3 36 lawInt Try.underlying57 b2 g rfl HI5.out.st.m2 (.int .i64 (x.base + (m2 : Int))) (.agg #[.int .i64 x.id.prod, .int .i64 x.id.seq]) rfl rfl hkey.out ?_; intro w7 hm7 hg7; go_frame)
                    go_roundw
                    case rel =>
                      refine ⟨m2 + 1, by omega, by rw [show x.base + ((m2 + 1 : Nat) : Int) = x.base + (m2 : Int) + 1 by omega], Lib.hid ⟨_, HI5.out.put2 hg7 hm7, fun o => ?_⟩⟩
                      by_cases ho : o = x.base + (m2 : Int)
                      · subst ho
                        rw [MapU.put_same, if_pos (by omega)]; rfl
                      · rw [MapU.put_other _ _ _ (fun h => ho (by injection h)), HSP.out]
                        by_cases hc : x.base ≤ o ∧ o < x.base + (m2 : Int)
                        · rw [if_pos hc, if_pos (by omega)]
                        · rw [if_neg hc, if_neg (by omega)]
                    case measure => simp [intOf]; omega
                  · have hme2 : Hid ((m2 : Int) = x.count) := Lib.hid (by omega)
                    go_wp2_with (at_mapUpdate; refine MapU.wpList_put rfl (.tmp 93) (.tmp 95) (.tmp 96) 56 rfl 36 38 lawId Try.underlying56 w.heap.size g1 rfl HI5.out.st.m1 (.agg #[.int .i64 x.id.prod, .int .i64 x.id.seq]) (.agg #[.int .i64 x.step, .int .i64 x.id.prod, .int .i64 x.id.seq, .int .i64 x.err, .int .i64 x.base, .int .i64 x.count]) rfl rfl HK.out ?_; intro w8 hm8 hg8; go_frame)
                    go_roundw
                    case rel =>
                      have hst := HI5.out.st.put1 hg8 hm8
                      refine ⟨i + 1, by omega, by go_num, Lib.hid ⟨_, g, ⟨hst.below, hst.b1lt, hst.b2lt, hst.bne, hst.m1, hst.m2⟩, firstOk_put HF.out HX.out hg, takenOk_put HT.out HX.out hg (fun o => by rw [HSP.out, hme2.out]), fun j hj => ?_⟩⟩
                      rcases Nat.lt_succ_iff_lt_or_eq.1 hj with h | rfl
                      · exact HN.out j h
                      · refine badAt_ok HX.out hg HF.out HT.out HN.out HG1.out fun o o1 o2 => ?_
                        have := Hm.out.2 (o - x.base).toNat (by have := hme.out; omega)
                        rwa [show x.base + (((o - x.base).toNat : Nat) : Int) = o by omega] at this
                    case measure => simp [intOf]; omega
          · have hget : MapU.seen true (Ack.v ⟨0, ⟨0, 0⟩, 0, 0, 0⟩) (g1 (.agg #[.int .i64 x.id.prod, .int .i64 x.id.seq])) = .tuple #[.agg #[.int .i64 Y.step, .int .i64 Y.id.prod, .int .i64 Y.id.seq, .int .i64 Y.err, .int .i64 Y.base, .int .i64 Y.count], .bool true] := by
              rw [show g1 (.agg #[.int .i64 x.id.prod, .int .i64 x.id.seq]) = some Y.v from h0]; rfl
            have HGE := Lib.hid h0
            clear h0
            have HI2 := Lib.hid (HI.out.step ((Below.refl W1.heap.size W1).alloc (Nat.le_refl _) (.cells #[.int .i64 Y.step, .int .i64 Y.id.prod, .int .i64 Y.id.seq, .int .i64 Y.err, .int .i64 Y.base, .int .i64 Y.count] 38)))
            obtain ⟨q0, q1, q2, q3, q4, q5⟩ := At.six0 HI2.out.row
            by_cases e1 : Y.base = x.base
            · have n1 : (x.base != Y.base) = false := by simpa using e1.symm
              have E1 := Lib.hid e1
              clear e1
              by_cases e2 : Y.count = x.count
              · have n2 : (x.count != Y.count) = false := by simpa using e2.symm
                have E2 := Lib.hid e2
                clear e2
                go_upto_region 12 with (at_lookup; refine MapU.wpList_look rfl (.tmp 31) (.tmp 33) 56 true rfl 36 38 lawId Try.underlying56 _ (zeroAck _) w.heap.size g1 rfl HI.out.st.m1 (.agg #[.int .i64 x.id.prod, .int .i64 x.id.seq]) rfl HK.out ?_; rw [hget])
                clear q0 q1 q2 q3 q4 q5
                generalize W1.alloc (.cells #[.int .i64 Y.step, .int .i64 Y.id.prod, .int .i64 Y.id.seq, .int .i64 Y.err, .int .i64 Y.base, .int .i64 Y.count] 38) = W2 at HI2
                have HG1 : Hid (g1 x.id.v = none ∨ ∃ Y : Ack, g1 x.id.v = some Y.v ∧ Y.base = x.base ∧ Y.count = x.count) := Lib.hid (.inr ⟨Y, HGE.out, E1.out, E2.out⟩)
                clear d0 d1 d2 d3 d4 d5 hget HI HGE FIN HD n1 E1 n2 E2
                generalize wr.heap.size = B at HI2 ⊢
                obtain ⟨c0, c1, c2, c3, c4, c5⟩ := At.six0 HI2.out.row
                obtain ⟨p1, p2, p3, p4⟩ := good_nums hg
                go_wp2_with (fail)
                clear c0 c1 c2 c3 c4 c5
                go_loopw [10] (fun v10 wx => ALp w base (some a) n l w.heap.size b2 i g1 g2 B x v10 wx) (fun v10 _ => (x.base + x.count - intOf v10).toNat)
                case atStart => exact ⟨0, by omega, by simp, Lib.hid ⟨HI2.out, fun _ h => absurd h (by omega)⟩⟩
                case round =>
                  clear HI2
                  obtain ⟨m, hm, rfl, Hm⟩ := hrel
                  have HI3 := Lib.hid Hm.out.1
                  obtain ⟨c0, c1, c2, c3, c4, c5⟩ := At.six0 HI3.out.row
                  have w1 : IntKind.i64.wrap (x.base + (m : Int) - x.base) = (m : Int) := by rw [IntKind.wrap_i64]; omega
                  by_cases hlt3 : (m : Int) < x.count
                  · have hkey : Hid (MapU.IsKey Try.prog 3 (.int .i64 (x.base + (m : Int)))) := Lib.hid (int_key (WalkArith.wf_i64 (by omega)))
                    have w2 : IntKind.i64.wrap (x.base + (m : Int) + 1) = x.base + (m : Int) + 1 := by rw [IntKind.wrap_i64]; omega
                    have HD2 : Hid (g2 (.int .i64 (x.base + (m : Int))) = none ∨ ∃ y : Pid, g2 (.int .i64 (x.base + (m : Int))) = some y.v) := Lib.hid (by
                      cases h : g2 (.int .i64 (x.base + (m : Int))) with
                      | none => exact .inl rfl
                      | some v =>
                        obtain ⟨k, y, _, _, _, _, _, rfl⟩ := HT.out.1 _ _ h
                        exact .inr ⟨y.id, rfl⟩)
                    rcases HD2.out with h0 | ⟨y, h0⟩
                    · have hget : MapU.seen true (Pid.v ⟨0, 0⟩) (g2 (.int .i64 (x.base + (m : Int)))) = .tuple #[.agg #[.int .i64 0, .int .i64 0], .bool false] := by rw [h0]; rfl
                      have HGE2 := Lib.hid h0
                      clear h0
                      go_wp2_with (at_lookup; refine MapU.wpList_look rfl (.tmp 65) (.tmp 66) 57 true rfl 3 36 lawInt Try.underlying57 _ (zeroId _) b2 g2 rfl HI3.out.st.m2 (.int .i64 (x.base + (m : Int))) rfl hkey.out ?_; rw [hget])
                      go_roundw
                      case rel =>
                        refine ⟨m + 1, by omega, by rw [show x.base + ((m + 1 : Nat) : Int) = x.base + (m : Int) + 1 by omega], Lib.hid ⟨HI3.out.step ((Below.refl _ _).alloc (Nat.le_refl _) _), fun j hj => ?_⟩⟩
                        rcases Nat.lt_succ_iff_lt_or_eq.1 hj with h | rfl
                        · exact Hm.out.2 j h
                        · exact .inl HGE2.out
                      case measure => simp [intOf]; omega
                    · have hget : MapU.seen true (Pid.v ⟨0, 0⟩) (g2 (.int .i64 (x.base + (m : Int)))) = .tuple #[.agg #[.int .i64 y.prod, .int .i64 y.seq], .bool true] := by rw [h0]; rfl
                      have HGE2 := Lib.hid h0
                      clear h0
                      have HI4 := Lib.hid (HI3.out.step ((Below.refl wr.heap.size wr).alloc (Nat.le_refl _) (.cells #[.int .i64 y.prod, .int .i64 y.seq] 36)))
                      obtain ⟨q0, q1, q2, q3, q4, q5⟩ := At.six0 HI4.out.row
                      have hv := neqId y.prod y.seq x.id.prod x.id.seq
                      have hgd := fun (w : World) (p q : Operand) (xs ys : Array Value) => run_eqGuard_agg (P := Try.prog) w .neq 36 p q xs ys guardId
                      by_cases hs : decide ((⟨y.prod, y.seq⟩ : Pid) = ⟨x.id.prod, x.id.seq⟩) = true
                      · simp only [hs, Bool.not_true] at hv
                        have HSM := Lib.hid hs
                        clear hs
                        go_wp2_with (at_lookup; refine MapU.wpList_look rfl (.tmp 65) (.tmp 66) 57 true rfl 3 36 lawInt Try.underlying57 _ (zeroId _) b2 g2 rfl HI3.out.st.m2 (.int .i64 (x.base + (m : Int))) rfl hkey.out ?_; rw [hget])
                        go_roundw
                        case rel =>
                          refine ⟨m + 1, by omega, by rw [show x.base + ((m + 1 : Nat) : Int) = x.base + (m : Int) + 1 by omega], Lib.hid ⟨HI4.out, fun j hj => ?_⟩⟩
                          rcases Nat.lt_succ_iff_lt_or_eq.1 hj with h | rfl
                          · exact Hm.out.2 j h
                          · right
                            rw [HGE2.out, show y = x.id from of_decide_eq_true HSM.out]
                        case measure => simp [intOf]; omega
                      · rw [Bool.not_eq_true] at hs
                        simp only [hs, Bool.not_false] at hv
                        have HSM := Lib.hid hs
                        clear hs
                        go_wp2_with (at_lookup; refine MapU.wpList_look rfl (.tmp 65) (.tmp 66) 57 true rfl 3 36 lawInt Try.underlying57 _ (zeroId _) b2 g2 rfl HI3.out.st.m2 (.int .i64 (x.base + (m : Int))) rfl hkey.out ?_; rw [hget])
                        go_ret2
                        rw [acksAns_bad HX.out (bad_taken HT.out hg HGE2.out (by omega) (by omega) (fun e => of_decide_eq_false HSM.out (pid_v_inj e))) HN.out]
                        exact ⟨rfl, HI4.out.st.below⟩
                  · have hme : Hid ((m : Int) = x.count) := Lib.hid (by omega)
                    go_wp2_with (fail)
                    clear c0 c1 c2 c3 c4 c5 w1
                    go_loopw [13] (fun v13 wx => ALq w base (some a) n l w.heap.size b2 i g1 g2 B x v13 wx) (fun v13 _ => (x.base + x.count - intOf v13).toNat)
                    case atStart => exact ⟨0, by omega, by simp, Lib.hid ⟨g2, HI3.out, fun o => by rw [if_neg (by omega)]⟩⟩
                    case round =>
                      clear HI3
                      obtain ⟨m2, hm2, rfl, Hm2⟩ := hrel
                      obtain ⟨g, hin, hsp⟩ := Hm2.out
                      have HI5 := Lib.hid hin
                      have HSP := Lib.hid hsp
                      clear hin hsp
                      obtain ⟨c0, c1, c2, c3, c4, c5⟩ := At.six0 HI5.out.row
                      have w1 : IntKind.i64.wrap (x.base + (m2 : Int) - x.base) = (m2 : Int) := by rw [IntKind.wrap_i64]; omega
                      by_cases hlt4 : (m2 : Int) < x.count
                      · have hkey : Hid (MapU.IsKey Try.prog 3 (.int .i64 (x.base + (m2 : Int)))) := Lib.hid (int_key (WalkArith.wf_i64 (by omega)))
                        have w2 : IntKind.i64.wrap (x.base + (m2 : Int) + 1) = x.base + (m2 : Int) + 1 := by rw [IntKind.wrap_i64]; omega
                        go_wp2_with (at_mapUpdate; refine MapU.wpList_put rfl (.tmp 89) (.tmp 90) (.tmp 92) 57 rfl 3 36 lawInt Try.underlying57 b2 g rfl HI5.out.st.m2 (.int .i64 (x.base + (m2 : Int))) (.agg #[.int .i64 x.id.prod, .int .i64 x.id.seq]) rfl rfl hkey.out ?_; intro w7 hm7 hg7; go_frame)
                        go_roundw
                        case rel =>
                          refine ⟨m2 + 1, by omega, by rw [show x.base + ((m2 + 1 : Nat) : Int) = x.base + (m2 : Int) + 1 by omega], Lib.hid ⟨_, HI5.out.put2 hg7 hm7, fun o => ?_⟩⟩
                          by_cases ho : o = x.base + (m2 : Int)
                          · subst ho
                            rw [MapU.put_same, if_pos (by omega)]; rfl
                          · rw [MapU.put_other _ _ _ (fun h => ho (by injection h)), HSP.out]
                            by_cases hc : x.base ≤ o ∧ o < x.base + (m2 : Int)
                            · rw [if_pos hc, if_pos (by omega)]
                            · rw [if_neg hc, if_neg (by omega)]
                        case measure => simp [intOf]; omega
                      · have hme2 : Hid ((m2 : Int) = x.count) := Lib.hid (by omega)
                        go_wp2_with (at_mapUpdate; refine MapU.wpList_put rfl (.tmp 93) (.tmp 95) (.tmp 96) 56 rfl 36 38 lawId Try.underlying56 w.heap.size g1 rfl HI5.out.st.m1 (.agg #[.int .i64 x.id.prod, .int .i64 x.id.seq]) (.agg #[.int .i64 x.step, .int .i64 x.id.prod, .int .i64 x.id.seq, .int .i64 x.err, .int .i64 x.base, .int .i64 x.count]) rfl rfl HK.out ?_; intro w8 hm8 hg8; go_frame)
                        go_roundw
                        case rel =>
                          have hst := HI5.out.st.put1 hg8 hm8
                          refine ⟨i + 1, by omega, by go_num, Lib.hid ⟨_, g, ⟨hst.below, hst.b1lt, hst.b2lt, hst.bne, hst.m1, hst.m2⟩, firstOk_put HF.out HX.out hg, takenOk_put HT.out HX.out hg (fun o => by rw [HSP.out, hme2.out]), fun j hj => ?_⟩⟩
                          rcases Nat.lt_succ_iff_lt_or_eq.1 hj with h | rfl
                          · exact HN.out j h
                          · refine badAt_ok HX.out hg HF.out HT.out HN.out HG1.out fun o o1 o2 => ?_
                            have := Hm.out.2 (o - x.base).toNat (by have := hme.out; omega)
                            rwa [show x.base + (((o - x.base).toNat : Nat) : Int) = o by omega] at this
                        case measure => simp [intOf]; omega
              · have n2 : (x.count != Y.count) = true := by simpa using fun h => e2 h.symm
                have E2 := Lib.hid e2
                clear e2
                go_wp2_with (at_lookup; refine MapU.wpList_look rfl (.tmp 31) (.tmp 33) 56 true rfl 36 38 lawId Try.underlying56 _ (zeroAck _) w.heap.size g1 rfl HI.out.st.m1 (.agg #[.int .i64 x.id.prod, .int .i64 x.id.seq]) rfl HK.out ?_; rw [hget])
                go_ret2
                exact FIN.out Y _ HGE (.inr E2.out) (Lib.hid (bstep HI.out.st.below ((Below.refl W1.heap.size W1).alloc (Nat.le_refl _) _)))
            · have n1 : (x.base != Y.base) = true := by simpa using fun h => e1 h.symm
              have E1 := Lib.hid e1
              clear e1
              go_wp2_with (at_lookup; refine MapU.wpList_look rfl (.tmp 31) (.tmp 33) 56 true rfl 36 38 lawId Try.underlying56 _ (zeroAck _) w.heap.size g1 rfl HI.out.st.m1 (.agg #[.int .i64 x.id.prod, .int .i64 x.id.seq]) rfl HK.out ?_; rw [hget])
              go_ret2
              exact FIN.out Y _ HGE (.inl E1.out) (Lib.hid (bstep HI.out.st.below ((Below.refl W1.heap.size W1).alloc (Nat.le_refl _) _)))
        · rw [Bool.not_eq_true] at hg
          rw [hg] at HG
          go_wp2_with (go_at_call 18; with_reducible refine (HG.out _).mono ?_; rintro e W1 ⟨rfl, hW1⟩; have HW1 := Lib.hid (bstep (bstep HST.out.below HB0.out) hW1); clear hW1)
          go_ret2
          rw [acksAns_bad HX.out (by unfold badAck; rw [hg]; simp [HE.out]) HN.out]
          exact ⟨rfl, HW1.out⟩
      · have hd : (x.err != 0) = true := by simpa using he
        go_wp2_with (fail)
        go_roundw
        case rel =>
          refine ⟨i + 1, by omega, by go_num, Lib.hid ⟨g1, g2, ?_, firstOk_skip HF.out HX.out he, takenOk_skip HT.out HX.out he, fun j hj => ?_⟩⟩
          · have := HST.out.step HB0.out
            exact ⟨this.below, this.b1lt, this.b2lt, this.bne, this.m1, this.m2⟩
          · rcases Nat.lt_succ_iff_lt_or_eq.1 hj with h | rfl
            · exact HN.out j h
            · exact badAt_skip HX.out he
        case measure => simp [intOf]; omega
    · obtain rfl : i = n := by omega
      go_wp2_with (fail)
      go_ret2
      rw [acksAns_ok (fun j hj => HN.out j (by rw [hlen.out] at hj; exact hj))]
      exact ⟨rfl, HST.out.below⟩
end Go.Proofs.Ytkgidfehndkhmaa
