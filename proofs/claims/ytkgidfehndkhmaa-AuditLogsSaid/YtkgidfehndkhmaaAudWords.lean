/- The walk of postroadlaw18.words. -/
import Derived.Test.YtkgidfehndkhmaaAudLeaf
import Derived.Test.YtkgidfehndkhmaaAudKeys
import Derived.Test.YtkgidfehndkhmaaAudMake
import Derived.Test.YtkgidfehndkhmaaMem
import Derived.Test.YtkgidfehndkhmaaLoud
import Derived.Test.YtkgidfehndkhmaaRows3
import Derived.OwnWalk
import Derived.BigQuiet
import Derived.Deep.RegionHeld3
namespace Go.PostAud
theorem RecsAt.base {w : World} {base base' : Nat} {A : Option Addr} {n : Nat} {l : List Rec} (h : RecsAt w base A n l) (hb : base ≤ base') : RecsAt w base' A n l := by
  obtain ⟨h1, h0, h2 | ⟨a, h2, h3, h4⟩⟩ := h
  · exact ⟨h1, h0, .inl h2⟩
  · exact ⟨h1, h0, .inr ⟨a, h2, Nat.lt_of_lt_of_le h3 hb, h4⟩⟩
theorem FetsAt.base {w : World} {base base' : Nat} {A : Option Addr} {n : Nat} {l : List Fet} (h : FetsAt w base A n l) (hb : base ≤ base') : FetsAt w base' A n l := by
  obtain ⟨h1, h0, h2 | ⟨a, h2, h3, h4⟩⟩ := h
  · exact ⟨h1, h0, .inl h2⟩
  · refine ⟨h1, h0, .inr ⟨a, h2, Nat.lt_of_lt_of_le h3 hb, fun i x hx => ?_⟩⟩
    obtain ⟨h5, A', m, c, h6, h7⟩ := h4 i x hx
    exact ⟨h5, A', m, c, h6, RecsAt.base h7 hb⟩
theorem SdsAt.base {w : World} {base base' : Nat} {A : Option Addr} {n : Nat} {l : List Sd} (h : SdsAt w base A n l) (hb : base ≤ base') : SdsAt w base' A n l := by
  obtain ⟨h1, h0, h2 | ⟨a, h2, h3, h4⟩⟩ := h
  · exact ⟨h1, h0, .inl h2⟩
  · refine ⟨h1, h0, .inr ⟨a, h2, Nat.lt_of_lt_of_le h3 hb, fun i x hx => ?_⟩⟩
    obtain ⟨h5, A', m, c, h6, h7⟩ := h4 i x hx
    exact ⟨h5, A', m, c, h6, RecsAt.base h7 hb⟩
theorem AcksAt.base {w : World} {base base' : Nat} {A : Option Addr} {n : Nat} {l : List Ack} (h : AcksAt w base A n l) (hb : base ≤ base') : AcksAt w base' A n l := by
  obtain ⟨h1, h2 | ⟨a, h2, h3, h4⟩⟩ := h
  · exact ⟨h1, .inl h2⟩
  · exact ⟨h1, .inr ⟨a, h2, Nat.lt_of_lt_of_le h3 hb, h4⟩⟩
end Go.PostAud
namespace Go.Proofs.Ytkgidfehndkhmaa
open Go.RowKit Go.PostAud Go.PostMem
def WRel (w0 : World) (n : Nat) (f : Nat → List Value) (v3 v4 : Value) (wr : World) : Prop := ∃ (i : Nat) (A : Option Addr) (c : Nat), i ≤ n ∧ v3 = .slice A i c ∧ v4 = .int .i64 (i : Int) ∧ Hid (Below w0.heap.size w0 wr ∧ wr.ownsRow w0.heap.size 47 3 (.slice A i c) i ((List.range i).flatMap f))
theorem infoSaid : (Try.prog.info? 47).map (fun i => (i.zero, i.size, i.bytes)) = some (some (.agg #[.int .i64 0, .int .i64 0, .slice none 0 0]), 3, 40) := by kernel_rfl
set_option maxRecDepth 100000 in
set_option maxHeartbeats 1600000 in
theorem words_any (A : Option Addr) (n cap base : Nat) (sd : List Sd) (w : World) (hA : SdsAt w base A n sd) (hbase : base ≤ w.heap.size) (hby : n * 40 ≤ 140737488351232) :
    Calls Try.prog 14 #[.slice A n cap] w fun e w' => ∃ A' c', e = .returned (.slice A' n c') ∧ SdsAt w' w'.heap.size A' n sd ∧ Below w.heap.size w w' := by
  have hn := hA.2.1
  have hn' := Lib.hid hA.2.1
  unfold maxLen at hn
  have HA := Lib.hid hA
  have hlen : Hid (sd.length = n) := Lib.hid hA.1
  have hex : ∃ f : Nat → List Value, (∀ i, (f i).length = 3) ∧ ∀ i x, sd[i]? = some x → x.wf ∧ ∃ A' m c, f i = x.cells (.slice A' m c) ∧ RecsAt w base A' m x.recs ∧ ∀ a, A = some a → At w (a.add (i * 3)) (x.cells (.slice A' m c)) := by
    obtain ⟨h1, h0, h2 | ⟨a, h2, h3, h4⟩⟩ := hA
    · refine ⟨fun _ => [undef, undef, undef], fun _ => rfl, fun i x hx => ?_⟩
      have := (List.getElem?_eq_some_iff.1 hx).1
      omega
    · have h5 : ∀ i : Nat, ∃ l : List Value, l.length = 3 ∧ ∀ x, sd[i]? = some x → x.wf ∧ ∃ A' m c, l = x.cells (.slice A' m c) ∧ RecsAt w base A' m x.recs ∧ ∀ a, A = some a → At w (a.add (i * 3)) (x.cells (.slice A' m c)) := fun i => by
        cases hx : sd[i]? with
        | none => exact ⟨[undef, undef, undef], rfl, fun x h => nomatch h⟩
        | some x =>
          obtain ⟨hw, A', m, c, h6, h7⟩ := h4 i x hx
          refine ⟨x.cells (.slice A' m c), rfl, fun x' h => ?_⟩
          obtain rfl := Option.some.inj h
          refine ⟨hw, A', m, c, rfl, h7, fun a' ha => ?_⟩
          rw [h2] at ha
          obtain rfl := Option.some.inj ha
          exact h6
      exact ⟨fun i => (h5 i).choose, fun i => (h5 i).choose_spec.1, fun i x hx => (h5 i).choose_spec.2 x hx⟩
  obtain ⟨f, hf3, hfx⟩ := hex
  have HF3 := Lib.hid hf3
  have HFX := Lib.hid hfx
  clear hA hf3 hfx
  go_enter Try.func14, Try.ntmps14
  go_wp2_with (fail)
  go_loopw [3, 4] (fun v3 v4 w9 => WRel w n f v3 v4 w9) (fun _ v4 _ => n - (intOf v4).toNat)
  case atStart => exact ⟨0, none, 0, by omega, rfl, rfl, Lib.hid ⟨Below.refl _ _, World.ownsRow_nil _ _ _ _⟩⟩
  case round =>
    obtain ⟨i, A0, c0, hi, rfl, rfl, Hr⟩ := hrel
    by_cases hlt : i < n
    · obtain ⟨a, x, A1, m1, c1, rfl, hx, hwf, _, _⟩ := HA.out.get hlt
      obtain ⟨_, A', m, c, hfi, hrc, hat⟩ := HFX.out i x hx
      have HAT := Lib.hid (hat a rfl)
      have HFI := Lib.hid hfi
      clear hx hwf hfi hrc hat
      go_wp2_with (fail)
      refine wp_region_noPanic ?_
      refine Loud.wp_drawn (Keeps w.heap.size 47 3 (.slice A0 i c0) i ((List.range i).flatMap f)) 12 14 26 Keeps.trans Keeps.drewN (by kernel_rfl) (fun _ _ _ _ _ h => h) rfl (by kernel_rfl) ?_
      apply Exists.intro
      apply And.intro
      case left =>
        intro w2 h2
        have h2' : Below w.heap.size w w2 := (Hr.out.1.trans (bl_drew wr _)).trans h2.1
        obtain ⟨d0, d1, d2⟩ := At.three (HAT.out.later h2')
        clear h2 h2'
        simp only [List.take_succ_cons, List.take_zero]
        iterate 12 (go_big_quiet_step (fail))
        exact wpQuiet_nil rfl
      case right =>
        simp only [List.take_succ_cons, List.take_zero, List.drop_succ_cons, List.drop_zero]
        unfold Loud.loudW
        rintro _ ⟨m2, rfl⟩
        go_wp2_with (fail)
        refine ⟨⟨⟨rfl, rfl, rfl, by simp, fun k hk => heap_alloc_old (wr.drewN (1 + m2)) _ (Nat.lt_of_lt_of_le hk Hr.out.1.size)⟩, fun h => own_heap (h.alloc (.cells #[.int .i64 x.id.prod, .int .i64 x.id.seq, .slice A' m c] 47)) rfl⟩, ?_⟩
        unfold Loud.loudW
        rintro _ ⟨m3, rfl⟩
        refine wpList_rows rfl (.tmp 11) (.tmp 23) 31 rfl w.heap.size 47 _ 3 40 infoSaid rfl (by decide) Try.underlying31 (.slice A0 i c0) i ((List.range i).flatMap f) rfl (own_heap (Hr.out.2.alloc (.cells #[.int .i64 x.id.prod, .int .i64 x.id.seq, .slice A' m c] 47)) rfl) ⟨wr.heap.size, 0, none⟩ 1 1 [.int .i64 x.id.prod, .int .i64 x.id.seq, .slice A' m c] rfl rfl ?_ ?_ ?_ ?_ ?_ ?_
        · exact fun j u hj => (cells_new wr [.int .i64 x.id.prod, .int .i64 x.id.seq, .slice A' m c] 47 j u hj)
        · intro u hu
          simp only [List.mem_cons, List.not_mem_nil, or_false] at hu
          rcases hu with rfl | rfl | rfl <;> rfl
        · unfold maxLen; omega
        · omega
        · have := Hr.out.1.size; simp; omega
        intro v3 w3 hown hold hg
        have hb3 : Below w.heap.size wr w3 := below_grown (w := wr) (grown_trans (grown_none (grown_new wr (.cells #[.int .i64 x.id.prod, .int .i64 x.id.seq, .slice A' m c] 47)) _) ⟨hg.os, hg.tape, hg.output, hg.size, hg.block⟩) (fun k hk => own_ge Hr.out.2 k hk) Hr.out.1.size
        refine wpList_nil ⟨⟨⟨hb3.os, hb3.tape, hb3.output, hg.size, fun k hk => ?_⟩, fun _ => hold⟩, ?_⟩
        · exact hg.block k (by have := Hr.out.1.size; simp; omega) (fun e => by have := own_ge Hr.out.2 k e.symm; omega)
        unfold Loud.loudW
        rintro _ ⟨m4, rfl⟩
        have HB3 := Lib.hid (Hr.out.1.trans hb3)
        have HO := Lib.hid hown
        clear hown hold hg hb3
        obtain ⟨A3, c3, rfl, hc3, _⟩ := own_slice HO.out
        go_wp2_with (fail)
        refine NoPanic.normal ?_
        go_wp2_with (fail)
        go_roundw
        case rel =>
          refine ⟨i + 1, A3, c3, by omega, rfl, by go_num, Lib.hid ⟨HB3.out.trans (bl_drewN w3 m4 _), ?_⟩⟩
          refine own_heap (w := w3) ?_ rfl
          rw [List.range_succ, List.flatMap_append, List.flatMap_cons, List.flatMap_nil, List.append_nil, HFI.out]
          exact HO.out
        case measure => simp [intOf]; omega
    · obtain rfl : i = n := by omega
      go_wp2_with (fail)
      go_ret
      refine ⟨A0, c0, rfl, ?_, Hr.out.1⟩
      obtain ⟨_, _, e, _, hz⟩ := own_slice Hr.out.2
      have HO := Hr.out.2
      cases e
      refine ⟨hlen.out, hn'.out, ?_⟩
      rcases hz with h0 | ⟨g, rfl, hg, _⟩
      · exact .inl h0
      · refine .inr ⟨_, rfl, hg, fun j x hx => ?_⟩
        have hj : j < i := by have := (List.getElem?_eq_some_iff.1 hx).1; rw [hlen.out] at this; exact this
        obtain ⟨hwf, A', m, c, hfi, hrc, _⟩ := HFX.out j x hx
        refine ⟨hwf, A', m, c, ?_, RecsAt.base (hrc.below (Hr.out.1.mono hbase)) (Nat.le_trans hbase Hr.out.1.size)⟩
        rw [← hfi]
        exact at_flat HF3.out (own_cells HO) j hj
end Go.Proofs.Ytkgidfehndkhmaa
