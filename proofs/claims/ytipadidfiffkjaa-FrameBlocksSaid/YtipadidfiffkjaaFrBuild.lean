/- A strings.Builder that lies in whatever block, at whatever place. -/
import Derived.Test.YtipadidfiffkjaaChecked
import Derived.Test.YtipadidfiffkjaaMem
import Derived.Shelf.RegionOpenPlain
import Derived.Lib.FrozenHead
import Derived.Lib.UnsafeStr
import Derived.Laws.Externs
namespace Go.Proofs.Ytipadidfiffkjaa
open Go.RowKit Go.PostSums Go.PostMem
theorem fr_size : (Try.prog.info? 38).map (fun i => i.size) = some 2 := by kernel_rfl
set_option maxHeartbeats 1000000 in
set_option maxRecDepth 100000 in
theorem copyCheck_used (b o : Nat) (w : World) (h0 : w.cell? ⟨b, o, none⟩ = some (.pointer (some ⟨b, o, none⟩))) :
    Calls Try.prog 39 #[.pointer (some ⟨b, o, none⟩)] w fun e w' => e = .returned (.tuple #[]) ∧ w' = w := by
  obtain ⟨j, hj, _⟩ := Option.map_eq_some_iff.1 fr_size
  go_enter Try.func39, Try.ntmps39
  go_wp2_with fail
  rw [Lib.run_neq_ptr_same w _ Try.underlying36 hj]
  go_wp2_with fail
  go_end0
  exact ⟨rfl, rfl⟩
set_option maxHeartbeats 1000000 in
set_option maxRecDepth 100000 in
theorem copyCheck_fresh (b o T n : Nat) (w : World) (h0 : w.cell? ⟨b, o, none⟩ = some (.pointer none)) (hsh : w.shape? b = some (T, n)) (hon : o < n) (hfz : w.frozen? ⟨b, o, none⟩ = false)
    (hl : liesAt Try.prog Try.prog.depth T (n / Try.prog.cellsOf T) o 38 1 = true) :
    Calls Try.prog 39 #[.pointer (some ⟨b, o, none⟩)] w fun e w' => e = .returned (.tuple #[]) ∧ w' = w.setCell ⟨b, o, none⟩ (.pointer (some ⟨b, o, none⟩)) := by
  obtain ⟨j, hj, hjs⟩ := Option.map_eq_some_iff.1 fr_size
  go_enter Try.func39, Try.ntmps39
  go_wp2_with fail
  rw [Lib.run_to_unsafe w ⟨b, o, none⟩ Try.underlying36 Try.underlying76 hj (by rw [hjs]; decide) hsh hon]
  simp only [Result.andThen]
  rw [Oper.upon_value]
  go_wp2_with fail
  rw [run_callFunc_extern Try.func47 (by kernel_rfl) (by kernel_rfl) (by kernel_rfl) (e := Extern.AbiNoEscape.same) (by kernel_rfl)]
  rw [Lib.run_noEscape]
  simp only [Result.andThen]
  rw [Oper.upon_value]
  go_wp2_with fail
  rw [Lib.run_from_unsafe w ⟨b, o, none⟩ Try.underlying76 Try.underlying36 hj hsh hl]
  simp only [Result.andThen]
  rw [Oper.upon_value]
  go_wp2_with fail
  go_end0
  exact ⟨rfl, rfl⟩
set_option maxHeartbeats 1000000 in
set_option maxRecDepth 100000 in
theorem Len_at (b o : Nat) (A : Option Addr) (n c : Nat) (w : World) (c1 : w.cell? ⟨b, o + 1, none⟩ = some (.slice A n c)) :
    Calls Try.prog 35 #[.pointer (some ⟨b, o, none⟩)] w fun e w' => e = .returned (.int .i64 (n : Int)) ∧ w' = w := by
  go_enter Try.func35, Try.ntmps35
  go_wp2_with fail
  go_ret
  exact ⟨rfl, rfl⟩
/-- what a step leaves: all blocks below B but for b -/
structure Kept (b B : Nat) (w w' : World) : Prop where
  os : w'.os = w.os
  tape : w'.tape = w.tape
  output : w'.output = w.output
  size : w.heap.size ≤ w'.heap.size
  block : ∀ i, i < w.heap.size → i < B → i ≠ b → w'.heap[i]? = w.heap[i]?
theorem Kept.refl (b B : Nat) (w : World) : Kept b B w w := ⟨rfl, rfl, rfl, Nat.le_refl _, fun _ _ _ _ => rfl⟩
theorem Kept.trans {b B : Nat} {u v w : World} (h : Kept b B u v) (k : Kept b B v w) : Kept b B u w :=
  ⟨k.os.trans h.os, k.tape.trans h.tape, k.output.trans h.output, Nat.le_trans h.size k.size, fun i h1 h2 h3 => (k.block i (Nat.lt_of_lt_of_le h1 h.size) h2 h3).trans (h.block i h1 h2 h3)⟩
theorem Kept.of_grown {b B : Nat} {w w' : World} {row : Option Nat} (h : w.grownBy w' row) (hr : ∀ k, row = some k → k = b ∨ B ≤ k) : Kept b B w w' :=
  ⟨h.os, h.tape, h.output, h.size, fun i h1 h2 h3 => h.block i h1 (fun e => by have := hr i e.symm; omega)⟩
theorem Kept.of_below {b B n : Nat} {w w' : World} (h : Below n w w') (hn : B ≤ n) : Kept b B w w' :=
  ⟨h.os, h.tape, h.output, h.size, fun i _ h2 _ => h.block i (by omega)⟩
/-- a builder at place o of block b, of type T, that has been written or not, read or not -/
def BAt (w : World) (B b : Nat) (cs : Array Value) (T o : Nat) (l : List UInt8) : Prop :=
  w.heap[b]? = some (.cells cs T (0, 0)) ∧ ∃ p v, cs[o]? = some p ∧ (p = .pointer none ∨ p = .pointer (some ⟨b, o, none⟩)) ∧ cs[o + 1]? = some v ∧ w.ownsRowF B 5 1 v l.length (byteCells l)
theorem heap_lt {w : World} {b : Nat} {o : Obj} (h : w.heap[b]? = some o) : b < w.heap.size := (Array.getElem?_eq_some_iff.1 h).1
theorem BAt.len {w : World} {B b : Nat} {cs : Array Value} {T o : Nat} {l : List UInt8} (h : BAt w B b cs T o l) : ∃ A c, w.cell? ⟨b, o + 1, none⟩ = some (.slice A l.length c) := by
  obtain ⟨hb, p, v, _, _, hv, hown⟩ := h
  rcases hown.2 with ⟨rfl, h0⟩ | ⟨g, cap, cur, fz, rfl, _⟩
  · exact ⟨none, 0, by rw [cell_of_row w b (o + 1) cs T (0, 0) hb, hv, h0]⟩
  · exact ⟨_, _, by rw [cell_of_row w b (o + 1) cs T (0, 0) hb, hv]⟩
theorem BAt.other {w w' : World} {B b : Nat} {cs : Array Value} {T o : Nat} {l : List UInt8} (h : BAt w B b cs T o l) (hb : Below w.heap.size w w') : BAt w' B b cs T o l := by
  obtain ⟨h0, p, v, h1, h2, h3, h4⟩ := h
  refine ⟨(hb.block b (heap_lt h0)).trans h0, p, v, h1, h2, h3, h4.1, ?_⟩
  rcases h4.2 with hn | ⟨g, cap, cur, fz, rfl, hb', hgg, rest⟩
  · exact .inl hn
  · exact .inr ⟨g, cap, cur, fz, rfl, hb', (hb.block g (heap_lt hgg)).trans hgg, rest⟩
/-- another cell of the block is written -/
theorem BAt.set {w : World} {B b : Nat} {cs : Array Value} {T o : Nat} {l : List UInt8} (h : BAt w B b cs T o l) (hT : T ≠ 5) (k : Nat) (x : Value) (h1 : k ≠ o) (h2 : k ≠ o + 1) : BAt (w.setCell ⟨b, k, none⟩ x) B b (cs.setIfInBounds k x) T o l := by
  obtain ⟨h0, p, v, c1, c2, c3, c4⟩ := h
  refine ⟨heap_setCell_same w b k _ _ x h0, p, v, ?_, c2, ?_, c4.kept (grown_set w b k x) (.inr (Lib.ownBlock_neF c4 h0 hT))⟩
  · rw [Array.getElem?_setIfInBounds_ne h1]; exact c1
  · rw [Array.getElem?_setIfInBounds_ne h2]; exact c3
theorem setSet (cs : Array Value) (o : Nat) (p : Value) (h : cs[o]? = some p) : cs.setIfInBounds o p = cs := by
  apply Array.ext_getElem?
  intro i
  rw [Array.getElem?_setIfInBounds]
  split
  · rename_i e
    subst e
    split
    · exact h.symm
    · rename_i hn
      exact (Array.getElem?_eq_none (by omega)).symm
  · rfl
theorem copyCheck_at (B b : Nat) (cs : Array Value) (T o : Nat) (l : List UInt8) (w : World) (h : BAt w B b cs T o l) (hT : T ≠ 5) (ho : o < cs.size)
    (hl : liesAt Try.prog Try.prog.depth T (cs.size / Try.prog.cellsOf T) o 38 1 = true) :
    Calls Try.prog 39 #[.pointer (some ⟨b, o, none⟩)] w fun e w' => e = .returned (.tuple #[]) ∧ BAt w' B b (cs.setIfInBounds o (.pointer (some ⟨b, o, none⟩))) T o l ∧ Kept b B w w' := by
  obtain ⟨h0, p, v, c1, c2, c3, c4⟩ := h
  have cell0 : w.cell? ⟨b, o, none⟩ = some p := (cell_of_row w b o _ _ _ h0).trans c1
  rcases c2 with rfl | rfl
  · refine (copyCheck_fresh b o T cs.size w cell0 (by simp [World.shape?, h0]) ho (frozen_of_row w b o _ _ h0) hl).mono ?_
    rintro e w' ⟨rfl, rfl⟩
    refine ⟨rfl, ⟨heap_setCell_same w b o _ _ _ h0, _, v, ?_, .inr rfl, ?_, c4.kept (grown_set w b o _) (.inr (Lib.ownBlock_neF c4 h0 hT))⟩, Kept.of_grown (grown_set w b o _) (fun k hk => .inl (by simpa using hk.symm))⟩
    · rw [Array.getElem?_setIfInBounds_self_of_lt ho]
    · rw [Array.getElem?_setIfInBounds_ne (by omega)]; exact c3
  · refine (copyCheck_used b o w cell0).mono ?_
    rintro e w' ⟨rfl, rfl⟩
    rw [setSet cs o _ c1]
    exact ⟨rfl, ⟨h0, _, v, c1, .inr rfl, c3, c4⟩, Kept.refl _ _ _⟩
set_option maxHeartbeats 2000000 in
set_option maxRecDepth 100000 in
theorem WriteString_at (B b : Nat) (cs : Array Value) (T o : Nat) (l : List UInt8) (s : ByteArray) (w : World) (h : BAt w B b cs T o l) (hT : T ≠ 5) (ho : o + 1 < cs.size)
    (hl : liesAt Try.prog Try.prog.depth T (cs.size / Try.prog.cellsOf T) o 38 1 = true) (hlen : l.length + s.size ≤ 140737488355328) (hBw : B ≤ w.heap.size) :
    Calls Try.prog 25 #[.pointer (some ⟨b, o, none⟩), .string s] w fun e w' => e = .returned (.tuple #[.int .i64 (s.size : Int), .nilIface]) ∧
      (∃ v, BAt w' B b ((cs.setIfInBounds o (.pointer (some ⟨b, o, none⟩))).setIfInBounds (o + 1) v) T o (l ++ s.data.toList)) ∧ Kept b B w w' := by
  obtain ⟨i0, hi, hz0, hz1, hz2⟩ := info_parts (show (Try.prog.info? 5).map (fun i => (i.zero, i.size, i.bytes)) = some (some (.int .u8 0), 1, 1) by kernel_rfl)
  go_enter Try.func25, Try.ntmps25
  obtain ⟨ds, hds⟩ : ∃ ds, ds = cs.setIfInBounds o (.pointer (some ⟨b, o, none⟩)) := ⟨_, rfl⟩
  have hsz : ds.size = cs.size := by rw [hds]; exact Array.size_setIfInBounds
  have HD := Lib.hid hds; clear hds
  go_wp2_with (first
    | (go_at_call 39; (with_reducible refine (copyCheck_at B b cs T o l _ h hT (by omega) hl).mono ?_); (rintro e w1 ⟨rfl, h1, hb1⟩); rw [← HD.out] at h1;
       obtain ⟨d0, p, v, d1, d2, d3, hown⟩ := h1
       have c1 : w1.cell? ⟨b, o + 1, none⟩ = some v := (cell_of_row w1 b (o + 1) _ _ _ d0).trans d3
       have hne := Lib.ownBlock_neF hown d0 hT
       have D0 := Lib.hid d0; have D1 := Lib.hid d1; have D2 := Lib.hid d2; have HO := Lib.hid hown; have HK := Lib.hid hb1; have HN := Lib.hid hne
       have hBw1 : B ≤ w1.heap.size := Nat.le_trans hBw hb1.size
       clear d0 d1 d2 d3 hb1 hne h hown)
    | (at_builtin; refine Lib.wpList_append_own_stringF _ rfl _ _ 30 9 rfl B 5 i0 Try.underlying30 Try.underlying9 hi hz0 hz1 hz2 v l.length (byteCells l) rfl HO.out s rfl (by unfold maxLen; omega) (by omega) hBw1 ?_; rintro v' w2 hown' hgrow -;
       have hlt : b < w1.heap.size := heap_lt D0.out
       have hb2 : w2.heap[b]? = some (.cells ds T (0, 0)) := (hgrow.block b hlt (fun e => HN.out e.symm)).trans D0.out
       have f1 : w2.frozen? ⟨b, o + 1, none⟩ = false := frozen_of_row w2 b (o + 1) _ _ hb2
       obtain ⟨u, hu⟩ : ∃ u, w2.cell? ⟨b, o + 1, none⟩ = some u := ⟨_, (cell_of_row w2 b (o + 1) _ _ _ hb2).trans (Array.getElem?_eq_getElem (by omega))⟩
       obtain ⟨ao, n', cap, rfl⟩ : ∃ ao n' cap, v' = .slice ao n' cap := by
         rcases hown'.2 with ⟨hv, _⟩ | ⟨g, cap, cur, fz, hv, _⟩
         · exact ⟨_, _, _, hv⟩
         · exact ⟨_, _, _, hv⟩
       have HB2 := Lib.hid hb2; have HG := Lib.hid hgrow; have HO2 := Lib.hid hown'
       clear hb2 hgrow hown' c1))
  go_ret2
  rw [← HD.out]
  refine ⟨rfl, ⟨.slice ao n' cap, heap_setCell_same w2 b (o + 1) _ _ _ HB2.out, p, .slice ao n' cap, ?_, D2.out, ?_, ?_⟩, ?_⟩
  · rw [Array.getElem?_setIfInBounds_ne (by omega)]; exact D1.out
  · rw [Array.getElem?_setIfInBounds_self_of_lt (by omega)]
  · have hh := HO2.out.kept (grown_set w2 b (o + 1) (.slice ao n' cap)) (.inr (Lib.ownBlock_neF HO2.out HB2.out hT))
    rw [byteCells_append, ← strCells_eq, List.length_append, show s.data.toList.length = s.size from by simp]
    exact hh
  · exact HK.out.trans ((Kept.of_grown HG.out (fun k hk => .inr (HO.out.lt k hk).1)).trans (Kept.of_grown (grown_set w2 b (o + 1) _) (fun k hk => .inl (by simpa using hk.symm))))
theorem freeze_kept (w : World) (b B g n : Nat) (hg : B ≤ g) : Kept b B w (w.freeze ⟨g, 0, none⟩ n) :=
  Kept.of_below (n := B) (Lib.below_freeze (Below.refl B w) (p := ⟨g, 0, none⟩) hg n) (Nat.le_refl _)
theorem BAt.froze {w : World} {B b : Nat} {cs : Array Value} {T o g cap : Nat} {l : List UInt8} (h : BAt w B b cs T o l) (hT : T ≠ 5) (hc : cs[o + 1]? = some (.slice (some ⟨g, 0, none⟩) l.length cap)) :
    BAt (w.freeze ⟨g, 0, none⟩ l.length) B b cs T o l := by
  obtain ⟨h0, p, v, c1, c2, c3, c4⟩ := h
  have hne := Lib.ownBlock_neF c4 h0 hT
  have hv : v = .slice (some ⟨g, 0, none⟩) l.length cap := by rw [hc] at c3; simpa using c3.symm
  subst hv
  have hgb : g ≠ b := fun e => hne (by simp [Value.ownBlock, e])
  unfold World.freeze
  split
  · exact ⟨h0, p, _, c1, c2, c3, c4⟩
  · rename_i hn0
    refine ⟨?_, p, _, c1, c2, c3, c4.1, ?_⟩
    · simp only [Array.getElem?_modify]
      rw [if_neg hgb]
      exact h0
    · rcases c4.2 with ⟨hv, _⟩ | ⟨g', cap', cur, fz, hv, hbg, hg, hfz, rest⟩
      · cases hv
      · injection hv with ha _ hcap
        injection ha with ha
        injection ha with hgg _ _
        subst hgg
        subst hcap
        obtain ⟨lo, hi⟩ := fz
        refine .inr ⟨g, _, cur, (if lo == hi then (0, 0 + l.length) else (min lo 0, max hi (0 + l.length))), rfl, hbg, ?_, ?_, rest⟩
        · simp [Array.getElem?_modify, hg]
        · simp only at hfz
          split <;> simp <;> omega
def StringPost (B b : Nat) (cs : Array Value) (T o : Nat) (l : List UInt8) (w : World) (e : Ending) (w' : World) : Prop :=
  e = .returned (.string (strOf l)) ∧ BAt w' B b cs T o l ∧ Kept b B w w'
set_option maxHeartbeats 2000000 in
set_option maxRecDepth 100000 in
theorem String_full (B b : Nat) (cs : Array Value) (T o : Nat) (l : List UInt8) (w : World) (h : BAt w B b cs T o l) (hT : T ≠ 5) (h0 : l ≠ []) :
    Calls Try.prog 21 #[.pointer (some ⟨b, o, none⟩)] w (StringPost B b cs T o l w) := by
  have hl0 : l.length ≠ 0 := by simpa using h0
  have hA := h
  obtain ⟨hbk, p, v, c1', c2, c3, hown⟩ := h
  obtain ⟨g, cap, cur, fz, rfl, hbg, hg, hfz, hnc, hcm, hcs, htake⟩ : ∃ g cap cur fz, v = .slice (some ⟨g, 0, none⟩) l.length cap ∧ B ≤ g ∧ w.heap[g]? = some (.cells cur 5 fz) ∧ fz.2 ≤ l.length * 1 ∧ l.length ≤ cap ∧ cap ≤ maxLen ∧ cur.size = cap * 1 ∧ cur.toList.take (l.length * 1) = byteCells l := by
    rcases hown.2 with ⟨_, hz⟩ | ⟨g, cap, cur, fz, hv, r⟩
    · exact absurd hz hl0
    · exact ⟨g, cap, cur, fz, hv, r⟩
  have c1 : w.drew.cell? ⟨b, o + 1, none⟩ = some (.slice (some ⟨g, 0, none⟩) l.length cap) :=
    (cell_of_row w.drew b (o + 1) cs T (0, 0) hbk).trans c3
  have hSD : (Builtin.unsafeSliceData_ #[30] 63 #[.slice (some ⟨g, 0, none⟩) l.length cap]).run Try.prog w.drew = .ok (.pointer (some ⟨g, 0, none⟩)) w.drew :=
    Lib.run_unsafeSliceData_row _ _ _ _ _ _ (by omega)
  have hUS : (Builtin.unsafeString_ #[63, 3] 9 #[.pointer (some ⟨g, 0, none⟩), .int .i64 l.length]).run Try.prog w.drew = .ok (.string ⟨l.toArray⟩) (w.drew.freeze ⟨g, 0, none⟩ l.length) := by
    refine Lib.run_unsafeString_row w.drew 63 3 9 5 Try.underlying63 (by kernel_rfl) g cur.size (by have hg' : w.drew.heap[g]? = some (.cells cur 5 fz) := hg; simp [World.shape?, hg']) l h0 (by omega) (by unfold maxLen at hcm; omega) ?_
    intro j x hx
    have := hown.cells (g := g) rfl j (.int .u8 x.toNat) (by simp [byteCells, hx])
    exact this
  have hkeep : StringPost B b cs T o l w (.returned (.string ⟨l.toArray⟩)) (w.drew.freeze ⟨g, 0, none⟩ l.length) :=
    ⟨rfl, BAt.froze (w := w.drew) (show BAt w.drew B b cs T o l from hA) hT c3, (show Kept b B w w.drew from ⟨rfl, rfl, rfl, Nat.le_refl _, fun _ _ _ _ => rfl⟩).trans (freeze_kept w.drew b B g _ hbg)⟩
  have HK := Lib.hid hkeep
  clear hkeep hA hg htake hown hbk c3
  have mixed : Try.prog.follows .mixedOrders = true := by kernel_rfl
  go_enter Try.func21, Try.ntmps21
  go_wp2_with fail
  go_region_o
  all_goals (go_wp2; go_ret; exact HK.out)
theorem kept_drew (b B : Nat) (w : World) : Kept b B w w.drew := ⟨rfl, rfl, rfl, Nat.le_refl _, fun _ _ _ _ => rfl⟩
theorem BAt.drew {w : World} {B b : Nat} {cs : Array Value} {T o : Nat} {l : List UInt8} (h : BAt w B b cs T o l) : BAt w.drew B b cs T o l := h
set_option maxHeartbeats 2000000 in
set_option maxRecDepth 100000 in
theorem String_nil (B b : Nat) (cs : Array Value) (T o : Nat) (w : World) (h : BAt w B b cs T o []) (hc : cs[o + 1]? = some (.slice none 0 0)) :
    Calls Try.prog 21 #[.pointer (some ⟨b, o, none⟩)] w (StringPost B b cs T o [] w) := by
  have hUS : ∀ (W : World) (q : Option Addr), (Builtin.unsafeString_ #[63, 3] 9 #[.pointer q, .int .i64 0]).run Try.prog W = .ok (.string .empty) W := fun W q => Lib.run_unsafeString_none W _ _ _ q
  have c1 : w.drew.cell? ⟨b, o + 1, none⟩ = some (.slice none 0 0) := (cell_of_row w.drew b (o + 1) cs T (0, 0) h.1).trans hc
  have hSD : (Builtin.unsafeSliceData_ #[30] 63 #[.slice none 0 0]).run Try.prog w.drew = .ok (.pointer none) w.drew := rfl
  have HK : Hid (StringPost B b cs T o [] w (.returned (.string ⟨#[]⟩)) w.drew) := Lib.hid ⟨rfl, h.drew, kept_drew b B w⟩
  clear h
  have mixed : Try.prog.follows .mixedOrders = true := by kernel_rfl
  go_enter Try.func21, Try.ntmps21
  go_wp2_with fail
  go_region_o
  all_goals (go_wp2; go_ret; exact HK.out)
set_option maxHeartbeats 2000000 in
set_option maxRecDepth 100000 in
theorem String_noroom (B b g : Nat) (cs cur : Array Value) (fz : Nat × Nat) (T o : Nat) (w : World) (h : BAt w B b cs T o []) (hc : cs[o + 1]? = some (.slice (some ⟨g, 0, none⟩) 0 0)) (hg : w.heap[g]? = some (.cells cur 5 fz)) (hBw : B ≤ w.heap.size) :
    Calls Try.prog 21 #[.pointer (some ⟨b, o, none⟩)] w (StringPost B b cs T o [] w) := by
  have hUS : ∀ (W : World) (q : Option Addr), (Builtin.unsafeString_ #[63, 3] 9 #[.pointer q, .int .i64 0]).run Try.prog W = .ok (.string .empty) W := fun W q => Lib.run_unsafeString_none W _ _ _ q
  have c1 : w.drew.cell? ⟨b, o + 1, none⟩ = some (.slice (some ⟨g, 0, none⟩) 0 0) := (cell_of_row w.drew b (o + 1) cs T (0, 0) h.1).trans hc
  have hSD : (Builtin.unsafeSliceData_ #[30] 63 #[.slice (some ⟨g, 0, none⟩) 0 0]).run Try.prog w.drew = .ok (.pointer (some ⟨w.drew.heap.size, 0, none⟩)) (w.drew.alloc (.view ⟨g, 0, none⟩ 5)) :=
    Lib.run_unsafeSliceData_zero w.drew _ _ 5 Try.underlying63 ⟨g, 0, none⟩ 0 (5, cur.size) (by have hg' : w.drew.heap[g]? = some (.cells cur 5 fz) := hg; simp [World.shape?, hg'])
  have c2 : (w.drew.alloc (.view ⟨g, 0, none⟩ 5)).cell? ⟨b, o + 1, none⟩ = some (.slice (some ⟨g, 0, none⟩) 0 0) :=
    (cell_of_row _ b (o + 1) cs T (0, 0) ((Lib.alloc_old w.drew _ b (heap_lt h.1)).trans h.1)).trans hc
  have c3 : (w.alloc (.view ⟨g, 0, none⟩ 5)).drew.cell? ⟨b, o + 1, none⟩ = some (.slice (some ⟨g, 0, none⟩) 0 0) := c2
  have c0 : w.cell? ⟨b, o + 1, none⟩ = some (.slice (some ⟨g, 0, none⟩) 0 0) := c1
  have hb : Below w.heap.size w (w.drew.alloc (.view ⟨g, 0, none⟩ 5)) := (Below.drew (Below.refl _ w)).alloc (Nat.le_refl _) _
  have HK : Hid (StringPost B b cs T o [] w (.returned (.string ⟨#[]⟩)) (w.drew.alloc (.view ⟨g, 0, none⟩ 5))) := Lib.hid ⟨rfl, h.other hb, Kept.of_below hb hBw⟩
  clear h hg hb
  have mixed : Try.prog.follows .mixedOrders = true := by kernel_rfl
  go_enter Try.func21, Try.ntmps21
  go_wp2_with fail
  go_region_o
  all_goals (go_wp2; go_ret; exact HK.out)
set_option maxHeartbeats 2000000 in
set_option maxRecDepth 100000 in
theorem String_room (B b g cap : Nat) (cs : Array Value) (T o : Nat) (w : World) (hc0 : cap ≠ 0) (h : BAt w B b cs T o []) (hc : cs[o + 1]? = some (.slice (some ⟨g, 0, none⟩) 0 cap)) :
    Calls Try.prog 21 #[.pointer (some ⟨b, o, none⟩)] w (StringPost B b cs T o [] w) := by
  have hUS : ∀ (W : World) (q : Option Addr), (Builtin.unsafeString_ #[63, 3] 9 #[.pointer q, .int .i64 0]).run Try.prog W = .ok (.string .empty) W := fun W q => Lib.run_unsafeString_none W _ _ _ q
  have c1 : w.drew.cell? ⟨b, o + 1, none⟩ = some (.slice (some ⟨g, 0, none⟩) 0 cap) := (cell_of_row w.drew b (o + 1) cs T (0, 0) h.1).trans hc
  have hSD : (Builtin.unsafeSliceData_ #[30] 63 #[.slice (some ⟨g, 0, none⟩) 0 cap]).run Try.prog w.drew = .ok (.pointer (some ⟨g, 0, none⟩)) w.drew :=
    Lib.run_unsafeSliceData_row _ _ _ _ _ _ hc0
  clear hc0
  have HK : Hid (StringPost B b cs T o [] w (.returned (.string ⟨#[]⟩)) w.drew) := Lib.hid ⟨rfl, h.drew, kept_drew b B w⟩
  clear h
  have mixed : Try.prog.follows .mixedOrders = true := by kernel_rfl
  go_enter Try.func21, Try.ntmps21
  go_wp2_with fail
  go_region_o
  all_goals (go_wp2; go_ret; exact HK.out)
/-- String(), whatever the builder holds: it stays a builder. -/
theorem String_at (B b : Nat) (cs : Array Value) (T o : Nat) (l : List UInt8) (w : World) (h : BAt w B b cs T o l) (hT : T ≠ 5) (hBw : B ≤ w.heap.size) :
    Calls Try.prog 21 #[.pointer (some ⟨b, o, none⟩)] w (StringPost B b cs T o l w) := by
  by_cases h0 : l = []
  · subst h0
    obtain ⟨hbk, p, v, c1, c2, c3, hown⟩ := id h
    rcases hown.2 with ⟨rfl, _⟩ | ⟨g, cap, cur, fz, rfl, hbg, hg, _, _, _, _, _⟩
    · exact String_nil B b cs T o w h c3
    · by_cases hc0 : cap = 0
      · subst hc0; exact String_noroom B b g cs cur fz T o w h c3 hg hBw
      · exact String_room B b g cap cs T o w hc0 h c3
  · exact String_full B b cs T o l w h hT h0
end Go.Proofs.Ytipadidfiffkjaa
