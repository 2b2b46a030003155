/- Slices of structs of the call's own, read as lists. -/
import Derived.Test.YtkgidfehndkhmaaAudMake
import Derived.Laws.OwnMore
import Derived.Below
namespace Go.PostAud
open Go.RowKit
theorem flatl_len {α : Type} {k : Nat} {f : α → List Value} (hf : ∀ x, (f x).length = k) : ∀ l : List α, (l.flatMap f).length = l.length * k
  | [] => by simp
  | x :: l => by rw [List.flatMap_cons, List.length_append, flatl_len hf l, hf, List.length_cons, Nat.add_mul]; omega
theorem flatl_get {α : Type} {k : Nat} {f : α → List Value} (hf : ∀ x, (f x).length = k) : ∀ (l : List α) (i j : Nat) (x : α), l[i]? = some x → j < k → (l.flatMap f)[i * k + j]? = (f x)[j]?
  | y :: l, 0, j, x, hx, hj => by
    obtain rfl := Option.some.inj hx
    rw [List.flatMap_cons, Nat.zero_mul, Nat.zero_add, List.getElem?_append_left (by rw [hf]; exact hj)]
  | y :: l, i + 1, j, x, hx, hj => by
    rw [List.flatMap_cons, List.getElem?_append_right (by rw [hf, Nat.add_mul]; omega), hf]
    rw [show (i + 1) * k + j - k = i * k + j by rw [Nat.add_mul]; omega]
    exact flatl_get hf l i j x (by simpa using hx) hj
theorem at_flatl {α : Type} {w : World} {g k : Nat} {f : α → List Value} (hf : ∀ x, (f x).length = k) {l : List α} (h : At w ⟨g, 0, none⟩ (l.flatMap f)) (i : Nat) (x : α) (hx : l[i]? = some x) : At w ((⟨g, 0, none⟩ : Addr).add (i * k)) (f x) := fun j v hj => by
  have hjk : j < k := by rw [← hf x]; exact (List.getElem?_eq_some_iff.1 hj).1
  have := h (i * k + j) v (by rw [flatl_get hf l i j x hx hjk]; exact hj)
  rw [Addr.add_lit, Addr.add_lit] at *
  simpa using this
theorem Ack.cells_len (a : Ack) : a.cells.length = 6 := rfl
theorem own_acks {w : World} {base T : Nat} {A : Option Addr} {n c : Nat} {l : List Ack} (hl : l.length = n) (hw : ∀ x ∈ l, x.wf) (h : w.ownsRow base T 6 (.slice A n c) n (l.flatMap Ack.cells)) : AcksAt w w.heap.size A n l := by
  refine ⟨hl, ?_⟩
  rcases h.2 with ⟨_, hn⟩ | ⟨g, cap, cur, he, hb', hgg, hc, rest⟩
  · exact .inl hn
  · simp only [Value.slice.injEq] at he
    obtain ⟨rfl, _, rfl⟩ := he
    refine .inr ⟨_, rfl, (Array.getElem?_eq_some_iff.1 hgg).1, fun i x hx => ⟨hw x (List.mem_of_getElem? hx), ?_⟩⟩
    exact at_flatl Ack.cells_len (World.ownsRow.cells h rfl) i x hx
theorem flat_last {l : List Ack} {n : Nat} (hl : l.length = n) (x : Ack) (j : Nat) (hj : j < 6) : ((l ++ [x]).flatMap Ack.cells)[n * 6 + j]? = x.cells[j]? :=
  flatl_get Ack.cells_len _ n j x (by rw [List.getElem?_append_right (by omega), hl, Nat.sub_self]; rfl) hj
theorem flat_set {l : List Ack} {n : Nat} (hl : l.length = n) (x : Ack) (j : Nat) (v : Value) : ((l ++ [x]).flatMap Ack.cells).set (n * 6 + j) v = l.flatMap Ack.cells ++ x.cells.set j v := by
  have h := flatl_len Ack.cells_len l
  rw [List.flatMap_append, List.set_append_right _ _ (by rw [h, hl]; omega), h, hl, Nat.add_sub_cancel_left]
  simp
theorem own_base {w : World} {base base' T sz : Nat} {v : Value} {k : Nat} {xs : List Value} (h : w.ownsRow base T sz v k xs) (hb : base' ≤ base) : w.ownsRow base' T sz v k xs := by
  refine ⟨h.1, ?_⟩
  rcases h.2 with hn | ⟨g, cap, cur, rfl, hb', rest⟩
  · exact .inl hn
  · exact .inr ⟨g, cap, cur, rfl, Nat.le_trans hb hb', rest⟩
/-- one more ack in a new row -/
theorem own_next {w W1 w3 : World} {T : Nat} {o : Obj} {n : Nat} {l : List Ack} {x : Ack} {v : Value} (hb : Below w.heap.size w W1) (h : w3.ownsRow (W1.alloc o).heap.size T 6 v (n + 1) (l.flatMap Ack.cells ++ x.cells)) (hg : (W1.alloc o).grownBy w3 none) :
    ∃ g c, v = .slice (some ⟨g, 0, none⟩) (n + 1) c ∧ Below w.heap.size w w3 ∧ w3.ownsRow w.heap.size T 6 (.slice (some ⟨g, 0, none⟩) (n + 1) c) (n + 1) ((l ++ [x]).flatMap Ack.cells) := by
  have h2 : w3.ownsRow w.heap.size T 6 v (n + 1) ((l ++ [x]).flatMap Ack.cells) := by
    rw [List.flatMap_append, List.flatMap_cons, List.flatMap_nil, List.append_nil]
    refine own_base h ?_
    have := hb.size
    simp; omega
  rcases h2.2 with ⟨_, hn⟩ | ⟨g, cap, cur, rfl, _⟩
  · omega
  · have hba : Below w.heap.size w (W1.alloc o) := hb.trans ((Below.refl W1.heap.size W1).alloc (Nat.le_refl _) o |>.mono hb.size)
    exact ⟨g, cap, rfl, ⟨hg.os.trans hba.os, hg.tape.trans hba.tape, hg.output.trans hba.output, Nat.le_trans hba.size hg.size, fun k hk => (hg.block k (Nat.lt_of_lt_of_le hk hba.size) (by simp)).trans (hba.block k hk)⟩, h2⟩
/-- the cells of the last one -/
theorem own_row {w : World} {base T g n c : Nat} {l : List Ack} {x : Ack} (hl : l.length = n) (h : w.ownsRow base T 6 (.slice (some ⟨g, 0, none⟩) (n + 1) c) (n + 1) ((l ++ [x]).flatMap Ack.cells)) :
    (∀ j v, x.cells[j]? = some v → w.cell? ⟨g, n * 6 + j, none⟩ = some v) ∧ (∀ j, w.frozen? ⟨g, j, none⟩ = false) := by
  refine ⟨fun j v hj => ?_, fun j => h.frozenAt j⟩
  have hj6 : j < 6 := (List.getElem?_eq_some_iff.1 hj).1
  rw [h.cellAt _ (by omega), flat_last hl x j hj6]; exact hj
theorem own_store {w : World} {base T g n c : Nat} {l : List Ack} {x x' : Ack} (hl : l.length = n) (h : w.ownsRow base T 6 (.slice (some ⟨g, 0, none⟩) (n + 1) c) (n + 1) ((l ++ [x]).flatMap Ack.cells)) (j : Nat) (v : Value) (hx : x.cells.set j v = x'.cells) :
    (w.setCell ⟨g, n * 6 + j, none⟩ v).ownsRow base T 6 (.slice (some ⟨g, 0, none⟩) (n + 1) c) (n + 1) ((l ++ [x']).flatMap Ack.cells) := by
  have := (h.stored (n * 6 + j) v).1
  rw [flat_set hl, hx] at this
  rw [List.flatMap_append, List.flatMap_cons, List.flatMap_nil, List.append_nil]
  exact this
theorem own_setBelow {w w0 : World} {base T sz g n c : Nat} {xs : List Value} (h : w.ownsRow base T sz (.slice (some ⟨g, 0, none⟩) n c) n xs) (hb : Below base w0 w) (j : Nat) (v : Value) : Below base w0 (w.setCell ⟨g, j, none⟩ v) := by
  have hg := (h.stored j v).2
  have hgb : base ≤ g := (World.ownsRow.lt h g rfl).1
  exact ⟨hg.os.trans hb.os, hg.tape.trans hb.tape, hg.output.trans hb.output, Nat.le_trans hb.size hg.size, fun k hk => (heap_setCell_other w ⟨g, j, none⟩ k v (by simp; omega)).trans (hb.block k hk)⟩
/-- an ack is stored whole -/
def put6 (w : World) (g o : Nat) (x : Ack) : World := (((((w.setCell ⟨g, o, none⟩ (.int .i64 x.step)).setCell ⟨g, o + 1, none⟩ (.int .i64 x.id.prod)).setCell ⟨g, o + 2, none⟩ (.int .i64 x.id.seq)).setCell ⟨g, o + 3, none⟩ (.int .i64 x.err)).setCell ⟨g, o + 4, none⟩ (.int .i64 x.base)).setCell ⟨g, o + 5, none⟩ (.int .i64 x.count)
theorem own_put6 {w w0 : World} {base T g n c : Nat} {l : List Ack} {x : Ack} (hl : l.length = n) (h : w.ownsRow base T 6 (.slice (some ⟨g, 0, none⟩) (n + 1) c) (n + 1) ((l ++ [x]).flatMap Ack.cells)) (hb : Below base w0 w) (y : Ack) :
    (put6 w g (n * 6) y).ownsRow base T 6 (.slice (some ⟨g, 0, none⟩) (n + 1) c) (n + 1) ((l ++ [y]).flatMap Ack.cells) ∧ Below base w0 (put6 w g (n * 6) y) := by
  obtain ⟨s, ⟨p, q⟩, e, b, k⟩ := x
  obtain ⟨s', ⟨p', q'⟩, e', b', k'⟩ := y
  have h0 := own_store (x' := ⟨s', ⟨p, q⟩, e, b, k⟩) hl h 0 (.int .i64 s') rfl
  have b0 := own_setBelow h hb (n * 6 + 0) (.int .i64 s')
  have h1 := own_store (x' := ⟨s', ⟨p', q⟩, e, b, k⟩) hl h0 1 (.int .i64 p') rfl
  have b1 := own_setBelow h0 b0 (n * 6 + 1) (.int .i64 p')
  have h2 := own_store (x' := ⟨s', ⟨p', q'⟩, e, b, k⟩) hl h1 2 (.int .i64 q') rfl
  have b2 := own_setBelow h1 b1 (n * 6 + 2) (.int .i64 q')
  have h3 := own_store (x' := ⟨s', ⟨p', q'⟩, e', b, k⟩) hl h2 3 (.int .i64 e') rfl
  have b3 := own_setBelow h2 b2 (n * 6 + 3) (.int .i64 e')
  have h4 := own_store (x' := ⟨s', ⟨p', q'⟩, e', b', k⟩) hl h3 4 (.int .i64 b') rfl
  have b4 := own_setBelow h3 b3 (n * 6 + 4) (.int .i64 b')
  have h5 := own_store (x' := ⟨s', ⟨p', q'⟩, e', b', k'⟩) hl h4 5 (.int .i64 k') rfl
  have b5 := own_setBelow h4 b4 (n * 6 + 5) (.int .i64 k')
  exact ⟨h5, b5⟩
end Go.PostAud
