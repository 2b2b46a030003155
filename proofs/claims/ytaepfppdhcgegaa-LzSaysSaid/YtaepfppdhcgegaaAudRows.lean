/- Acks in memory: a slice of them, read cell by cell. Over any program. -/
import Derived.Test.YtaepfppdhcgegaaAudSpec
import Derived.Below
import Derived.Lib.Hide
import Derived.WalkKit
import Derived.Laws.Rows
namespace Go.PostAud
open Go.RowKit
theorem add_block (a : Addr) (n : Nat) : (a.add n).block = a.block := by
  cases n <;> simp [Addr.add]
/-- values in a row of cells -/
def At (w : World) (a : Addr) (vs : List Value) : Prop := ∀ j v, vs[j]? = some v → w.cell? (a.add j) = some v
theorem At.below {w w' : World} {a : Addr} {vs : List Value} {base : Nat} (h : At w a vs) (hb : Below base w w') (hl : a.block < base) : At w' a vs := fun j v hj => by
  rw [hb.cell (by rw [add_block]; exact hl)]; exact h j v hj
theorem At.of_block {w w' : World} {a : Addr} {vs : List Value} (h : At w a vs) (hb : w'.heap[a.block]? = w.heap[a.block]?) : At w' a vs := fun j v hj => by
  rw [World.cell?_of_block (a := a.add j) (w := w) (w' := w') (by rw [add_block]; exact hb)]; exact h j v hj
theorem At.six {w : World} {a : Addr} {v0 v1 v2 v3 v4 v5 : Value} (h : At w a [v0, v1, v2, v3, v4, v5]) :
    w.cell? a = some v0 ∧ w.cell? ⟨a.block, a.off + 1, none⟩ = some v1 ∧ w.cell? ⟨a.block, a.off + 2, none⟩ = some v2 ∧ w.cell? ⟨a.block, a.off + 3, none⟩ = some v3 ∧ w.cell? ⟨a.block, a.off + 4, none⟩ = some v4 ∧ w.cell? ⟨a.block, a.off + 5, none⟩ = some v5 := by
  have h0 := h 0 _ rfl
  have h1 := h 1 _ rfl
  have h2 := h 2 _ rfl
  have h3 := h 3 _ rfl
  have h4 := h 4 _ rfl
  have h5 := h 5 _ rfl
  simp only [Addr.add_succ', Addr.add_zero', Nat.zero_add, Nat.reduceAdd] at h0 h1 h2 h3 h4 h5
  exact ⟨h0, h1, h2, h3, h4, h5⟩
theorem At.five {w : World} {a : Addr} {v0 v1 v2 v3 v4 : Value} (h : At w a [v0, v1, v2, v3, v4]) :
    w.cell? a = some v0 ∧ w.cell? ⟨a.block, a.off + 1, none⟩ = some v1 ∧ w.cell? ⟨a.block, a.off + 2, none⟩ = some v2 ∧ w.cell? ⟨a.block, a.off + 3, none⟩ = some v3 ∧ w.cell? ⟨a.block, a.off + 4, none⟩ = some v4 := by
  have h0 := h 0 _ rfl
  have h1 := h 1 _ rfl
  have h2 := h 2 _ rfl
  have h3 := h 3 _ rfl
  have h4 := h 4 _ rfl
  simp only [Addr.add_succ', Addr.add_zero', Nat.zero_add, Nat.reduceAdd] at h0 h1 h2 h3 h4
  exact ⟨h0, h1, h2, h3, h4⟩
theorem At.four {w : World} {a : Addr} {v0 v1 v2 v3 : Value} (h : At w a [v0, v1, v2, v3]) :
    w.cell? a = some v0 ∧ w.cell? ⟨a.block, a.off + 1, none⟩ = some v1 ∧ w.cell? ⟨a.block, a.off + 2, none⟩ = some v2 ∧ w.cell? ⟨a.block, a.off + 3, none⟩ = some v3 := by
  have h0 := h 0 _ rfl
  have h1 := h 1 _ rfl
  have h2 := h 2 _ rfl
  have h3 := h 3 _ rfl
  simp only [Addr.add_succ', Addr.add_zero', Nat.zero_add, Nat.reduceAdd] at h0 h1 h2 h3
  exact ⟨h0, h1, h2, h3⟩
theorem At.six0 {w : World} {b : Nat} {v0 v1 v2 v3 v4 v5 : Value} (h : At w ⟨b, 0, none⟩ [v0, v1, v2, v3, v4, v5]) :
    w.cell? ⟨b, 0, none⟩ = some v0 ∧ w.cell? ⟨b, 1, none⟩ = some v1 ∧ w.cell? ⟨b, 2, none⟩ = some v2 ∧ w.cell? ⟨b, 3, none⟩ = some v3 ∧ w.cell? ⟨b, 4, none⟩ = some v4 ∧ w.cell? ⟨b, 5, none⟩ = some v5 := At.six h
theorem At.five0 {w : World} {b : Nat} {v0 v1 v2 v3 v4 : Value} (h : At w ⟨b, 0, none⟩ [v0, v1, v2, v3, v4]) :
    w.cell? ⟨b, 0, none⟩ = some v0 ∧ w.cell? ⟨b, 1, none⟩ = some v1 ∧ w.cell? ⟨b, 2, none⟩ = some v2 ∧ w.cell? ⟨b, 3, none⟩ = some v3 ∧ w.cell? ⟨b, 4, none⟩ = some v4 := At.five h
theorem At.four0 {w : World} {b : Nat} {v0 v1 v2 v3 : Value} (h : At w ⟨b, 0, none⟩ [v0, v1, v2, v3]) :
    w.cell? ⟨b, 0, none⟩ = some v0 ∧ w.cell? ⟨b, 1, none⟩ = some v1 ∧ w.cell? ⟨b, 2, none⟩ = some v2 ∧ w.cell? ⟨b, 3, none⟩ = some v3 := At.four h
theorem at_alloc (w : World) (l : List Value) (T : TypeId) : At (w.alloc (.cells l.toArray T)) ⟨w.heap.size, 0, none⟩ l := fun j v hj => by
  have h := cell_of_row (w.alloc (.cells l.toArray T)) w.heap.size j l.toArray T (0, 0) (heap_alloc_new w _)
  rw [show (⟨w.heap.size, 0, none⟩ : Addr).add j = ⟨w.heap.size, j, none⟩ by rw [Addr.add_lit, Nat.zero_add]]
  rw [h]
  simpa using hj
def Ack.cells (a : Ack) : List Value := [.int .i64 a.step, .int .i64 a.id.prod, .int .i64 a.id.seq, .int .i64 a.err, .int .i64 a.base, .int .i64 a.count]
/-- n acks at A; their memory lies below base -/
def AcksAt (w : World) (base : Nat) (A : Option Addr) (n : Nat) (l : List Ack) : Prop :=
  l.length = n ∧ (n = 0 ∨ ∃ a, A = some a ∧ a.block < base ∧ ∀ (i : Nat) (x : Ack), l[i]? = some x → x.wf ∧ At w (a.add (i * 6)) x.cells)
theorem AcksAt.below {w w' : World} {base : Nat} {A : Option Addr} {n : Nat} {l : List Ack} (h : AcksAt w base A n l) (hb : Below base w w') : AcksAt w' base A n l := by
  obtain ⟨h1, h2 | ⟨a, h2, h3, h4⟩⟩ := h
  · exact ⟨h1, .inl h2⟩
  · exact ⟨h1, .inr ⟨a, h2, h3, fun i x hx => ⟨(h4 i x hx).1, (h4 i x hx).2.below hb (by rw [add_block]; exact h3)⟩⟩⟩
theorem AcksAt.get {w : World} {base : Nat} {A : Option Addr} {n : Nat} {l : List Ack} (h : AcksAt w base A n l) {i : Nat} (hi : i < n) :
    ∃ a x, A = some a ∧ l[i]? = some x ∧ x.wf ∧ At w (a.add (i * 6)) x.cells := by
  obtain ⟨h1, h2 | ⟨a, h2, h3, h4⟩⟩ := h
  · omega
  · have hx : l[i]? = some (l[i]'(by omega)) := List.getElem?_eq_getElem (by omega)
    exact ⟨a, _, h2, hx, (h4 i _ hx).1, (h4 i _ hx).2⟩
/-- a later world in which all that lay there lies as it did -/
structure Lat (w : World) where
  val : World
  below : Below w.heap.size w val
instance (w : World) : Nonempty (Lat w) := ⟨⟨w, Below.refl _ _⟩⟩
def LatOf (w w' : World) : Prop := ∃ x : Lat w, w' = x.val
theorem At.lat {w : World} {a : Addr} {v : Value} {vs : List Value} (h : At w a (v :: vs)) (z : Lat w) : At z.val a (v :: vs) :=
  h.below z.below (by have := block_lt_of_cell (h 0 v rfl); rwa [add_block] at this)
theorem At.six_lat {w : World} {a : Addr} {v0 v1 v2 v3 v4 v5 : Value} (h : At w a [v0, v1, v2, v3, v4, v5]) :
    (∀ z : Lat w, z.val.cell? a = some v0) ∧ (∀ z : Lat w, z.val.cell? ⟨a.block, a.off + 1, none⟩ = some v1) ∧ (∀ z : Lat w, z.val.cell? ⟨a.block, a.off + 2, none⟩ = some v2) ∧ (∀ z : Lat w, z.val.cell? ⟨a.block, a.off + 3, none⟩ = some v3) ∧ (∀ z : Lat w, z.val.cell? ⟨a.block, a.off + 4, none⟩ = some v4) ∧ (∀ z : Lat w, z.val.cell? ⟨a.block, a.off + 5, none⟩ = some v5) :=
  ⟨fun z => (At.six (h.lat z)).1, fun z => (At.six (h.lat z)).2.1, fun z => (At.six (h.lat z)).2.2.1, fun z => (At.six (h.lat z)).2.2.2.1, fun z => (At.six (h.lat z)).2.2.2.2.1, fun z => (At.six (h.lat z)).2.2.2.2.2⟩
theorem LatOf.refl (w : World) : LatOf w w := ⟨⟨w, Below.refl _ _⟩, rfl⟩
theorem LatOf.step {w w' w'' : World} (h : LatOf w w') (hb : Below w'.heap.size w' w'') : LatOf w w'' := by
  obtain ⟨z, rfl⟩ := h
  exact ⟨⟨w'', (z.below).trans (hb.mono z.below.size)⟩, rfl⟩
theorem LatOf.drew {w w' : World} (h : LatOf w w') : LatOf w w'.drew := h.step ⟨rfl, rfl, rfl, Nat.le_refl _, fun _ _ => rfl⟩
theorem call_lat {P : Program} {f : FuncId} {args : Array Value} {v : Value} {W : World} (h : ∀ w', Calls P f args w' fun e w'' => e = .returned v ∧ Below w'.heap.size w' w'') (w' : World) (hw : LatOf W w') :
    Calls P f args w' fun e w'' => e = .returned v ∧ LatOf W w'' := (h w').mono fun _ _ ⟨he, hb⟩ => ⟨he, hw.step hb⟩
theorem call_at {P : Program} {f : FuncId} {args : Array Value} {v : Value} {W : World} (h : ∀ w', Calls P f args w' fun e w'' => e = .returned v ∧ Below w'.heap.size w' w'') (z : Lat W) :
    Calls P f args z.val fun e w'' => e = .returned v ∧ ∃ z' : Lat W, w'' = z'.val := call_lat h _ ⟨z, rfl⟩
end Go.PostAud
