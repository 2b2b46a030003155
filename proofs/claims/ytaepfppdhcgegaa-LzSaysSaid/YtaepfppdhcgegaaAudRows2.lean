/- Records, fetches and what was said, in memory. -/
import Derived.Test.YtaepfppdhcgegaaAudRows
import Derived.Laws.Strings
namespace Go.PostAud
open Go.RowKit
structure Fet where
  step : Int
  at_ : Int
  from_ : Int
  err : Int
  recs : List Rec
structure Sd where
  id : Pid
  recs : List Rec
def Rec.wf (r : Rec) : Prop := i64 r.off ∧ r.key.size ≤ maxLen ∧ r.value.size ≤ maxLen
def Fet.wf (f : Fet) : Prop := i64 f.step ∧ i64 f.at_ ∧ i64 f.from_ ∧ i64 f.err
def Sd.wf (s : Sd) : Prop := i64 s.id.prod ∧ i64 s.id.seq
def Rec.cells (r : Rec) : List Value := [.int .i64 r.off, .string r.key, .string r.value, .bool r.gone]
def Fet.cells (f : Fet) (v : Value) : List Value := [.int .i64 f.step, .int .i64 f.at_, .int .i64 f.from_, .int .i64 f.err, v]
def Sd.cells (s : Sd) (v : Value) : List Value := [.int .i64 s.id.prod, .int .i64 s.id.seq, v]
/-- n records at A; their memory lies below base -/
def RecsAt (w : World) (base : Nat) (A : Option Addr) (n : Nat) (l : List Rec) : Prop :=
  l.length = n ∧ n ≤ maxLen ∧ (n = 0 ∨ ∃ a, A = some a ∧ a.block < base ∧ ∀ (i : Nat) (x : Rec), l[i]? = some x → x.wf ∧ At w (a.add (i * 4)) x.cells)
def FetsAt (w : World) (base : Nat) (A : Option Addr) (n : Nat) (l : List Fet) : Prop :=
  l.length = n ∧ n ≤ maxLen ∧ (n = 0 ∨ ∃ a, A = some a ∧ a.block < base ∧ ∀ (i : Nat) (x : Fet), l[i]? = some x → x.wf ∧ ∃ A' m c, At w (a.add (i * 5)) (x.cells (.slice A' m c)) ∧ RecsAt w base A' m x.recs)
def SdsAt (w : World) (base : Nat) (A : Option Addr) (n : Nat) (l : List Sd) : Prop :=
  l.length = n ∧ n ≤ maxLen ∧ (n = 0 ∨ ∃ a, A = some a ∧ a.block < base ∧ ∀ (i : Nat) (x : Sd), l[i]? = some x → x.wf ∧ ∃ A' m c, At w (a.add (i * 3)) (x.cells (.slice A' m c)) ∧ RecsAt w base A' m x.recs)
theorem RecsAt.below {w w' : World} {base : Nat} {A : Option Addr} {n : Nat} {l : List Rec} (h : RecsAt w base A n l) (hb : Below base w w') : RecsAt w' base A n l := by
  obtain ⟨h1, h0, h2 | ⟨a, h2, h3, h4⟩⟩ := h
  · exact ⟨h1, h0, .inl h2⟩
  · exact ⟨h1, h0, .inr ⟨a, h2, h3, fun i x hx => ⟨(h4 i x hx).1, (h4 i x hx).2.below hb (by rw [add_block]; exact h3)⟩⟩⟩
theorem FetsAt.below {w w' : World} {base : Nat} {A : Option Addr} {n : Nat} {l : List Fet} (h : FetsAt w base A n l) (hb : Below base w w') : FetsAt w' base A n l := by
  obtain ⟨h1, h0, h2 | ⟨a, h2, h3, h4⟩⟩ := h
  · exact ⟨h1, h0, .inl h2⟩
  · refine ⟨h1, h0, .inr ⟨a, h2, h3, fun i x hx => ?_⟩⟩
    obtain ⟨h5, A', m, c, h6, h7⟩ := h4 i x hx
    exact ⟨h5, A', m, c, h6.below hb (by rw [add_block]; exact h3), h7.below hb⟩
theorem SdsAt.below {w w' : World} {base : Nat} {A : Option Addr} {n : Nat} {l : List Sd} (h : SdsAt w base A n l) (hb : Below base w w') : SdsAt w' base A n l := by
  obtain ⟨h1, h0, h2 | ⟨a, h2, h3, h4⟩⟩ := h
  · exact ⟨h1, h0, .inl h2⟩
  · refine ⟨h1, h0, .inr ⟨a, h2, h3, fun i x hx => ?_⟩⟩
    obtain ⟨h5, A', m, c, h6, h7⟩ := h4 i x hx
    exact ⟨h5, A', m, c, h6.below hb (by rw [add_block]; exact h3), h7.below hb⟩
theorem RecsAt.get {w : World} {base : Nat} {A : Option Addr} {n : Nat} {l : List Rec} (h : RecsAt w base A n l) {i : Nat} (hi : i < n) :
    ∃ a x, A = some a ∧ l[i]? = some x ∧ x.wf ∧ At w (a.add (i * 4)) x.cells := by
  obtain ⟨h1, _, h2 | ⟨a, h2, h3, h4⟩⟩ := h
  · omega
  · have hx : l[i]? = some (l[i]'(by omega)) := List.getElem?_eq_getElem (by omega)
    exact ⟨a, _, h2, hx, (h4 i _ hx).1, (h4 i _ hx).2⟩
theorem FetsAt.get {w : World} {base : Nat} {A : Option Addr} {n : Nat} {l : List Fet} (h : FetsAt w base A n l) {i : Nat} (hi : i < n) :
    ∃ a x A' m c, A = some a ∧ l[i]? = some x ∧ x.wf ∧ At w (a.add (i * 5)) (x.cells (.slice A' m c)) ∧ RecsAt w base A' m x.recs := by
  obtain ⟨h1, _, h2 | ⟨a, h2, h3, h4⟩⟩ := h
  · omega
  · have hx : l[i]? = some (l[i]'(by omega)) := List.getElem?_eq_getElem (by omega)
    obtain ⟨h5, A', m, c, h6, h7⟩ := h4 i _ hx
    exact ⟨a, _, A', m, c, h2, hx, h5, h6, h7⟩
theorem SdsAt.get {w : World} {base : Nat} {A : Option Addr} {n : Nat} {l : List Sd} (h : SdsAt w base A n l) {i : Nat} (hi : i < n) :
    ∃ a x A' m c, A = some a ∧ l[i]? = some x ∧ x.wf ∧ At w (a.add (i * 3)) (x.cells (.slice A' m c)) ∧ RecsAt w base A' m x.recs := by
  obtain ⟨h1, _, h2 | ⟨a, h2, h3, h4⟩⟩ := h
  · omega
  · have hx : l[i]? = some (l[i]'(by omega)) := List.getElem?_eq_getElem (by omega)
    obtain ⟨h5, A', m, c, h6, h7⟩ := h4 i _ hx
    exact ⟨a, _, A', m, c, h2, hx, h5, h6, h7⟩
theorem At.three {w : World} {a : Addr} {v0 v1 v2 : Value} (h : At w a [v0, v1, v2]) :
    w.cell? a = some v0 ∧ w.cell? ⟨a.block, a.off + 1, none⟩ = some v1 ∧ w.cell? ⟨a.block, a.off + 2, none⟩ = some v2 := by
  have h0 := h 0 _ rfl
  have h1 := h 1 _ rfl
  have h2 := h 2 _ rfl
  simp only [Addr.add_succ', Addr.add_zero', Nat.zero_add, Nat.reduceAdd] at h0 h1 h2
  exact ⟨h0, h1, h2⟩
theorem At.three0 {w : World} {b : Nat} {v0 v1 v2 : Value} (h : At w ⟨b, 0, none⟩ [v0, v1, v2]) :
    w.cell? ⟨b, 0, none⟩ = some v0 ∧ w.cell? ⟨b, 1, none⟩ = some v1 ∧ w.cell? ⟨b, 2, none⟩ = some v2 := At.three h
theorem At.later {w w' : World} {a : Addr} {v : Value} {vs : List Value} (h : At w a (v :: vs)) (hb : Below w.heap.size w w') : At w' a (v :: vs) := h.lat ⟨w', hb⟩
theorem At.three_lat {w : World} {a : Addr} {v0 v1 v2 : Value} (h : At w a [v0, v1, v2]) :
    (∀ z : Lat w, z.val.cell? a = some v0) ∧ (∀ z : Lat w, z.val.cell? ⟨a.block, a.off + 1, none⟩ = some v1) ∧ (∀ z : Lat w, z.val.cell? ⟨a.block, a.off + 2, none⟩ = some v2) :=
  ⟨fun z => (At.three (h.lat z)).1, fun z => (At.three (h.lat z)).2.1, fun z => (At.three (h.lat z)).2.2⟩
theorem RecsAt.later {w w' : World} {base : Nat} {A : Option Addr} {n : Nat} {l : List Rec} (h : RecsAt w base A n l) (hb : Below w.heap.size w w') : RecsAt w' base A n l := by
  obtain ⟨h1, h0, h2 | ⟨a, h2, h3, h4⟩⟩ := h
  · exact ⟨h1, h0, .inl h2⟩
  · exact ⟨h1, h0, .inr ⟨a, h2, h3, fun i x hx => ⟨(h4 i x hx).1, (h4 i x hx).2.later hb⟩⟩⟩
theorem FetsAt.later {w w' : World} {base : Nat} {A : Option Addr} {n : Nat} {l : List Fet} (h : FetsAt w base A n l) (hb : Below w.heap.size w w') : FetsAt w' base A n l := by
  obtain ⟨h1, h0, h2 | ⟨a, h2, h3, h4⟩⟩ := h
  · exact ⟨h1, h0, .inl h2⟩
  · refine ⟨h1, h0, .inr ⟨a, h2, h3, fun i x hx => ?_⟩⟩
    obtain ⟨h5, A', m, c, h6, h7⟩ := h4 i x hx
    exact ⟨h5, A', m, c, h6.later hb, h7.later hb⟩
theorem SdsAt.later {w w' : World} {base : Nat} {A : Option Addr} {n : Nat} {l : List Sd} (h : SdsAt w base A n l) (hb : Below w.heap.size w w') : SdsAt w' base A n l := by
  obtain ⟨h1, h0, h2 | ⟨a, h2, h3, h4⟩⟩ := h
  · exact ⟨h1, h0, .inl h2⟩
  · refine ⟨h1, h0, .inr ⟨a, h2, h3, fun i x hx => ?_⟩⟩
    obtain ⟨h5, A', m, c, h6, h7⟩ := h4 i x hx
    exact ⟨h5, A', m, c, h6.later hb, h7.later hb⟩
theorem At.four_lat {w : World} {a : Addr} {v0 v1 v2 v3 : Value} (h : At w a [v0, v1, v2, v3]) :
    (∀ z : Lat w, z.val.cell? a = some v0) ∧ (∀ z : Lat w, z.val.cell? ⟨a.block, a.off + 1, none⟩ = some v1) ∧ (∀ z : Lat w, z.val.cell? ⟨a.block, a.off + 2, none⟩ = some v2) ∧ (∀ z : Lat w, z.val.cell? ⟨a.block, a.off + 3, none⟩ = some v3) :=
  ⟨fun z => (At.four (h.lat z)).1, fun z => (At.four (h.lat z)).2.1, fun z => (At.four (h.lat z)).2.2.1, fun z => (At.four (h.lat z)).2.2.2⟩
theorem At.five_lat {w : World} {a : Addr} {v0 v1 v2 v3 v4 : Value} (h : At w a [v0, v1, v2, v3, v4]) :
    (∀ z : Lat w, z.val.cell? a = some v0) ∧ (∀ z : Lat w, z.val.cell? ⟨a.block, a.off + 1, none⟩ = some v1) ∧ (∀ z : Lat w, z.val.cell? ⟨a.block, a.off + 2, none⟩ = some v2) ∧ (∀ z : Lat w, z.val.cell? ⟨a.block, a.off + 3, none⟩ = some v3) ∧ (∀ z : Lat w, z.val.cell? ⟨a.block, a.off + 4, none⟩ = some v4) :=
  ⟨fun z => (At.five (h.lat z)).1, fun z => (At.five (h.lat z)).2.1, fun z => (At.five (h.lat z)).2.2.1, fun z => (At.five (h.lat z)).2.2.2.1, fun z => (At.five (h.lat z)).2.2.2.2⟩
theorem At.four0_lat {w : World} {b : Nat} {v0 v1 v2 v3 : Value} (h : At w ⟨b, 0, none⟩ [v0, v1, v2, v3]) :
    (∀ z : Lat w, z.val.cell? ⟨b, 0, none⟩ = some v0) ∧ (∀ z : Lat w, z.val.cell? ⟨b, 1, none⟩ = some v1) ∧ (∀ z : Lat w, z.val.cell? ⟨b, 2, none⟩ = some v2) ∧ (∀ z : Lat w, z.val.cell? ⟨b, 3, none⟩ = some v3) := At.four_lat h
theorem At.five0_lat {w : World} {b : Nat} {v0 v1 v2 v3 v4 : Value} (h : At w ⟨b, 0, none⟩ [v0, v1, v2, v3, v4]) :
    (∀ z : Lat w, z.val.cell? ⟨b, 0, none⟩ = some v0) ∧ (∀ z : Lat w, z.val.cell? ⟨b, 1, none⟩ = some v1) ∧ (∀ z : Lat w, z.val.cell? ⟨b, 2, none⟩ = some v2) ∧ (∀ z : Lat w, z.val.cell? ⟨b, 3, none⟩ = some v3) ∧ (∀ z : Lat w, z.val.cell? ⟨b, 4, none⟩ = some v4) := At.five_lat h
/-- is a record, its offset aside, one of those that were said? -/
def saidIn (l : List Sd) (r : Rec) : Bool := l.any fun s => s.recs.any fun x => decide (bare x = bare r)
theorem any_false {α : Type} {l : List α} {p : α → Bool} (h : ∀ (j : Nat) (y : α), l[j]? = some y → p y = false) : l.any p = false := by
  rw [List.any_eq_false]
  intro x hx
  obtain ⟨j, hj, e⟩ := List.getElem_of_mem hx
  simp [h j x (by rw [List.getElem?_eq_getElem hj, e])]
theorem any_at {α : Type} {l : List α} {p : α → Bool} {j : Nat} {y : α} (hy : l[j]? = some y) (h : p y = true) : l.any p = true := by
  rw [List.any_eq_true]
  exact ⟨y, List.mem_of_getElem? hy, h⟩
theorem toList_iff (a b : ByteArray) : a.toList = b.toList ↔ a = b := by
  rw [ByteArray.toList_eq, ByteArray.toList_eq]
  obtain ⟨⟨x⟩⟩ := a
  obtain ⟨⟨y⟩⟩ := b
  simp
theorem bare_cases (x r : Rec) : (x.key.toList ≠ r.key.toList ∧ decide (bare x = bare r) = false) ∨ (x.key.toList = r.key.toList ∧ x.value.toList ≠ r.value.toList ∧ decide (bare x = bare r) = false) ∨
    (x.key.toList = r.key.toList ∧ x.value.toList = r.value.toList ∧ (x.gone == r.gone) = false ∧ decide (bare x = bare r) = false) ∨ (x.key.toList = r.key.toList ∧ x.value.toList = r.value.toList ∧ (x.gone == r.gone) = true ∧ decide (bare x = bare r) = true) := by
  obtain ⟨o, k, v, g⟩ := x
  obtain ⟨o', k', v', g'⟩ := r
  have e : decide (bare ⟨o, k, v, g⟩ = bare ⟨o', k', v', g'⟩) = (decide (k = k') && decide (v = v') && decide (g = g')) := by
    unfold bare; by_cases h1 : k = k' <;> by_cases h2 : v = v' <;> by_cases h3 : g = g' <;> simp [h1, h2, h3]
  rw [e]
  simp only [ne_eq, toList_iff]
  by_cases h1 : k = k' <;> by_cases h2 : v = v' <;> by_cases h3 : g = g' <;> simp [h1, h2, h3]
end Go.PostAud
