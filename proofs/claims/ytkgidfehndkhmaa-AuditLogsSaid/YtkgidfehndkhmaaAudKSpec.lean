/- Which fetch lacks what was acked: the document's answer. -/
import Derived.Test.YtkgidfehndkhmaaAudSpec3
namespace Go.PostAud
open Go.RowKit
/-- the first good ack of an id -/
def firstGood (ks : List Ack) (d : Pid) : Option Ack := ks.find? fun a => good a && decide (a.id = d)
/-- nothing of that id was said ahead -/
def firstSd (sd : List Sd) (i : Nat) (d : Pid) : Bool := !((sd.take i).any fun t => decide (t.id = d))
/-- a record of what was said and acked: the ack's step, the record's offset, its key -/
def HeldAt (ks : List Ack) (sd : List Sd) (i k : Nat) (st o : Int) (key : ByteArray) : Prop :=
  ∃ (s : Sd) (a : Ack) (r : Rec), sd[i]? = some s ∧ firstSd sd i s.id = true ∧ firstGood ks s.id = some a ∧ s.recs[k]? = some r ∧ (k : Int) < a.count ∧ st = a.step ∧ o = a.base + (k : Int) ∧ key = r.key
def Held (ks : List Ack) (sd : List Sd) (st o : Int) (key : ByteArray) : Prop := ∃ (i k : Nat), HeldAt ks sd i k st o key
def FetLater (l : List Fet) (key : ByteArray) (o : Int) : Prop := ∃ (j : Nat) (f : Fet) (m : Nat) (r : Rec), l[j]? = some f ∧ f.err = 0 ∧ f.recs[m]? = some r ∧ r.key = key ∧ o < r.off
def Later' (ks : List Ack) (l : List Fet) (sd : List Sd) (key : ByteArray) (o : Int) : Prop := FetLater l key o ∨ ∃ st o', Held ks sd st o' key ∧ o < o'
def hasOff (l : List Rec) (o : Int) : Bool := l.any fun r => decide (r.off = o)
def LacksBy (ks : List Ack) (l : List Fet) (sd : List Sd) (f : Fet) (e st o : Int) (key : ByteArray) : Prop := st < f.step ∧ f.from_ ≤ o ∧ o ≤ e ∧ hasOff f.recs o = false ∧ ¬ Later' ks l sd key o
def lastOff (l : List Rec) : Int := match l[l.length - 1]? with | some r => r.off | none => 0
def Lacks (ks : List Ack) (l : List Fet) (sd : List Sd) (f : Fet) : Prop := ∃ st o key, Held ks sd st o key ∧ LacksBy ks l sd f (lastOff f.recs) st o key
open Classical in
noncomputable def laterB (ks : List Ack) (l : List Fet) (sd : List Sd) (key : ByteArray) (o : Int) : Bool := decide (Later' ks l sd key o)
open Classical in
noncomputable def lacksB (ks : List Ack) (l : List Fet) (sd : List Sd) (f : Fet) : Bool := decide (Lacks ks l sd f)
noncomputable def keepBad (ks : List Ack) (l : List Fet) (sd : List Sd) (f : Fet) : Bool := decide (f.err = 0) && decide (0 < f.recs.length) && lacksB ks l sd f
noncomputable def keepAt (ks : List Ack) (l : List Fet) (sd : List Sd) (i : Nat) : Bool := match l[i]? with | some f => keepBad ks l sd f | none => false
noncomputable def keepAns (ks : List Ack) (l : List Fet) (sd : List Sd) : Int × Int := match (List.range l.length).find? (keepAt ks l sd) with | none => (0, 0) | some i => (120, (i : Int))
theorem keepAt_of {ks : List Ack} {l : List Fet} {sd : List Sd} {i : Nat} {f : Fet} (hf : l[i]? = some f) : keepAt ks l sd i = keepBad ks l sd f := by unfold keepAt; rw [hf]
theorem keepAns_bad {ks : List Ack} {l : List Fet} {sd : List Sd} {i : Nat} {f : Fet} (hf : l[i]? = some f) (hb : keepBad ks l sd f = true) (h : ∀ j, j < i → keepAt ks l sd j = false) : keepAns ks l sd = (120, (i : Int)) := by
  have hl : i < l.length := (List.getElem?_eq_some_iff.1 hf).1
  unfold keepAns
  rw [find_first hl (by rw [keepAt_of hf, hb]) h]
theorem keepAns_ok {ks : List Ack} {l : List Fet} {sd : List Sd} (h : ∀ j, j < l.length → keepAt ks l sd j = false) : keepAns ks l sd = (0, 0) := by
  unfold keepAns
  rw [find_none h]
theorem laterB_true {ks : List Ack} {l : List Fet} {sd : List Sd} {key : ByteArray} {o : Int} (h : Later' ks l sd key o) : laterB ks l sd key o = true := by unfold laterB; simp [h]
theorem laterB_false {ks : List Ack} {l : List Fet} {sd : List Sd} {key : ByteArray} {o : Int} (h : ¬ Later' ks l sd key o) : laterB ks l sd key o = false := by unfold laterB; simp [h]
theorem lacksB_true {ks : List Ack} {l : List Fet} {sd : List Sd} {f : Fet} (h : Lacks ks l sd f) : lacksB ks l sd f = true := by unfold lacksB; simp [h]
theorem lacksB_false {ks : List Ack} {l : List Fet} {sd : List Sd} {f : Fet} (h : ¬ Lacks ks l sd f) : lacksB ks l sd f = false := by unfold lacksB; simp [h]
/-- what the look for the first good ack tells -/
theorem find_at {α : Type} {l : List α} {p : α → Bool} {i : Nat} {x : α} (hx : l[i]? = some x) (hp : p x = true) (h : ∀ (j : Nat) (y : α), j < i → l[j]? = some y → p y = false) : l.find? p = some x := by
  obtain ⟨hi, rfl⟩ := List.getElem?_eq_some_iff.1 hx
  rw [List.find?_eq_some_iff_getElem]
  exact ⟨hp, i, hi, rfl, fun j hj => by rw [h j l[j] hj (List.getElem?_eq_getElem (by omega))]; rfl⟩
theorem find_no {α : Type} {l : List α} {p : α → Bool} (h : ∀ (j : Nat) (y : α), l[j]? = some y → p y = false) : l.find? p = none := by
  rw [List.find?_eq_none]
  intro x hx
  obtain ⟨j, hj, rfl⟩ := List.getElem_of_mem hx
  rw [h j _ (List.getElem?_eq_getElem hj)]; simp
theorem AcksAt.later {w w' : World} {base : Nat} {A : Option Addr} {n : Nat} {l : List Ack} (h : AcksAt w base A n l) (hb : Below w.heap.size w w') : AcksAt w' base A n l := by
  obtain ⟨h1, h2 | ⟨a, h2, h3, h4⟩⟩ := h
  · exact ⟨h1, .inl h2⟩
  · exact ⟨h1, .inr ⟨a, h2, h3, fun i x hx => ⟨(h4 i x hx).1, (h4 i x hx).2.later hb⟩⟩⟩
theorem firstGood_good {ks : List Ack} {d : Pid} {a : Ack} (h : firstGood ks d = some a) : good a = true ∧ a.id = d := by
  have := List.find?_some h
  simpa using this
theorem held_none {ks : List Ack} {sd : List Sd} {i k : Nat} {st o : Int} {key : ByteArray} {s : Sd} (hs : sd[i]? = some s) (h : firstGood ks s.id = none) : ¬ HeldAt ks sd i k st o key := by
  rintro ⟨s', a, r, h1, h2, h3, _⟩
  obtain rfl := Option.some.inj (hs.symm.trans h1)
  rw [h] at h3
  exact nomatch h3
theorem held_second {ks : List Ack} {sd : List Sd} {i k : Nat} {st o : Int} {key : ByteArray} {s : Sd} (hs : sd[i]? = some s) (h : firstSd sd i s.id = false) : ¬ HeldAt ks sd i k st o key := by
  rintro ⟨s', a, r, h1, h2, h3, _⟩
  obtain rfl := Option.some.inj (hs.symm.trans h1)
  rw [h] at h2
  exact nomatch h2
theorem held_at {ks : List Ack} {sd : List Sd} {i k : Nat} {st o : Int} {key : ByteArray} {s : Sd} {a : Ack} (hs : sd[i]? = some s) (ha : firstGood ks s.id = some a) (h : HeldAt ks sd i k st o key) :
    ∃ r, s.recs[k]? = some r ∧ (k : Int) < a.count ∧ st = a.step ∧ o = a.base + (k : Int) ∧ key = r.key := by
  obtain ⟨s', a', r, h1, h2, h3, h4⟩ := h
  obtain rfl := Option.some.inj (hs.symm.trans h1)
  obtain rfl := Option.some.inj (ha.symm.trans h3)
  exact ⟨r, h4⟩
theorem held_mk {ks : List Ack} {sd : List Sd} {i k : Nat} {s : Sd} {a : Ack} {r : Rec} (hs : sd[i]? = some s) (h1 : firstSd sd i s.id = true) (ha : firstGood ks s.id = some a) (hr : s.recs[k]? = some r) (hk : (k : Int) < a.count) : HeldAt ks sd i k a.step (a.base + (k : Int)) r.key := ⟨s, a, r, hs, h1, ha, hr, hk, rfl, rfl, rfl⟩
theorem key_cases (a b : ByteArray) : (a.toList = b.toList ∧ a = b) ∨ (a.toList ≠ b.toList ∧ a ≠ b) := by
  by_cases h : a = b
  · exact .inl ⟨by rw [h], h⟩
  · exact .inr ⟨fun e => h ((toList_iff _ _).1 e), h⟩
def zeroA : Ack := ⟨0, ⟨0, 0⟩, 0, 0, 0⟩
def ansFirst : Option Ack → Value
  | some a => .tuple #[a.v, .bool true]
  | none => .tuple #[zeroA.v, .bool false]
end Go.PostAud
