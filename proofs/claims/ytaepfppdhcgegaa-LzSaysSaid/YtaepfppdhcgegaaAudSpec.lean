/- What an ack may be: the document's answer. -/
import Derived.Test.YtaepfppdhcgegaaAudPlain
namespace Go.PostAud
/-- do two acks, the first of them good, not go together? -/
def clash (a b : Ack) : Bool := good a && (if a.id = b.id then decide (a.base ≠ b.base) || decide (a.count ≠ b.count) else meets a b)
def badAck (l : List Ack) (i : Nat) (x : Ack) : Bool := decide (x.err = 0) && (!good x || (l.take i).any (clash · x))
def badAt (l : List Ack) (i : Nat) : Bool := match l[i]? with | some x => badAck l i x | none => false
def acksAns (l : List Ack) : Int × Int := match (List.range l.length).find? (badAt l) with | none => (0, 0) | some i => (110, (i : Int))
theorem find_first {p : Nat → Bool} {n i : Nat} (hi : i < n) (hp : p i = true) (hb : ∀ j, j < i → p j = false) : (List.range n).find? p = some i := by
  rw [List.find?_range_eq_some]
  refine ⟨hp, by simpa using hi, fun j hj => by simp [hb j hj]⟩
theorem find_none {p : Nat → Bool} {n : Nat} (hb : ∀ j, j < n → p j = false) : (List.range n).find? p = none := by
  rw [List.find?_eq_none]
  intro x hx
  simp [hb x (by simpa using hx)]
theorem acksAns_bad {l : List Ack} {i : Nat} {x : Ack} (hx : l[i]? = some x) (hb : badAck l i x = true) (h : ∀ j, j < i → badAt l j = false) : acksAns l = (110, (i : Int)) := by
  have hl : i < l.length := (List.getElem?_eq_some_iff.1 hx).1
  unfold acksAns
  rw [find_first hl (by unfold badAt; rw [hx]; exact hb) h]
theorem acksAns_ok {l : List Ack} (h : ∀ j, j < l.length → badAt l j = false) : acksAns l = (0, 0) := by
  unfold acksAns
  rw [find_none h]
theorem badAt_of {l : List Ack} {i : Nat} {x : Ack} (hx : l[i]? = some x) : badAt l i = badAck l i x := by unfold badAt; rw [hx]
theorem take_any {α : Type} (l : List α) (i : Nat) (p : α → Bool) (h : ∀ k x, k < i → l[k]? = some x → p x = false) : (l.take i).any p = false := by
  rw [List.any_eq_false]
  intro x hx
  obtain ⟨k, hk, e⟩ := List.mem_take_iff_getElem.1 hx
  have hk' : k < i ∧ k < l.length := by omega
  have := h k x hk'.1 (by rw [List.getElem?_eq_getElem hk'.2]; exact congrArg some e)
  simp [this]
theorem take_any_true {α : Type} (l : List α) (i k : Nat) (x : α) (p : α → Bool) (hk : k < i) (hx : l[k]? = some x) (h : p x = true) : (l.take i).any p = true := by
  rw [List.any_eq_true]
  refine ⟨x, ?_, h⟩
  rw [List.mem_take_iff_getElem]
  obtain ⟨h1, h2⟩ := List.getElem?_eq_some_iff.1 hx
  exact ⟨k, by omega, h2⟩
theorem clash_cases (y x : Ack) (hg : good y = true) :
    (decide ((⟨y.id.prod, y.id.seq⟩ : Pid) = ⟨x.id.prod, x.id.seq⟩) = true ∧ (y.base != x.base) = true ∧ clash y x = true) ∨
    (decide ((⟨y.id.prod, y.id.seq⟩ : Pid) = ⟨x.id.prod, x.id.seq⟩) = true ∧ (y.base != x.base) = false ∧ (y.count != x.count) = true ∧ clash y x = true) ∨
    (decide ((⟨y.id.prod, y.id.seq⟩ : Pid) = ⟨x.id.prod, x.id.seq⟩) = true ∧ (y.base != x.base) = false ∧ (y.count != x.count) = false ∧ clash y x = false) ∨
    (decide ((⟨y.id.prod, y.id.seq⟩ : Pid) = ⟨x.id.prod, x.id.seq⟩) = false ∧ meets y x = true ∧ clash y x = true) ∨
    (decide ((⟨y.id.prod, y.id.seq⟩ : Pid) = ⟨x.id.prod, x.id.seq⟩) = false ∧ meets y x = false ∧ clash y x = false) := by
  have e : clash y x = (if y.id = x.id then decide (y.base ≠ x.base) || decide (y.count ≠ x.count) else meets y x) := by unfold clash; rw [hg]; simp
  rw [e]
  by_cases h : y.id = x.id
  · rw [if_pos h, decide_eq_true h]
    by_cases h1 : y.base = x.base <;> by_cases h2 : y.count = x.count <;> simp [h1, h2]
  · rw [if_neg h, decide_eq_false h]
    cases meets y x <;> simp
end Go.PostAud
