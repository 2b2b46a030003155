/- What fetched records may be: the document's answer. -/
import Derived.Test.YtkgidfehndkhmaaAudRows2
namespace Go.PostAud
/-- is a record out of its place among those of its fetch? -/
def ordBad (f : Fet) (k : Nat) (x : Rec) : Bool := decide (x.off < f.from_) || (decide (0 < k) && match f.recs[k - 1]? with | some y => decide (x.off ≤ y.off) | none => false)
/-- does a record part from one of the fetches ahead? -/
def oldBad (l : List Fet) (i : Nat) (x : Rec) : Bool := (l.take i).any fun g => decide (g.err = 0) && g.recs.any fun y => decide (y.off = x.off) && !decide (y = x)
def recBad (l : List Fet) (i : Nat) (f : Fet) (k : Nat) (x : Rec) : Bool := ordBad f k x || oldBad l i x
def at_ (l : List Rec) (p : Nat → Rec → Bool) (k : Nat) : Bool := match l[k]? with | some x => p k x | none => false
def parts (l : List Fet) (i : Nat) (f : Fet) : Bool := (List.range f.recs.length).any (at_ f.recs (recBad l i f))
theorem range_any_true {p : Nat → Bool} {n k : Nat} (hk : k < n) (h : p k = true) : (List.range n).any p = true := by
  rw [List.any_eq_true]; exact ⟨k, by simpa using hk, h⟩
theorem range_any_false {p : Nat → Bool} {n : Nat} (h : ∀ k, k < n → p k = false) : (List.range n).any p = false := by
  rw [List.any_eq_false]; intro x hx; simp [h x (by simpa using hx)]
theorem parts_true {l : List Fet} {i k : Nat} {f : Fet} {x : Rec} (hx : f.recs[k]? = some x) (h : recBad l i f k x = true) : parts l i f = true :=
  range_any_true (List.getElem?_eq_some_iff.1 hx).1 (by unfold at_; rw [hx]; exact h)
theorem parts_false {l : List Fet} {i : Nat} {f : Fet} (h : ∀ k x, f.recs[k]? = some x → recBad l i f k x = false) : parts l i f = false :=
  range_any_false fun k hk => by
    unfold at_
    rw [List.getElem?_eq_getElem hk]
    exact h k _ (List.getElem?_eq_getElem hk)
theorem take_any_at {α : Type} {l : List α} {i j : Nat} {y : α} {p : α → Bool} (hj : j < i) (hy : l[j]? = some y) (h : p y = true) : (l.take i).any p = true := take_any_true l i j y p hj hy h
theorem ord_cases (f : Fet) (k : Nat) (x : Rec) (hk : k < f.recs.length) :
    (decide (x.off < f.from_) = true ∧ ordBad f k x = true) ∨ (decide (x.off < f.from_) = false ∧ decide ((0 : Int) < (k : Int)) = false ∧ decide (0 < k) = false ∧ ordBad f k x = false) ∨
    (decide (x.off < f.from_) = false ∧ decide ((0 : Int) < (k : Int)) = true ∧ decide (0 < k) = true ∧ ∃ y, f.recs[k - 1]? = some y ∧ ((decide (x.off ≤ y.off) = true ∧ ordBad f k x = true) ∨ (decide (x.off ≤ y.off) = false ∧ ordBad f k x = false))) := by
  by_cases h1 : x.off < f.from_
  · exact .inl ⟨decide_eq_true h1, by unfold ordBad; simp [h1]⟩
  · by_cases h2 : 0 < k
    · refine .inr (.inr ⟨decide_eq_false h1, decide_eq_true (by omega), decide_eq_true h2, f.recs[k - 1], List.getElem?_eq_getElem (by omega), ?_⟩)
      have e : ordBad f k x = decide (x.off ≤ (f.recs[k - 1]'(by omega)).off) := by
        unfold ordBad
        rw [List.getElem?_eq_getElem (show k - 1 < f.recs.length by omega), decide_eq_false h1, decide_eq_true h2]
        rfl
      rw [e]
      by_cases h3 : x.off ≤ (f.recs[k - 1]'(by omega)).off
      · exact .inl ⟨decide_eq_true h3, decide_eq_true h3⟩
      · exact .inr ⟨decide_eq_false h3, decide_eq_false h3⟩
    · exact .inr (.inl ⟨decide_eq_false h1, decide_eq_false (by omega), decide_eq_false h2, by unfold ordBad; simp [h1, h2]⟩)
theorem old_cases (y x : Rec) : ((y.off == x.off) = false ∧ (decide (y.off = x.off) && !decide (y = x)) = false) ∨
    ((y.off == x.off) = true ∧ decide ((⟨y.off, y.key, y.value, y.gone⟩ : Rec) = ⟨x.off, x.key, x.value, x.gone⟩) = true ∧ (decide (y.off = x.off) && !decide (y = x)) = false) ∨
    ((y.off == x.off) = true ∧ decide ((⟨y.off, y.key, y.value, y.gone⟩ : Rec) = ⟨x.off, x.key, x.value, x.gone⟩) = false ∧ (decide (y.off = x.off) && !decide (y = x)) = true) := by
  have e : decide ((⟨y.off, y.key, y.value, y.gone⟩ : Rec) = ⟨x.off, x.key, x.value, x.gone⟩) = decide (y = x) := rfl
  rw [e]
  by_cases h1 : y.off = x.off <;> by_cases h2 : y = x <;> simp [h1, h2]
end Go.PostAud
