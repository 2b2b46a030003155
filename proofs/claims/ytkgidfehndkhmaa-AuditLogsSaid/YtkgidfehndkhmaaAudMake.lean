/- Slices that the program makes. -/
import Derived.Test.YtkgidfehndkhmaaAudRows2
namespace Go.PostAud
open Go.RowKit
theorem flat_len {k : Nat} {f : Nat → List Value} (hf : ∀ i, (f i).length = k) : ∀ n, ((List.range n).flatMap f).length = n * k
  | 0 => by simp
  | n + 1 => by rw [List.range_succ, List.flatMap_append, List.length_append, flat_len hf n]; simp [hf, Nat.add_mul]
theorem flat_get {k : Nat} {f : Nat → List Value} (hf : ∀ i, (f i).length = k) : ∀ (n i j : Nat), i < n → j < k → ((List.range n).flatMap f)[i * k + j]? = (f i)[j]?
  | n + 1, i, j, hi, hj => by
    have hl := flat_len hf n
    rw [List.range_succ, List.flatMap_append]
    by_cases h : i < n
    · have hb : i * k + j < n * k := by
        have : (i + 1) * k ≤ n * k := Nat.mul_le_mul_right k h
        rw [Nat.add_mul] at this
        omega
      rw [List.getElem?_append_left (by rw [hl]; exact hb)]
      exact flat_get hf n i j h hj
    · obtain rfl : i = n := by omega
      rw [List.getElem?_append_right (by rw [hl]; omega), hl, show i * k + j - i * k = j by omega]
      simp
theorem at_flat {w : World} {g k n : Nat} {f : Nat → List Value} (hf : ∀ i, (f i).length = k) (h : At w ⟨g, 0, none⟩ ((List.range n).flatMap f)) (i : Nat) (hi : i < n) : At w ((⟨g, 0, none⟩ : Addr).add (i * k)) (f i) := fun j v hj => by
  have hjk : j < k := by rw [← hf i]; exact (List.getElem?_eq_some_iff.1 hj).1
  have := h (i * k + j) v (by rw [flat_get hf n i j hi hjk]; exact hj)
  rw [Addr.add_lit, Addr.add_lit] at *
  simpa using this
end Go.PostAud
