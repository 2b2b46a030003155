/- The plain law of AuditParts: the answers of beginnings. -/
import Derived.Test.YtkgidfehndkhmaaAudSpec3
namespace Go.PostAud
def ansOf (n : Nat) (p : Nat → Bool) (v : Nat → Int) : Int × Int := match (List.range n).find? p with | none => (0, 0) | some i => (v i, (i : Int))
theorem ans_acks (l : List Ack) : acksAns l = ansOf l.length (badAt l) (fun _ => 110) := rfl
theorem ans_fets (l : List Fet) (sd : List Sd) : fetAns l sd = ansOf l.length (fun i => decide (fetAt l sd i ≠ 0)) (fetAt l sd) := rfl
theorem find_range_some {p : Nat → Bool} {n i : Nat} (h : (List.range n).find? p = some i) : i < n ∧ p i = true ∧ ∀ j, j < i → p j = false := by
  rw [List.find?_range_eq_some] at h
  exact ⟨by simpa using h.2.1, h.1, fun j hj => by simpa using h.2.2 j hj⟩
theorem find_range_none {p : Nat → Bool} {n : Nat} (h : (List.range n).find? p = none) : ∀ j, j < n → p j = false := fun j hj => by
  rw [List.find?_eq_none] at h
  simpa using h j (by simpa using hj)
def PartOk (X Y : Int × Int) (k : Nat) : Prop := (X.1 = 0 ∧ Y.1 = 0) ∨ (X.1 ≠ 0 ∧ (k : Int) ≤ X.2 ∧ Y.1 = 0) ∨ (X.1 ≠ 0 ∧ X.2 < (k : Int) ∧ Y.1 = X.1 ∧ Y.2 = X.2)
theorem part_ok {n k : Nat} {p p' : Nat → Bool} {v v' : Nat → Int} (hk : k ≤ n) (hp : ∀ j, j < k → p' j = p j) (hv : ∀ j, j < k → v' j = v j) (hn : ∀ j, p j = true → v j ≠ 0) : PartOk (ansOf n p v) (ansOf k p' v') k := by
  unfold PartOk
  cases h : (List.range n).find? p with
  | none =>
    have h1 := find_range_none h
    have h2 : (List.range k).find? p' = none := find_none fun j hj => by rw [hp j hj]; exact h1 j (by omega)
    refine .inl ⟨?_, ?_⟩ <;> unfold ansOf <;> simp only [h, h2]
  | some i =>
    obtain ⟨h1, h2, h3⟩ := find_range_some h
    have e1 : ansOf n p v = (v i, (i : Int)) := by unfold ansOf; simp only [h]
    rw [e1]
    by_cases hki : k ≤ i
    · have h4 : (List.range k).find? p' = none := find_none fun j hj => by rw [hp j hj]; exact h3 j (by omega)
      refine .inr (.inl ⟨hn i h2, by simp only; omega, ?_⟩)
      unfold ansOf; simp only [h4]
    · have h4 : (List.range k).find? p' = some i := find_first (by omega) (by rw [hp i (by omega)]; exact h2) (fun j hj => by rw [hp j (by omega)]; exact h3 j hj)
      have e2 : ansOf k p' v' = (v i, (i : Int)) := by unfold ansOf; simp only [h4, hv i (by omega)]
      rw [e2]
      exact .inr (.inr ⟨hn i h2, by simp only; omega, rfl, rfl⟩)
theorem take_get {α : Type} {l : List α} {k j : Nat} (h : j < k) : (l.take k)[j]? = l[j]? := by rw [List.getElem?_take, if_pos h]
theorem take_len {α : Type} {l : List α} {k : Nat} (h : k ≤ l.length) : (l.take k).length = k := by simp [h]
theorem badAt_take (l : List Ack) (k j : Nat) (h : j < k) : badAt (l.take k) j = badAt l j := by
  unfold badAt badAck
  rw [take_get h, List.take_take, Nat.min_eq_left (by omega)]
theorem fetAt_take (l : List Fet) (sd : List Sd) (k j : Nat) (h : j < k) : fetAt (l.take k) sd j = fetAt l sd j := by
  unfold fetAt fetBad parts at_ recBad oldBad
  rw [take_get h, List.take_take, Nat.min_eq_left (by omega)]
theorem parts_acks (l : List Ack) (k : Nat) (hk : k ≤ l.length) : PartOk (acksAns l) (acksAns (l.take k)) k := by
  rw [ans_acks, ans_acks, take_len hk]
  exact part_ok hk (fun j hj => badAt_take l k j hj) (fun _ _ => rfl) (fun _ _ => by decide)
theorem parts_fets (l : List Fet) (sd : List Sd) (k : Nat) (hk : k ≤ l.length) : PartOk (fetAns l sd) (fetAns (l.take k) sd) k := by
  rw [ans_fets, ans_fets, take_len hk]
  exact part_ok hk (fun j hj => by rw [fetAt_take l sd k j hj]) (fun j hj => fetAt_take l sd k j hj) (fun j hj => of_decide_eq_true hj)
end Go.PostAud
