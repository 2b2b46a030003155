/- The plain law of AuditMoves. -/
import Derived.Test.YtkgidfehndkhmaaAudSpec
import Derived.WalkKit
namespace Go.PostAud
def mvAck (i : Nat) : Ack := ⟨0, ⟨0, (i : Int)⟩, 0, 3 * (i : Int), 3⟩
def mvList (n : Nat) : List Ack := (List.range n).map mvAck
theorem mv_good (i : Nat) (h : i ≤ 1000) : good (mvAck i) = true := by unfold good mvAck; simp; omega
theorem mv_len (n : Nat) : (mvList n).length = n := by simp [mvList]
theorem mv_get {n : Nat} {t : List Ack} {j : Nat} (h : j < n) : (mvList n ++ t)[j]? = some (mvAck j) := by
  rw [List.getElem?_append_left (by rw [mv_len]; exact h)]
  simp [mvList, h]
theorem mv_last (n : Nat) (x : Ack) : (mvList n ++ [x])[n]? = some x := by
  rw [List.getElem?_append_right (by rw [mv_len]; omega), mv_len, Nat.sub_self]; rfl
theorem mv_one (n : Nat) (t : List Ack) (hn : n ≤ 1000) (j : Nat) (h : j < n) : badAt (mvList n ++ t) j = false := by
  rw [badAt_of (mv_get h)]
  unfold badAck
  rw [mv_good j (by omega), take_any _ _ _ fun q x hq hx => ?_]
  · simp
  · rw [mv_get (by omega)] at hx
    obtain rfl := Option.some.inj hx
    unfold clash
    rw [mv_good q (by omega), if_neg (by simp [mvAck]; omega)]
    unfold meets mvAck
    simp
    omega
theorem mv_base (n : Nat) (hn : n ≤ 1000) : acksAns (mvList n) = (0, 0) := acksAns_ok fun j hj => by
  have := mv_one n [] hn j (by rwa [mv_len] at hj)
  rwa [List.append_nil] at this
theorem mv_same (n k : Nat) (hn : n ≤ 1000) (hk : k < n) : acksAns (mvList n ++ [⟨0, ⟨0, (k : Int)⟩, 0, 3 * (k : Int), 3⟩]) = (0, 0) := acksAns_ok fun j hj => by
  rw [List.length_append, mv_len] at hj
  simp only [List.length_cons, List.length_nil] at hj
  by_cases h : j < n
  · exact mv_one n _ hn j h
  · obtain rfl : j = n := by omega
    rw [badAt_of (mv_last j _)]
    unfold badAck
    rw [show good ⟨0, ⟨0, (k : Int)⟩, 0, 3 * (k : Int), 3⟩ = true from mv_good k (by omega), take_any _ _ _ fun q x hq hx => ?_]
    · simp
    · rw [mv_get (by omega)] at hx
      obtain rfl := Option.some.inj hx
      unfold clash
      rw [mv_good q (by omega)]
      by_cases e : q = k
      · subst e; simp [mvAck]
      · rw [if_neg (by simp [mvAck]; omega)]
        unfold meets mvAck
        simp
        omega
theorem mv_other (n k d : Nat) (hn : n ≤ 1000) (hk : k < n) (hd : 1 ≤ d) (hd2 : d ≤ 2) : acksAns (mvList n ++ [⟨0, ⟨0, (k : Int)⟩, 0, 3 * (k : Int) + (d : Int), 3⟩]) = (110, (n : Int)) := by
  refine acksAns_bad (mv_last n _) ?_ (fun j hj => mv_one n _ hn j hj)
  unfold badAck
  rw [take_any_true _ n k (mvAck k) _ hk (mv_get hk) (by
    unfold clash
    rw [mv_good k (by omega), if_pos (show (mvAck k).id = (⟨0, (k : Int)⟩ : Pid) from rfl), decide_eq_true (show (mvAck k).base ≠ 3 * (k : Int) + (d : Int) by unfold mvAck; simp only; omega)]
    rfl)]
  simp
theorem mv_new (n k d : Nat) (hn : n ≤ 1000) (hk : k < n) (hd : 1 ≤ d) (hd2 : d ≤ 2) : acksAns (mvList n ++ [⟨0, ⟨0, (n : Int)⟩, 0, 3 * (k : Int) + (d : Int), 1⟩]) = (110, (n : Int)) := by
  refine acksAns_bad (mv_last n _) ?_ (fun j hj => mv_one n _ hn j hj)
  unfold badAck
  rw [take_any_true _ n k (mvAck k) _ hk (mv_get hk) (by
    unfold clash
    rw [mv_good k (by omega), if_neg (by simp [mvAck]; omega)]
    unfold meets mvAck
    simp
    omega)]
  simp
end Go.PostAud
