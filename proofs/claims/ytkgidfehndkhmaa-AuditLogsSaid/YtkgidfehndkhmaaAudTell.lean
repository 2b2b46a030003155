/- The plain law of AuditTells. -/
import Derived.Test.YtkgidfehndkhmaaAudKSpec
import Derived.Test.YtkgidfehndkhmaaMem
namespace Go.PostAud
open Go.PostMem
def tellKey (i : Nat) : ByteArray := strOf [UInt8.ofNat (65 + i)]
def tellRec (i : Nat) : Rec := ⟨(i : Int), tellKey i, ⟨#[]⟩, false⟩
def tellBody (n : Nat) : List Rec := (List.range n).map tellRec
def tellLeft (k n : Nat) : List Rec := ((List.range n).filter (· ≠ k)).map tellRec
theorem tellKey_inj {i j : Nat} (hi : i < 100) (hj : j < 100) (h : tellKey i = tellKey j) : i = j := by
  have := strOf_inj h
  simp only [List.cons.injEq, and_true] at this
  have h2 := congrArg UInt8.toNat this
  rw [UInt8.toNat_ofNat', UInt8.toNat_ofNat'] at h2
  omega
theorem body_get {n i : Nat} (h : i < n) : (tellBody n)[i]? = some (tellRec i) := by simp [tellBody, h]
theorem body_mem {n : Nat} {r : Rec} {i : Nat} (h : (tellBody n)[i]? = some r) : i < n ∧ r = tellRec i := by
  have hl := (List.getElem?_eq_some_iff.1 h).1
  have hn : i < n := by simpa [tellBody] using hl
  rw [body_get hn] at h
  exact ⟨hn, (Option.some.inj h).symm⟩
theorem left_mem {k n : Nat} {r : Rec} (h : r ∈ tellLeft k n) : ∃ i, i < n ∧ i ≠ k ∧ r = tellRec i := by
  unfold tellLeft at h
  obtain ⟨i, hi, rfl⟩ := List.mem_map.1 h
  rw [List.mem_filter] at hi
  exact ⟨i, by simpa using hi.1, by simpa using hi.2, rfl⟩
theorem left_has {k n i : Nat} (h : i < n) (hk : i ≠ k) : tellRec i ∈ tellLeft k n := by
  unfold tellLeft
  exact List.mem_map.2 ⟨i, List.mem_filter.2 ⟨by simpa using h, by simpa using hk⟩, rfl⟩
def tellAck (n : Nat) : Ack := ⟨1, ⟨0, 0⟩, 0, 0, (n : Int)⟩
def tellSaid (n : Nat) : Sd := ⟨⟨0, 0⟩, tellBody n⟩
theorem tell_held {n : Nat} (hn1 : 1 ≤ n) (hn2 : n ≤ 100) {st o : Int} {key : ByteArray} : Held [tellAck n] [tellSaid n] st o key ↔ ∃ k, k < n ∧ st = 1 ∧ o = (k : Int) ∧ key = tellKey k := by
  have hg : good (tellAck n) = true := by unfold good tellAck; simp; omega
  have hfg : firstGood [tellAck n] ⟨0, 0⟩ = some (tellAck n) := by unfold firstGood; rw [List.find?_cons, hg]; rfl
  constructor
  · rintro ⟨i, k, s, a, r, h1, _, h3, h4, h5, rfl, rfl, rfl⟩
    match i, h1 with
    | 0, h1 =>
      obtain rfl := Option.some.inj h1
      rw [show (tellSaid n).id = ⟨0, 0⟩ from rfl, hfg] at h3
      obtain rfl := Option.some.inj h3
      obtain ⟨h6, rfl⟩ := body_mem (show (tellBody n)[k]? = some r from h4)
      exact ⟨k, h6, rfl, by unfold tellAck; simp, rfl⟩
  · rintro ⟨k, hk, rfl, rfl, rfl⟩
    exact ⟨0, k, tellSaid n, tellAck n, tellRec k, rfl, rfl, hfg, body_get hk, by unfold tellAck; simp only; omega, rfl, by unfold tellAck; simp, rfl⟩
/-- records that the fetch has are not lacked -/
theorem tell_none {n : Nat} (hn1 : 1 ≤ n) (hn2 : n ≤ 100) (f : Fet) (h : ∀ k : Nat, k < n → 1 < f.step → f.from_ ≤ (k : Int) → (k : Int) ≤ lastOff f.recs → hasOff f.recs (k : Int) = true) : keepAns [tellAck n] [f] [tellSaid n] = (0, 0) := by
  refine keepAns_ok fun j hj => ?_
  match j, hj with
  | 0, _ =>
    rw [keepAt_of (f := f) rfl]
    unfold keepBad
    rw [lacksB_false ?_]
    · simp
    · rintro ⟨st, o, key, hh, h1, h2, h3, h4, _⟩
      obtain ⟨k, hk, rfl, rfl, rfl⟩ := (tell_held hn1 hn2).1 hh
      rw [h k hk h1 h2 h3] at h4
      exact nomatch h4
theorem left_last {k n : Nat} (hk : k + 1 < n) : lastOff (tellLeft k n) = ((n - 1 : Nat) : Int) := by
  obtain ⟨m, rfl⟩ : ∃ m, n = m + 1 := ⟨n - 1, by omega⟩
  have e : tellLeft k (m + 1) = tellLeft k m ++ [tellRec m] := by
    unfold tellLeft
    rw [List.range_succ, List.filter_append, List.map_append]
    simp [show m ≠ k by omega]
  unfold lastOff
  rw [e, List.length_append, List.length_cons, List.length_nil, Nat.zero_add, Nat.add_sub_cancel, List.getElem?_append_right (Nat.le_refl _), Nat.sub_self]
  simp [tellRec]
theorem left_off {k n : Nat} {o : Int} (h : hasOff (tellLeft k n) o = true) : ∃ i : Nat, i < n ∧ i ≠ k ∧ o = (i : Int) := by
  unfold hasOff at h
  obtain ⟨r, hr, e⟩ := List.any_eq_true.1 h
  obtain ⟨i, h1, h2, rfl⟩ := left_mem hr
  exact ⟨i, h1, h2, (of_decide_eq_true e).symm⟩
theorem off_left {k n i : Nat} (h : i < n) (hk : i ≠ k) : hasOff (tellLeft k n) (i : Int) = true := by
  unfold hasOff
  rw [List.any_eq_true]
  exact ⟨tellRec i, left_has h hk, decide_eq_true rfl⟩
theorem left_ne {k n : Nat} (hk : k + 1 < n) : 0 < (tellLeft k n).length := List.length_pos_of_mem (left_has (show n - 1 < n by omega) (show n - 1 ≠ k by omega))
theorem tell_one {n k : Nat} (hn2 : n ≤ 100) (hk : k + 1 < n) : keepAns [tellAck n] [⟨2, 0, 0, 0, tellLeft k n⟩] [tellSaid n] = (120, 0) := by
  refine keepAns_bad (i := 0) rfl ?_ (fun j hj => absurd hj (by omega))
  unfold keepBad
  rw [lacksB_true, decide_eq_true (left_ne hk)]
  · rfl
  · refine ⟨1, (k : Int), tellKey k, (tell_held (by omega) hn2).2 ⟨k, by omega, rfl, rfl, rfl⟩, show (1 : Int) < 2 by decide, by simp, ?_, ?_, ?_⟩
    · rw [left_last hk]; omega
    · cases h : hasOff (tellLeft k n) (k : Int) with
      | false => rfl
      | true =>
        obtain ⟨i, _, h2, h3⟩ := left_off h
        omega
    · rintro (⟨j, f, m, r, h1, _, h3, h4, h5⟩ | ⟨st, o', h1, h2⟩)
      · match j, h1 with
        | 0, h1 =>
          obtain rfl := Option.some.inj h1
          obtain ⟨i, h6, h7, rfl⟩ := left_mem (List.mem_of_getElem? h3)
          exact h7 (tellKey_inj (by omega) (by omega) h4)
      · obtain ⟨k', h6, _, rfl, h7⟩ := (tell_held (by omega) hn2).1 h1
        have := tellKey_inj (by omega) (by omega) h7
        omega
theorem tell_two {n k : Nat} (hn2 : n ≤ 100) (hk : k + 1 < n) : keepAns [tellAck n] [⟨1, 0, 0, 0, tellLeft k n⟩] [tellSaid n] = (0, 0) :=
  tell_none (by omega) hn2 _ (fun _ _ h => absurd h (show ¬ (1 : Int) < 1 by decide))
theorem tell_drop {n k : Nat} (hk : k < n) : ∀ i, k < i → i < n → tellRec i ∈ (tellLeft k n).drop k := by
  intro i h1 h2
  have e : tellLeft k n = (tellBody k) ++ ((List.range n).drop (k + 1)).map tellRec := by
    unfold tellLeft tellBody
    have h3 : List.range n = List.range k ++ k :: (List.range n).drop (k + 1) := by
      have h4 : (List.range n).take k = List.range k := by rw [List.take_range, Nat.min_eq_left (by omega)]
      have h5 : (List.range n).drop k = k :: (List.range n).drop (k + 1) := by
        rw [List.drop_eq_getElem_cons (by simpa using hk)]; simp
      rw [← h4, ← h5, List.take_append_drop]
    conv => lhs; rw [h3]
    rw [List.filter_append, List.map_append, List.filter_cons]
    congr 1
    · congr 1
      rw [List.filter_eq_self]
      intro a ha
      have : a < k := by simpa using ha
      simp; omega
    · simp only [ne_eq, not_true_eq_false, decide_false, Bool.false_eq_true, if_false]
      congr 1
      rw [List.filter_eq_self]
      intro a ha
      obtain ⟨j, hj, rfl⟩ := List.getElem_of_mem ha
      simp; omega
  rw [e, List.drop_append_of_le_length (by simp [tellBody])]
  refine List.mem_append_right _ (List.mem_map.2 ⟨i, ?_, rfl⟩)
  rw [List.mem_iff_getElem]
  exact ⟨i - (k + 1), by simp; omega, by simp; omega⟩
theorem drop_last {l : List Rec} {k : Nat} (h : k < l.length) : lastOff (l.drop k) = lastOff l := by
  unfold lastOff
  rw [List.getElem?_drop, List.length_drop, show k + (l.length - k - 1) = l.length - 1 by omega]
theorem left_len {k n : Nat} (hk : k < n) : (tellLeft k n).length = n - 1 := by
  have h : ∀ m, (tellLeft k m).length = if k < m then m - 1 else m := by
    intro m
    induction m with
    | zero => rfl
    | succ m ih =>
      have e : tellLeft k (m + 1) = tellLeft k m ++ (if m = k then [] else [tellRec m]) := by
        unfold tellLeft
        rw [List.range_succ, List.filter_append, List.map_append]
        by_cases hm : m = k <;> simp [hm]
      rw [e, List.length_append, ih]
      by_cases hm : m = k
      · subst hm; simp
      · rw [if_neg hm]
        simp only [List.length_cons, List.length_nil]
        split <;> split <;> omega
  rw [h n, if_pos hk]
theorem tell_three {n k : Nat} (hn2 : n ≤ 100) (hk : k + 1 < n) : keepAns [tellAck n] [⟨2, 0, (k : Int) + 1, 0, (tellLeft k n).drop k⟩] [tellSaid n] = (0, 0) := by
  refine tell_none (by omega) hn2 _ (fun i hi _ h1 h2 => ?_)
  simp only at h1 h2
  unfold hasOff
  rw [List.any_eq_true]
  exact ⟨tellRec i, tell_drop (by omega) i (by omega) hi, decide_eq_true rfl⟩
theorem body_succ (i : Nat) : tellBody (i + 1) = tellBody i ++ [tellRec i] := by unfold tellBody; rw [List.range_succ, List.map_append]; rfl
theorem left_same (k : Nat) : tellLeft k (k + 1) = tellLeft k k := by unfold tellLeft; rw [List.range_succ, List.filter_append]; simp
theorem left_succ {k i : Nat} (h : i ≠ k) : tellLeft k (i + 1) = tellLeft k i ++ [tellRec i] := by unfold tellLeft; rw [List.range_succ, List.filter_append, List.map_append]; simp [h]
theorem tellRec_wf {i : Nat} (h : i ≤ 100) : (tellRec i).wf := ⟨WalkArith.wf_i64 ⟨by unfold tellRec; simp only; omega, by unfold tellRec; simp only; omega⟩, by unfold tellRec tellKey maxLen; rw [strOf_size]; simp, show (0 : Nat) ≤ maxLen by decide⟩
theorem body_wf {n : Nat} (h : n ≤ 100) : ∀ x ∈ tellBody n, x.wf := fun x hx => by
  unfold tellBody at hx
  obtain ⟨i, hi, rfl⟩ := List.mem_map.1 hx
  exact tellRec_wf (by have : i < n := by simpa using hi
                       omega)
theorem left_wf {k n : Nat} (h : n ≤ 100) : ∀ x ∈ tellLeft k n, x.wf := fun x hx => by
  obtain ⟨i, h1, _, rfl⟩ := left_mem hx
  exact tellRec_wf (by omega)
theorem tellAck_wf {n : Nat} (h : n ≤ 1000) : (tellAck n).wf := by
  unfold tellAck Ack.wf i64
  exact ⟨by simp only; decide, ⟨by simp only; decide, by simp only; decide⟩, by simp only; decide, by simp only; decide, WalkArith.wf_i64 ⟨by simp only; omega, by simp only; omega⟩⟩
end Go.PostAud
