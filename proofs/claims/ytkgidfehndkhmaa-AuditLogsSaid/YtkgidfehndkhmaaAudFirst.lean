/- The two maps of audit.Acks, and the document's answer. -/
import Derived.Test.YtkgidfehndkhmaaAudSpec
import Derived.Test.YtkgidfehndkhmaaMapU
namespace Go.PostAud
open Go.MapU
theorem pid_v_inj {a b : Pid} (h : a.v = b.v) : a = b := by
  obtain ⟨p, q⟩ := a
  obtain ⟨p', q'⟩ := b
  simpa [Pid.v] using h
def FirstOk (l : List Ack) (i : Nat) (g : Value → Option Value) : Prop :=
  (∀ (d : Pid) v, g d.v = some v → ∃ k y, k < i ∧ l[k]? = some y ∧ good y = true ∧ y.id = d ∧ v = y.v) ∧
  ∀ k y, k < i → l[k]? = some y → good y = true → g y.id.v ≠ none
def TakenOk (l : List Ack) (i : Nat) (g : Value → Option Value) : Prop :=
  (∀ (o : Int) v, g (.int .i64 o) = some v → ∃ k y, k < i ∧ l[k]? = some y ∧ good y = true ∧ y.base ≤ o ∧ o < y.base + y.count ∧ v = y.id.v) ∧
  ∀ k y (o : Int), k < i → l[k]? = some y → good y = true → y.base ≤ o → o < y.base + y.count → g (.int .i64 o) ≠ none
theorem firstOk_zero (l : List Ack) : FirstOk l 0 (fun _ => none) := ⟨(fun _ _ h => nomatch h), fun _ _ h => absurd h (by omega)⟩
theorem takenOk_zero (l : List Ack) : TakenOk l 0 (fun _ => none) := ⟨(fun _ _ h => nomatch h), fun _ _ _ h => absurd h (by omega)⟩
theorem good_err {x : Ack} (h : good x = true) : x.err = 0 := by
  unfold good at h
  simp only [Bool.and_eq_true, decide_eq_true_eq] at h
  exact h.1.1.1.1
theorem good_nums {x : Ack} (h : good x = true) : 0 ≤ x.base ∧ x.base ≤ 1099511627776 ∧ 1 ≤ x.count ∧ x.count ≤ 256 := by
  unfold good at h
  simp only [Bool.and_eq_true, decide_eq_true_eq] at h
  exact ⟨h.1.1.1.2, h.1.1.2, h.1.2, h.2⟩
theorem firstOk_skip {l : List Ack} {i : Nat} {g : Value → Option Value} {x : Ack} (h : FirstOk l i g) (hx : l[i]? = some x) (hn : x.err ≠ 0) : FirstOk l (i + 1) g := by
  refine ⟨fun d v hv => ?_, fun k y hk hy hg => ?_⟩
  · obtain ⟨k, y, h1, h2⟩ := h.1 d v hv
    exact ⟨k, y, by omega, h2⟩
  · rcases Nat.lt_succ_iff_lt_or_eq.1 hk with h1 | rfl
    · exact h.2 k y h1 hy hg
    · obtain rfl := Option.some.inj (hy.symm.trans hx)
      exact absurd (good_err hg) hn
theorem takenOk_skip {l : List Ack} {i : Nat} {g : Value → Option Value} {x : Ack} (h : TakenOk l i g) (hx : l[i]? = some x) (hn : x.err ≠ 0) : TakenOk l (i + 1) g := by
  refine ⟨fun d v hv => ?_, fun k y o hk hy hg h1 h2 => ?_⟩
  · obtain ⟨k, y, h1, h2⟩ := h.1 d v hv
    exact ⟨k, y, by omega, h2⟩
  · rcases Nat.lt_succ_iff_lt_or_eq.1 hk with h3 | rfl
    · exact h.2 k y o h3 hy hg h1 h2
    · obtain rfl := Option.some.inj (hy.symm.trans hx)
      exact absurd (good_err hg) hn
theorem badAt_skip {l : List Ack} {i : Nat} {x : Ack} (hx : l[i]? = some x) (hn : x.err ≠ 0) : badAt l i = false := by
  rw [badAt_of hx]; unfold badAck; simp [hn]
theorem bad_other {l : List Ack} {i : Nat} {g : Value → Option Value} {x Y : Ack} (h : FirstOk l i g) (hg : good x = true) (hv : g x.id.v = some Y.v) (hne : Y.base ≠ x.base ∨ Y.count ≠ x.count) : badAck l i x = true := by
  obtain ⟨k, y, h1, h2, h3, h4, h5⟩ := h.1 _ _ hv
  have e : y.base = Y.base ∧ y.count = Y.count := by
    simp only [Ack.v] at h5
    simp at h5
    exact ⟨h5.2.2.2.2.1.symm, h5.2.2.2.2.2.symm⟩
  unfold badAck
  rw [take_any_true l i k y _ h1 h2 (by unfold clash; rw [h3, if_pos h4, e.1, e.2]; rcases hne with h | h <;> simp [h])]
  simp [good_err hg]
theorem meets_of {y x : Ack} {o : Int} (h1 : y.base ≤ o) (h2 : o < y.base + y.count) (h3 : x.base ≤ o) (h4 : o < x.base + x.count) : meets y x = true := by
  unfold meets; simp; omega
theorem bad_taken {l : List Ack} {i : Nat} {g : Value → Option Value} {x : Ack} {o : Int} {v : Value} (h : TakenOk l i g) (hg : good x = true) (hv : g (.int .i64 o) = some v) (h1 : x.base ≤ o) (h2 : o < x.base + x.count) (hne : v ≠ x.id.v) : badAck l i x = true := by
  obtain ⟨k, y, a1, a2, a3, a4, a5, rfl⟩ := h.1 _ _ hv
  have hid : y.id ≠ x.id := fun e => hne (by rw [e])
  unfold badAck
  rw [take_any_true l i k y _ a1 a2 (by unfold clash; rw [a3, if_neg hid, meets_of a4 a5 h1 h2]; rfl)]
  simp [good_err hg]
theorem not_clash {l : List Ack} {i k k' : Nat} {y y' : Ack} (nb : ∀ j, j < i → badAt l j = false) (hk' : k' < i) (hkk : k < k') (hy : l[k]? = some y) (hy' : l[k']? = some y') (hg : good y' = true) : clash y y' = false := by
  have h := nb k' hk'
  rw [badAt_of hy'] at h
  unfold badAck at h
  cases hc : clash y y' with
  | false => rfl
  | true =>
    rw [take_any_true l k' k y _ hkk hy hc] at h
    simp [good_err hg] at h
theorem good_one {l : List Ack} {i k k' : Nat} {y y' : Ack} (nb : ∀ j, j < i → badAt l j = false) (hk : k < i) (hk' : k' < i) (hy : l[k]? = some y) (hy' : l[k']? = some y') (hg : good y = true) (hg' : good y' = true) :
    (y.id = y'.id → y.base = y'.base ∧ y.count = y'.count) ∧ (y.id ≠ y'.id → meets y y' = false) := by
  rcases Nat.lt_trichotomy k k' with h | h | h
  · have := not_clash nb hk' h hy hy' hg'
    unfold clash at this
    rw [hg] at this
    refine ⟨fun e => ?_, fun e => ?_⟩
    · rw [if_pos e] at this; simpa using this
    · rw [if_neg e] at this; simpa using this
  · subst h
    obtain rfl := Option.some.inj (hy.symm.trans hy')
    exact ⟨fun _ => ⟨rfl, rfl⟩, fun e => absurd rfl e⟩
  · have := not_clash nb hk h hy' hy hg
    unfold clash at this
    rw [hg'] at this
    refine ⟨fun e => ?_, fun e => ?_⟩
    · rw [if_pos e.symm] at this; simp at this; exact ⟨this.1.symm, this.2.symm⟩
    · rw [if_neg (fun h => e h.symm)] at this; simp at this; unfold meets at this ⊢; simp at this ⊢; omega
theorem badAt_ok {l : List Ack} {i : Nat} {g1 g2 : Value → Option Value} {x : Ack} (hx : l[i]? = some x) (hg : good x = true) (F : FirstOk l i g1) (T : TakenOk l i g2) (nb : ∀ j, j < i → badAt l j = false)
    (h1 : g1 x.id.v = none ∨ ∃ Y : Ack, g1 x.id.v = some Y.v ∧ Y.base = x.base ∧ Y.count = x.count)
    (h2 : ∀ o, x.base ≤ o → o < x.base + x.count → g2 (.int .i64 o) = none ∨ g2 (.int .i64 o) = some x.id.v) : badAt l i = false := by
  rw [badAt_of hx]
  unfold badAck
  rw [hg, take_any]
  · simp
  · intro k y hk hy
    cases hgy : good y with
    | false => unfold clash; rw [hgy]; rfl
    | true =>
      unfold clash
      rw [hgy]
      by_cases e : y.id = x.id
      · rw [if_pos e]
        have hne := F.2 k y hk hy hgy
        rw [e] at hne
        rcases h1 with h | ⟨Y, h, hb, hc⟩
        · exact absurd h hne
        · obtain ⟨k', y', a1, a2, a3, a4, a5⟩ := F.1 _ _ h
          have ee : y'.base = Y.base ∧ y'.count = Y.count := by
            simp only [Ack.v] at a5
            simp at a5
            exact ⟨a5.2.2.2.2.1.symm, a5.2.2.2.2.2.symm⟩
          have := (good_one nb hk a1 hy a2 hgy a3).1 (e.trans a4.symm)
          simp [this.1, this.2, ee.1, ee.2, hb, hc]
      · rw [if_neg e]
        cases hm : meets y x with
        | false => rfl
        | true =>
          exfalso
          unfold meets at hm
          simp at hm
          have n1 := good_nums hg
          have n2 := good_nums hgy
          obtain ⟨o, o1, o2, o3, o4⟩ : ∃ o : Int, y.base ≤ o ∧ o < y.base + y.count ∧ x.base ≤ o ∧ o < x.base + x.count := by
            by_cases hb : y.base ≤ x.base
            · exact ⟨x.base, hb, by omega, by omega, by omega⟩
            · exact ⟨y.base, by omega, by omega, by omega, by omega⟩
          rcases h2 o o3 o4 with h | h
          · exact T.2 k y o hk hy hgy o1 o2 h
          · obtain ⟨k', y', a1, a2, a3, a4, a5, a6⟩ := T.1 _ _ h
            have eid : y'.id = x.id := (pid_v_inj a6).symm
            have := (good_one nb hk a1 hy a2 hgy a3).2 (fun h => e (h.trans eid))
            rw [meets_of o1 o2 a4 a5] at this
            exact Bool.noConfusion this
theorem firstOk_put {l : List Ack} {i : Nat} {g : Value → Option Value} {x : Ack} (h : FirstOk l i g) (hx : l[i]? = some x) (hg : good x = true) : FirstOk l (i + 1) (put g x.id.v x.v) := by
  refine ⟨fun d v hv => ?_, fun k y hk hy hgy => ?_⟩
  · by_cases e : d = x.id
    · subst e
      rw [put_same] at hv
      exact ⟨i, x, by omega, hx, hg, rfl, (Option.some.inj hv).symm⟩
    · rw [put_other _ _ _ (fun h => e (pid_v_inj h))] at hv
      obtain ⟨k, y, h1, h2⟩ := h.1 d v hv
      exact ⟨k, y, by omega, h2⟩
  · by_cases e : y.id = x.id
    · rw [e, put_same]; simp
    · rw [put_other _ _ _ (fun h => e (pid_v_inj h))]
      rcases Nat.lt_succ_iff_lt_or_eq.1 hk with h1 | rfl
      · exact h.2 k y h1 hy hgy
      · obtain rfl := Option.some.inj (hy.symm.trans hx)
        exact absurd rfl e
theorem takenOk_put {l : List Ack} {i : Nat} {g g' : Value → Option Value} {x : Ack} (h : TakenOk l i g) (hx : l[i]? = some x) (hg : good x = true)
    (hs : ∀ o : Int, g' (.int .i64 o) = if x.base ≤ o ∧ o < x.base + x.count then some x.id.v else g (.int .i64 o)) : TakenOk l (i + 1) g' := by
  refine ⟨fun o v hv => ?_, fun k y o hk hy hgy h1 h2 => ?_⟩
  · rw [hs] at hv
    split at hv
    · rename_i hc
      exact ⟨i, x, by omega, hx, hg, hc.1, hc.2, (Option.some.inj hv).symm⟩
    · obtain ⟨k, y, a1, a2⟩ := h.1 o v hv
      exact ⟨k, y, by omega, a2⟩
  · rw [hs]
    split
    · simp
    · rcases Nat.lt_succ_iff_lt_or_eq.1 hk with h3 | rfl
      · exact h.2 k y o h3 hy hgy h1 h2
      · obtain rfl := Option.some.inj (hy.symm.trans hx)
        rename_i hc
        exact absurd ⟨h1, h2⟩ hc
end Go.PostAud
