/- The two maps of audit.Fetches, and the document's answer. -/
import Derived.Test.YtkgidfehndkhmaaAudSpec3
import Derived.Test.YtkgidfehndkhmaaMapU
namespace Go.PostAud
open Go.MapU
theorem recv_inj {a b : Rec} (h : a.v = b.v) : a = b := by
  obtain ⟨p, q, r, s⟩ := a
  obtain ⟨p', q', r', s'⟩ := b
  simpa [Rec.v] using h
/-- at the bare record stands true, where P says so -/
def Given (P : Rec → Prop) (g : Value → Option Value) : Prop := ∀ r : Rec, (P r → g (bare r).v = some (.bool true)) ∧ (¬ P r → g (bare r).v = none)
theorem given_none : Given (fun _ => False) (fun _ => none) := fun _ => ⟨fun h => h.elim, fun _ => rfl⟩
theorem given_put {P : Rec → Prop} {g : Value → Option Value} (h : Given P g) (x : Rec) : Given (fun r => P r ∨ bare x = bare r) (put g (bare x).v (.bool true)) := fun r => by
  by_cases e : bare x = bare r
  · rw [e, put_same]; exact ⟨fun _ => rfl, fun hn => (hn (Or.inr rfl)).elim⟩
  · rw [put_other _ _ _ (fun h => e (recv_inj h).symm)]
    exact ⟨fun hp => (h r).1 (hp.resolve_right e), fun hn => (h r).2 fun hp => hn (.inl hp)⟩
theorem Given.congr {P P' : Rec → Prop} {g : Value → Option Value} (h : Given P g) (e : ∀ r, P r ↔ P' r) : Given P' g := fun r => ⟨fun hp => (h r).1 ((e r).2 hp), fun hn => (h r).2 fun hp => hn ((e r).1 hp)⟩
/-- what was said by the first i, and by the first k records of the next -/
def saidTo (sd : List Sd) (i : Nat) (recs : List Rec) (k : Nat) (r : Rec) : Prop := saidIn (sd.take i) r = true ∨ ∃ j x, j < k ∧ recs[j]? = some x ∧ bare x = bare r
theorem saidTo_zero (sd : List Sd) (recs : List Rec) (r : Rec) : False ↔ saidTo sd 0 recs 0 r := by
  unfold saidTo saidIn; simp
theorem saidTo_step {sd : List Sd} {i k : Nat} {recs : List Rec} {x : Rec} (hx : recs[k]? = some x) (r : Rec) : (saidTo sd i recs k r ∨ bare x = bare r) ↔ saidTo sd i recs (k + 1) r := by
  unfold saidTo
  constructor
  · rintro ((h | ⟨j, y, h1, h2, h3⟩) | h)
    · exact .inl h
    · exact .inr ⟨j, y, by omega, h2, h3⟩
    · exact .inr ⟨k, x, by omega, hx, h⟩
  · rintro (h | ⟨j, y, h1, h2, h3⟩)
    · exact .inl (.inl h)
    · by_cases e : j = k
      · subst e
        obtain rfl := Option.some.inj (h2.symm.trans hx)
        exact .inr h3
      · exact .inl (.inr ⟨j, y, by omega, h2, h3⟩)
theorem saidTo_next {sd : List Sd} {i : Nat} {s : Sd} (hs : sd[i]? = some s) (recs : List Rec) (r : Rec) : saidTo sd i s.recs s.recs.length r ↔ saidTo sd (i + 1) recs 0 r := by
  have hl := (List.getElem?_eq_some_iff.1 hs).1
  have e : sd.take (i + 1) = sd.take i ++ [s] := by rw [List.take_add_one, hs]; rfl
  unfold saidTo saidIn
  rw [e, List.any_append]
  simp only [List.any_cons, List.any_nil, Bool.or_false, Bool.or_eq_true, Nat.not_lt_zero, false_and, exists_false, or_false]
  refine or_congr Iff.rfl ?_
  rw [List.any_eq_true]
  constructor
  · rintro ⟨j, x, _, h2, h3⟩
    exact ⟨x, List.mem_of_getElem? h2, decide_eq_true h3⟩
  · rintro ⟨x, h1, h2⟩
    obtain ⟨j, hj, ej⟩ := List.getElem_of_mem h1
    exact ⟨j, x, hj, by rw [List.getElem?_eq_getElem hj, ej], of_decide_eq_true h2⟩
theorem saidTo_all {sd : List Sd} (recs : List Rec) (r : Rec) : saidTo sd sd.length recs 0 r ↔ saidIn sd r = true := by
  unfold saidTo; simp
/-- the records of good fetches ahead, by their offsets -/
def AtOk (l : List Fet) (i : Nat) (g : Value → Option Value) : Prop :=
  (∀ (o : Int) v, g (.int .i64 o) = some v → ∃ (j : Nat) (f : Fet) (m : Nat) (y : Rec), j < i ∧ l[j]? = some f ∧ f.err = 0 ∧ f.recs[m]? = some y ∧ y.off = o ∧ v = y.v) ∧
  ∀ (j : Nat) (f : Fet) (m : Nat) (y : Rec), j < i → l[j]? = some f → f.err = 0 → f.recs[m]? = some y → g (.int .i64 y.off) ≠ none
theorem atOk_zero (l : List Fet) : AtOk l 0 (fun _ => none) := ⟨(fun _ _ h => nomatch h), fun _ _ _ _ h => absurd h (by omega)⟩
theorem parts_ahead {l : List Fet} {sd : List Sd} {i j : Nat} {f : Fet} (nb : ∀ j, j < i → fetAt l sd j = 0) (hj : j < i) (hf : l[j]? = some f) (he : f.err = 0) : parts l j f = false := by
  have h := nb j hj
  rw [fetAt_of hf] at h
  cases hp : parts l j f with
  | false => rfl
  | true => rw [fetBad_parts he hp] at h; exact absurd h (by decide)
theorem rec_ok {l : List Fet} {i k : Nat} {f : Fet} {x : Rec} (hp : parts l i f = false) (hx : f.recs[k]? = some x) : recBad l i f k x = false := by
  cases h : recBad l i f k x with
  | false => rfl
  | true => rw [parts_true hx h] at hp; exact Bool.noConfusion hp
theorem rising {l : List Fet} {i : Nat} {f : Fet} (hp : parts l i f = false) : ∀ (d m : Nat) (x y : Rec), f.recs[m]? = some x → f.recs[m + d + 1]? = some y → x.off < y.off
  | 0, m, x, y, hx, hy => by
    have h := rec_ok hp hy
    unfold recBad ordBad at h
    rw [show m + 0 + 1 - 1 = m by omega, hx] at h
    simp at h
    omega
  | d + 1, m, x, y, hx, hy => by
    have hl := (List.getElem?_eq_some_iff.1 hy).1
    have hz : f.recs[m + d + 1]? = some (f.recs[m + d + 1]'(by omega)) := List.getElem?_eq_getElem (by omega)
    have h1 := rising hp d m x _ hx hz
    have h := rec_ok hp hy
    unfold recBad ordBad at h
    rw [show m + (d + 1) + 1 - 1 = m + d + 1 by omega, hz] at h
    simp at h
    omega
theorem one_rec {l : List Fet} {sd : List Sd} {i j j' m m' : Nat} {f f' : Fet} {y y' : Rec} (nb : ∀ j, j < i → fetAt l sd j = 0) (hj : j < i) (hj' : j' < i) (hf : l[j]? = some f) (hf' : l[j']? = some f') (he : f.err = 0) (he' : f'.err = 0)
    (hy : f.recs[m]? = some y) (hy' : f'.recs[m']? = some y') (ho : y.off = y'.off) : y = y' := by
  have key : ∀ {j j' m m' : Nat} {f f' : Fet} {y y' : Rec}, j < j' → j' < i → l[j]? = some f → l[j']? = some f' → f.err = 0 → f'.err = 0 → f.recs[m]? = some y → f'.recs[m']? = some y' → y.off = y'.off → y = y' := by
    intro j j' m m' f f' y y' hjj hj' hf hf' he he' hy hy' ho
    have h := rec_ok (parts_ahead nb hj' hf' he') hy'
    unfold recBad at h
    rw [Bool.or_eq_false_iff] at h
    by_cases e : y = y'
    · exact e
    · have hb : oldBad l j' y' = true := by
        unfold oldBad
        refine take_any_at hjj hf ?_
        rw [decide_eq_true he, any_at hy (by rw [decide_eq_true ho, decide_eq_false e]; rfl)]
        rfl
      rw [hb] at h
      exact absurd h.2 (by simp)
  rcases Nat.lt_trichotomy j j' with h | h | h
  · exact key h hj' hf hf' he he' hy hy' ho
  · subst h
    obtain rfl := Option.some.inj (hf.symm.trans hf')
    have hp := parts_ahead nb hj hf he
    rcases Nat.lt_trichotomy m m' with h | h | h
    · obtain ⟨d, rfl⟩ : ∃ d, m' = m + d + 1 := ⟨m' - m - 1, by omega⟩
      have := rising hp d m y y' hy hy'
      omega
    · subst h
      exact Option.some.inj (hy.symm.trans hy')
    · obtain ⟨d, rfl⟩ : ∃ d, m = m' + d + 1 := ⟨m - m' - 1, by omega⟩
      have := rising hp d m' y' y hy' hy
      omega
  · exact (key h hj hf' hf he' he hy' hy ho.symm).symm
/-- what the look-up of an offset tells -/
theorem old_look {l : List Fet} {sd : List Sd} {i : Nat} {g : Value → Option Value} (h : AtOk l i g) (nb : ∀ j, j < i → fetAt l sd j = 0) (x : Rec) :
    (g (.int .i64 x.off) = none ∧ oldBad l i x = false) ∨ ∃ Y : Rec, g (.int .i64 x.off) = some Y.v ∧ ((Y = x ∧ oldBad l i x = false) ∨ (Y ≠ x ∧ oldBad l i x = true)) := by
  cases hg : g (.int .i64 x.off) with
  | none =>
    refine .inl ⟨rfl, take_any _ _ _ fun j f hj hf => ?_⟩
    by_cases he : f.err = 0
    · rw [decide_eq_true he, any_false fun m y hy => ?_]
      · rfl
      · by_cases ho : y.off = x.off
        · exact absurd hg (by rw [← ho]; exact h.2 j f m y hj hf he hy)
        · rw [decide_eq_false ho]; rfl
    · rw [decide_eq_false he]; rfl
  | some v =>
    obtain ⟨j, f, m, Y, h1, h2, h3, h4, h5, rfl⟩ := h.1 _ _ hg
    refine .inr ⟨Y, rfl, ?_⟩
    by_cases e : Y = x
    · refine .inl ⟨e, take_any _ _ _ fun j' f' hj hf => ?_⟩
      by_cases he : f'.err = 0
      · rw [decide_eq_true he, any_false fun m' y hy => ?_]
        · rfl
        · by_cases ho : y.off = x.off
          · rw [show y = x from (one_rec nb hj h1 hf h2 he h3 hy h4 (ho.trans h5.symm)).trans e]; simp
          · rw [decide_eq_false ho]; rfl
      · rw [decide_eq_false he]; rfl
    · refine .inr ⟨e, take_any_at h1 h2 ?_⟩
      rw [decide_eq_true h3, any_at h4 (by rw [decide_eq_true h5, decide_eq_false e]; rfl)]
      rfl
/-- the map when the first k records of fetch i are put -/
def AtPut (g : Value → Option Value) (recs : List Rec) (k : Nat) (g' : Value → Option Value) : Prop :=
  (∀ (o : Int) v, g' (.int .i64 o) = some v → g (.int .i64 o) = some v ∨ ∃ (m : Nat) (y : Rec), m < k ∧ recs[m]? = some y ∧ y.off = o ∧ v = y.v) ∧
  (∀ (o : Int), g (.int .i64 o) ≠ none → g' (.int .i64 o) ≠ none) ∧ ∀ (m : Nat) (y : Rec), m < k → recs[m]? = some y → g' (.int .i64 y.off) ≠ none
theorem atPut_zero (g : Value → Option Value) (recs : List Rec) : AtPut g recs 0 g := ⟨fun _ _ h => .inl h, fun _ h => h, fun _ _ h => absurd h (by omega)⟩
theorem atPut_step {g g' : Value → Option Value} {recs : List Rec} {k : Nat} {x : Rec} (h : AtPut g recs k g') (hx : recs[k]? = some x) : AtPut g recs (k + 1) (put g' (.int .i64 x.off) x.v) := by
  refine ⟨fun o v hv => ?_, fun o ho => ?_, fun m y hm hy => ?_⟩
  · by_cases e : o = x.off
    · subst e
      rw [put_same] at hv
      exact .inr ⟨k, x, by omega, hx, rfl, (Option.some.inj hv).symm⟩
    · rw [put_other _ _ _ (fun h => e (by injection h))] at hv
      rcases h.1 o v hv with h | ⟨m, y, h1, h2⟩
      · exact .inl h
      · exact .inr ⟨m, y, by omega, h2⟩
  · by_cases e : o = x.off
    · subst e; rw [put_same]; simp
    · rw [put_other _ _ _ (fun h => e (by injection h))]; exact h.2.1 o ho
  · by_cases e : y.off = x.off
    · rw [e, put_same]; simp
    · rw [put_other _ _ _ (fun h => e (by injection h))]
      by_cases em : m = k
      · subst em
        obtain rfl := Option.some.inj (hy.symm.trans hx)
        exact absurd rfl e
      · exact h.2.2 m y (by omega) hy
theorem atOk_skip {l : List Fet} {i : Nat} {g : Value → Option Value} {f : Fet} (h : AtOk l i g) (hf : l[i]? = some f) (hn : f.err ≠ 0) : AtOk l (i + 1) g := by
  refine ⟨fun o v hv => ?_, fun j f' m y hj hf' he hy => ?_⟩
  · obtain ⟨j, f', m, y, h1, h2⟩ := h.1 o v hv
    exact ⟨j, f', m, y, by omega, h2⟩
  · by_cases e : j = i
    · subst e
      obtain rfl := Option.some.inj (hf'.symm.trans hf)
      exact absurd he hn
    · exact h.2 j f' m y (by omega) hf' he hy
theorem atOk_put {l : List Fet} {i : Nat} {g g' : Value → Option Value} {f : Fet} (h : AtOk l i g) (hf : l[i]? = some f) (he : f.err = 0) (hp : AtPut g f.recs f.recs.length g') : AtOk l (i + 1) g' := by
  refine ⟨fun o v hv => ?_, fun j f' m y hj hf' he' hy => ?_⟩
  · rcases hp.1 o v hv with h1 | ⟨m, y, h1, h2, h3, h4⟩
    · obtain ⟨j, f', m, y, h2, h3⟩ := h.1 o v h1
      exact ⟨j, f', m, y, by omega, h3⟩
    · exact ⟨i, f, m, y, by omega, hf, he, h2, h3, h4⟩
  · by_cases e : j = i
    · subst e
      obtain rfl := Option.some.inj (hf'.symm.trans hf)
      exact hp.2.2 m y (List.getElem?_eq_some_iff.1 hy).1 hy
    · exact hp.2.1 _ (h.2 j f' m y (by omega) hf' he' hy)
end Go.PostAud
