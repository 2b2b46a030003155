/- The maps of audit.Keeps, and the document's answer. -/
import Derived.Test.YtkgidfehndkhmaaAudKSpec
import Derived.Test.YtkgidfehndkhmaaAudFirst
namespace Go.PostAud
open Go.MapU Go.RowKit
/-- what was said first of each id -/
def WordsOk (w : World) (base : Nat) (sd : List Sd) (i : Nat) (g : Value → Option Value) : Prop :=
  (∀ (d : Pid) v, g d.v = some v → ∃ (j : Nat) (s : Sd) (A : Option Addr) (m c : Nat), j < i ∧ sd[j]? = some s ∧ s.id = d ∧ firstSd sd j d = true ∧ v = .slice A m c ∧ RecsAt w base A m s.recs) ∧
  ∀ (j : Nat) (s : Sd), j < i → sd[j]? = some s → g s.id.v ≠ none
theorem words_zero (w : World) (base : Nat) (sd : List Sd) : WordsOk w base sd 0 (fun _ => none) := ⟨(fun _ _ h => nomatch h), fun _ _ h => absurd h (by omega)⟩
theorem words_skip {w : World} {base : Nat} {sd : List Sd} {i : Nat} {g : Value → Option Value} {s : Sd} (h : WordsOk w base sd i g) (hs : sd[i]? = some s) (hn : g s.id.v ≠ none) : WordsOk w base sd (i + 1) g := by
  refine ⟨fun d v hv => ?_, fun j t hj ht => ?_⟩
  · obtain ⟨j, s', A, m, c, h1, h2⟩ := h.1 d v hv
    exact ⟨j, s', A, m, c, by omega, h2⟩
  · rcases Nat.lt_succ_iff_lt_or_eq.1 hj with h1 | rfl
    · exact h.2 j t h1 ht
    · obtain rfl := Option.some.inj (ht.symm.trans hs)
      exact hn
theorem words_put {w : World} {base : Nat} {sd : List Sd} {i : Nat} {g : Value → Option Value} {s : Sd} {A : Option Addr} {m c : Nat} (h : WordsOk w base sd i g) (hs : sd[i]? = some s) (hn : g s.id.v = none) (hr : RecsAt w base A m s.recs) : WordsOk w base sd (i + 1) (put g s.id.v (.slice A m c)) := by
  have hf : firstSd sd i s.id = true := by
    unfold firstSd
    rw [take_any _ _ _ fun j t hj ht => ?_]
    · rfl
    · refine decide_eq_false fun e => ?_
      have := h.2 j t hj ht
      rw [e] at this
      exact this hn
  refine ⟨fun d v hv => ?_, fun j t hj ht => ?_⟩
  · by_cases e : d = s.id
    · subst e
      rw [put_same] at hv
      exact ⟨i, s, A, m, c, by omega, hs, rfl, hf, (Option.some.inj hv).symm, hr⟩
    · rw [put_other _ _ _ (fun h => e (pid_v_inj h))] at hv
      obtain ⟨j, s', A', m', c', h1, h2⟩ := h.1 d v hv
      exact ⟨j, s', A', m', c', by omega, h2⟩
  · by_cases e : t.id = s.id
    · rw [e, put_same]; simp
    · rw [put_other _ _ _ (fun h => e (pid_v_inj h))]
      rcases Nat.lt_succ_iff_lt_or_eq.1 hj with h1 | rfl
      · exact h.2 j t h1 ht
      · obtain rfl := Option.some.inj (ht.symm.trans hs)
        exact absurd rfl e
/-- the first good ack of each id that was said -/
def FirstsOk (ks : List Ack) (i : Nat) (g1 g2 : Value → Option Value) : Prop := ∀ d : Pid, (g1 d.v = none → g2 d.v = none) ∧ (g1 d.v ≠ none → g2 d.v = (firstGood (ks.take i) d).map Ack.v)
theorem firsts_zero (ks : List Ack) (g1 : Value → Option Value) : FirstsOk ks 0 g1 (fun _ => none) := fun d => ⟨fun _ => rfl, fun _ => by simp [firstGood]⟩
theorem firstGood_succ {ks : List Ack} {i : Nat} {x : Ack} (hx : ks[i]? = some x) (d : Pid) : firstGood (ks.take (i + 1)) d = (firstGood (ks.take i) d).or (if (good x && decide (x.id = d)) = true then some x else none) := by
  unfold firstGood
  rw [List.take_add_one, hx, List.find?_append]
  simp only [Option.toList, List.find?_cons, List.find?_nil]
  cases good x && decide (x.id = d) <;> rfl
theorem firsts_skip {ks : List Ack} {i : Nat} {g1 g2 : Value → Option Value} {x : Ack} (h : FirstsOk ks i g1 g2) (hx : ks[i]? = some x) (hn : good x = false ∨ g2 x.id.v ≠ none ∨ g1 x.id.v = none) : FirstsOk ks (i + 1) g1 g2 := fun d => by
  refine ⟨(h d).1, fun h1 => ?_⟩
  rw [(h d).2 h1, firstGood_succ hx]
  cases hf : firstGood (ks.take i) d with
  | some a => rfl
  | none =>
    have : (good x && decide (x.id = d)) = false := by
      cases hg : good x && decide (x.id = d) with
      | false => rfl
      | true =>
        simp only [Bool.and_eq_true, decide_eq_true_eq] at hg
        obtain ⟨hg1, rfl⟩ := hg
        rcases hn with hn | hn | hn
        · rw [hn] at hg1; exact nomatch hg1
        · rw [(h x.id).2 h1, hf] at hn; exact absurd rfl hn
        · exact absurd hn h1
    rw [this]; rfl
theorem firsts_put {ks : List Ack} {i : Nat} {g1 g2 : Value → Option Value} {x : Ack} (h : FirstsOk ks i g1 g2) (hx : ks[i]? = some x) (hg : good x = true) (h2 : g2 x.id.v = none) (h1 : g1 x.id.v ≠ none) : FirstsOk ks (i + 1) g1 (put g2 x.id.v x.v) := fun d => by
  by_cases e : d = x.id
  · subst e
    refine ⟨fun h0 => absurd h0 h1, fun _ => ?_⟩
    have hf : firstGood (ks.take i) x.id = none := by
      have := (h x.id).2 h1
      rw [h2] at this
      cases hf : firstGood (ks.take i) x.id with
      | none => rfl
      | some a => rw [hf] at this; exact nomatch this
    rw [put_same, firstGood_succ hx, hf, hg]
    simp
  · rw [put_other _ _ _ (fun h => e (pid_v_inj h))]
    refine ⟨(h d).1, fun h0 => ?_⟩
    rw [(h d).2 h0, firstGood_succ hx]
    have : (good x && decide (x.id = d)) = false := by simp [Ne.symm e]
    rw [this]
    cases firstGood (ks.take i) d <;> rfl
/-- the ids of the second map, in order -/
def OrdOk (g2 : Value → Option Value) (ord : List Pid) : Prop := (∀ d, d ∈ ord ↔ g2 d.v ≠ none) ∧ ∀ d ∈ ord, i64 d.prod ∧ i64 d.seq
theorem ord_zero : OrdOk (fun _ => none) [] := ⟨fun d => by simp, fun d h => by simp at h⟩
theorem ord_put {g2 : Value → Option Value} {ord : List Pid} {d : Pid} {v : Value} (h : OrdOk g2 ord) (hw : i64 d.prod ∧ i64 d.seq) : OrdOk (put g2 d.v v) (ord ++ [d]) := by
  refine ⟨fun d' => ?_, fun d' hd => ?_⟩
  · rw [List.mem_append, List.mem_singleton]
    by_cases e : d' = d
    · subst e; rw [put_same]; simp
    · rw [put_other _ _ _ (fun h => e (pid_v_inj h)), ← h.1 d']; simp [e]
  · rcases List.mem_append.1 hd with h1 | h1
    · exact h.2 d' h1
    · obtain rfl := List.mem_singleton.1 h1; exact hw
/-- a record of what was said and acked, by its id -/
def HeldBy (ks : List Ack) (sd : List Sd) (d : Pid) (k : Nat) (st o : Int) (key : ByteArray) : Prop :=
  ∃ (j : Nat) (s : Sd) (a : Ack) (r : Rec), sd[j]? = some s ∧ s.id = d ∧ firstSd sd j d = true ∧ firstGood ks d = some a ∧ s.recs[k]? = some r ∧ (k : Int) < a.count ∧ st = a.step ∧ o = a.base + (k : Int) ∧ key = r.key
theorem held_iff (ks : List Ack) (sd : List Sd) (st o : Int) (key : ByteArray) : Held ks sd st o key ↔ ∃ d k, HeldBy ks sd d k st o key := by
  constructor
  · rintro ⟨i, k, s, a, r, h1, h2, h3, h4⟩
    exact ⟨s.id, k, i, s, a, r, h1, rfl, h2, h3, h4⟩
  · rintro ⟨d, k, j, s, a, r, h1, rfl, h2, h3, h4⟩
    exact ⟨j, k, s, a, r, h1, h2, h3, h4⟩
/-- all maps are made -/
structure MapsOk (w : World) (base : Nat) (ks : List Ack) (sd : List Sd) (g1 g2 : Value → Option Value) (ord : List Pid) : Prop where
  words : WordsOk w base sd sd.length g1
  firsts : FirstsOk ks ks.length g1 g2
  ord : OrdOk g2 ord
theorem first_one {sd : List Sd} {j j' : Nat} {s s' : Sd} {d : Pid} (h : sd[j]? = some s) (h' : sd[j']? = some s') (e : s.id = d) (e' : s'.id = d) (hf : firstSd sd j d = true) (hf' : firstSd sd j' d = true) : s = s' := by
  have key : ∀ {j j' : Nat} {s s' : Sd}, sd[j]? = some s → s.id = d → firstSd sd j' d = true → ¬ j < j' := by
    intro j j' s s' h e hf' hlt
    unfold firstSd at hf'
    rw [take_any_true sd j' j s _ hlt h (decide_eq_true e)] at hf'
    exact nomatch hf'
  have h1 := key (s' := s') h e hf'
  have h2 := key (s' := s) h' e' hf
  obtain rfl : j = j' := by omega
  exact Option.some.inj (h.symm.trans h')
theorem MapsOk.held_ord {w : World} {base : Nat} {ks : List Ack} {sd : List Sd} {g1 g2 : Value → Option Value} {ord : List Pid} (M : MapsOk w base ks sd g1 g2 ord) {d : Pid} {k : Nat} {st o : Int} {key : ByteArray} (h : HeldBy ks sd d k st o key) : d ∈ ord := by
  obtain ⟨j, s, a, r, h1, rfl, h2, h3, _⟩ := h
  have hg1 := M.words.2 j s (List.getElem?_eq_some_iff.1 h1).1 h1
  have := (M.firsts s.id).2 hg1
  rw [List.take_length, h3] at this
  exact (M.ord.1 s.id).2 (by rw [this]; simp)
/-- what stands at an id of the order -/
theorem MapsOk.at {w : World} {base : Nat} {ks : List Ack} {sd : List Sd} {g1 g2 : Value → Option Value} {ord : List Pid} (M : MapsOk w base ks sd g1 g2 ord) {d : Pid} (h : d ∈ ord) :
    ∃ (s : Sd) (A : Option Addr) (m c : Nat) (a : Ack), g1 d.v = some (.slice A m c) ∧ RecsAt w base A m s.recs ∧ g2 d.v = some a.v ∧ good a = true ∧ i64 d.prod ∧ i64 d.seq ∧
      ∀ k st o key, HeldBy ks sd d k st o key ↔ ∃ r, s.recs[k]? = some r ∧ (k : Int) < a.count ∧ st = a.step ∧ o = a.base + (k : Int) ∧ key = r.key := by
  have h2 := (M.ord.1 d).1 h
  cases hg1 : g1 d.v with
  | none => exact absurd ((M.firsts d).1 hg1) h2
  | some v =>
    obtain ⟨j, s, A, m, c, _, h3, h4, h5, rfl, h6⟩ := M.words.1 d v hg1
    have h7 := (M.firsts d).2 (by rw [hg1]; simp)
    rw [List.take_length] at h7
    cases hf : firstGood ks d with
    | none => rw [hf] at h7; exact absurd h7 h2
    | some a =>
      rw [hf] at h7
      refine ⟨s, A, m, c, a, rfl, h6, h7, (firstGood_good hf).1, (M.ord.2 d h).1, (M.ord.2 d h).2, fun k st o key => ⟨?_, ?_⟩⟩
      · rintro ⟨j', s', a', r, q1, q2, q3, q4, q5⟩
        obtain rfl := first_one h3 q1 h4 q2 h5 q3
        obtain rfl := Option.some.inj (hf.symm.trans q4)
        exact ⟨r, q5⟩
      · rintro ⟨r, q5⟩
        exact ⟨j, s, a, r, h3, h4, h5, hf, q5⟩
/-- the highest offset of each key of S -/
def HiOk (S : ByteArray → Int → Prop) (g : Value → Option Value) : Prop :=
  (∀ (key : ByteArray) v, g (.string key) = some v → ∃ o : Int, v = .int .i64 o ∧ S key o ∧ ∀ o', S key o' → o' ≤ o) ∧ ∀ (key : ByteArray) (o : Int), S key o → g (.string key) ≠ none
theorem hi_zero : HiOk (fun _ _ => False) (fun _ => none) := ⟨(fun _ _ h => nomatch h), fun _ _ h => h.elim⟩
theorem HiOk.congr {S S' : ByteArray → Int → Prop} {g : Value → Option Value} (h : HiOk S g) (e : ∀ key o, S key o ↔ S' key o) : HiOk S' g := by
  have : S = S' := by funext key o; exact propext (e key o)
  rw [← this]; exact h
theorem hi_put {S : ByteArray → Int → Prop} {g : Value → Option Value} (h : HiOk S g) (key : ByteArray) (o : Int) (hh : ∀ o', S key o' → o' ≤ o) : HiOk (fun k' o' => S k' o' ∨ (k' = key ∧ o' = o)) (put g (.string key) (.int .i64 o)) := by
  refine ⟨fun k' v hv => ?_, fun k' o' hs => ?_⟩
  · by_cases e : k' = key
    · subst e
      rw [put_same] at hv
      exact ⟨o, (Option.some.inj hv).symm, .inr ⟨rfl, rfl⟩, fun o' h' => h'.elim (hh o') (fun h => Int.le_of_eq h.2)⟩
    · rw [put_other _ _ _ (fun h => e (by injection h))] at hv
      obtain ⟨o1, rfl, h1, h2⟩ := h.1 k' v hv
      exact ⟨o1, rfl, .inl h1, fun o' h' => h'.elim (h2 o') (fun h => absurd h.1 e)⟩
  · by_cases e : k' = key
    · subst e; rw [put_same]; simp
    · rw [put_other _ _ _ (fun h => e (by injection h))]
      rcases hs with hs | hs
      · exact h.2 k' o' hs
      · exact absurd hs.1 e
theorem hi_keep {S : ByteArray → Int → Prop} {g : Value → Option Value} {key : ByteArray} {o o1 : Int} (h : HiOk S g) (hg : g (.string key) = some (.int .i64 o1)) (hh : o ≤ o1) : HiOk (fun k' o' => S k' o' ∨ (k' = key ∧ o' = o)) g := by
  refine ⟨fun k' v hv => ?_, fun k' o' hs => ?_⟩
  · obtain ⟨o2, rfl, h1, h2⟩ := h.1 k' v hv
    refine ⟨o2, rfl, .inl h1, fun o' h' => h'.elim (h2 o') fun e => ?_⟩
    obtain ⟨rfl, rfl⟩ := e
    rw [hg] at hv
    injection hv with hv
    injection hv with _ hv
    omega
  · rcases hs with hs | ⟨rfl, rfl⟩
    · exact h.2 k' o' hs
    · rw [hg]; simp
/-- the keys and offsets of the first q ids, and of the first k records of the next -/
def S3 (ks : List Ack) (sd : List Sd) (ord : List Pid) (q k : Nat) (key : ByteArray) (o : Int) : Prop :=
  (∃ (p : Nat) (d : Pid) (k' : Nat) (st : Int), p < q ∧ ord[p]? = some d ∧ HeldBy ks sd d k' st o key) ∨ ∃ (d : Pid) (k' : Nat) (st : Int), ord[q]? = some d ∧ k' < k ∧ HeldBy ks sd d k' st o key
theorem s3_zero (ks : List Ack) (sd : List Sd) (ord : List Pid) (key : ByteArray) (o : Int) : False ↔ S3 ks sd ord 0 0 key o := by
  refine ⟨fun h => h.elim, ?_⟩
  rintro (⟨p, d, k', st, h, _⟩ | ⟨d, k', st, _, h, _⟩) <;> omega
theorem s3_step {ks : List Ack} {sd : List Sd} {ord : List Pid} {q k : Nat} {d : Pid} {st0 o0 : Int} {key0 : ByteArray} (hd : ord[q]? = some d) (h : ∀ st o key, HeldBy ks sd d k st o key ↔ st = st0 ∧ o = o0 ∧ key = key0) (key : ByteArray) (o : Int) : (S3 ks sd ord q k key o ∨ (key = key0 ∧ o = o0)) ↔ S3 ks sd ord q (k + 1) key o := by
  constructor
  · rintro ((h1 | ⟨d', k', st, h1, h2, h3⟩) | ⟨rfl, rfl⟩)
    · exact .inl h1
    · exact .inr ⟨d', k', st, h1, by omega, h3⟩
    · exact .inr ⟨d, k, st0, hd, by omega, (h _ _ _).2 ⟨rfl, rfl, rfl⟩⟩
  · rintro (h1 | ⟨d', k', st, h1, h2, h3⟩)
    · exact .inl (.inl h1)
    · by_cases e : k' = k
      · subst e
        obtain rfl := Option.some.inj (h1.symm.trans hd)
        obtain ⟨_, rfl, rfl⟩ := (h _ _ _).1 h3
        exact .inr ⟨rfl, rfl⟩
      · exact .inl (.inr ⟨d', k', st, h1, by omega, h3⟩)
theorem s3_skip {ks : List Ack} {sd : List Sd} {ord : List Pid} {q k : Nat} {d : Pid} (hd : ord[q]? = some d) (h : ∀ st o key, ¬ HeldBy ks sd d k st o key) (key : ByteArray) (o : Int) : S3 ks sd ord q k key o ↔ S3 ks sd ord q (k + 1) key o := by
  constructor
  · rintro (h1 | ⟨d', k', st, h1, h2, h3⟩)
    · exact .inl h1
    · exact .inr ⟨d', k', st, h1, by omega, h3⟩
  · rintro (h1 | ⟨d', k', st, h1, h2, h3⟩)
    · exact .inl h1
    · by_cases e : k' = k
      · subst e
        obtain rfl := Option.some.inj (h1.symm.trans hd)
        exact absurd h3 (h _ _ _)
      · exact .inr ⟨d', k', st, h1, by omega, h3⟩
theorem s3_next {ks : List Ack} {sd : List Sd} {ord : List Pid} {q k : Nat} {d : Pid} (hd : ord[q]? = some d) (h : ∀ k' st o key, HeldBy ks sd d k' st o key → k' < k) (key : ByteArray) (o : Int) : S3 ks sd ord q k key o ↔ S3 ks sd ord (q + 1) 0 key o := by
  constructor
  · rintro (⟨p, d', k', st, h1, h2, h3⟩ | ⟨d', k', st, h1, h2, h3⟩)
    · exact .inl ⟨p, d', k', st, by omega, h2, h3⟩
    · exact .inl ⟨q, d', k', st, by omega, h1, h3⟩
  · rintro (⟨p, d', k', st, h1, h2, h3⟩ | ⟨d', k', st, h1, h2, h3⟩)
    · by_cases e : p = q
      · subst e
        obtain rfl := Option.some.inj (h2.symm.trans hd)
        exact .inr ⟨d', k', st, h2, h _ _ _ _ h3, h3⟩
      · exact .inl ⟨p, d', k', st, by omega, h2, h3⟩
    · omega
/-- the keys and offsets of all that is held, of the first i fetches, and of the first k records of the next -/
def S5 (ks : List Ack) (l : List Fet) (sd : List Sd) (i k : Nat) (key : ByteArray) (o : Int) : Prop :=
  (∃ st, Held ks sd st o key) ∨ (∃ (j : Nat) (f : Fet) (m : Nat) (r : Rec), j < i ∧ l[j]? = some f ∧ f.err = 0 ∧ f.recs[m]? = some r ∧ r.key = key ∧ r.off = o) ∨
  ∃ (f : Fet) (m : Nat) (r : Rec), l[i]? = some f ∧ f.err = 0 ∧ m < k ∧ f.recs[m]? = some r ∧ r.key = key ∧ r.off = o
theorem s3_all {w : World} {base : Nat} {ks : List Ack} {sd : List Sd} {g1 g2 : Value → Option Value} {ord : List Pid} (M : MapsOk w base ks sd g1 g2 ord) (l : List Fet) (key : ByteArray) (o : Int) : S3 ks sd ord ord.length 0 key o ↔ S5 ks l sd 0 0 key o := by
  constructor
  · rintro (⟨p, d, k, st, _, _, h⟩ | ⟨_, _, _, _, h, _⟩)
    · exact .inl ⟨st, (held_iff _ _ _ _ _).2 ⟨d, k, h⟩⟩
    · omega
  · rintro (⟨st, h⟩ | ⟨_, _, _, _, h, _⟩ | ⟨_, _, _, _, _, h, _⟩)
    · obtain ⟨d, k, h⟩ := (held_iff _ _ _ _ _).1 h
      obtain ⟨p, hp, e⟩ := List.getElem_of_mem (M.held_ord h)
      exact .inl ⟨p, d, k, st, hp, by rw [List.getElem?_eq_getElem hp, e], h⟩
    · omega
    · omega
theorem s5_step {ks : List Ack} {l : List Fet} {sd : List Sd} {i k : Nat} {f : Fet} {r : Rec} (hf : l[i]? = some f) (he : f.err = 0) (hr : f.recs[k]? = some r) (key : ByteArray) (o : Int) : (S5 ks l sd i k key o ∨ (key = r.key ∧ o = r.off)) ↔ S5 ks l sd i (k + 1) key o := by
  constructor
  · rintro ((h | h | ⟨f', m, r', h1, h2, h3, h4⟩) | ⟨rfl, rfl⟩)
    · exact .inl h
    · exact .inr (.inl h)
    · exact .inr (.inr ⟨f', m, r', h1, h2, by omega, h4⟩)
    · exact .inr (.inr ⟨f, k, r, hf, he, by omega, hr, rfl, rfl⟩)
  · rintro (h | h | ⟨f', m, r', h1, h2, h3, h4, h5, h6⟩)
    · exact .inl (.inl h)
    · exact .inl (.inr (.inl h))
    · by_cases e : m = k
      · subst e
        obtain rfl := Option.some.inj (h1.symm.trans hf)
        obtain rfl := Option.some.inj (h4.symm.trans hr)
        exact .inr ⟨h5.symm, h6.symm⟩
      · exact .inl (.inr (.inr ⟨f', m, r', h1, h2, by omega, h4, h5, h6⟩))
theorem s5_skip {ks : List Ack} {l : List Fet} {sd : List Sd} {i : Nat} {f : Fet} (hf : l[i]? = some f) (he : f.err ≠ 0) (key : ByteArray) (o : Int) : S5 ks l sd i 0 key o ↔ S5 ks l sd (i + 1) 0 key o := by
  constructor
  · rintro (h | ⟨j, f', m, r, h1, h2⟩ | ⟨f', m, r', h1, h2, h3, h4⟩)
    · exact .inl h
    · exact .inr (.inl ⟨j, f', m, r, by omega, h2⟩)
    · omega
  · rintro (h | ⟨j, f', m, r, h1, h2, h3, h4⟩ | ⟨f', m, r', h1, h2, h3, h4⟩)
    · exact .inl h
    · by_cases e : j = i
      · subst e
        obtain rfl := Option.some.inj (h2.symm.trans hf)
        exact absurd h3 he
      · exact .inr (.inl ⟨j, f', m, r, by omega, h2, h3, h4⟩)
    · omega
theorem s5_next {ks : List Ack} {l : List Fet} {sd : List Sd} {i : Nat} {f : Fet} (hf : l[i]? = some f) (key : ByteArray) (o : Int) : S5 ks l sd i f.recs.length key o ↔ S5 ks l sd (i + 1) 0 key o := by
  constructor
  · rintro (h | ⟨j, f', m, r, h1, h2⟩ | ⟨f', m, r', h1, h2, h3, h4⟩)
    · exact .inl h
    · exact .inr (.inl ⟨j, f', m, r, by omega, h2⟩)
    · exact .inr (.inl ⟨i, f', m, r', by omega, h1, h2, h4⟩)
  · rintro (h | ⟨j, f', m, r, h1, h2, h3, h4, h5⟩ | ⟨f', m, r', h1, h2, h3, h4⟩)
    · exact .inl h
    · by_cases e : j = i
      · subst e
        obtain rfl := Option.some.inj (h2.symm.trans hf)
        exact .inr (.inr ⟨f', m, r, h2, h3, (List.getElem?_eq_some_iff.1 h4).1, h4, h5⟩)
      · exact .inr (.inl ⟨j, f', m, r, by omega, h2, h3, h4, h5⟩)
    · omega
/-- what the highest offset of a key tells -/
theorem hi_later {ks : List Ack} {l : List Fet} {sd : List Sd} {g : Value → Option Value} {key : ByteArray} {st o : Int} (h : HiOk (S5 ks l sd l.length 0) g) (hh : Held ks sd st o key) : ∃ o1 : Int, g (.string key) = some (.int .i64 o1) ∧ (o1 ≤ o ↔ ¬ Later' ks l sd key o) := by
  have h1 := h.2 key o (.inl ⟨st, hh⟩)
  cases hg : g (.string key) with
  | none => exact absurd hg h1
  | some v =>
    obtain ⟨o1, rfl, h2, h3⟩ := h.1 key v hg
    refine ⟨o1, rfl, fun hle => ?_, fun hn => ?_⟩
    · rintro (⟨j, f, m, r, q1, q2, q3, q4, q5⟩ | ⟨st', o', q1, q2⟩)
      · have := h3 r.off (.inr (.inl ⟨j, f, m, r, (List.getElem?_eq_some_iff.1 q1).1, q1, q2, q3, q4, rfl⟩))
        omega
      · have := h3 o' (.inl ⟨st', q1⟩)
        omega
    · rcases Int.lt_or_le o o1 with hlt | hle
      · exfalso
        rcases h2 with ⟨st', q⟩ | ⟨j, f, m, r, _, q1, q2, q3, q4, q5⟩ | ⟨_, _, _, _, _, q, _⟩
        · exact hn (.inr ⟨st', o1, q, hlt⟩)
        · exact hn (.inl ⟨j, f, m, r, q1, q2, q3, q4, by omega⟩)
        · omega
      · exact hle
/-- the offsets that a fetch has -/
def HaveOk (l : List Rec) (k : Nat) (g : Value → Option Value) : Prop := ∀ o : Int, ((∃ (m : Nat) (r : Rec), m < k ∧ l[m]? = some r ∧ r.off = o) → g (.int .i64 o) = some (.bool true)) ∧ ((¬ ∃ (m : Nat) (r : Rec), m < k ∧ l[m]? = some r ∧ r.off = o) → g (.int .i64 o) = none)
theorem have_zero (l : List Rec) : HaveOk l 0 (fun _ => none) := fun o => ⟨fun ⟨_, _, h, _⟩ => absurd h (by omega), fun _ => rfl⟩
theorem have_put {l : List Rec} {k : Nat} {g : Value → Option Value} {x : Rec} (h : HaveOk l k g) (hx : l[k]? = some x) : HaveOk l (k + 1) (put g (.int .i64 x.off) (.bool true)) := fun o => by
  by_cases e : o = x.off
  · subst e
    rw [put_same]
    exact ⟨fun _ => rfl, fun hn => absurd ⟨k, x, by omega, hx, rfl⟩ hn⟩
  · rw [put_other _ _ _ (fun h => e (by injection h))]
    refine ⟨fun ⟨m, r, h1, h2, h3⟩ => (h o).1 ⟨m, r, ?_, h2, h3⟩, fun hn => (h o).2 fun ⟨m, r, h1, h2, h3⟩ => hn ⟨m, r, by omega, h2, h3⟩⟩
    by_cases em : m = k
    · subst em
      obtain rfl := Option.some.inj (h2.symm.trans hx)
      exact absurd h3.symm e
    · omega
theorem have_all {l : List Rec} {g : Value → Option Value} (h : HaveOk l l.length g) (o : Int) : (hasOff l o = true → g (.int .i64 o) = some (.bool true)) ∧ (hasOff l o = false → g (.int .i64 o) = none) := by
  refine ⟨fun hh => (h o).1 ?_, fun hh => (h o).2 ?_⟩
  · unfold hasOff at hh
    obtain ⟨x, hx, e⟩ := List.any_eq_true.1 hh
    obtain ⟨m, hm, rfl⟩ := List.getElem_of_mem hx
    exact ⟨m, _, hm, List.getElem?_eq_getElem hm, of_decide_eq_true e⟩
  · rintro ⟨m, r, h1, h2, h3⟩
    unfold hasOff at hh
    rw [any_at h2 (decide_eq_true h3)] at hh
    exact nomatch hh
end Go.PostAud
