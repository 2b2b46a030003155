/- Opening slices of records, fetches, and of what was said. -/
import Derived.Test.YtkgidfehndkhmaaAudOpen
import Derived.SizedLaws
namespace Go.Proofs.Ytkgidfehndkhmaa
open Go.RowKit Go.PostAud Go.ChangeShapes Go.WideShapes
theorem open_rec {H : Type} {enc : TypeId × Value → H} {w : World} {base : Nat} {sp : Nat → Bool} {held : Bool} {n : Nat} {cs : List Value} {y : DataW H × List MemPlace}
    (h : DataW.trod enc Try.prog w base sp held n 49 cs = some y) : ∃ x : Rec, cs = x.cells ∧ x.wf := by
  obtain ⟨xs, k, _, _, hc, hl, hg⟩ := DataW.trod_struct Try.underlying49 h
  rw [cellsRec] at hc
  match cs, hc with
  | [c0, c1, c2, c3], _ =>
    match xs, hl with
    | [y0, y1, y2, y3], _ =>
      have h0 : DataW.trod enc Try.prog w base sp held k 3 (([c0, c1, c2, c3].drop 0).take (Try.prog.cellsOf 3)) = some y0 := hg 0 _ rfl
      have h1 : DataW.trod enc Try.prog w base sp held k 9 (([c0, c1, c2, c3].drop 1).take (Try.prog.cellsOf 9)) = some y1 := hg 1 _ rfl
      have h2 : DataW.trod enc Try.prog w base sp held k 9 (([c0, c1, c2, c3].drop 2).take (Try.prog.cellsOf 9)) = some y2 := hg 2 _ rfl
      have h3 : DataW.trod enc Try.prog w base sp held k 4 (([c0, c1, c2, c3].drop 3).take (Try.prog.cellsOf 4)) = some y3 := hg 3 _ rfl
      rw [cellsInt] at h0
      rw [cellsStr] at h1 h2
      rw [cellsBool] at h3
      obtain ⟨v0, rfl, w0⟩ := int_of Try.underlying3 h0
      obtain ⟨v1, e1, _, w1⟩ := DataW.trod_string Try.underlying9 h1
      obtain ⟨v2, e2, _, w2⟩ := DataW.trod_string Try.underlying9 h2
      obtain ⟨v3, e3, _⟩ := DataW.trod_bool Try.underlying4 h3
      obtain rfl : c1 = .string v1 := by simpa using e1
      obtain rfl : c2 = .string v2 := by simpa using e2
      obtain rfl : c3 = .bool v3 := by simpa using e3
      exact ⟨⟨v0, v1, v2, v3⟩, rfl, w0, w1, w2⟩
theorem open_recs {H : Type} {enc : TypeId × Value → H} {W : World} {base : Nat} {sp : Nat → Bool} {held : Bool} {k : Nat} {c : Value} {y : DataW H × List MemPlace}
    (h : DataW.trod enc Try.prog W base sp held k 44 [c] = some y) : ∃ A n cap l, c = .slice A n cap ∧ RecsAt W W.heap.size A n l := by
  rcases Deep.open_slice Try.underlying44 h with ⟨hcs, _⟩ | ⟨a, len, cap, m, k, D, Pl, hcs, _, hl, hm, hmm, _, hi⟩
  · exact ⟨none, 0, 0, [], by simpa using hcs, rfl, by decide, .inl rfl⟩
  · have hle : len ≤ m := by rw [hmm]; split <;> omega
    rw [cellsRec] at hi
    have hex : ∀ i, i < len → ∃ x : Rec, x.wf ∧ At W (a.add (i * 4)) x.cells := fun i hin => by
      obtain ⟨cs', hc, ht⟩ := hi i (by omega)
      obtain ⟨x, rfl, hw⟩ := open_rec ht
      obtain ⟨_, hcl, hat⟩ := World.cells?_some hc
      exact ⟨x, hw, fun j v hj => by rw [hat j (by rw [← hcl]; exact (List.getElem?_eq_some_iff.1 hj).1)]; exact hj⟩
    haveI : Inhabited Rec := ⟨⟨0, ⟨#[]⟩, ⟨#[]⟩, false⟩⟩
    obtain ⟨f, hfn⟩ := Deep.choose_lt hex
    refine ⟨some a, len, cap, (List.range len).map f, by simpa using hcs, by simp, by omega, ?_⟩
    by_cases h0 : len = 0
    · exact .inl h0
    · refine .inr ⟨a, rfl, ?_, fun i x hx => ?_⟩
      · have := block_lt_of_cell ((hfn 0 (by omega)).2 0 _ rfl)
        rwa [add_block, add_block] at this
      · have hin : i < len := by have := (List.getElem?_eq_some_iff.1 hx).1; simpa using this
        rw [List.getElem?_map, List.getElem?_range hin] at hx
        obtain rfl := Option.some.inj hx
        exact hfn i hin
theorem cellsRecs : Try.prog.cellsOf 44 = 1 := by kernel_rfl
theorem cellsErr : Try.prog.cellsOf 23 = 1 := by kernel_rfl
theorem open_fet {H : Type} {enc : TypeId × Value → H} {w : World} {base : Nat} {sp : Nat → Bool} {held : Bool} {n : Nat} {cs : List Value} {y : DataW H × List MemPlace}
    (h : DataW.trod enc Try.prog w base sp held n 52 cs = some y) : ∃ (x : Fet) (A : Option Addr) (m c : Nat), cs = x.cells (.slice A m c) ∧ x.wf ∧ RecsAt w w.heap.size A m x.recs := by
  obtain ⟨xs, k, _, _, hc, hl, hg⟩ := DataW.trod_struct Try.underlying52 h
  rw [cellsFet] at hc
  match cs, hc with
  | [c0, c1, c2, c3, c4], _ =>
    match xs, hl with
    | [y0, y1, y2, y3, y4], _ =>
      have h0 : DataW.trod enc Try.prog w base sp held k 3 (([c0, c1, c2, c3, c4].drop 0).take (Try.prog.cellsOf 3)) = some y0 := hg 0 _ rfl
      have h1 : DataW.trod enc Try.prog w base sp held k 3 (([c0, c1, c2, c3, c4].drop 1).take (Try.prog.cellsOf 3)) = some y1 := hg 1 _ rfl
      have h2 : DataW.trod enc Try.prog w base sp held k 3 (([c0, c1, c2, c3, c4].drop 2).take (Try.prog.cellsOf 3)) = some y2 := hg 2 _ rfl
      have h3 : DataW.trod enc Try.prog w base sp held k 23 (([c0, c1, c2, c3, c4].drop 3).take (Try.prog.cellsOf 23)) = some y3 := hg 3 _ rfl
      have h4 : DataW.trod enc Try.prog w base sp held k 44 (([c0, c1, c2, c3, c4].drop 4).take (Try.prog.cellsOf 44)) = some y4 := hg 4 _ rfl
      rw [cellsInt] at h0 h1 h2
      rw [cellsErr] at h3
      rw [cellsRecs] at h4
      obtain ⟨v0, rfl, w0⟩ := int_of Try.underlying3 h0
      obtain ⟨v1, rfl, w1⟩ := int_of Try.underlying3 h1
      obtain ⟨v2, rfl, w2⟩ := int_of Try.underlying3 h2
      obtain ⟨v3, rfl, w3⟩ := int_of Try.underlying23 h3
      obtain ⟨A, m, c, l, rfl, w4⟩ := open_recs h4
      exact ⟨⟨v0, v1, v2, v3, l⟩, A, m, c, rfl, ⟨w0, w1, w2, w3⟩, w4⟩
theorem open_fets {H : Type} {enc : TypeId × Value → H} {W : World} {base : Nat} {sp : Nat → Bool} {held : Bool} {A : Option Addr} {n cap : Nat} {d : DataW H} {p : List MemPlace}
    (h : ∃ fuel, DataW.trod enc Try.prog W base sp held fuel 28 (Value.slice A n cap).cells.toList = some (d, p)) : ∃ l, FetsAt W W.heap.size A n l := by
  obtain ⟨fuel, hf⟩ := h
  rcases Deep.open_slice Try.underlying28 hf with ⟨hcs, _⟩ | ⟨a, len, c, m, k, D, Pl, hcs, _, hl, hm, hmm, _, hi⟩
  · simp [Value.cells] at hcs
    obtain ⟨rfl, rfl, rfl⟩ := hcs
    exact ⟨[], rfl, by decide, .inl rfl⟩
  · simp [Value.cells] at hcs
    obtain ⟨rfl, rfl, rfl⟩ := hcs
    have hle : n ≤ m := by rw [hmm]; split <;> omega
    rw [cellsFet] at hi
    have hex : ∀ i, i < n → ∃ x : Fet, x.wf ∧ ∃ A' m c, At W (a.add (i * 5)) (x.cells (.slice A' m c)) ∧ RecsAt W W.heap.size A' m x.recs := fun i hin => by
      obtain ⟨cs', hc, ht⟩ := hi i (by omega)
      obtain ⟨x, A', m', c', rfl, hw, hr⟩ := open_fet ht
      obtain ⟨_, hcl, hat⟩ := World.cells?_some hc
      exact ⟨x, hw, A', m', c', fun j v hj => by rw [hat j (by rw [← hcl]; exact (List.getElem?_eq_some_iff.1 hj).1)]; exact hj, hr⟩
    haveI : Inhabited Fet := ⟨⟨0, 0, 0, 0, []⟩⟩
    obtain ⟨f, hfn⟩ := Deep.choose_lt hex
    refine ⟨(List.range n).map f, by simp, by omega, ?_⟩
    by_cases h0 : n = 0
    · exact .inl h0
    · refine .inr ⟨a, rfl, ?_, fun i x hx => ?_⟩
      · obtain ⟨A', m', c', h1, _⟩ := (hfn 0 (by omega)).2
        have := block_lt_of_cell (h1 0 _ rfl)
        rwa [add_block, add_block] at this
      · have hin : i < n := by have := (List.getElem?_eq_some_iff.1 hx).1; simpa using this
        rw [List.getElem?_map, List.getElem?_range hin] at hx
        obtain rfl := Option.some.inj hx
        exact hfn i hin
theorem cellsSaid : Try.prog.cellsOf 46 = 3 := by kernel_rfl
theorem open_sd {H : Type} {enc : TypeId × Value → H} {w : World} {base : Nat} {sp : Nat → Bool} {held : Bool} {n : Nat} {cs : List Value} {y : DataW H × List MemPlace}
    (h : DataW.trod enc Try.prog w base sp held n 46 cs = some y) : ∃ (x : Sd) (A : Option Addr) (m c : Nat), cs = x.cells (.slice A m c) ∧ x.wf ∧ RecsAt w w.heap.size A m x.recs := by
  obtain ⟨xs, k, _, _, hc, hl, hg⟩ := DataW.trod_struct Try.underlying46 h
  rw [cellsSaid] at hc
  match cs, hc with
  | [c0, c1, c2], _ =>
    match xs, hl with
    | [y0, y1], _ =>
      have h0 : DataW.trod enc Try.prog w base sp held k 36 (([c0, c1, c2].drop 0).take (Try.prog.cellsOf 36)) = some y0 := hg 0 _ rfl
      have h1 : DataW.trod enc Try.prog w base sp held k 44 (([c0, c1, c2].drop 2).take (Try.prog.cellsOf 44)) = some y1 := hg 1 _ rfl
      rw [cellsId] at h0
      rw [cellsRecs] at h1
      obtain ⟨d, rfl, rfl, w0, w1⟩ := open_id h0
      obtain ⟨A, m, c, l, rfl, w4⟩ := open_recs h1
      exact ⟨⟨d, l⟩, A, m, c, rfl, ⟨w0, w1⟩, w4⟩
theorem open_sds {H : Type} {enc : TypeId × Value → H} {W : World} {base : Nat} {sp : Nat → Bool} {held : Bool} {A : Option Addr} {n cap : Nat} {d : DataW H} {p : List MemPlace}
    (h : ∃ fuel, DataW.trod enc Try.prog W base sp held fuel 29 (Value.slice A n cap).cells.toList = some (d, p)) : ∃ l, SdsAt W W.heap.size A n l := by
  obtain ⟨fuel, hf⟩ := h
  rcases Deep.open_slice Try.underlying29 hf with ⟨hcs, _⟩ | ⟨a, len, c, m, k, D, Pl, hcs, _, hl, hm, hmm, _, hi⟩
  · simp [Value.cells] at hcs
    obtain ⟨rfl, rfl, rfl⟩ := hcs
    exact ⟨[], rfl, by decide, .inl rfl⟩
  · simp [Value.cells] at hcs
    obtain ⟨rfl, rfl, rfl⟩ := hcs
    have hle : n ≤ m := by rw [hmm]; split <;> omega
    rw [cellsSaid] at hi
    have hex : ∀ i, i < n → ∃ x : Sd, x.wf ∧ ∃ A' m c, At W (a.add (i * 3)) (x.cells (.slice A' m c)) ∧ RecsAt W W.heap.size A' m x.recs := fun i hin => by
      obtain ⟨cs', hc, ht⟩ := hi i (by omega)
      obtain ⟨x, A', m', c', rfl, hw, hr⟩ := open_sd ht
      obtain ⟨_, hcl, hat⟩ := World.cells?_some hc
      exact ⟨x, hw, A', m', c', fun j v hj => by rw [hat j (by rw [← hcl]; exact (List.getElem?_eq_some_iff.1 hj).1)]; exact hj, hr⟩
    haveI : Inhabited Sd := ⟨⟨⟨0, 0⟩, []⟩⟩
    obtain ⟨f, hfn⟩ := Deep.choose_lt hex
    refine ⟨(List.range n).map f, by simp, by omega, ?_⟩
    by_cases h0 : n = 0
    · exact .inl h0
    · refine .inr ⟨a, rfl, ?_, fun i x hx => ?_⟩
      · obtain ⟨A', m', c', h1, _⟩ := (hfn 0 (by omega)).2
        have := block_lt_of_cell (h1 0 _ rfl)
        rwa [add_block, add_block] at this
      · have hin : i < n := by have := (List.getElem?_eq_some_iff.1 hx).1; simpa using this
        rw [List.getElem?_map, List.getElem?_range hin] at hx
        obtain rfl := Option.some.inj hx
        exact hfn i hin
theorem slice_reach {H : Type} {enc : TypeId × Value → H} {W : World} {base : Nat} {sp : Nat → Bool} {held : Bool} {ts : List TypeId} {ds : List (DataW H)} {t e : TypeId} {A : Option Addr} {n cap : Nat} {d : DataW H} {p : List MemPlace}
    (ht : Try.prog.underlying t = some (.slice e)) (h : ∃ fuel, DataW.trod enc Try.prog W base sp held fuel t (Value.slice A n cap).cells.toList = some (d, p))
    (hsz : (DataW.weightsEach Try.prog ts ds).all (· ≤ reachBytes) = true) {j : Nat} (hj : ts[j]? = some t) (hd : ds[j]? = some d) : n * Try.prog.bytesOf e ≤ 140737488351232 := by
  obtain ⟨fuel, hf⟩ := h
  rcases Deep.open_slice ht hf with ⟨hcs, _⟩ | ⟨a, len, c, m, k, D, Pl, hcs, _, hl, hm, hmm, hx, hi⟩
  · simp [Value.cells] at hcs
    obtain ⟨rfl, rfl, rfl⟩ := hcs
    omega
  · simp [Value.cells] at hcs
    obtain ⟨rfl, rfl, rfl⟩ := hcs
    have hle : n ≤ m := by rw [hmm]; split <;> omega
    have hd' := congrArg Prod.fst hx
    simp only at hd'
    subst hd'
    have h2 := sized_slice hsz hj hd ht
    simp only [List.length_map, List.length_range] at h2
    unfold reachBytes at h2
    have h3 : n * Try.prog.bytesOf e ≤ (n + (m - n)) * Try.prog.bytesOf e := Nat.mul_le_mul_right _ (by omega)
    omega
theorem slice_cap {H : Type} {enc : TypeId × Value → H} {W : World} {base : Nat} {sp : Nat → Bool} {held : Bool} {t e : TypeId} {A : Option Addr} {n cap : Nat} {x : DataW H × List MemPlace}
    (ht : Try.prog.underlying t = some (.slice e)) (h : ∃ fuel, DataW.trod enc Try.prog W base sp held fuel t (Value.slice A n cap).cells.toList = some x) : n ≤ cap ∧ cap ≤ maxLen := by
  obtain ⟨fuel, hf⟩ := h
  rcases Deep.open_slice ht hf with ⟨hcs, _⟩ | ⟨a, len, c, m, k, D, Pl, hcs, _, hl, hm, hmm, hx, hi⟩
  · simp [Value.cells] at hcs
    obtain ⟨rfl, rfl, rfl⟩ := hcs
    exact ⟨Nat.le_refl _, by decide⟩
  · simp [Value.cells] at hcs
    obtain ⟨rfl, rfl, rfl⟩ := hcs
    exact ⟨hl, hm⟩
theorem bytesAck : Try.prog.bytesOf 38 = 48 := by kernel_rfl
theorem bytesFet : Try.prog.bytesOf 52 = 56 := by kernel_rfl
theorem bytesSaid : Try.prog.bytesOf 46 = 40 := by kernel_rfl
end Go.Proofs.Ytkgidfehndkhmaa
