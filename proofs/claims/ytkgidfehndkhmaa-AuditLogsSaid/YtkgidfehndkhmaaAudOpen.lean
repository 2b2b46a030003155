/- Opening slices of acks, records, fetches, and of what was said. -/
import Derived.Test.YtkgidfehndkhmaaAudKeys
import Derived.Test.YtkgidfehndkhmaaAudRows2
import Derived.Deep.Slices
import Derived.ProofKit
namespace Go.Proofs.Ytkgidfehndkhmaa
open Go.RowKit Go.PostAud Go.ChangeShapes Go.WideShapes
theorem int_of {H : Type} {enc : TypeId × Value → H} {w : World} {base : Nat} {sp : Nat → Bool} {held : Bool} {n : Nat} {t : TypeId} {c : Value} {y : DataW H × List MemPlace}
    (ht : Try.prog.underlying t = some (.int .i64)) (h : DataW.trod enc Try.prog w base sp held n t [c] = some y) : ∃ v : Int, c = .int .i64 v ∧ i64 v := by
  obtain ⟨v, hv, _, hw⟩ := DataW.trod_int ht h
  exact ⟨v, by simpa using hv, hw⟩
theorem open_id {H : Type} {enc : TypeId × Value → H} {w : World} {base : Nat} {sp : Nat → Bool} {held : Bool} {n : Nat} {c0 c1 : Value} {y : DataW H × List MemPlace}
    (h : DataW.trod enc Try.prog w base sp held n 36 [c0, c1] = some y) : ∃ d : Pid, c0 = .int .i64 d.prod ∧ c1 = .int .i64 d.seq ∧ i64 d.prod ∧ i64 d.seq := by
  obtain ⟨xs, k, _, _, _, hl, hg⟩ := DataW.trod_struct Try.underlying36 h
  match xs, hl with
  | [y0, y1], _ =>
    have h0 : DataW.trod enc Try.prog w base sp held k 3 (([c0, c1].drop 0).take (Try.prog.cellsOf 3)) = some y0 := hg 0 _ rfl
    have h1 : DataW.trod enc Try.prog w base sp held k 3 (([c0, c1].drop 1).take (Try.prog.cellsOf 3)) = some y1 := hg 1 _ rfl
    rw [cellsInt] at h0 h1
    obtain ⟨v0, rfl, w0⟩ := int_of Try.underlying3 h0
    obtain ⟨v1, rfl, w1⟩ := int_of Try.underlying3 h1
    exact ⟨⟨v0, v1⟩, rfl, rfl, w0, w1⟩
theorem open_ack {H : Type} {enc : TypeId × Value → H} {w : World} {base : Nat} {sp : Nat → Bool} {held : Bool} {n : Nat} {cs : List Value} {y : DataW H × List MemPlace}
    (h : DataW.trod enc Try.prog w base sp held n 38 cs = some y) : ∃ x : Ack, cs = x.cells ∧ x.wf := by
  obtain ⟨xs, k, _, _, hc, hl, hg⟩ := DataW.trod_struct Try.underlying38 h
  rw [cellsAck] at hc
  match cs, hc with
  | [c0, c1, c2, c3, c4, c5], _ =>
    match xs, hl with
    | [y0, y1, y2, y3, y4], _ =>
      have h0 : DataW.trod enc Try.prog w base sp held k 3 (([c0, c1, c2, c3, c4, c5].drop 0).take (Try.prog.cellsOf 3)) = some y0 := hg 0 _ rfl
      have h1 : DataW.trod enc Try.prog w base sp held k 36 (([c0, c1, c2, c3, c4, c5].drop 1).take (Try.prog.cellsOf 36)) = some y1 := hg 1 _ rfl
      have h2 : DataW.trod enc Try.prog w base sp held k 23 (([c0, c1, c2, c3, c4, c5].drop 3).take (Try.prog.cellsOf 23)) = some y2 := hg 2 _ rfl
      have h3 : DataW.trod enc Try.prog w base sp held k 3 (([c0, c1, c2, c3, c4, c5].drop 4).take (Try.prog.cellsOf 3)) = some y3 := hg 3 _ rfl
      have h4 : DataW.trod enc Try.prog w base sp held k 3 (([c0, c1, c2, c3, c4, c5].drop 5).take (Try.prog.cellsOf 3)) = some y4 := hg 4 _ rfl
      have ce : Try.prog.cellsOf 23 = 1 := by kernel_rfl
      rw [cellsInt] at h0 h3 h4
      rw [cellsId] at h1
      rw [ce] at h2
      obtain ⟨v0, rfl, w0⟩ := int_of Try.underlying3 h0
      obtain ⟨d, rfl, rfl, w1, w1'⟩ := open_id h1
      obtain ⟨v2, rfl, w2⟩ := int_of Try.underlying23 h2
      obtain ⟨v3, rfl, w3⟩ := int_of Try.underlying3 h3
      obtain ⟨v4, rfl, w4⟩ := int_of Try.underlying3 h4
      exact ⟨⟨v0, d, v2, v3, v4⟩, rfl, w0, ⟨w1, w1'⟩, w2, w3, w4⟩
/-- The slice of acks, opened. -/
theorem open_acks {H : Type} {enc : TypeId × Value → H} {W : World} {base : Nat} {sp : Nat → Bool} {held : Bool} {A : Option Addr} {n cap : Nat} {d : DataW H} {p : List MemPlace}
    (h : ∃ fuel, DataW.trod enc Try.prog W base sp held fuel 22 (Value.slice A n cap).cells.toList = some (d, p)) : ∃ l, AcksAt W W.heap.size A n l ∧ n ≤ maxLen := by
  obtain ⟨fuel, hf⟩ := h
  rcases Deep.open_slice Try.underlying22 hf with ⟨hcs, _⟩ | ⟨a, len, c, m, k, D, Pl, hcs, _, hl, hm, hmm, _, hi⟩
  · simp [Value.cells] at hcs
    obtain ⟨rfl, rfl, rfl⟩ := hcs
    exact ⟨[], ⟨rfl, .inl rfl⟩, by decide⟩
  · simp [Value.cells] at hcs
    obtain ⟨rfl, rfl, rfl⟩ := hcs
    have hle : n ≤ m := by rw [hmm]; split <;> omega
    rw [cellsAck] at hi
    have hex : ∀ i, i < n → ∃ x : Ack, x.wf ∧ At W (a.add (i * 6)) x.cells := fun i hin => by
      obtain ⟨cs', hc, ht⟩ := hi i (by omega)
      obtain ⟨x, rfl, hw⟩ := open_ack ht
      obtain ⟨_, hcl, hat⟩ := World.cells?_some hc
      exact ⟨x, hw, fun j v hj => by rw [hat j (by rw [← hcl]; exact (List.getElem?_eq_some_iff.1 hj).1)]; exact hj⟩
    haveI : Inhabited Ack := ⟨⟨0, ⟨0, 0⟩, 0, 0, 0⟩⟩
    obtain ⟨f, hfn⟩ := Deep.choose_lt hex
    refine ⟨(List.range n).map f, ⟨by simp, ?_⟩, by omega⟩
    by_cases h0 : n = 0
    · exact .inl h0
    · refine .inr ⟨a, rfl, ?_, fun i x hx => ?_⟩
      · have := block_lt_of_cell ((hfn 0 (by omega)).2 0 _ rfl)
        rwa [add_block, add_block] at this
      · have hin : i < n := by have := (List.getElem?_eq_some_iff.1 hx).1; simpa using this
        rw [List.getElem?_map, List.getElem?_range hin] at hx
        obtain rfl := Option.some.inj hx
        exact hfn i hin
end Go.Proofs.Ytkgidfehndkhmaa
