/- Opening a slice of pairs of numbers. -/
import Derived.Test.YtkgidfehndkhmaaAudOpen2
import Derived.OpenShut
namespace Go.PostAud
open Go.RowKit
def PairsAt (w : World) (base : Nat) (A : Option Addr) (n : Nat) (l : List (Int × Int)) : Prop :=
  l.length = n ∧ n ≤ maxLen ∧ (n = 0 ∨ ∃ a, A = some a ∧ a.block < base ∧ ∀ (i : Nat) (x : Int × Int), l[i]? = some x → At w (a.add (i * 2)) [.int .i64 x.1, .int .i64 x.2])
theorem PairsAt.below {w w' : World} {base : Nat} {A : Option Addr} {n : Nat} {l : List (Int × Int)} (h : PairsAt w base A n l) (hb : Below base w w') : PairsAt w' base A n l := by
  obtain ⟨h1, h0, h2 | ⟨a, h2, h3, h4⟩⟩ := h
  · exact ⟨h1, h0, .inl h2⟩
  · exact ⟨h1, h0, .inr ⟨a, h2, h3, fun i x hx => (h4 i x hx).below hb (by rw [add_block]; exact h3)⟩⟩
theorem PairsAt.get {w : World} {base : Nat} {A : Option Addr} {n : Nat} {l : List (Int × Int)} (h : PairsAt w base A n l) {i : Nat} (hi : i < n) :
    ∃ a x, A = some a ∧ l[i]? = some x ∧ At w (a.add (i * 2)) [.int .i64 x.1, .int .i64 x.2] := by
  obtain ⟨h1, _, h2 | ⟨a, h2, h3, h4⟩⟩ := h
  · omega
  · have hx : l[i]? = some (l[i]'(by omega)) := List.getElem?_eq_getElem (by omega)
    exact ⟨a, _, h2, hx, h4 i _ hx⟩
theorem At.pair {w : World} {a : Addr} {v0 v1 : Value} (h : At w a [v0, v1]) : w.cell? a = some v0 ∧ w.cell? ⟨a.block, a.off + 1, none⟩ = some v1 := by
  have h0 := h 0 _ rfl
  have h1 := h 1 _ rfl
  simp only [Addr.add_succ', Addr.add_zero', Nat.zero_add] at h0 h1
  exact ⟨h0, h1⟩
end Go.PostAud
namespace Go.Proofs.Ytkgidfehndkhmaa
open Go.RowKit Go.PostAud Go.ChangeShapes Go.WideShapes
theorem cellsPair : Try.prog.cellsOf 50 = 2 := by kernel_rfl
theorem bytesPair : Try.prog.bytesOf 50 = 16 := by kernel_rfl
theorem open_pair {H : Type} {enc : TypeId × Value → H} {w : World} {base : Nat} {sp : Nat → Bool} {held : Bool} {n : Nat} {cs : List Value} {y : DataW H × List MemPlace}
    (h : DataW.trod enc Try.prog w base sp held n 50 cs = some y) : ∃ x : Int × Int, cs = [.int .i64 x.1, .int .i64 x.2] := by
  obtain ⟨xs, k, _, _, hc, hl, hg⟩ := DataW.trod_array Try.underlying50 h
  rw [cellsPair] at hc
  match cs, hc with
  | [c0, c1], _ =>
    match xs, hl with
    | [y0, y1], _ =>
      have h0 := hg 0 (by omega)
      have h1 := hg 1 (by omega)
      rw [cellsInt] at h0 h1
      obtain ⟨v0, rfl, _⟩ := int_of Try.underlying3 h0
      obtain ⟨v1, rfl, _⟩ := int_of Try.underlying3 h1
      exact ⟨(v0, v1), rfl⟩
theorem open_pairs {H : Type} {enc : TypeId × Value → H} {W : World} {base : Nat} {sp : Nat → Bool} {held : Bool} {A : Option Addr} {n cap : Nat} {d : DataW H} {p : List MemPlace}
    (h : ∃ fuel, DataW.trod enc Try.prog W base sp held fuel 43 (Value.slice A n cap).cells.toList = some (d, p)) : ∃ l, PairsAt W W.heap.size A n l := by
  obtain ⟨fuel, hf⟩ := h
  rcases Deep.open_slice Try.underlying43 hf with ⟨hcs, _⟩ | ⟨a, len, c, m, k, D, Pl, hcs, _, hl, hm, hmm, _, hi⟩
  · simp [Value.cells] at hcs
    obtain ⟨rfl, rfl, rfl⟩ := hcs
    exact ⟨[], rfl, by decide, .inl rfl⟩
  · simp [Value.cells] at hcs
    obtain ⟨rfl, rfl, rfl⟩ := hcs
    have hle : n ≤ m := by rw [hmm]; split <;> omega
    rw [cellsPair] at hi
    have hex : ∀ i, i < n → ∃ x : Int × Int, At W (a.add (i * 2)) [.int .i64 x.1, .int .i64 x.2] := fun i hin => by
      obtain ⟨cs', hc, ht⟩ := hi i (by omega)
      obtain ⟨x, rfl⟩ := open_pair ht
      obtain ⟨_, hcl, hat⟩ := World.cells?_some hc
      exact ⟨x, fun j v hj => by rw [hat j (by rw [← hcl]; exact (List.getElem?_eq_some_iff.1 hj).1)]; exact hj⟩
    obtain ⟨f, hfn⟩ := Deep.choose_lt hex
    refine ⟨(List.range n).map f, by simp, by omega, ?_⟩
    by_cases h0 : n = 0
    · exact .inl h0
    · refine .inr ⟨a, rfl, ?_, fun i x hx => ?_⟩
      · have := block_lt_of_cell ((hfn 0 (by omega)) 0 _ rfl)
        rwa [add_block, add_block] at this
      · have hin : i < n := by have := (List.getElem?_eq_some_iff.1 hx).1; simpa using this
        rw [List.getElem?_map, List.getElem?_range hin] at hx
        obtain rfl := Option.some.inj hx
        exact hfn i hin
end Go.Proofs.Ytkgidfehndkhmaa
