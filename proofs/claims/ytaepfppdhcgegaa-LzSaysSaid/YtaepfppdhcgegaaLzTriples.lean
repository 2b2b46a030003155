/- Opening a slice of triples of numbers. -/
import Derived.Test.YtaepfppdhcgegaaRows
import Derived.Test.YtaepfppdhcgegaaAudRows2
import Derived.Deep.Slices
import Derived.ProofKit
import Derived.OpenShut
import Derived.SizedLaws
import Derived.KernelRfl
namespace Go.PostAud
open Go.RowKit
def TriplesAt (w : World) (base : Nat) (A : Option Addr) (n : Nat) (l : List (Int × Int × Int)) : Prop :=
  l.length = n ∧ n ≤ maxLen ∧ (n = 0 ∨ ∃ a, A = some a ∧ a.block < base ∧ ∀ (i : Nat) (x : Int × Int × Int), l[i]? = some x → At w (a.add (i * 3)) [.int .i64 x.1, .int .i64 x.2.1, .int .i64 x.2.2])
theorem TriplesAt.below {w w' : World} {base : Nat} {A : Option Addr} {n : Nat} {l : List (Int × Int × Int)} (h : TriplesAt w base A n l) (hb : Below base w w') : TriplesAt w' base A n l := by
  obtain ⟨h1, h0, h2 | ⟨a, h2, h3, h4⟩⟩ := h
  · exact ⟨h1, h0, .inl h2⟩
  · exact ⟨h1, h0, .inr ⟨a, h2, h3, fun i x hx => (h4 i x hx).below hb (by rw [add_block]; exact h3)⟩⟩
theorem TriplesAt.get {w : World} {base : Nat} {A : Option Addr} {n : Nat} {l : List (Int × Int × Int)} (h : TriplesAt w base A n l) {i : Nat} (hi : i < n) :
    ∃ a x, A = some a ∧ l[i]? = some x ∧ At w (a.add (i * 3)) [.int .i64 x.1, .int .i64 x.2.1, .int .i64 x.2.2] := by
  obtain ⟨h1, _, h2 | ⟨a, h2, h3, h4⟩⟩ := h
  · omega
  · have hx : l[i]? = some (l[i]'(by omega)) := List.getElem?_eq_getElem (by omega)
    exact ⟨a, _, h2, hx, h4 i _ hx⟩
end Go.PostAud
namespace Go.Proofs.Ytaepfppdhcgegaa
open Go.RowKit Go.PostAud Go.ChangeShapes Go.WideShapes
theorem cellsTri : Try.prog.cellsOf 31 = 3 := by kernel_rfl
theorem cellsIntT : Try.prog.cellsOf 3 = 1 := by kernel_rfl
theorem int_ofT {H : Type} {enc : TypeId × Value → H} {w : World} {base : Nat} {sp : Nat → Bool} {held : Bool} {n : Nat} {t : TypeId} {c : Value} {y : DataW H × List MemPlace}
    (ht : Try.prog.underlying t = some (.int .i64)) (h : DataW.trod enc Try.prog w base sp held n t [c] = some y) : ∃ v : Int, c = .int .i64 v := by
  obtain ⟨v, hv, _, hw⟩ := DataW.trod_int ht h
  exact ⟨v, by simpa using hv⟩
theorem open_triple {H : Type} {enc : TypeId × Value → H} {w : World} {base : Nat} {sp : Nat → Bool} {held : Bool} {n : Nat} {cs : List Value} {y : DataW H × List MemPlace}
    (h : DataW.trod enc Try.prog w base sp held n 31 cs = some y) : ∃ x : Int × Int × Int, cs = [.int .i64 x.1, .int .i64 x.2.1, .int .i64 x.2.2] := by
  obtain ⟨xs, k, _, _, hc, hl, hg⟩ := DataW.trod_array Try.underlying31 h
  rw [cellsTri] at hc
  match cs, hc with
  | [c0, c1, c2], _ =>
    match xs, hl with
    | [y0, y1, y2], _ =>
      have h0 := hg 0 (by omega)
      have h1 := hg 1 (by omega)
      have h2 := hg 2 (by omega)
      rw [cellsIntT] at h0 h1 h2
      obtain ⟨v0, rfl⟩ := int_ofT Try.underlying3 h0
      obtain ⟨v1, rfl⟩ := int_ofT Try.underlying3 h1
      obtain ⟨v2, rfl⟩ := int_ofT Try.underlying3 h2
      exact ⟨(v0, v1, v2), rfl⟩
theorem open_triples {H : Type} {enc : TypeId × Value → H} {W : World} {base : Nat} {sp : Nat → Bool} {held : Bool} {A : Option Addr} {n cap : Nat} {d : DataW H} {p : List MemPlace}
    (h : ∃ fuel, DataW.trod enc Try.prog W base sp held fuel 29 (Value.slice A n cap).cells.toList = some (d, p)) : ∃ l, TriplesAt W W.heap.size A n l := by
  obtain ⟨fuel, hf⟩ := h
  rcases Deep.open_slice Try.underlying29 hf with ⟨hcs, _⟩ | ⟨a, len, c, m, k, D, Pl, hcs, _, hl, hm, hmm, _, hi⟩
  · simp [Value.cells] at hcs
    obtain ⟨rfl, rfl, rfl⟩ := hcs
    exact ⟨[], rfl, by decide, .inl rfl⟩
  · simp [Value.cells] at hcs
    obtain ⟨rfl, rfl, rfl⟩ := hcs
    have hle : n ≤ m := by rw [hmm]; split <;> omega
    rw [cellsTri] at hi
    have hex : ∀ i, i < n → ∃ x : Int × Int × Int, At W (a.add (i * 3)) [.int .i64 x.1, .int .i64 x.2.1, .int .i64 x.2.2] := fun i hin => by
      obtain ⟨cs', hc, ht⟩ := hi i (by omega)
      obtain ⟨x, rfl⟩ := open_triple ht
      obtain ⟨_, hcl, hat⟩ := World.cells?_some hc
      exact ⟨x, fun j v hj => by rw [hat j (by rw [← hcl]; exact (List.getElem?_eq_some_iff.1 hj).1)]; exact hj⟩
    obtain ⟨f, hfn⟩ := Deep.choose_lt hex
    refine ⟨(List.range n).map f, by simp, by omega, ?_⟩
    by_cases h0 : n = 0
    · exact .inl h0
    · refine .inr ⟨a, rfl, ?_, fun i x hx => ?_⟩
      · have := block_lt_of_cell ((hfn 0 (by omega)) 0 _ rfl)
        rwa [add_block, add_block] at this
      · have hin : i < n := by have := (List.getElem?_eq_some_iff.1 hx).1; simpa using this
        rw [List.getElem?_map, List.getElem?_range hin] at hx
        obtain rfl := Option.some.inj hx
        exact hfn i hin
end Go.Proofs.Ytaepfppdhcgegaa
