/- Opening a slice of strings among the arguments of a row. -/
import Derived.Test.YtghiobmobihgpaaMore
import Derived.ProofKit
import Derived.SizedLaws
import Derived.SliceStrings
namespace Go.Proofs.Ytghiobmobihgpaa
open Go.RowKit Go.PostSums Go.ChangeShapes Go.WideShapes
theorem weights_strs {H : Type} {P : Program} {e : TypeId} (l : List ByteArray) (s : ByteArray) (h : s ∈ l) : s.size ∈ DataW.weightsAll P e (strs l : List (DataW H)) := by
  induction l with
  | nil => cases h
  | cons x l ih =>
    simp only [strs, List.map_cons, DataW.weightsAll, DataW.weights, List.mem_append, List.mem_singleton]
    rcases List.mem_cons.1 h with h | h
    · subst h; exact .inl (by simp)
    · exact .inr (ih h)
theorem sized_strings {H : Type} {P : Program} {ts : List TypeId} {ds : List (DataW H)} (h : (DataW.weightsEach P ts ds).all (· ≤ reachBytes) = true) {j : Nat} {t e : TypeId} {l m : List ByteArray}
    (ht : ts[j]? = some t) (hd : ds[j]? = some (.slice (strs l) (strs m))) (hu : P.underlying t = some (.slice e)) (s : ByteArray) (hs : s ∈ l) : s.size ≤ reachBytes := by
  have hm : s.size ∈ (DataW.slice (strs l) (strs m) : DataW H).weights P t := by
    simp only [DataW.weights, hu]
    exact List.mem_cons_of_mem _ (List.mem_append.2 (.inl (weights_strs l s hs)))
  have := List.all_eq_true.1 h _ (DataW.weights_mem_each ht hd _ hm)
  simpa using this
/-- The slice of strings at place j, opened. -/
theorem open_strs {H : Type} {enc : TypeId × Value → H} {W : World} {base : Nat} {sp : Nat → Bool} {held : Bool} {ts : List TypeId} {ds : List (DataW H)} {t e : TypeId} {A : Option Addr} {n cap : Nat} {d : DataW H} {p : List MemPlace}
    (ht : Try.prog.underlying t = some (.slice e)) (he : Try.prog.underlying e = some .string) (hc : Try.prog.cellsOf e = 1)
    (h : ∃ fuel, DataW.trod enc Try.prog W base sp held fuel t (Value.slice A n cap).cells.toList = some (d, p))
    (hsz : (DataW.weightsEach Try.prog ts ds).all (· ≤ reachBytes) = true) {j : Nat} (hj : ts[j]? = some t) (hd : ds[j]? = some d) : ∃ ss, Strings W A n ss ∧ n ≤ maxLen := by
  obtain ⟨fuel, hf⟩ := h
  rcases open_strings ht he hc hf with ⟨hcs, _⟩ | ⟨x, l, c, ss, hcs, _, hl, hm, hz, hx, hcell, _⟩
  · simp [Value.cells] at hcs
    obtain ⟨rfl, rfl, rfl⟩ := hcs
    exact ⟨[], .inl rfl, by decide⟩
  · simp [Value.cells] at hcs
    obtain ⟨rfl, rfl, rfl⟩ := hcs
    have hlen : n ≤ ss.length := by rw [hz]; split <;> omega
    have hd' : d = .slice (strs (ss.take n)) (strs (ss.drop n)) := congrArg Prod.fst hx
    subst hd'
    refine ⟨ss, .inr ⟨x, rfl, fun i hi => ⟨hcell i (by omega), ?_⟩⟩, by omega⟩
    have hmem : ss.getD i ByteArray.empty ∈ ss.take n := by
      rw [List.getD_eq_getElem?_getD, List.getElem?_eq_getElem (show i < ss.length by omega), Option.getD_some]
      rw [List.mem_take_iff_getElem]
      exact ⟨i, by omega, rfl⟩
    have := sized_strings hsz hj hd ht _ hmem
    unfold reachBytes at this
    omega
end Go.Proofs.Ytghiobmobihgpaa
