/- The walk of SumsLinear. -/
import Derived.Test.YtghiobmobihgpaaTell
import Derived.Test.YtghiobmobihgpaaQuietArms
namespace Go.Proofs.Ytghiobmobihgpaa
open Go.RowKit Go.PostSums
/-- bytes that a make has made, as they may be written -/
theorem bytes_of_row {w : World} {base B n c : Nat} {E : TypeId} (l : List UInt8) (h : w.ownsRow base E 1 (.slice (some ⟨B, 0, none⟩) n c) n (l.map fun x => Value.int .u8 (x.toNat : Int))) : Bytes w B l := by
  obtain ⟨hlen, h⟩ := h
  rcases h with ⟨h0, _⟩ | ⟨g, cap, cur, hv, _, hg, _, _, _, ht⟩
  · cases h0
  · cases hv
    refine ⟨cur, E, (0, 0), hg, fun i hi => ⟨?_, by simp⟩⟩
    have hi2 : i < n * 1 := by rw [← hlen, List.length_map]; exact hi
    have e : (cur.toList.take (n * 1))[i]? = cur[i]? := by rw [List.getElem?_take, if_pos hi2]; simp
    rw [← e, ht, List.getElem?_map, List.getElem?_eq_getElem hi, at8_elem l i hi]
    rfl
theorem made_zero (n : Nat) : (madeCells (Value.int .u8 0).cells (n * 1)).toList = (List.replicate n (0 : UInt8)).map fun x => Value.int .u8 (x.toNat : Int) := by
  have e : ∀ j, (Value.int .u8 0).cells[j % (Value.int .u8 0).cells.size]! = Value.int .u8 0 := fun j => by
    show (#[Value.int .u8 0] : Array Value)[j % 1]! = _
    rw [Nat.mod_one]; rfl
  unfold madeCells
  simp only [e, Nat.mul_one]
  apply List.ext_getElem?
  intro i
  by_cases h : i < n
  · simp [h]
  · simp [h]
/-- the first i bytes one xor the other, noughts behind them -/
def xorTo (l m : List UInt8) (n i : Nat) : List UInt8 := (List.range n).map fun j => if j < i then UInt8.ofNat (at8 l j ^^^ at8 m j) else 0
theorem xorTo_len (l m : List UInt8) (n i : Nat) : (xorTo l m n i).length = n := by simp [xorTo]
theorem xorTo_at (l m : List UInt8) (n i j : Nat) (hj : j < n) : at8 (xorTo l m n i) j = if j < i then at8 l j ^^^ at8 m j else 0 := by
  rw [at8_elem _ j (by rw [xorTo_len]; exact hj)]
  simp only [xorTo, List.getElem_map, List.getElem_range]
  split
  · have : at8 l j ^^^ at8 m j < 2 ^ 8 := Nat.xor_lt_two_pow (at8_lt l j) (at8_lt m j)
    rw [UInt8.toNat_ofNat', Nat.mod_eq_of_lt this]
  · rfl
theorem xorTo_zero (l m : List UInt8) (n : Nat) : xorTo l m n 0 = List.replicate n 0 := by
  apply List.ext_getElem
  · simp [xorTo]
  · intro i h1 h2
    simp [xorTo]
theorem xorTo_step (l m : List UInt8) (n i : Nat) : (xorTo l m n i).set i (UInt8.ofNat (at8 l i ^^^ at8 m i)) = xorTo l m n (i + 1) := by
  apply List.ext_getElem
  · simp [xorTo]
  · intro j h1 h2
    simp only [List.getElem_set, xorTo, List.getElem_map, List.getElem_range]
    by_cases e : i = j
    · subst e; simp
    · rw [if_neg e]
      by_cases h : j < i
      · rw [if_pos h, if_pos (by omega)]
      · rw [if_neg h, if_neg (by omega)]
end Go.Proofs.Ytghiobmobihgpaa
