/- The plain law of LzSays. -/
import Derived.Test.YtaepfppdhcgegaaLzPlain
namespace Go.PostLz
/-- the block z, as far as it goes, tells y -/
def Says (z y : List UInt8) : Prop := ∀ (most : Nat) (r : List UInt8), y.length ≤ most → unpackFrom most (z ++ r) [] = unpackFrom most r y
theorem says_nil : Says [] [] := fun _ _ _ => rfl
theorem says_step {z y lit : List UInt8} {far n : Nat} (h : Says z y) (h4 : 4 ≤ n) (h0 : 0 < far) (h1 : far ≤ y.length + lit.length) (h2 : far ≤ 65535) : Says (z ++ seqB lit far n) (copyN (y ++ lit) far n) := fun most r hm => by
  rw [copyN_len, List.length_append] at hm
  rw [List.append_assoc, h most _ (by omega), seq_step most lit far n r y h4 h0 h1 h2 (by omega)]
theorem says_end {z y : List UInt8} (h : Says z y) (b : UInt8) (hm : y.length + 1 ≤ 1048576) : unpack (z ++ [16, b]) ((y.length + 1 : Nat) : Int) = (y ++ [b], 0) := by
  have e : lastB [b] = [16, b] := rfl
  unfold unpack
  rw [if_neg (by omega), Int.toNat_natCast, h _ _ (by omega), ← e, last_step _ _ _ (by simp)]
  rfl
def saysLit (i a : Nat) : List UInt8 := (List.range a).map fun k => UInt8.ofNat (i * 7 + k)
theorem saysLit_succ (i k : Nat) : saysLit i (k + 1) = saysLit i k ++ [UInt8.ofNat (i * 7 + k)] := by unfold saysLit; rw [List.range_succ, List.map_append]; rfl
theorem saysLit_len (i a : Nat) : (saysLit i a).length = a := by simp [saysLit]
theorem seqB_len (lit : List UInt8) (far n : Nat) (hl : lit.length < 255) (hn : n < 259) : (seqB lit far n).length ≤ lit.length + 5 := by
  unfold seqB headB tailB
  simp only [List.length_append, List.length_cons, numB_len]
  have h1 : (lit.length - 15) / 255 = 0 := Nat.div_eq_of_lt (by omega)
  have h2 : (n - 4 - 15) / 255 = 0 := Nat.div_eq_of_lt (by omega)
  rw [h1, h2]
  split <;> split <;> omega
end Go.PostLz
