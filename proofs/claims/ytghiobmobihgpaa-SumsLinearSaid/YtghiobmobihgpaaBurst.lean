/- The walk of SumsBurst. -/
import Derived.Test.YtghiobmobihgpaaTell
import Derived.Test.YtghiobmobihgpaaQuietArms
namespace Go.Proofs.Ytghiobmobihgpaa
open Go.RowKit Go.PostSums
/-- the i-th byte of a number -/
def byteOf (x : Int) (i : Nat) : Nat := ((x / 2 ^ (8 * i)) % 256).toNat
theorem byteOf_lt (x : Int) (i : Nat) : byteOf x i < 256 := by
  unfold byteOf
  have := Int.emod_lt_of_pos (x / 2 ^ (8 * i)) (show (0 : Int) < 256 by decide)
  omega
theorem byteOf_int (x : Int) (i : Nat) : ((byteOf x i : Nat) : Int) = (x / 2 ^ (8 * i)) % 256 := by
  unfold byteOf
  have := Int.emod_nonneg (x / 2 ^ (8 * i)) (show (256 : Int) ≠ 0 by decide)
  omega
def patch (l : List UInt8) (k : Nat) (x : Int) : Nat → List UInt8
  | 0 => l
  | i + 1 => (patch l k x i).set (k + i) (told (patch l k x i) (k + i) (byteOf x i))
theorem patch_len (l : List UInt8) (k : Nat) (x : Int) (i : Nat) : (patch l k x i).length = l.length := by
  induction i with
  | zero => rfl
  | succ i ih => simp only [patch, List.length_set, ih]
theorem patch_at (l : List UInt8) (k : Nat) (x : Int) (i j : Nat) (hk : k + i ≤ l.length) :
    at8 (patch l k x i) j = if k ≤ j ∧ j < k + i then at8 l j ^^^ byteOf x (j - k) else at8 l j := by
  induction i with
  | zero => simp only [patch]; rw [if_neg (by omega)]
  | succ i ih =>
    simp only [patch]
    rw [at8_set _ _ _ _ (by rw [patch_len]; omega), told_nat _ _ _ (byteOf_lt x i), ih (by omega)]
    by_cases h : j = k + i
    · subst h
      rw [if_pos rfl, if_pos (by omega), ih (by omega), if_neg (by omega), show k + i - k = i by omega]
    · rw [if_neg h]
      by_cases h2 : k ≤ j ∧ j < k + i
      · rw [if_pos h2, if_pos (by omega)]
      · rw [if_neg h2, if_neg (by omega)]
theorem four_at (l : List UInt8) (k : Nat) (hk : k + 4 ≤ l.length) : ∃ p q a b c d, l = p ++ [a, b, c, d] ++ q ∧ p = l.take k ∧ q = l.drop (k + 4) ∧ a.toNat = at8 l k ∧ b.toNat = at8 l (k + 1) ∧ c.toNat = at8 l (k + 2) ∧ d.toNat = at8 l (k + 3) := by
  refine ⟨l.take k, l.drop (k + 4), l[k], l[k + 1], l[k + 2], l[k + 3], ?_, rfl, rfl, (at8_elem l k (by omega)).symm, (at8_elem l (k + 1) (by omega)).symm, (at8_elem l (k + 2) (by omega)).symm, (at8_elem l (k + 3) (by omega)).symm⟩
  have e : l.drop k = [l[k], l[k + 1], l[k + 2], l[k + 3]] ++ l.drop (k + 4) := by
    rw [List.drop_eq_getElem_cons (show k < l.length by omega), List.drop_eq_getElem_cons (show k + 1 < l.length by omega), List.drop_eq_getElem_cons (show k + 2 < l.length by omega), List.drop_eq_getElem_cons (show k + 3 < l.length by omega)]
    rfl
  rw [List.append_assoc, ← e, List.take_append_drop]
theorem at8_take (l : List UInt8) (k i : Nat) (h : i < k) : at8 (l.take k) i = at8 l i := by
  unfold at8; simp only [List.getD_eq_getElem?_getD, List.getElem?_take, h, if_true]
theorem at8_beyond (l : List UInt8) (i : Nat) (h : l.length ≤ i) : at8 l i = 0 := by
  unfold at8; rw [List.getD_eq_getElem?_getD, List.getElem?_eq_none h]; rfl
theorem list_same (l m : List UInt8) (hl : l.length = m.length) (h : ∀ i, at8 l i = at8 m i) : l = m := by
  apply List.ext_getElem hl
  intro i h1 h2
  have := h i
  rw [at8_elem l i h1, at8_elem m i h2] at this
  exact UInt8.toNat_inj.1 this
theorem xor_same (a b : Nat) (h : a ^^^ b = a) : b = 0 := by
  have := congrArg (a ^^^ ·) h
  simpa [← Nat.xor_assoc] using this
theorem patch_crc (l : List UInt8) (k : Nat) (x : Int) (hk : k + 4 ≤ l.length) (hx : x % 4294967296 ≠ 0) : crcN 0 l ≠ crcN 0 (patch l k x 4) := by
  intro e
  have hlen := patch_len l k x 4
  obtain ⟨p, q, a, b, c, d, h1, h2, h3, ha, hb, hc, hd⟩ := four_at l k hk
  obtain ⟨p', q', a', b', c', d', g1, g2, g3, ga, gb, gc, gd⟩ := four_at (patch l k x 4) k (by rw [hlen]; exact hk)
  have hp : p' = p := by
    rw [h2, g2]
    refine list_same _ _ (by simp [hlen]) (fun i => ?_)
    by_cases hi : i < k
    · rw [at8_take _ _ _ hi, at8_take _ _ _ hi, patch_at l k x 4 i hk, if_neg (by omega)]
    · rw [at8_beyond _ _ (by rw [List.length_take]; omega), at8_beyond _ _ (by rw [List.length_take]; omega)]
  have hq : q' = q := by
    rw [h3, g3]
    refine list_same _ _ (by simp [hlen]) (fun i => ?_)
    rw [at8_drop, at8_drop, patch_at l k x 4 _ hk, if_neg (by omega)]
  rw [g1, hp, hq] at e
  conv at e => lhs; rw [h1]
  obtain ⟨e0, e1, e2, e3⟩ := crcN_burst p q a b c d a' b' c' d' e
  rw [patch_at l k x 4 _ hk, if_pos (by omega), ← ha, ← e0, show k - k = 0 by omega] at ga
  rw [patch_at l k x 4 _ hk, if_pos (by omega), ← hb, ← e1, show k + 1 - k = 1 by omega] at gb
  rw [patch_at l k x 4 _ hk, if_pos (by omega), ← hc, ← e2, show k + 2 - k = 2 by omega] at gc
  rw [patch_at l k x 4 _ hk, if_pos (by omega), ← hd, ← e3, show k + 3 - k = 3 by omega] at gd
  have z0 := xor_same _ _ ga.symm
  have z1 := xor_same _ _ gb.symm
  have z2 := xor_same _ _ gc.symm
  have z3 := xor_same _ _ gd.symm
  have i0 := byteOf_int x 0
  have i1 := byteOf_int x 1
  have i2 := byteOf_int x 2
  have i3 := byteOf_int x 3
  rw [z0] at i0; rw [z1] at i1; rw [z2] at i2; rw [z3] at i3
  simp only [Nat.mul_zero, Nat.mul_one, Nat.reduceMul, Int.pow_zero, Int.ediv_one, Int.reducePow] at i0 i1 i2 i3
  omega
end Go.Proofs.Ytghiobmobihgpaa
