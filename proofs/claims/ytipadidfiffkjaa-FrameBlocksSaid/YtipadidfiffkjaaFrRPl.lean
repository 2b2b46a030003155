/- The plain words of the reference's Unpack; its callees' contracts. -/
import Derived.Test.YtipadidfiffkjaaFrRBeg
import Derived.Test.YtipadidfiffkjaaLzRef
namespace Go.Proofs.Ytipadidfiffkjaa
open Go.RowKit Go.PostSums Go.PostMem
theorem headR_chain (l : List UInt8) (most : Nat) : (match beginsR l ⟨0, most, 0, 0, 0⟩ with
  | .error c => .error c
  | .ok f1 => match flagsR l f1 with
    | .error c => .error c
    | .ok f2 => match sizesR l f2 with
      | .error c => .error c
      | .ok f3 => headedR l f3) = headR l most := by
  unfold headR beginsR
  simp only [List.drop_zero, Nat.zero_add]
  by_cases h1 : l.length < 4
  · simp only [if_pos h1]
  simp only [if_neg h1]
  by_cases h2 : l.take 4 = magicL
  rotate_left
  · simp only [if_neg h2, if_pos (show l.take 4 ≠ magicL from h2)]
  simp only [if_pos h2, if_neg (show ¬ (l.take 4 ≠ magicL) from fun h => h h2)]
  unfold flagsR
  simp only
  by_cases h3 : l.length < 5
  · simp only [if_pos h3]
  simp only [if_neg h3]
  by_cases h4 : at8 l 4 / 32 ≠ 3 ∨ at8 l 4 % 4 ≠ 0
  · simp only [if_pos h4]
  simp only [if_neg h4]
  unfold sizesR
  simp only [Nat.reduceAdd]
  by_cases h5 : l.length < 6
  · simp only [if_pos h5]
  simp only [if_neg h5]
  by_cases h6 : at8 l 5 % 16 ≠ 0 ∨ at8 l 5 / 16 < 4 ∨ 7 < at8 l 5 / 16
  · simp only [if_pos h6]
  simp only [if_neg h6]
  by_cases h7 : at8 l 4 / 8 % 2 = 0
  · simp only [if_pos h7]
    unfold headedR finR
    simp only [Nat.reduceAdd]
    by_cases h8 : l.length < 7
    · simp only [if_pos h8, if_pos (show l.length ≤ 6 by omega)]
    · simp only [if_neg h8, if_neg (show ¬ l.length ≤ 6 by omega)]
  · simp only [if_neg h7]
    by_cases h8 : l.length < 14
    · simp only [if_pos h8]
    simp only [if_neg h8]
    by_cases h9 : 4611686018427387904 < leN (l.drop 6) 8
    · simp only [if_pos h9]
    simp only [if_neg h9]
    unfold headedR finR
    simp only [Nat.reduceAdd]
    by_cases h10 : l.length < 15
    · simp only [if_pos h10, if_pos (show l.length ≤ 14 by omega)]
    · simp only [if_neg h10, if_neg (show ¬ l.length ≤ 14 by omega)]
def restR (s : List UInt8) (f : FSt) : Except Nat (Nat × List UInt8) → Except Nat (List UInt8 × Nat)
  | .error c => .error c
  | .ok (a, out) => match endsR s out { f with a := a } with
    | .error c => .error c
    | .ok f6 => .ok (out, f6.a)
theorem frameR_head (s : List UInt8) (most : Nat) : frameR s most = match headR s most with
    | .error c => .error c
    | .ok f => restR s f (blocksR s f.room f.most (onOf f 16) f.a []) := by
  rw [← headR_chain]
  unfold frameR
  cases h1 : beginsR s ⟨0, most, 0, 0, 0⟩ with
  | error c => rfl
  | ok f1 =>
    simp only
    cases h2 : flagsR s f1 with
    | error c => rfl
    | ok f2 =>
      simp only
      cases h3 : sizesR s f2 with
      | error c => rfl
      | ok f3 =>
        simp only
        cases h4 : headedR s f3 with
        | error c => rfl
        | ok f4 =>
          simp only
          cases h5 : blocksR s f4.room f4.most (onOf f4 16) f4.a [] with
          | error c => rfl
          | ok x => obtain ⟨a, out⟩ := x; rfl
theorem finR_ok {l : List UInt8} {most e sz : Nat} {f : FSt} (h : finR l most e sz = .ok f) : f.most = most ∧ f.a ≤ l.length ∧ f.room = 2 ^ (8 + 2 * (at8 l 5 / 16)) ∧ f.size = sz := by
  unfold finR at h
  split at h
  · cases h
  · split at h
    · cases h; exact ⟨rfl, by simp; omega, rfl, rfl⟩
    · cases h
theorem headR_ok {l : List UInt8} {most : Nat} {f : FSt} (h : headR l most = .ok f) : f.most = most ∧ f.a ≤ l.length ∧ f.room ≤ 4194304 ∧ f.size ≤ 4611686018427387904 := by
  have hr : ∀ k, k ≤ 7 → 2 ^ (8 + 2 * k) ≤ 4194304 := fun k hk => Nat.le_trans (Nat.pow_le_pow_right (by decide) (show 8 + 2 * k ≤ 22 by omega)) (by decide)
  unfold headR at h
  split at h; · cases h
  split at h; · cases h
  split at h; · cases h
  split at h; · cases h
  split at h; · cases h
  split at h; · cases h
  rename_i h6
  split at h
  · obtain ⟨a, b, c, d⟩ := finR_ok h
    exact ⟨a, b, by rw [c]; exact hr _ (by omega), by rw [d]; decide⟩
  · split at h; · cases h
    split at h; · cases h
    obtain ⟨a, b, c, d⟩ := finR_ok h
    exact ⟨a, b, by rw [c]; exact hr _ (by omega), by rw [d]; omega⟩
theorem finR_err {l : List UInt8} {most e sz c : Nat} (h : finR l most e sz = .error c) : c ≠ 0 := by
  unfold finR at h
  split at h
  · cases h; decide
  · split at h <;> cases h; decide
theorem headR_err {l : List UInt8} {most c : Nat} (h : headR l most = .error c) : c ≠ 0 := by
  unfold headR at h
  split at h; · cases h; decide
  split at h; · cases h; decide
  split at h; · cases h; decide
  split at h; · cases h; decide
  split at h; · cases h; decide
  split at h; · cases h; decide
  split at h
  · exact finR_err h
  · split at h; · cases h; decide
    split at h; · cases h; decide
    exact finR_err h
theorem rnum_any (s : ByteArray) (a : Nat) (w : World) (hs : s.size ≤ 140737488351232) (ha : a ≤ s.size) :
    Calls Try.prog 14 #[.string (s.extract a s.size), .int .i64 4] w fun e w' => w = w' ∧ e = if s.size < a + 4 then .returned (.tuple #[.int .i64 0, .int .i64 5]) else .returned (.tuple #[.int .i64 (leN (s.data.toList.drop a) 4 : Nat), .int .i64 0]) := by
  have hl : (s.extract a s.size).data.toList = s.data.toList.drop a := by simp [List.take_of_length_le]
  have hz : (s.extract a s.size).size = s.size - a := by simp
  refine (rfixed_at (s.extract a s.size) 4 4 w rfl (by omega) (by decide) (by decide)).mono ?_
  rintro e w' ⟨rfl, rfl⟩
  refine ⟨rfl, ?_⟩
  rw [fixedN_four, list_size, hl, hz]
  by_cases h : s.size < a + 4
  · rw [if_pos h, if_pos (by omega)]; rfl
  · rw [if_neg h, if_neg (by omega)]; rfl
theorem rsum_at (s : ByteArray) (a : Nat) (x : Int) (t : ByteArray) (w : World) (hx : x = (a : Int)) (hs : s.size ≤ 140737488351232) (ha : a ≤ s.size) (ht : t.size ≤ 140737488351232) :
    Calls Try.prog 23 #[.string s, .int .i64 x, .string t] w fun e w' => e = .returned (.int .i64 (sumE s.data.toList true t.data.toList a : Nat)) ∧ Below w.heap.size w w' := by
  subst hx; exact rsum_any s a t w hs ha ht
theorem strOf_app (l m : List UInt8) : strOf l ++ strOf m = strOf (l ++ m) := by
  apply ByteArray.ext
  show (strOf l ++ strOf m).data = (l ++ m).toArray
  rw [ByteArray.data_append]
  simp [strOf]
theorem loBits2 (x : Nat) (h : x < 4294967296) : Go.bits .and .i64 (x : Int) 2147483647 = ((x % 2147483648 : Nat) : Int) := by
  have := and64 x 2147483647 (by omega) (by decide)
  refine this.trans ?_
  rw [show (2147483647 : Nat) = 2 ^ 31 - 1 from rfl, Nat.and_two_pow_sub_one_eq_mod]
/-- h, the head, lies at block g -/
def HdAt (W : World) (g : Nat) (f : FSt) : Prop :=
  W.heap[g]? = some (.cells (headC (onOf f 16) (onOf f 4) (if onOf f 8 = true then (f.size : Int) else -1) f.room f.a) 45)
theorem HdAt.later {W V : World} {g : Nat} {f : FSt} (h : HdAt W g f) (hb : Below W.heap.size W V) : HdAt V g f := (hb.block _ (heap_lt h)).trans h
theorem HdAt.cells {W : World} {g : Nat} {f : FSt} (h : HdAt W g f) : W.cell? ⟨g, 0, none⟩ = some (.bool (onOf f 16)) ∧ W.cell? ⟨g, 1, none⟩ = some (.bool (onOf f 4)) ∧
    W.cell? ⟨g, 2, none⟩ = some (.int .i64 (if onOf f 8 = true then (f.size : Int) else -1)) ∧ W.cell? ⟨g, 3, none⟩ = some (.int .i64 (f.room : Int)) ∧ W.cell? ⟨g, 4, none⟩ = some (.int .i64 (f.a : Int)) := by
  refine ⟨?_, ?_, ?_, ?_, ?_⟩ <;> exact (cell_of_row W g _ _ _ _ h).trans rfl
theorem sumE_le {T : List UInt8} {k : Nat} {z : ByteArray} (h : sumE z.data.toList true T k = 0) : k + 4 ≤ z.size := by
  unfold sumE at h
  rw [list_size] at h
  simp only [if_true] at h
  split at h
  · cases h
  · omega
theorem restR_ok (s : List UInt8) (f : FSt) (a : Nat) (out : List UInt8) : restR s f (.ok (a, out)) = if onOf f 8 = true ∧ f.size ≠ out.length then .error 70 else if sumE s (onOf f 4) out a = 0 then .ok (out, after (onOf f 4) a) else .error (sumE s (onOf f 4) out a) := by
  unfold restR endsR
  simp only
  rw [summed_sumE]
  show (match (if onOf f 8 = true ∧ f.size ≠ out.length then (Except.error 70 : Except Nat FSt) else if sumE s (onOf f 4) out a = 0 then Except.ok _ else Except.error _) with | Except.error c => Except.error c | Except.ok f6 => Except.ok (out, f6.a)) = _
  by_cases h : onOf f 8 = true ∧ f.size ≠ out.length
  · simp only [if_pos h]
  · simp only [if_neg h]
    by_cases k : sumE s (onOf f 4) out a = 0
    · simp only [if_pos k]; rfl
    · simp only [if_neg k]; rfl
end Go.Proofs.Ytipadidfiffkjaa
