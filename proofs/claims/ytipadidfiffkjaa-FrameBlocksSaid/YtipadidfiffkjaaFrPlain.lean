/- What reading a frame's blocks answers, in plain words. -/
import Derived.Test.YtipadidfiffkjaaFrBlock
namespace Go.Proofs.Ytipadidfiffkjaa
open Go.RowKit Go.PostSums Go.PostMem
def sumE (s : List UInt8) (on : Bool) (t : List UInt8) (a : Nat) : Nat :=
  if on then (if s.length < a + 4 then 5 else if leN (s.drop a) 4 = hashN 0 t then 0 else 71) else 0
def after (on : Bool) (a : Nat) : Nat := if on then a + 4 else a
theorem after_le (on : Bool) (a : Nat) : a ≤ after on a := by unfold after; split <;> omega
theorem summed_sumE (s : List UInt8) (on : Bool) (t : List UInt8) (f : FSt) : summedR s on t f = if sumE s on t f.a = 0 then .ok { f with a := after on f.a } else .error (sumE s on t f.a) := by
  unfold summedR sumE after
  cases on
  · rfl
  · simp only [if_true]
    split
    · rfl
    · split <;> rfl
def blocksG (X : Nat → Nat) (N H : Nat → Nat) (T : Nat → Nat → List UInt8) (E : List UInt8 → Nat → Nat) (U : List UInt8 → List UInt8 × Nat) (A : Nat → Nat) (hA : ∀ a, a ≤ A a) (L room most : Nat) (a : Nat) (out : List UInt8) : Except Nat (Nat × List UInt8) :=
  if _h : L < a + 4 then .error 5 else
  if X a = 0 then .ok (a + 4, out) else
  if N (X a) = 0 ∨ room < N (X a) then .error 70 else
  if L < a + 4 + N (X a) then .error 5 else
  if E (T (a + 4) (N (X a))) (a + 4 + N (X a)) ≠ 0 then .error (E (T (a + 4) (N (X a))) (a + 4 + N (X a))) else
  if (if H (X a) = 1 then (T (a + 4) (N (X a)), 0) else U (T (a + 4) (N (X a)))).2 ≠ 0 then .error (if H (X a) = 1 then (T (a + 4) (N (X a)), 0) else U (T (a + 4) (N (X a)))).2 else
  if most < out.length + (if H (X a) = 1 then (T (a + 4) (N (X a)), 0) else U (T (a + 4) (N (X a)))).1.length then .error 4 else
  blocksG X N H T E U A hA L room most (A (a + 4 + N (X a))) (out ++ (if H (X a) = 1 then (T (a + 4) (N (X a)), 0) else U (T (a + 4) (N (X a)))).1)
termination_by L - a
decreasing_by
  have := hA (a + 4 + N (X a))
  omega
def lo31 (x : Nat) : Nat := x % 2147483648
def hi31 (x : Nat) : Nat := x / 2147483648
def blocksR (s : List UInt8) (room most : Nat) (on : Bool) (a : Nat) (out : List UInt8) : Except Nat (Nat × List UInt8) :=
  blocksG (fun a => leN (s.drop a) 4) lo31 hi31 (fun a n => (s.drop a).take n) (sumE s on) (unpackedR room) (after on) (after_le on) s.length room most a out
theorem hiBit (x : Nat) (h : x < 4294967296) : Go.bits .and .i64 (x : Int) 2147483648 = ((x / 2147483648 * 2147483648 : Nat) : Int) := by
  have := and64 x 2147483648 (by omega) (by decide)
  refine this.trans ?_
  have e : x &&& 2147483648 = x / 2147483648 * 2147483648 := by
    apply Nat.eq_of_testBit_eq
    intro i
    rw [Nat.testBit_and, show (2147483648 : Nat) = 2 ^ 31 from by decide, Nat.testBit_two_pow, Nat.testBit_mul_two_pow, Nat.testBit_div_two_pow]
    by_cases h1 : i = 31
    · subst h1; simp
    · by_cases h2 : 31 ≤ i
      · have : x.testBit i = false := Nat.testBit_lt_two_pow (Nat.lt_of_lt_of_le h (Nat.le_trans (by decide : 4294967296 ≤ 2 ^ 32) (Nat.pow_le_pow_right (by decide) (by omega))))
        rw [show i - 31 + 31 = i by omega, this]
        simp
      · simp [h2]; omega
  rw [e]
theorem loBits (x : Nat) (h : x < 4294967296) : Go.bits .andNot .i64 (x : Int) 2147483648 = ((x % 2147483648 : Nat) : Int) := by
  show IntKind.i64.wrap ((BitVec.ofInt 64 (x : Int) &&& ~~~BitVec.ofInt 64 (2147483648 : Int)).toNat : Int) = _
  have e1 : (BitVec.ofInt 64 (x : Int)).toNat = x := by rw [BitVec.ofInt_natCast, BitVec.toNat_ofNat]; exact Nat.mod_eq_of_lt (by omega)
  have e2 : (~~~BitVec.ofInt 64 (2147483648 : Int)).toNat = 18446744071562067967 := by decide
  have e3 : x &&& 18446744071562067967 = x % 2147483648 := by
    apply Nat.eq_of_testBit_eq
    intro i
    rw [Nat.testBit_and, show (2147483648 : Nat) = 2 ^ 31 by decide, Nat.testBit_mod_two_pow]
    rcases Nat.lt_or_ge i 32 with h1 | h1
    · have : (18446744071562067967 : Nat).testBit i = decide (i < 31) := (show ∀ i : Fin 32, (18446744071562067967 : Nat).testBit i.val = decide (i.val < 31) by decide) ⟨i, h1⟩
      rw [this, Bool.and_comm]
    · have : x.testBit i = false := Nat.testBit_lt_two_pow (Nat.lt_of_lt_of_le h (Nat.le_trans (by decide : 4294967296 ≤ 2 ^ 32) (Nat.pow_le_pow_right (by decide) h1)))
      rw [this]; simp
  rw [BitVec.toNat_and, e1, e2, e3]
  exact wrap_i64_in _ (by omega) (by omega)
end Go.Proofs.Ytipadidfiffkjaa
