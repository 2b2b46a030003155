/- Turning, multiplying and putting bytes together: the model's whole numbers read as natural ones. -/
import Derived.Test.YtipadidfiffkjaaBits
import Derived.Test.YtipadidfiffkjaaXxhPlain
import Derived.IntWalk
namespace Go.PostSums
open Go.RowKit
theorem wrap64_in (n : Int) (h0 : -9223372036854775808 ≤ n) (h1 : n < 9223372036854775808) : wrap64 n = n := by unfold wrap64; omega
theorem and_all (x : Int) : bits .and .i64 x 4294967295 = x % 4294967296 := by
  have h : (BitVec.ofInt 64 x &&& BitVec.ofInt 64 4294967295).toNat = (x % 4294967296).toNat := by
    rw [BitVec.toNat_and]
    have e2 : (BitVec.ofInt 64 4294967295).toNat = 2 ^ 32 - 1 := by decide
    rw [e2, Nat.and_two_pow_sub_one_eq_mod, BitVec.toNat_ofInt]
    have : ((2 : Int) ^ 64) = 18446744073709551616 := by decide
    have h3 : ((2 ^ 64 : Nat) : Int) = 18446744073709551616 := by decide
    rw [h3]
    have h4 : (2 : Nat) ^ 32 = 4294967296 := by decide
    rw [h4]
    omega
  have hb : 0 ≤ x % 4294967296 ∧ x % 4294967296 < 4294967296 := ⟨Int.emod_nonneg _ (by decide), Int.emod_lt_of_pos _ (by decide)⟩
  show IntKind.i64.wrap ((BitVec.ofInt 64 x &&& BitVec.ofInt 64 4294967295).toNat : Int) = _
  rw [h, IntKind.wrap_i64]
  omega
theorem mask31 (n : Nat) (hn : n < 32) : bits .and .u64 (n : Int) 31 = n := by
  have := bits_mask .u64 32 (by decide) (fun n h0 h1 => by simp [IntKind.wrap, IntKind.bits, IntKind.signed]; omega) 5 (by decide) n (by omega) (by omega)
  rw [show ((2 : Int) ^ 5 - 1) = 31 by decide] at this
  rw [this, show ((2 : Int) ^ 5) = 32 by decide]; omega
theorem pow_split (n : Nat) (hn : n ≤ 32) : 2 ^ (32 - n) * 2 ^ n = 4294967296 := by rw [← Nat.pow_add, Nat.sub_add_cancel hn]
theorem high_lt (x n : Nat) (hx : x < 4294967296) (hn : n ≤ 32) : x / 2 ^ (32 - n) < 2 ^ n := Nat.div_lt_of_lt_mul (by rw [pow_split n hn]; exact hx)
theorem low_eq (x n : Nat) (hn : n ≤ 32) : x * 2 ^ n % 4294967296 = (x % 2 ^ (32 - n)) * 2 ^ n := by
  rw [← pow_split n hn, Nat.mul_mod_mul_right]
theorem cast_pow (n : Nat) : ((2 : Int) ^ n) = ((2 ^ n : Nat) : Int) := by simp
theorem cast_mul (a b : Nat) : ((a * b : Nat) : Int) = (a : Int) * (b : Int) := Int.natCast_mul a b
theorem cast_div (a b : Nat) : ((a / b : Nat) : Int) = (a : Int) / (b : Int) := Int.natCast_ediv a b
theorem cast_mod (a b : Nat) : ((a % b : Nat) : Int) = (a : Int) % (b : Int) := Int.natCast_emod a b
theorem cast_add (a b : Nat) : ((a + b : Nat) : Int) = (a : Int) + (b : Int) := Int.natCast_add a b
theorem rot_u32 (x n : Nat) (hx : x < 4294967296) (hn : n < 32) : bits .or .u32 ((x : Int) * 2 ^ n % 4294967296) ((x : Int) / 2 ^ (32 - n)) = ((rotN x n : Nat) : Int) := by
  have hl := low_eq x n (by omega)
  have hh := high_lt x n hx (by omega)
  have hr := rotN_lt x n hx (by omega)
  have hp : 2 ^ n ≤ 2 ^ 31 := Nat.pow_le_pow_right (by decide) (by omega)
  have hz : (x % 2 ^ (32 - n)) * 2 ^ n % 2 ^ n = 0 := Nat.mul_mod_left _ _
  unfold rotN at hr ⊢
  have e1 : ((x : Int) * 2 ^ n % 4294967296) = (((x % 2 ^ (32 - n)) * 2 ^ n : Nat) : Int) := by
    rw [← hl, cast_mod, cast_mul, ← cast_pow]; rfl
  have e2 : ((x : Int) / 2 ^ (32 - n)) = ((x / 2 ^ (32 - n) : Nat) : Int) := by rw [cast_div, ← cast_pow]
  rw [e1, e2]
  generalize (x % 2 ^ (32 - n)) * 2 ^ n = u at *
  generalize x / 2 ^ (32 - n) = v at *
  rw [bits_join .u32 32 (by decide) wrap_u32_in n _ _ (by omega) ?_ (by omega) (by omega) ?_ (by omega)]
  · rw [cast_add]
  · rw [cast_pow, ← cast_mod, hz]; rfl
  · rw [cast_pow]; exact Int.ofNat_lt.2 hh
theorem rot_i64 (x n : Nat) (hx : x < 4294967296) (hn : n < 32) :
    bits .and .i64 (bits .or .i64 (wrap64 ((x : Int) * 2 ^ n)) ((x : Int) / 2 ^ (32 - n))) 4294967295 = ((rotN x n : Nat) : Int) := by
  have hh := high_lt x n hx (by omega)
  have hl := low_eq x n (by omega)
  have hr := rotN_lt x n hx (by omega)
  have hp : 2 ^ n ≤ 2147483648 := Nat.le_trans (Nat.pow_le_pow_right (by decide) (show n ≤ 31 by omega)) (by decide)
  have hm : x * 2 ^ n ≤ 9223372036854775807 := Nat.le_trans (Nat.mul_le_mul (show x ≤ 4294967295 by omega) hp) (by decide)
  have hz : x * 2 ^ n % 2 ^ n = 0 := Nat.mul_mod_left _ _
  have e1 : ((x : Int) * 2 ^ n) = ((x * 2 ^ n : Nat) : Int) := by rw [cast_mul, ← cast_pow]
  have e2 : ((x : Int) / 2 ^ (32 - n)) = ((x / 2 ^ (32 - n) : Nat) : Int) := by rw [cast_div, ← cast_pow]
  unfold rotN at hr ⊢
  rw [← hl] at hr ⊢
  rw [e1, e2]
  generalize x * 2 ^ n = u at *
  generalize x / 2 ^ (32 - n) = v at *
  generalize hq : 2 ^ n = q at *
  rw [wrap64_in _ (by omega) (by omega), bits_join .i64 63 (by decide) wrap_i64_in n _ _ (by omega) ?_ (by omega) (by omega) ?_ (by omega), and_all]
  · omega
  · rw [cast_pow, hq, ← cast_mod, hz]; rfl
  · rw [cast_pow, hq]; exact Int.ofNat_lt.2 hh
theorem mul_i64 (a b : Nat) (ha : a < 4294967296) (hb : b < 4294967296) :
    bits .and .i64 (wrap64 (wrap64 ((wrap64 ((a : Int) * ((b : Int) / 65536))).tmod 65536 * 65536) + wrap64 ((a : Int) * ((b : Int) % 65536)))) 4294967295 = ((a * b % 4294967296 : Nat) : Int) := by
  have e : a * b = a * (b / 65536) * 65536 + a * (b % 65536) := by
    conv => lhs; rw [← Nat.div_add_mod b 65536]
    rw [Nat.mul_add, Nat.mul_comm 65536, Nat.mul_assoc]
  have h1 : a * (b / 65536) ≤ 4294967296 * 65536 := Nat.mul_le_mul (by omega) (by omega)
  have h2 : a * (b % 65536) ≤ 4294967296 * 65536 := Nat.mul_le_mul (by omega) (by omega)
  rw [e]
  rw [show ((a : Int) * ((b : Int) / 65536)) = ((a * (b / 65536) : Nat) : Int) by rw [cast_mul, cast_div]; rfl, show ((a : Int) * ((b : Int) % 65536)) = ((a * (b % 65536) : Nat) : Int) by rw [cast_mul, cast_mod]; rfl]
  generalize a * (b / 65536) = p at *
  generalize a * (b % 65536) = q at *
  rw [wrap64_in (p : Int) (by omega) (by omega), wrap64_in (q : Int) (by omega) (by omega), Int.tmod_eq_emod_of_nonneg (by omega), wrap64_in (((p : Int) % 65536) * 65536) (by omega) (by omega), wrap64_in _ (by omega) (by omega), and_all]
  omega
end Go.PostSums
