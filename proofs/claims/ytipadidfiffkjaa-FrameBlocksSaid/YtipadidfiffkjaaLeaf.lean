/- Small functions under xxHash32: math/bits.RotateLeft32, the reference's mul, turned, four. They only read. -/
import Derived.Test.YtipadidfiffkjaaRows
import Derived.Test.YtipadidfiffkjaaRot
import Derived.WalkKit
import Derived.WalkSpells
import Derived.WalkLawsBesides
import Derived.Deep.QuietTactic
import Derived.BigQuiet
import Derived.Lib.Hide
namespace Go.Proofs.Ytipadidfiffkjaa
open Go.RowKit Go.PostSums
theorem ret_intN {k : IntKind} {a b : Int} (h : a = b) : Ending.returned (.int k a) = .returned (.int k b) := by rw [h]
set_option maxHeartbeats 400000 in
theorem rot32_any (x n : Nat) (w : World) (hx : x < 4294967296) (hn : n < 32) :
    Calls Try.prog 54 #[.int .u32 (x : Int), .int .i64 (n : Int)] w fun e w' => e = .returned (.int .u32 (rotN x n : Nat)) ∧ w = w' := by
  have ha := mask31 n hn
  have HR := Lib.hid (rot_u32 x n hx hn)
  go_enter Try.func54, Try.ntmps54
  go_wp2
  go_ret
  exact ⟨ret_intN HR.out, rfl⟩
set_option maxHeartbeats 400000 in
theorem rmul_any (a b : Nat) (w : World) (ha : a < 4294967296) (hb : b < 4294967296) :
    Calls Try.prog 44 #[.int .i64 (a : Int), .int .i64 (b : Int)] w fun e w' => e = .returned (.int .i64 (a * b % 4294967296 : Nat)) ∧ w = w' := by
  have HR := Lib.hid (mul_i64 a b ha hb)
  go_enter Try.func44, Try.ntmps44
  go_wp2
  go_ret
  exact ⟨ret_intN HR.out, rfl⟩
set_option maxHeartbeats 400000 in
theorem rturned_any (x n : Nat) (w : World) (hx : x < 4294967296) (hn : n < 32) :
    Calls Try.prog 45 #[.int .i64 (x : Int), .int .i64 (n : Int)] w fun e w' => e = .returned (.int .i64 (rotN x n : Nat)) ∧ ∃ m, w' = w.drewN m := by
  have HR := Lib.hid (rot_i64 x n hx hn)
  go_enter Try.func45, Try.ntmps45
  go_wp2
  go_quiet (fail)
  go_wp2
  go_ret
  exact ⟨ret_intN HR.out, _, rfl⟩
theorem at8_get (s : ByteArray) (i : Nat) (h : i < s.size) : at8 s.data.toList i = s[i].toNat := by
  unfold at8
  rw [List.getD_eq_getElem?_getD, List.getElem?_eq_getElem (by simpa using h)]; rfl
theorem four_sum (a b c d : Nat) (ha : a < 256) (hb : b < 256) (hc : c < 256) (hd : d < 256) :
    wrap64 (wrap64 (wrap64 (wrap64 (a : Int) + wrap64 (wrap64 (b : Int) * 256)) + wrap64 (wrap64 (c : Int) * 65536)) + wrap64 (wrap64 (d : Int) * 16777216)) = ((a + 256 * b + 65536 * c + 16777216 * d : Nat) : Int) := by
  rw [wrap64_in (a : Int) (by omega) (by omega), wrap64_in (b : Int) (by omega) (by omega), wrap64_in (c : Int) (by omega) (by omega), wrap64_in (d : Int) (by omega) (by omega),
    wrap64_in ((b : Int) * 256) (by omega) (by omega), wrap64_in ((c : Int) * 65536) (by omega) (by omega), wrap64_in ((d : Int) * 16777216) (by omega) (by omega),
    wrap64_in ((a : Int) + (b : Int) * 256) (by omega) (by omega), wrap64_in ((a : Int) + (b : Int) * 256 + (c : Int) * 65536) (by omega) (by omega),
    wrap64_in _ (by omega) (by omega)]
  omega
set_option maxHeartbeats 400000 in
theorem rfour_any (s : ByteArray) (i : Nat) (w : World) (hs : s.size ≤ maxLen) (hi : i + 3 < s.size) :
    Calls Try.prog 46 #[.string s, .int .i64 (i : Int)] w fun e w' => e = .returned (.int .i64 (word s.data.toList i : Nat)) ∧ ∃ m, w' = w.drewN m := by
  unfold maxLen at hs
  have i0 : (i : Int) < s.size := by omega
  have i1 : (i : Int) + 1 < s.size := by omega
  have i2 : (i : Int) + 2 < s.size := by omega
  have i3 : (i : Int) + 3 < s.size := by omega
  have n0 : i < s.size := by omega
  have n1 : i + 1 < s.size := by omega
  have n2 : i + 2 < s.size := by omega
  have n3 : i + 3 < s.size := by omega
  have Hw : Hid (word s.data.toList i = s[i].toNat + 256 * s[i + 1].toNat + 65536 * s[i + 2].toNat + 16777216 * s[i + 3].toNat) := Lib.hid (by
    unfold word; rw [at8_get s i n0, at8_get s _ n1, at8_get s _ n2, at8_get s _ n3])
  have w1 : IntKind.i64.wrap ((i : Int) + 1) = (i : Int) + 1 := IntWalk.i64_in _ (by omega)
  have w2 : IntKind.i64.wrap ((i : Int) + 2) = (i : Int) + 2 := IntWalk.i64_in _ (by omega)
  have w3 : IntKind.i64.wrap ((i : Int) + 3) = (i : Int) + 3 := IntWalk.i64_in _ (by omega)
  have p1 : 0 ≤ (i : Int) + 1 := by omega
  have p2 : 0 ≤ (i : Int) + 2 := by omega
  have p3 : 0 ≤ (i : Int) + 3 := by omega
  have t1 : ((i : Int) + 1).toNat = i + 1 := by omega
  have t2 : ((i : Int) + 2).toNat = i + 2 := by omega
  have t3 : ((i : Int) + 3).toNat = i + 3 := by omega
  go_enter Try.func46, Try.ntmps46
  go_wp2
  go_quiet (fail)
  go_wp2
  go_ret
  refine ⟨ret_intN ?_, _, rfl⟩
  rw [Hw.out]
  exact four_sum _ _ _ _ s[i].toNat_lt s[i + 1].toNat_lt s[i + 2].toNat_lt s[i + 3].toNat_lt
/-- RotateLeft32 at whatever stands at the call. -/
theorem rot32_int (x : Int) (n : Nat) (w : World) (h0 : 0 ≤ x) (h1 : x < 4294967296) (hn : n < 32) :
    Calls Try.prog 54 #[.int .u32 x, .int .i64 (n : Int)] w fun e w' => e = .returned (.int .u32 (rotN x.toNat n : Nat)) ∧ w' = w := by
  have := rot32_any x.toNat n w (by omega) hn
  rw [Int.toNat_of_nonneg h0] at this
  exact this.mono fun e w' ⟨he, hw⟩ => ⟨he, hw.symm⟩
theorem rturned_int (x : Int) (n : Nat) (w : World) (h0 : 0 ≤ x) (h1 : x < 4294967296) (hn : n < 32) :
    Calls Try.prog 45 #[.int .i64 x, .int .i64 (n : Int)] w fun e w' => e = .returned (.int .i64 (rotN x.toNat n : Nat)) ∧ ∃ m, w' = w.drewN m := by
  have := rturned_any x.toNat n w (by omega) hn
  rwa [Int.toNat_of_nonneg h0] at this
theorem rmul_int (a b : Int) (w : World) (h0 : 0 ≤ a) (h1 : a < 4294967296) (h2 : 0 ≤ b) (h3 : b < 4294967296) :
    Calls Try.prog 44 #[.int .i64 a, .int .i64 b] w fun e w' => e = .returned (.int .i64 (a.toNat * b.toNat % 4294967296 : Nat)) ∧ w' = w := by
  have := rmul_any a.toNat b.toNat w (by omega) (by omega)
  rw [Int.toNat_of_nonneg h0, Int.toNat_of_nonneg h2] at this
  exact this.mono fun e w' ⟨he, hw⟩ => ⟨he, hw.symm⟩
end Go.Proofs.Ytipadidfiffkjaa
