/- sums.crc, sums.Crc, sums.CrcMore: they tell CRC-32C of the bytes, and leave what was there as it was. -/
import Derived.Test.YtghiobmobihgpaaTable
namespace Go.Proofs.Ytghiobmobihgpaa
open Go.RowKit Go.PostSums
theorem tab_at (n : Nat) (h : n < 256) : (u32s (tabTo 256))[n]? = some (.int .u32 (entN n : Nat)) := by
  rw [u32s_get]; unfold tabTo
  simp [h]
theorem tab_at' (n : Nat) (h : n < 256) (hh : n < (u32s (tabTo 256)).size) : (u32s (tabTo 256))[n]'hh = .int .u32 (entN n : Nat) := by
  have := tab_at n h
  rw [Array.getElem?_eq_getElem hh] at this
  exact Option.some.inj this
theorem take_snoc8 (s : ByteArray) (k : Nat) (h : k < s.size) : s.data.toList.take (k + 1) = s.data.toList.take k ++ [s[k]] := by
  rw [List.take_succ_eq_append_getElem (by simpa using h)]; rfl
theorem regN_zero (c : Nat) (l : List UInt8) : regN c (l.take 0) = c := rfl
theorem regN_snoc (c : Nat) (s : ByteArray) (k : Nat) (h : k < s.size) : regN c (s.data.toList.take (k + 1)) = stepN (regN c (s.data.toList.take k)) s[k] := by
  rw [take_snoc8 s k h, regN_append]; rfl
set_option maxHeartbeats 400000 in
set_option maxRecDepth 100000 in
theorem crc_any (c : Nat) (s : ByteArray) (w : World) (hc : c < 4294967296) (hs : s.size ≤ maxLen) :
    Calls Try.prog 21 #[.int .u32 (c : Int), .string s] w fun e w' => e = .returned (.int .u32 (crcN c s.data.toList : Nat)) ∧ Below w.heap.size w w' := by
  unfold maxLen at hs
  have hz := zeroTab
  have hst := fun (W : World) => run_storeCells_new (P := Try.prog) W 53 (u32s tab0) (u32s (tabTo 256)) (by rw [tab_size]; exact sizeTab) (by rw [tab_size, tab0_size]) (u32s_one _)
  have hx0 := xor32 4294967295 c (by decide) hc
  rw [← max32] at hx0
  go_enter Try.func21, Try.ntmps21
  go_wp2_with (first | (go_at_call 29; refine (table_any _).mono ?_; rintro e W ⟨rfl, hW⟩; have HW := Lib.hid hW; clear hW))
  clear hx0
  go_loop [0, 12] (fun v0 v12 => ∃ k : Nat, k ≤ s.size ∧ v12 = .int .i64 k ∧ v0 = .int .u32 (regN (full ^^^ c) (s.data.toList.take k) : Nat)) (fun _ v12 => s.size - (intOf v12).toNat)
  case atStart => exact ⟨0, by omega, rfl, by rw [regN_zero]; unfold full; rfl⟩
  case round =>
    obtain ⟨k, hk, rfl, rfl⟩ := hrel
    have hr := regN_lt (s.data.toList.take k) (full ^^^ c) (xfull_lt c hc)
    by_cases hlt : k < s.size
    · have hsn := Lib.hid (regN_snoc (full ^^^ c) s k hlt)
      generalize regN (full ^^^ c) (s.data.toList.take k) = x at hr hsn
      have hb : s[k].toNat < 256 := s[k].toNat_lt
      have hx8 := xor8 (x % 256) s[k].toNat (by omega) hb
      rw [show ((x % 256 : Nat) : Int) = (x : Int) % 256 by omega] at hx8
      have hlt8 : x % 256 ^^^ s[k].toNat < 256 := Nat.xor_lt_two_pow (n := 8) (by omega) hb
      have hta := tab_at _ hlt8
      have htb := tab_at' _ hlt8
      have hx32 := xor32 (entN (x % 256 ^^^ s[k].toNat)) (x / 256) (bitsN_lt _ 8 (by omega)) (by omega)
      rw [show ((x / 256 : Nat) : Int) = (x : Int) / 256 by omega] at hx32
      go_wp2
      go_round
      case rel => exact ⟨k + 1, by omega, by go_num, by rw [hsn.out]; rfl⟩
      case measure => simp [intOf]; omega
    · obtain rfl : k = s.size := by omega
      rw [List.take_of_length_le (by simp)] at hr ⊢
      have hx0 := xor32 4294967295 (regN (full ^^^ c) s.data.toList) (by decide) hr
      rw [← max32] at hx0
      go_wp2
      go_ret
      refine ⟨rfl, ?_⟩
      rw [HW.out]
      exact ((Below.refl _ _).alloc (Nat.le_refl _) _).alloc (by simp) _
end Go.Proofs.Ytghiobmobihgpaa
