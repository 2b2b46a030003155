/- sums.Crc, sums.CrcMore, and the reference's more, Crc, CrcMore: the same CRC-32C. -/
import Derived.Test.YtghiobmobihgpaaCrc
namespace Go.Proofs.Ytghiobmobihgpaa
open Go.RowKit Go.PostSums
set_option maxHeartbeats 400000 in
theorem Crc_any (s : ByteArray) (w : World) (hs : s.size ≤ maxLen) :
    Calls Try.prog 11 #[.string s] w fun e w' => e = .returned (.int .i64 (crcN 0 s.data.toList : Nat)) ∧ Below w.heap.size w w' := by
  have hl := crcN_lt 0 s.data.toList (by decide)
  generalize hx : crcN 0 s.data.toList = x at hl
  have Hx := Lib.hid hx; clear hx
  go_enter Try.func11, Try.ntmps11
  go_wp2_with (first | (go_at_call 21; refine (crc_any 0 s _ (by decide) hs).mono ?_; rintro e W ⟨rfl, hW⟩; rw [Hx.out]))
  go_ret
  exact ⟨rfl, hW⟩
set_option maxHeartbeats 400000 in
theorem CrcMore_any (c : Nat) (s : ByteArray) (w : World) (hc : c < 4294967296) (hs : s.size ≤ maxLen) :
    Calls Try.prog 18 #[.int .i64 (c : Int), .string s] w fun e w' => e = .returned (.tuple #[.int .i64 (crcN c s.data.toList : Nat), .int .i64 0]) ∧ Below w.heap.size w w' := by
  have hl := crcN_lt c s.data.toList hc
  generalize hx : crcN c s.data.toList = x at hl
  have Hx := Lib.hid hx; clear hx
  go_enter Try.func18, Try.ntmps18
  go_wp2_with (first | (go_at_call 21; refine (crc_any c s _ hc hs).mono ?_; rintro e W ⟨rfl, hW⟩; rw [Hx.out]))
  go_ret2
  exact ⟨rfl, hW⟩
set_option maxHeartbeats 400000 in
theorem CrcMore_bad (c : Int) (s : ByteArray) (w : World) (hc : c < 0 ∨ 4294967295 < c) :
    Calls Try.prog 18 #[.int .i64 c, .string s] w fun e w' => e = .returned (.tuple #[.int .i64 0, .int .i64 1]) ∧ Below w.heap.size w w' := by
  by_cases h : c < 0
  · go_enter Try.func18, Try.ntmps18
    go_wp2
    go_ret2
    exact ⟨rfl, Below.refl _ _⟩
  · have h2 : 4294967295 < c := by omega
    go_enter Try.func18, Try.ntmps18
    go_wp2
    go_ret2
    exact ⟨rfl, Below.refl _ _⟩
theorem bitN_odd (x : Nat) (h : x % 2 = 1) (hx : x < 4294967296) : Go.bits .xor .i64 ((x : Int) / 2) 2197175160 = ((bitN x : Nat) : Int) := by
  have := xor64 (x / 2) 2197175160 (by omega) (by decide)
  rw [show ((x / 2 : Nat) : Int) = (x : Int) / 2 by omega] at this
  rw [show ((2197175160 : Nat) : Int) = 2197175160 from rfl] at this
  rw [this]; unfold bitN poly; rw [if_pos h, Nat.shiftRight_eq_div_pow]
theorem bitN_ev (x : Nat) (h : ¬ x % 2 = 1) : ((x : Int) / 2) = ((bitN x : Nat) : Int) := by
  unfold bitN; rw [if_neg h, Nat.xor_zero, Nat.shiftRight_eq_div_pow]; omega
theorem bitsN_step (x j : Nat) : bitsN x (j + 1) = bitN (bitsN x j) := rfl
theorem bitsN_none (x : Nat) : bitsN x 0 = x := rfl
set_option maxHeartbeats 1000000 in
theorem refmore_any (c : Nat) (s : ByteArray) (w : World) (hc : c < 4294967296) (hs : s.size ≤ maxLen) :
    Calls Try.prog 22 #[.int .i64 (c : Int), .string s] w fun e w' => e = .returned (.int .i64 (regN c s.data.toList : Nat)) ∧ w = w' := by
  unfold maxLen at hs
  go_enter Try.func22, Try.ntmps22
  go_wp2
  go_loop [0, 5] (fun v0 v5 => ∃ k : Nat, k ≤ s.size ∧ v5 = .int .i64 k ∧ v0 = .int .i64 (regN c (s.data.toList.take k) : Nat)) (fun _ v5 => s.size - (intOf v5).toNat)
  case atStart => exact ⟨0, by omega, rfl, by rw [regN_zero]⟩
  case round =>
    obtain ⟨k, hk, rfl, rfl⟩ := hrel
    have hr := regN_lt (s.data.toList.take k) c hc
    by_cases hlt : k < s.size
    · have hsn := Lib.hid (regN_snoc c s k hlt)
      generalize regN c (s.data.toList.take k) = x at hr hsn
      have hb : s[k].toNat < 256 := s[k].toNat_lt
      have hx := xor64 x s[k].toNat (by omega) (by omega)
      have hxl : x ^^^ s[k].toNat < 4294967296 := Nat.xor_lt_two_pow (n := 32) hr (by omega)
      go_wp2
      clear hx
      have hst := Lib.hid (stepN_eq x s[k])
      unfold refN at hst
      go_loop [0, 6] (fun v0 v6 => ∃ j : Nat, j ≤ 8 ∧ v6 = .int .i64 j ∧ v0 = .int .i64 (bitsN (x ^^^ s[k].toNat) j : Nat)) (fun _ v6 => 8 - (intOf v6).toNat)
      case atStart => exact ⟨0, by omega, rfl, by rw [bitsN_none]⟩
      case round =>
        obtain ⟨j, hj, rfl, rfl⟩ := hrel
        have hy := bitsN_lt (x ^^^ s[k].toNat) j hxl
        by_cases hlj : j < 8
        · have hn := Lib.hid (bitsN_step (x ^^^ s[k].toNat) j)
          generalize bitsN (x ^^^ s[k].toNat) j = y at hy hn
          by_cases hodd : y % 2 = 1
          · have ho : ((y : Int) % 2 == 1) = true := beq_iff_eq.2 (by omega)
            have hb := Lib.hid (bitN_odd y hodd hy)
            clear hodd
            go_wp2
            go_round
            case rel => exact ⟨j + 1, by omega, by go_num, by rw [hn.out, hb.out]⟩
            case measure => simp [intOf]; omega
          · have ho : ((y : Int) % 2 == 1) = false := beq_eq_false_iff_ne.2 (by omega)
            have hb := Lib.hid (bitN_ev y hodd)
            clear hodd
            go_wp2
            go_round
            case rel => exact ⟨j + 1, by omega, by go_num, by rw [hn.out, hb.out]⟩
            case measure => simp [intOf]; omega
        · obtain rfl : j = 8 := by omega
          go_wp2
          go_round
          case rel => exact ⟨k + 1, by omega, by go_num, by rw [hsn.out, hst.out]⟩
          case measure => simp [intOf]; omega
    · obtain rfl : k = s.size := by omega
      rw [List.take_of_length_le (by simp)] at hr ⊢
      go_wp2
      go_ret
      exact ⟨rfl, rfl⟩
set_option maxHeartbeats 400000 in
theorem RCrc_any (s : ByteArray) (w : World) (hs : s.size ≤ maxLen) :
    Calls Try.prog 12 #[.string s] w fun e w' => e = .returned (.int .i64 (crcN 0 s.data.toList : Nat)) ∧ w = w' := by
  have hr := regN_lt s.data.toList full (by decide)
  have hx := xor64 4294967295 (regN full s.data.toList) (by decide) (by omega)
  have hd : crcN 0 s.data.toList = full ^^^ regN full s.data.toList := by unfold crcN; rw [Nat.xor_zero]
  unfold full at hr hx hd
  have Hd := Lib.hid hd; clear hd
  have hm := refmore_any 4294967295 s w (by decide) hs
  rw [show ((4294967295 : Nat) : Int) = 4294967295 from rfl] at hx hm
  have HM := Lib.hid hm; clear hm
  go_enter Try.func12, Try.ntmps12
  go_wp2_with (first | (go_at_call 22; refine (HM.out).mono ?_; rintro e W ⟨rfl, rfl⟩))
  go_ret
  exact ⟨by rw [Hd.out]; rfl, rfl⟩
set_option maxHeartbeats 400000 in
theorem RCrcMore_any (c : Nat) (s : ByteArray) (w : World) (hc : c < 4294967296) (hs : s.size ≤ maxLen) :
    Calls Try.prog 19 #[.int .i64 (c : Int), .string s] w fun e w' => e = .returned (.tuple #[.int .i64 (crcN c s.data.toList : Nat), .int .i64 0]) ∧ w = w' := by
  have hf := xfull_lt c hc
  have hr := regN_lt s.data.toList (full ^^^ c) hf
  have hx := xor64 4294967295 (regN (full ^^^ c) s.data.toList) (by decide) (by omega)
  have hy := xor64 4294967295 c (by decide) (by omega)
  have hd : crcN c s.data.toList = full ^^^ regN (full ^^^ c) s.data.toList := rfl
  unfold full at hr hx hd hf
  have Hd := Lib.hid hd; clear hd
  have hm := refmore_any (4294967295 ^^^ c) s w hf hs
  rw [show ((4294967295 : Nat) : Int) = 4294967295 from rfl] at hx hy
  have HM := Lib.hid hm; clear hm
  go_enter Try.func19, Try.ntmps19
  go_wp2_with (first | (go_at_call 22; refine (HM.out).mono ?_; rintro e W ⟨rfl, rfl⟩))
  go_ret2
  exact ⟨by rw [Hd.out]; rfl, rfl⟩
set_option maxHeartbeats 400000 in
theorem RCrcMore_bad (c : Int) (s : ByteArray) (w : World) (hc : c < 0 ∨ 4294967295 < c) :
    Calls Try.prog 19 #[.int .i64 c, .string s] w fun e w' => e = .returned (.tuple #[.int .i64 0, .int .i64 1]) ∧ w = w' := by
  by_cases h : c < 0
  · go_enter Try.func19, Try.ntmps19
    go_wp2
    go_ret2
    exact ⟨rfl, rfl⟩
  · have h2 : 4294967295 < c := by omega
    go_enter Try.func19, Try.ntmps19
    go_wp2
    go_ret2
    exact ⟨rfl, rfl⟩
end Go.Proofs.Ytghiobmobihgpaa
