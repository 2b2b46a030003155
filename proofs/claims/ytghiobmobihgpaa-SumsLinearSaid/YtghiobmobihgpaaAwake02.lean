/- awake of the statements of layer 2; the walks of SumsCrc and SumsHash. -/
import Derived.Test.YtghiobmobihgpaaHash
namespace Go.Proofs.Ytghiobmobihgpaa
open Go.RowKit Go.PostSums
theorem crc_check : crcN 0 [49, 50, 51, 52, 53, 54, 55, 56, 57] = 3808858755 := by decide +kernel
theorem Crc_check (w : World) : Calls Try.prog 11 #[.string ⟨#[49, 50, 51, 52, 53, 54, 55, 56, 57]⟩] w fun e w' => e = .returned (.int .i64 3808858755) ∧ Below w.heap.size w w' := by
  refine (Crc_any ⟨#[49, 50, 51, 52, 53, 54, 55, 56, 57]⟩ w (by decide)).mono fun e w' ⟨he, hb⟩ => ⟨?_, hb⟩
  rw [he]
  exact ret_intN (by rw [show (ByteArray.data ⟨#[49, 50, 51, 52, 53, 54, 55, 56, 57]⟩).toList = [49, 50, 51, 52, 53, 54, 55, 56, 57] from rfl, crc_check]; rfl)
theorem Hash_check (w : World) : Calls Try.prog 14 #[.string ⟨#[]⟩, .int .i64 0] w fun e w' => e = .returned (.int .i64 46947589) ∧ Below w.heap.size w w' := by
  refine (Hash_any ⟨#[]⟩ 0 w (by decide)).mono fun e w' ⟨he, hb⟩ => ⟨?_, hb⟩
  rw [he]
  exact ret_intN (by rw [show (ByteArray.data ⟨#[]⟩).toList = [] from rfl, show ((0 : Int) % 4294967296).toNat = 0 from rfl, PostSums.hash_check]; rfl)
set_option maxHeartbeats 400000 in
theorem awake02 (w : World) : Calls Try.prog 13 #[] w fun e w' => e = .returned (.bool true) ∧ Below w.heap.size w w' := by
  go_enter Try.func13, Try.ntmps13
  go_wp2_with (first
    | (go_at_call 11; refine (Crc_check _).mono ?_; rintro e W1 ⟨rfl, hB1⟩)
    | (go_at_call 14; refine (Hash_check _).mono ?_; rintro e W2 ⟨rfl, hB2⟩))
  go_ret
  exact ⟨rfl, hB1.trans (hB2.mono hB1.size)⟩
set_option maxHeartbeats 400000 in
theorem SumsCrc_walk (s : ByteArray) (w : World) (hs : s.size ≤ 140737488351232) :
    Calls Try.prog 3 #[.string s] w fun e w' => e = .returned (.bool true) ∧ Below w.heap.size w w' := by
  have hm : s.size ≤ maxLen := by unfold maxLen; omega
  go_enter Try.func3, Try.ntmps3
  go_wp2_with (first
    | (go_at_call 11; refine (Crc_any s _ hm).mono ?_; rintro e W1 ⟨rfl, hB1⟩)
    | (go_at_call 12; refine (RCrc_any s _ hm).mono ?_; rintro e W2 ⟨rfl, rfl⟩)
    | (go_at_call 13; refine (awake02 _).mono ?_; rintro e W3 ⟨rfl, hB3⟩))
  go_ret
  exact ⟨rfl, hB1.trans (hB3.mono hB1.size)⟩
end Go.Proofs.Ytghiobmobihgpaa
