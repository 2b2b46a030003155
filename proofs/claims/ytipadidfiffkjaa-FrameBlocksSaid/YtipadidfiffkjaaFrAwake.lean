/- awake of the frame's laws; the contracts at given answers. -/
import Derived.Test.YtipadidfiffkjaaFrLaw
import Derived.Test.YtipadidfiffkjaaFrRUnp
namespace Go.Proofs.Ytipadidfiffkjaa
open Go.RowKit Go.PostSums Go.PostMem
theorem RFUnpack_any (s : ByteArray) (most : Int) (w : World) (hs : s.size ≤ 140737488351232) :
    Calls Try.prog 11 #[.string s, .int .i64 most] w (UnpP (frUnpack s.data.toList most) w) := by
  unfold frUnpack
  by_cases h0 : most < 0
  · rw [if_pos (.inl h0)]
    go_enter Try.func11, Try.ntmps11
    go_wp2_with fail
    go_ret3
    exact ⟨rfl, Below.refl _ _⟩
  · by_cases h1 : 1048576 < most
    · rw [if_pos (.inr h1)]
      go_enter Try.func11, Try.ntmps11
      go_wp2_with fail
      go_ret3
      exact ⟨rfl, Below.refl _ _⟩
    · rw [if_neg (by omega)]
      have e : most = (most.toNat : Int) := by omega
      have := RFUnpack_in s most.toNat w hs (by omega)
      rw [← e] at this
      exact this
theorem FUnpack_is (z : ByteArray) (x : Int) (t : ByteArray) (n k : Nat) (w : World) (hs : z.size ≤ 140737488351232) (h : frUnpack z.data.toList x = (t.data.toList, n, k)) :
    Calls Try.prog 10 #[.string z, .int .i64 x] w fun e w' => e = .returned (.tuple #[.string t, .int .i64 (n : Int), .int .i64 (k : Int)]) ∧ Below w.heap.size w w' :=
  (FUnpack_any z x w hs).mono fun e w' ⟨he, hb⟩ => ⟨by rw [he, h, strOf_self], hb⟩
theorem RFUnpack_is (z : ByteArray) (x : Int) (t : ByteArray) (n k : Nat) (w : World) (hs : z.size ≤ 140737488351232) (h : frUnpack z.data.toList x = (t.data.toList, n, k)) :
    Calls Try.prog 11 #[.string z, .int .i64 x] w fun e w' => e = .returned (.tuple #[.string t, .int .i64 (n : Int), .int .i64 (k : Int)]) ∧ Below w.heap.size w w' :=
  (RFUnpack_any z x w hs).mono fun e w' ⟨he, hb⟩ => ⟨by rw [he, h, strOf_self], hb⟩
theorem FPack_is (s z : ByteArray) (w : World) (hz : z.data.toList = frPack s.data.toList) (h : s.size ≤ 1048576) :
    Calls Try.prog 13 #[.string s] w fun e w' => e = .returned (.tuple #[.string z, .int .i64 0]) ∧ Below w.heap.size w w' :=
  (FPack_any s w (by omega)).mono fun e w' ⟨he, hb⟩ => ⟨by rw [he, if_neg (by omega), if_neg (by omega), ← hz, strOf_self], hb⟩
theorem frPack_nil : frPack [] = [4, 34, 77, 24, 116, 64, 189, 0, 0, 0, 0, 5, 93, 204, 2] := by
  unfold frPack
  rw [partsB_nil]
  decide +kernel
def helloL : List UInt8 := [104, 101, 108, 108, 111]
set_option maxRecDepth 100000 in
set_option maxHeartbeats 1600000 in
theorem awake07 (w : World) : Calls Try.prog 12 #[] w fun e w' => e = .returned (.bool true) ∧ Below w.heap.size w w' := by
  obtain ⟨z0, h0⟩ : ∃ z : ByteArray, z = ⟨#[4, 34, 77, 24, 116, 64, 189, 0, 0, 0, 0, 5, 93, 204, 2]⟩ := ⟨_, rfl⟩
  have h0l : z0.data.toList = frPack (⟨#[]⟩ : ByteArray).data.toList := by rw [h0]; exact frPack_nil.symm
  have h0s : z0.size = 15 := by rw [h0]; rfl
  have h0u : frUnpack z0.data.toList 0 = ((⟨#[]⟩ : ByteArray).data.toList, 15, 0) := by
    have := frUnpack_back [] [] 0 (by decide) (by decide)
    rw [List.append_nil] at this
    rw [h0l]
    refine this.trans ?_
    rw [frPack_nil]; rfl
  have f1 : ((z0.extract 0 6).toList == [4, 34, 77, 24, 116, 64]) = true := by rw [h0]; decide +kernel
  have f2 : ((z0.extract 7 15).toList == [0, 0, 0, 0, 5, 93, 204, 2]) = true := by rw [h0]; decide +kernel
  have H0L := Lib.hid h0l; have H0U := Lib.hid h0u
  clear h0l h0u h0
  obtain ⟨z1, h1l⟩ : ∃ z : ByteArray, z.data.toList = frPack (⟨#[104, 101, 108, 108, 111]⟩ : ByteArray).data.toList := ⟨strOf _, strOf_list _⟩
  have h1u := frUnpack_back helloL [] 9 (by decide) (by decide)
  rw [List.append_nil] at h1u
  obtain ⟨n1, hn1⟩ : ∃ n, n = (frPack helloL).length := ⟨_, rfl⟩
  rw [← hn1, show frPack helloL = z1.data.toList from h1l.symm] at h1u
  have h1s : z1.size ≤ 140737488351232 := by
    rw [← list_size, h1l, frPack_len]
    have := partsB_len 5 helloL (by decide)
    have e : helloL.length = 5 := rfl
    rw [e] at this
    show 15 + (partsB helloL).length ≤ _
    omega
  have H1L := Lib.hid h1l; have H1U := Lib.hid (show frUnpack z1.data.toList 9 = ((⟨#[104, 101, 108, 108, 111]⟩ : ByteArray).data.toList, n1, 0) from h1u)
  clear h1l h1u hn1
  have h0b : z0.size ≤ 140737488351232 := by omega
  go_enter Try.func12, Try.ntmps12
  go_wp2_with (first
    | (go_at_call 13; (with_reducible refine (FPack_is ⟨#[]⟩ z0 _ H0L.out (by decide)).mono ?_); rintro e W1 ⟨rfl, hB1⟩)
    | (go_at_call 10; (with_reducible refine (FUnpack_is z0 0 ⟨#[]⟩ 15 0 _ h0b H0U.out).mono ?_); rintro e W2 ⟨rfl, hB2⟩)
    | (go_at_call 13; (with_reducible refine (FPack_is ⟨#[104, 101, 108, 108, 111]⟩ z1 _ H1L.out (by decide)).mono ?_); rintro e W3 ⟨rfl, hB3⟩)
    | (go_at_call 10; (with_reducible refine (FUnpack_is z1 9 ⟨#[104, 101, 108, 108, 111]⟩ n1 0 _ h1s H1U.out).mono ?_); rintro e W4 ⟨rfl, hB4⟩))
  go_ret
  exact ⟨rfl, bstep (bstep (bstep hB1 hB2) hB3) hB4⟩
set_option maxRecDepth 100000 in
set_option maxHeartbeats 800000 in
theorem FrameReads_walk (s : ByteArray) (most : Int) (w : World) (hs : s.size ≤ 140737488351232) (_ : (Lit.int .i64 most).wf = true) :
    Calls Try.prog 3 #[.string s, .int .i64 most] w fun e w' => e = .returned (.bool true) ∧ Below w.heap.size w w' := by
  obtain ⟨t, n, k, ht⟩ : ∃ (t : ByteArray) (n k : Nat), frUnpack s.data.toList most = (t.data.toList, n, k) := ⟨strOf (frUnpack s.data.toList most).1, (frUnpack s.data.toList most).2.1, (frUnpack s.data.toList most).2.2, by rw [strOf_list]⟩
  have HT := Lib.hid ht
  clear ht
  go_enter Try.func3, Try.ntmps3
  go_wp2_with (first
    | (go_at_call 10; (with_reducible refine (FUnpack_is s most t n k _ hs HT.out).mono ?_); rintro e W1 ⟨rfl, hB1⟩)
    | (go_at_call 11; (with_reducible refine (RFUnpack_is s most t n k _ hs HT.out).mono ?_); rintro e W2 ⟨rfl, hB2⟩)
    | (go_at_call 12; (with_reducible refine (awake07 _).mono ?_); rintro e W3 ⟨rfl, hB3⟩))
  go_ret
  exact ⟨rfl, bstep (bstep hB1 hB2) hB3⟩
end Go.Proofs.Ytipadidfiffkjaa
