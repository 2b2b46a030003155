/- The walks of LzReads, LzBack, LzMost, LzCuts. -/
import Derived.Test.YtaepfppdhcgegaaLzPack
import Derived.Test.YtaepfppdhcgegaaLzRef
namespace Go.Proofs.Ytaepfppdhcgegaa
open Go.RowKit Go.PostSums Go.PostMem
theorem place_lt (x : Int) (n : Nat) (hn : 0 < n) : -(n : Int) < x.tmod n ∧ x.tmod n < n :=
  ⟨Int.lt_tmod_of_pos x (show (0 : Int) < n by omega), Int.tmod_lt_of_pos x (show (0 : Int) < n by omega)⟩
theorem Pack_is (s z : ByteArray) (w : World) (hz : z.data.toList = PostLz.pack s.data.toList) (h : s.size ≤ 1048576) :
    Calls Try.prog 12 #[.string s] w fun e w' => e = .returned (.tuple #[.string z, .int .i64 0]) ∧ Below w.heap.size w w' :=
  (Pack_any s w (by omega)).mono fun e w' ⟨he, hb⟩ => ⟨by rw [he, if_neg (by omega), if_neg (by omega), ← hz, strOf_self], hb⟩
theorem Unpack_is (z : ByteArray) (x : Int) (t : ByteArray) (k : Nat) (w : World) (hs : z.size ≤ 140737488351232) (h : PostLz.unpack z.data.toList x = (t.data.toList, k)) :
    Calls Try.prog 9 #[.string z, .int .i64 x] w fun e w' => e = .returned (.tuple #[.string t, .int .i64 (k : Int)]) ∧ Below w.heap.size w w' :=
  (Unpack_any z x w hs).mono fun e w' ⟨he, hb⟩ => ⟨by rw [he, h, strOf_self], hb⟩
theorem RUnpack_is (z : ByteArray) (x : Int) (t : ByteArray) (k : Nat) (w : World) (hs : z.size ≤ 140737488351232) (h : PostLz.unpack z.data.toList x = (t.data.toList, k)) :
    Calls Try.prog 10 #[.string z, .int .i64 x] w fun e w' => e = .returned (.tuple #[.string t, .int .i64 (k : Int)]) ∧ Below w.heap.size w w' :=
  (RUnpack_any z x w hs).mono fun e w' ⟨he, hb⟩ => ⟨by rw [he, h, strOf_self], hb⟩
theorem awake_unpack : PostLz.unpack [31, 120, 1, 0, 0, 0] 99 = (List.replicate 20 120, 0) := by
  unfold PostLz.unpack
  rw [if_neg (by decide), PostLz.unpackFrom_cons, show PostLz.lits (99 : Int).toNat ((31 : UInt8).toNat / 16) [120, 1, 0, 0, 0] [] = .ok ([1, 0, 0, 0], [120]) from rfl]
  simp only
  rw [if_neg (by simp), show PostLz.copies (99 : Int).toNat ((31 : UInt8).toNat % 16) [1, 0, 0, 0] [120] = .ok ([0], List.replicate 20 120) from rfl]
  simp only
  rw [PostLz.unpackFrom_cons, show PostLz.lits (99 : Int).toNat ((0 : UInt8).toNat / 16) [] (List.replicate 20 120) = .ok ([], List.replicate 20 120) from rfl]
  rfl
theorem awake_pack : PostLz.pack [] = [0] := by
  unfold PostLz.pack
  rw [PostLz.packFrom, if_neg (by simp)]
  rfl
set_option maxRecDepth 100000 in
set_option maxHeartbeats 800000 in
theorem awake06 (w : World) : Calls Try.prog 11 #[] w fun e w' => e = .returned (.bool true) ∧ Below w.heap.size w w' := by
  go_enter Try.func11, Try.ntmps11
  go_wp2_with (first
    | (go_at_call 9; refine (Unpack_is ⟨#[31, 120, 1, 0, 0, 0]⟩ 99 ⟨#[120, 120, 120, 120, 120, 120, 120, 120, 120, 120, 120, 120, 120, 120, 120, 120, 120, 120, 120, 120]⟩ 0 _ (by decide) awake_unpack).mono ?_; rintro e W1 ⟨rfl, hB1⟩)
    | (go_at_call 12; refine (Pack_is ⟨#[]⟩ ⟨#[0]⟩ _ awake_pack.symm (by decide)).mono ?_; rintro e W2 ⟨rfl, hB2⟩))
  go_ret
  exact ⟨rfl, bstep hB1 hB2⟩
set_option maxRecDepth 100000 in
set_option maxHeartbeats 800000 in
theorem LzReads_walk (s : ByteArray) (most : Int) (w : World) (hs : s.size ≤ 140737488351232) (_ : (Lit.int .i64 most).wf = true) :
    Calls Try.prog 3 #[.string s, .int .i64 most] w fun e w' => e = .returned (.bool true) ∧ Below w.heap.size w w' := by
  obtain ⟨t, k, ht⟩ : ∃ (t : ByteArray) (k : Nat), PostLz.unpack s.data.toList most = (t.data.toList, k) := ⟨strOf (PostLz.unpack s.data.toList most).1, (PostLz.unpack s.data.toList most).2, by rw [strOf_list]⟩
  have HT := Lib.hid ht
  clear ht
  go_enter Try.func3, Try.ntmps3
  go_wp2_with (first
    | (go_at_call 9; refine (Unpack_is s most t k _ hs HT.out).mono ?_; rintro e W1 ⟨rfl, hB1⟩)
    | (go_at_call 10; refine (RUnpack_is s most t k _ hs HT.out).mono ?_; rintro e W2 ⟨rfl, hB2⟩)
    | (go_at_call 11; refine (awake06 _).mono ?_; rintro e W3 ⟨rfl, hB3⟩))
  go_ret
  exact ⟨rfl, bstep (bstep hB1 hB2) hB3⟩
theorem size_list (s : ByteArray) : s.data.toList.length = s.size := by simp
theorem unpack_of (z : List UInt8) (m : Nat) (hm : m ≤ 1048576) : PostLz.unpack z (m : Int) = PostLz.answer (PostLz.unpackFrom m z []) := by
  unfold PostLz.unpack; rw [if_neg (by omega), Int.toNat_natCast]
theorem pack_back (s : ByteArray) (hs : s.size ≤ 1048576) : PostLz.unpack (PostLz.pack s.data.toList) (s.size : Int) = (s.data.toList, 0) := by
  rw [unpack_of _ _ hs, PostLz.pack_tells _ _ (by rw [size_list]; exact Nat.le_refl _)]; rfl
theorem pack_less (s : ByteArray) (k : Nat) (hs : s.size ≤ 1048576) (hk : k < s.size) : PostLz.unpack (PostLz.pack s.data.toList) (k : Int) = ([], 4) := by
  have h := PostLz.blk_long (PostLz.pack_is s.data.toList) k (by rw [size_list]; exact hk) (Nat.zero_le _)
  rw [List.take_zero] at h
  rw [unpack_of _ _ (by omega), h]; rfl
theorem packed (s : ByteArray) : ∃ z : ByteArray, z.data.toList = PostLz.pack s.data.toList ∧ z.size ≤ s.size + s.size / 255 + 2 := by
  refine ⟨strOf (PostLz.pack s.data.toList), strOf_list _, ?_⟩
  rw [strOf_size]
  have := pack_len s.data.toList
  rwa [size_list] at this
set_option maxRecDepth 100000 in
set_option maxHeartbeats 800000 in
theorem LzBack_walk (s : ByteArray) (w : World) (hs : s.size ≤ 140737488351232) :
    Calls Try.prog 4 #[.string s] w fun e w' => e = .returned (.bool true) ∧ Below w.heap.size w w' := by
  by_cases h1 : 16384 < s.size
  · go_enter Try.func4, Try.ntmps4
    go_wp2_with (go_at_call 11; refine (awake06 _).mono ?_; rintro e W3 ⟨rfl, hB3⟩)
    go_ret
    exact ⟨rfl, hB3⟩
  · obtain ⟨z, hz, hzl⟩ := packed s
    have HZ := Lib.hid hz
    have HB : Hid (PostLz.unpack z.data.toList (s.size : Int) = (s.data.toList, 0)) := Lib.hid (by rw [hz]; exact pack_back s (by omega))
    have hzz : z.size ≤ 140737488351232 := by omega
    have hle : (z.size : Int) ≤ (s.size : Int) + (s.size : Int) / 255 + 16 := by omega
    clear hz
    go_enter Try.func4, Try.ntmps4
    go_wp2_with (first
      | (go_at_call 12; refine (Pack_is s z _ HZ.out (by omega)).mono ?_; rintro e W1 ⟨rfl, hB1⟩)
      | (go_at_call 10; refine (RUnpack_is z _ s 0 _ hzz HB.out).mono ?_; rintro e W2 ⟨rfl, hB2⟩)
      | (go_at_call 9; refine (Unpack_is z _ s 0 _ hzz HB.out).mono ?_; rintro e W3 ⟨rfl, hB3⟩)
      | (go_at_call 11; refine (awake06 _).mono ?_; rintro e W4 ⟨rfl, hB4⟩))
    go_ret
    exact ⟨rfl, bstep (bstep (bstep hB1 hB2) hB3) hB4⟩
set_option maxRecDepth 100000 in
set_option maxHeartbeats 800000 in
theorem LzMost_walk (s : ByteArray) (less : Int) (w : World) (hs : s.size ≤ 140737488351232) (_ : (Lit.int .i64 less).wf = true) :
    Calls Try.prog 6 #[.string s, .int .i64 less] w fun e w' => e = .returned (.bool true) ∧ Below w.heap.size w w' := by
  by_cases h1 : 4096 < s.size
  · go_enter Try.func6, Try.ntmps6
    go_wp2_with (go_at_call 11; refine (awake06 _).mono ?_; rintro e W3 ⟨rfl, hB3⟩)
    go_ret
    exact ⟨rfl, hB3⟩
  · by_cases h0 : s.size = 0
    · have b0 : ((s.size : Int) == 0) = true := beq_iff_eq.2 (by omega)
      go_enter Try.func6, Try.ntmps6
      go_wp2_with (go_at_call 11; refine (awake06 _).mono ?_; rintro e W3 ⟨rfl, hB3⟩)
      go_ret
      exact ⟨rfl, hB3⟩
    · have b0 : ((s.size : Int) == 0) = false := beq_eq_false_iff_ne.2 (by omega)
      obtain ⟨z, hz, hzl⟩ := packed s
      have HZ := Lib.hid hz
      have HB : Hid (PostLz.unpack z.data.toList (s.size : Int) = (s.data.toList, 0)) := Lib.hid (by rw [hz]; exact pack_back s (by omega))
      have HL : Hid (∀ k : Nat, k < s.size → PostLz.unpack z.data.toList (k : Int) = ([], 4)) := Lib.hid (fun k hk => by rw [hz]; exact pack_less s k (by omega) hk)
      have hzz : z.size ≤ 140737488351232 := by omega
      have p := place_lt less s.size (by omega)
      clear hz
      go_enter Try.func6, Try.ntmps6
      go_upto_if 31 with (go_at_call 12; refine (Pack_is s z _ HZ.out (by omega)).mono ?_; rintro e W1 ⟨rfl, hB1⟩)
      obtain ⟨p0, p1⟩ := p
      generalize less.tmod (s.size : Int) = r at p0 p1
      go_cut [7] (fun v7 wx => v7 = .int .i64 (r.natAbs : Nat) ∧ wx = W1)
      case first =>
        by_cases hr : r < 0
        · go_wp2_with fail
          go_meet
          exact ⟨congrArg _ (by omega), rfl⟩
        · go_wp2_with fail
          go_meet
          exact ⟨congrArg _ (by omega), rfl⟩
      case rest =>
        obtain ⟨rfl, rfl⟩ := hcut
        have hk : r.natAbs < s.size := by omega
        generalize r.natAbs = k at hk
        have HK := Lib.hid (HL.out k hk)
        clear p0 p1 HL
        go_wp2_with (first
          | (go_at_call 9; with_reducible refine (Unpack_is z (k : Int) ⟨#[]⟩ 4 _ hzz HK.out).mono ?_; rintro e W2 ⟨rfl, hB2⟩)
          | (go_at_call 9; with_reducible refine (Unpack_is z (s.size : Int) s 0 _ hzz HB.out).mono ?_; rintro e W3 ⟨rfl, hB3⟩)
          | (go_at_call 11; refine (awake06 _).mono ?_; rintro e W4 ⟨rfl, hB4⟩))
        go_ret
        exact ⟨rfl, bstep (bstep (bstep hB1 hB2) hB3) hB4⟩
end Go.Proofs.Ytaepfppdhcgegaa
