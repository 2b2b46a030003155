/- The walk of LzCuts. -/
import Derived.Test.YtaepfppdhcgegaaLzLaws
namespace Go.Proofs.Ytaepfppdhcgegaa
open Go.RowKit Go.PostSums Go.PostMem
theorem cut_cases (s z : ByteArray) (hz : z.data.toList = PostLz.pack s.data.toList) (hs : s.size ≤ 4096) (k : Nat) (hk : k < z.size) :
    PostLz.unpack (z.extract 0 k).data.toList (s.size : Int) = ([], 5) ∨ ∃ t : ByteArray, t.size ≤ s.size ∧ s.extract 0 t.size = t ∧ PostLz.unpack (z.extract 0 k).data.toList (s.size : Int) = (t.data.toList, 0) := by
  have he : (z.extract 0 k).data.toList = (PostLz.pack s.data.toList).take k := by rw [← hz]; simp
  rw [he, unpack_of _ _ (by omega)]
  have h := PostLz.blk_cut (PostLz.pack_is s.data.toList) s.size (by rw [size_list]; exact Nat.le_refl _) k (by rw [← hz, size_list]; exact hk)
  rw [List.take_zero] at h
  rcases h with h | ⟨j, hj, h⟩
  · exact .inl (by rw [h]; rfl)
  · rw [size_list] at hj
    refine .inr ⟨s.extract 0 j, ?_, ?_, ?_⟩
    · simp; omega
    · congr 1; simp; omega
    · rw [h]
      simp [PostLz.answer]
set_option maxRecDepth 100000 in
set_option maxHeartbeats 800000 in
theorem LzCuts_walk (s : ByteArray) (cut : Int) (w : World) (hs : s.size ≤ 140737488351232) (_ : (Lit.int .i64 cut).wf = true) :
    Calls Try.prog 8 #[.string s, .int .i64 cut] w fun e w' => e = .returned (.bool true) ∧ Below w.heap.size w w' := by
  by_cases h1 : 4096 < s.size
  · go_enter Try.func8, Try.ntmps8
    go_wp2_with (go_at_call 11; refine (awake06 _).mono ?_; rintro e W3 ⟨rfl, hB3⟩)
    go_ret
    exact ⟨rfl, hB3⟩
  · obtain ⟨z, hz, hzl⟩ := packed s
    have HZ := Lib.hid hz
    have hz0 : 0 < z.size := by
      rw [← size_list, hz]
      exact List.length_pos_iff.2 (PostLz.pack_is s.data.toList).ne
    have b0 : ((z.size : Int) == 0) = false := beq_eq_false_iff_ne.2 (by omega)
    have p := place_lt cut z.size hz0
    clear hz
    go_enter Try.func8, Try.ntmps8
    go_upto_if 31 with (go_at_call 12; refine (Pack_is s z _ HZ.out (by omega)).mono ?_; rintro e W1 ⟨rfl, hB1⟩)
    obtain ⟨p0, p1⟩ := p
    generalize cut.tmod (z.size : Int) = r at p0 p1
    go_cut [7] (fun v7 wx => v7 = .int .i64 (r.natAbs : Nat) ∧ wx = W1)
    case first =>
      by_cases hr : r < 0
      · go_wp2_with fail
        go_meet
        exact ⟨congrArg _ (by omega), rfl⟩
      · go_wp2_with fail
        go_meet
        exact ⟨congrArg _ (by omega), rfl⟩
    case rest =>
      obtain ⟨rfl, rfl⟩ := hcut
      have hk : r.natAbs < z.size := by omega
      generalize r.natAbs = k at hk
      clear p0 p1
      have hze : (z.extract 0 k).size ≤ 140737488351232 := by simp; omega
      have ik : (k : Int) ≤ (z.size : Int) := by omega
      rcases cut_cases s z HZ.out (by omega) k hk with hc | ⟨t, htl, hts, hc⟩
      · have HC := Lib.hid hc
        clear hc
        go_wp2_with (first
          | (go_at_call 9; refine (Unpack_is (z.extract 0 k) (s.size : Int) ⟨#[]⟩ 5 _ hze HC.out).mono ?_; rintro e W2 ⟨rfl, hB2⟩)
          | (go_at_call 11; refine (awake06 _).mono ?_; rintro e W4 ⟨rfl, hB4⟩))
        go_ret
        exact ⟨rfl, bstep (bstep hB1 hB2) hB4⟩
      · have HC := Lib.hid hc
        clear hc
        have it : (t.size : Int) ≤ (s.size : Int) := by omega
        go_wp2_with (first
          | (go_at_call 9; refine (Unpack_is (z.extract 0 k) (s.size : Int) t 0 _ hze HC.out).mono ?_; rintro e W2 ⟨rfl, hB2⟩)
          | (go_at_call 11; refine (awake06 _).mono ?_; rintro e W4 ⟨rfl, hB4⟩))
        go_ret
        exact ⟨rfl, bstep (bstep hB1 hB2) hB4⟩
end Go.Proofs.Ytaepfppdhcgegaa
