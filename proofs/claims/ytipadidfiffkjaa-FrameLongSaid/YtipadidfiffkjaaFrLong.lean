/- The walk of FrameLong. -/
import Derived.Test.YtipadidfiffkjaaFrBack
import Derived.Test.YtipadidfiffkjaaFrZero
import Derived.Test.YtipadidfiffkjaaMem2
namespace Go.Proofs.Ytipadidfiffkjaa
open Go.RowKit Go.PostSums Go.PostMem
theorem andI15 (x : Int) : bits .and .i64 x 15 = x % 16 := by
  have h : (BitVec.ofInt 64 x &&& BitVec.ofInt 64 15).toNat = (x % 16).toNat := by
    rw [BitVec.toNat_and]
    have e2 : (BitVec.ofInt 64 15).toNat = 2 ^ 4 - 1 := by decide
    rw [e2, Nat.and_two_pow_sub_one_eq_mod, BitVec.toNat_ofInt]
    have h3 : ((2 ^ 64 : Nat) : Int) = 18446744073709551616 := by decide
    rw [h3]
    have h4 : (2 : Nat) ^ 4 = 16 := by decide
    rw [h4]
    omega
  have hb : 0 ≤ x % 16 ∧ x % 16 < 16 := ⟨Int.emod_nonneg _ (by decide), Int.emod_lt_of_pos _ (by decide)⟩
  show IntKind.i64.wrap ((BitVec.ofInt 64 x &&& BitVec.ofInt 64 15).toNat : Int) = _
  rw [h, IntKind.wrap_i64]
  omega
set_option maxRecDepth 100000 in
set_option maxHeartbeats 1600000 in
theorem FrameLong_walk (more : Int) (w : World) (_ : (Lit.int .i64 more).wf = true) :
    Calls Try.prog 7 #[.int .i64 more] w fun e w' => e = .returned (.bool true) ∧ Below w.heap.size w w' := by
  have hand := andI15 more
  obtain ⟨d, hd⟩ : ∃ d : Nat, more % 16 = d := ⟨(more % 16).toNat, by omega⟩
  have hd1 : d < 16 := by omega
  rw [hd] at hand
  clear hd
  obtain ⟨n, hn⟩ : ∃ n : Nat, n = 1048576 + d := ⟨_, rfl⟩
  have hn' : (1048576 : Int) + (d : Int) = (n : Int) := by omega
  have hn0 : d = 0 → n = 1048576 := by omega
  have hn1 : d ≠ 0 → 1048576 < n := by omega
  have hnb : n ≤ 1048592 := by omega
  have HN0 := Lib.hid hn0; have HN1 := Lib.hid hn1; clear hn hn0 hn1
  obtain ⟨s, hs⟩ : ∃ s : ByteArray, s = strOf (List.replicate n 0) := ⟨_, rfl⟩
  have hsz : s.size = n := by rw [hs, strOf_size, List.length_replicate]
  have hsl : s.data.toList = List.replicate n 0 := by rw [hs, strOf_list]
  have hsb : s.size ≤ 140737488351232 := by omega
  have HS := Lib.hid hs
  have HSL := Lib.hid hsl
  clear hs hsl
  go_enter Try.func7, Try.ntmps7
  go_upto_region 2 with (fail)
  clear hand
  by_cases h0 : d = 0
  · have hnn := HN0.out h0
    have h0' : ¬ (1048576 : Int) < (n : Int) := by omega
    have HNN := Lib.hid hnn; clear hnn
    obtain ⟨z, hz, hzl, hz15, hzs⟩ := framed s
    have HZ := Lib.hid hz
    have hs1 : s.size ≤ 1048576 := by rw [hsz, HNN.out]; exact Nat.le_refl _
    have HS1 := Lib.hid hs1; clear hs1
    have hz2 : (z.size : Int) < 65536 := by
      rw [hzl, HSL.out]
      have := zeros_frame
      unfold zeros at this
      rw [HNN.out, this]
      decide
    clear hz hzl hz15 hzs h0
    go_upto_region 3 with (first
      | (refine wpList_zeros rfl (.tmp 10) (.tmp 10) 30 rfl w.heap.size 5 infoU8 Try.underlying30 _ _ _ _ n rfl rfl (by omega) (by omega) (by omega) (Nat.le_refl _) ?_; intro w1 hb1 hg1)
      | (refine wpList_conv rfl 30 9 (.tmp 11) rfl _ _ _ rfl (hb1.back Try.underlying30 Try.underlying5 Try.underlying9) ?_; rw [← HS.out])
      | (go_at_call 13; (with_reducible refine (FPack_is s z _ HZ.out HS1.out).mono ?_); rintro e W0 ⟨rfl, hB0⟩))
    have HG1 := Lib.hid hg1
    have hdd : ¬ (1048576 : Int) < (n : Int) := by omega
    clear hb1 hg1 h0' hn' hnb hsz hsb
    generalize (n : Int) = nn at hdd ⊢
    go_upto_region 5 with (fail)
    clear HN0 HN1 HNN HS1 HS HSL HZ hdd hd1
    go_wp2_with (go_at_call 12; (with_reducible refine (awake07 _).mono ?_); rintro e W3 ⟨rfl, hB3⟩)
    go_ret
    exact ⟨rfl, bstep (bstep (below_grown HG1.out (fun k hk => nomatch hk) (Nat.le_refl _)) hB0) hB3⟩
  · have hlt := HN1.out h0
    have h0' : (1048576 : Int) < (n : Int) := by omega
    have HP : Hid (∀ w', Calls Try.prog 13 #[.string s] w' fun e w'' => e = .returned (.tuple #[.string ⟨#[]⟩, .int .i64 4]) ∧ Below w'.heap.size w' w'') := Lib.hid fun w' =>
      (FPack_any s w' hsb).mono fun e w'' ⟨he, hb⟩ => ⟨by rw [he, if_pos (by omega), if_pos (by omega)]; rfl, hb⟩
    go_wp2_with (first
      | (refine wpList_zeros rfl (.tmp 10) (.tmp 10) 30 rfl w.heap.size 5 infoU8 Try.underlying30 _ _ _ _ n rfl rfl (by omega) (by omega) (by omega) (Nat.le_refl _) ?_; intro w1 hb1 hg1)
      | (refine wpList_conv rfl 30 9 (.tmp 11) rfl _ _ _ rfl (hb1.back Try.underlying30 Try.underlying5 Try.underlying9) ?_; rw [← HS.out])
      | (go_at_call 13; (with_reducible refine (HP.out _).mono ?_); rintro e W0 ⟨rfl, hB0⟩)
      | (go_at_call 12; (with_reducible refine (awake07 _).mono ?_); rintro e W3 ⟨rfl, hB3⟩))
    go_ret
    exact ⟨rfl, bstep (bstep (below_grown hg1 (fun k hk => nomatch hk) (Nat.le_refl _)) hB0) hB3⟩
end Go.Proofs.Ytipadidfiffkjaa
