/- The walks of FrameCuts and FrameTells. -/
import Derived.Test.YtipadidfiffkjaaFrBack
import Derived.Test.YtipadidfiffkjaaFrCut
import Derived.Test.YtipadidfiffkjaaBytes
import Derived.Deep.DeepCutAuto
namespace Go.Proofs.Ytipadidfiffkjaa
open Go.RowKit Go.PostSums Go.PostMem
theorem fplace_lt (x : Int) (n : Nat) (hn : 0 < n) : -(n : Int) < x.tmod n ∧ x.tmod n < n :=
  ⟨Int.lt_tmod_of_pos x (show (0 : Int) < n by omega), Int.tmod_lt_of_pos x (show (0 : Int) < n by omega)⟩
theorem frUnpack_err (l : List UInt8) (m c : Nat) (hm : m ≤ 1048576) (h : frameR l m = .error c) : frUnpack l (m : Int) = ([], 0, c) := by
  unfold frUnpack
  rw [if_neg (by omega), Int.toNat_natCast, h]
  rfl
set_option maxRecDepth 100000 in
set_option maxHeartbeats 1600000 in
theorem FrameCuts_walk (s : ByteArray) (cut : Int) (w : World) (hs : s.size ≤ 140737488351232) (_ : (Lit.int .i64 cut).wf = true) :
    Calls Try.prog 8 #[.string s, .int .i64 cut] w fun e w' => e = .returned (.bool true) ∧ Below w.heap.size w w' := by
  by_cases h1 : 4096 < s.size
  · have h1' : (4096 : Int) < (s.size : Int) := by omega
    go_enter Try.func8, Try.ntmps8
    go_wp2_with (go_at_call 12; (with_reducible refine (awake07 _).mono ?_); rintro e W3 ⟨rfl, hB3⟩)
    go_ret
    exact ⟨rfl, hB3⟩
  · have h1' : ¬ (4096 : Int) < (s.size : Int) := by omega
    obtain ⟨z, hz, hzl, hz15, hzs⟩ := framed s
    have HZ := Lib.hid hz
    have HZL := Lib.hid hzl
    have b0 : ((z.size : Int) == 0) = false := beq_eq_false_iff_ne.2 (by omega)
    have p := fplace_lt cut z.size (by omega)
    clear hz hzl
    go_enter Try.func8, Try.ntmps8
    go_upto_if 32 with (go_at_call 13; (with_reducible refine (FPack_is s z _ HZ.out (by omega)).mono ?_); rintro e W1 ⟨rfl, hB1⟩)
    obtain ⟨p0, p1⟩ := p
    generalize cut.tmod (z.size : Int) = r at p0 p1
    go_cut [7] (fun v7 wx => v7 = .int .i64 (r.natAbs : Nat) ∧ wx = W1)
    case first =>
      by_cases hr : r < 0
      · go_wp2_with fail
        go_meet
        exact ⟨congrArg _ (by omega), rfl⟩
      · go_wp2_with fail
        go_meet
        exact ⟨congrArg _ (by omega), rfl⟩
    case rest =>
      obtain ⟨rfl, rfl⟩ := hcut
      have hk : r.natAbs < z.size := by omega
      generalize r.natAbs = k at hk
      clear p0 p1
      obtain ⟨y, hy⟩ : ∃ y, y = z.extract 0 k := ⟨_, rfl⟩
      have hyl : y.data.toList = (frPack s.data.toList).take k := by rw [hy, ← HZ.out]; simp
      have hys : y.size ≤ 140737488351232 := by rw [hy]; simp; omega
      have HC : Hid (frUnpack y.data.toList (s.size : Int) = ((⟨#[]⟩ : ByteArray).data.toList, 0, 5)) := Lib.hid (by
        rw [hyl]
        exact frUnpack_err _ s.size 5 (by omega) (frame_cut _ (by rw [list_size]; omega) k s.size (by rw [← HZL.out]; exact hk) (by rw [list_size]; exact Nat.le_refl _)))
      have HY := Lib.hid hy.symm
      clear hy hyl
      have ik : (k : Int) ≤ (z.size : Int) := by omega
      go_wp2_with (first
        | (go_at_call 10; rw [HY.out]; (with_reducible refine (FUnpack_is y (s.size : Int) ⟨#[]⟩ 0 5 _ hys HC.out).mono ?_); rintro e W2 ⟨rfl, hB2⟩)
        | (go_at_call 12; (with_reducible refine (awake07 _).mono ?_); rintro e W4 ⟨rfl, hB4⟩))
      go_ret
      exact ⟨rfl, bstep (bstep hB1 hB2) hB4⟩
theorem andI255 (x : Int) : bits .and .i64 x 255 = x % 256 := by
  have h : (BitVec.ofInt 64 x &&& BitVec.ofInt 64 255).toNat = (x % 256).toNat := by
    rw [BitVec.toNat_and]
    have e2 : (BitVec.ofInt 64 255).toNat = 2 ^ 8 - 1 := by decide
    rw [e2, Nat.and_two_pow_sub_one_eq_mod, BitVec.toNat_ofInt]
    have h3 : ((2 ^ 64 : Nat) : Int) = 18446744073709551616 := by decide
    rw [h3]
    have h4 : (2 : Nat) ^ 8 = 256 := by decide
    rw [h4]
    omega
  have hb : 0 ≤ x % 256 ∧ x % 256 < 256 := ⟨Int.emod_nonneg _ (by decide), Int.emod_lt_of_pos _ (by decide)⟩
  show IntKind.i64.wrap ((BitVec.ofInt 64 x &&& BitVec.ofInt 64 255).toNat : Int) = _
  rw [h, IntKind.wrap_i64]
  omega
/-- the byte that stands there then -/
def ftold (l : List UInt8) (k d : Nat) : UInt8 := UInt8.ofNat (at8 l k ^^^ d)
theorem ftold_nat (l : List UInt8) (k d : Nat) (hd : d < 256) : (ftold l k d).toNat = at8 l k ^^^ d := by
  unfold ftold
  have : at8 l k ^^^ d < 2 ^ 8 := Nat.xor_lt_two_pow (at8_lt l k) hd
  rw [UInt8.toNat_ofNat', Nat.mod_eq_of_lt this]
theorem ftold_ne (l : List UInt8) (k d : Nat) (hd : d < 256) (h0 : d ≠ 0) : ftold l k d ≠ l.getD k 0 := by
  intro e
  have e1 := congrArg UInt8.toNat e
  rw [ftold_nat l k d hd] at e1
  have e2 : at8 l k ^^^ d = at8 l k := e1
  have := congrArg (at8 l k ^^^ ·) e2
  simp only [Nat.xor_self, ← Nat.xor_assoc, Nat.zero_xor] at this
  exact h0 this
theorem fxor_told (l : List UInt8) (k d : Nat) (hd : d < 256) : Go.bits .xor .u8 ((at8 l k : Nat) : Int) (d : Int) = (((ftold l k d).toNat : Nat) : Int) := by
  rw [ftold_nat l k d hd]; exact xor8 _ _ (at8_lt l k) hd
set_option maxRecDepth 100000 in
set_option maxHeartbeats 1600000 in
theorem FrameTells_walk (s : ByteArray) (at_ by_ : Int) (w : World) (hs : s.size ≤ 140737488351232) (_ : (Lit.int .i64 at_).wf = true) (_ : (Lit.int .i64 by_).wf = true) :
    Calls Try.prog 6 #[.string s, .int .i64 at_, .int .i64 by_] w fun e w' => e = .returned (.bool true) ∧ Below w.heap.size w w' := by
  have hand := andI255 by_
  by_cases h1 : 4096 < s.size
  · have h1' : (4096 : Int) < (s.size : Int) := by omega
    go_enter Try.func6, Try.ntmps6
    go_wp2_with (go_at_call 12; (with_reducible refine (awake07 _).mono ?_); rintro e W3 ⟨rfl, hB3⟩)
    go_ret
    exact ⟨rfl, hB3⟩
  · have h1' : ¬ (4096 : Int) < (s.size : Int) := by omega
    by_cases h2 : by_ % 256 = 0
    · have b2 : (by_ % 256 == 0) = true := beq_iff_eq.2 h2
      clear h2
      go_enter Try.func6, Try.ntmps6
      go_wp2_with (go_at_call 12; (with_reducible refine (awake07 _).mono ?_); rintro e W3 ⟨rfl, hB3⟩)
      go_ret
      exact ⟨rfl, hB3⟩
    · have b2 : (by_ % 256 == 0) = false := beq_eq_false_iff_ne.2 h2
      obtain ⟨d, hd⟩ : ∃ d : Nat, by_ % 256 = d := ⟨(by_ % 256).toNat, by omega⟩
      have hd1 : d < 256 := by omega
      have HD0 := Lib.hid (show d ≠ 0 by omega)
      rw [hd] at hand b2
      clear hd h2
      obtain ⟨z, hz, hzl, hz15, hzs⟩ := framed s
      have HZ := Lib.hid hz
      have HZL := Lib.hid hzl
      have b15 : ¬ (z.size : Int) < 15 := by omega
      have p := fplace_lt at_ z.size (by omega)
      clear hz hzl
      go_enter Try.func6, Try.ntmps6
      go_upto_if 40 with (go_at_call 13; (with_reducible refine (FPack_is s z _ HZ.out (by omega)).mono ?_); rintro e W1 ⟨rfl, hB1⟩)
      obtain ⟨p0, p1⟩ := p
      generalize at_.tmod (z.size : Int) = r at p0 p1
      go_cut [9] (fun v9 wx => v9 = .int .i64 (r.natAbs : Nat) ∧ wx = W1)
      case first =>
        by_cases hr : r < 0
        · go_wp2_with fail
          go_meet
          exact ⟨congrArg _ (by omega), rfl⟩
        · go_wp2_with fail
          go_meet
          exact ⟨congrArg _ (by omega), rfl⟩
      case rest =>
        obtain ⟨rfl, rfl⟩ := hcut
        have hk : r.natAbs < z.size := by omega
        generalize r.natAbs = k at hk
        clear p0 p1
        by_cases h7 : k < 7
        · have h7' : (k : Int) < 7 := by omega
          go_wp2_with (go_at_call 12; (with_reducible refine (awake07 _).mono ?_); rintro e W3 ⟨rfl, hB3⟩)
          go_ret
          exact ⟨rfl, bstep hB1 hB3⟩
        · have h7' : ¬ (k : Int) < 7 := by omega
          by_cases h11 : 0 < s.size ∧ k < 11
          · have h0' : (0 : Int) < (s.size : Int) := by omega
            have h11' : (k : Int) < 11 := by omega
            go_wp2_with (go_at_call 12; (with_reducible refine (awake07 _).mono ?_); rintro e W3 ⟨rfl, hB3⟩)
            go_ret
            exact ⟨rfl, bstep hB1 hB3⟩
          · have hkl : k < z.data.toList.length := by rw [list_size]; exact hk
            have hT : ∃ c, c ≠ 0 ∧ frameR (z.data.toList.set k (ftold z.data.toList k d)) 1048576 = .error c := by
              rw [HZ.out]
              refine frame_tell s.data.toList (by rw [list_size]; omega) k 1048576 _ (by rw [← HZL.out]; exact hk) (by rw [list_size]; omega) (by omega) (fun h => ?_) (ftold_ne _ _ _ hd1 HD0.out)
              have : s.size ≠ 0 := fun e => h (List.eq_nil_of_length_eq_zero (by rw [list_size]; exact e))
              omega
            obtain ⟨c, hc0, hc⟩ := hT
            have HC := Lib.hid hc; clear hc
            have hx := fxor_told z.data.toList k d hd1
            have hL : (z.data.toList.set k (ftold z.data.toList k d)).length = z.size := by rw [List.length_set, list_size]
            have HL := Lib.hid hL; clear hL
            have hcond : (0 : Int) < (s.size : Int) ∧ ¬ (k : Int) < 11 ∨ ¬ (0 : Int) < (s.size : Int) := by omega
            clear h11
            rcases hcond with ⟨g1, g2⟩ | g1
            all_goals
              go_upto_region 11 with (fail)
              go_upto_region 12 with (refine wpList_conv rfl 9 30 (.tmp 55) rfl _ _ _ rfl (Lib.run_convert_string_bytes wc 9 30 5 z Try.underlying9 Try.underlying30 Try.underlying5) ?_)
              clear g1
              have HY := Lib.hid (bytes_made wc z)
              have HBM := Lib.hid (below_made wc z)
              generalize Lib.bytesWorld wc 5 z = V1 at HY HBM
              generalize grownCap wc z.size 0 5 = cp
              generalize hB : wc.heap.size = B at HY
              have HBB := Lib.hid hB
              clear hB
              have ck := HY.out.cell k hkl
              have fk := HY.out.free k hkl
              have HY2 := Lib.hid (HY.out.set k hkl (ftold z.data.toList k d))
              generalize ftold z.data.toList k d = x at hx HY2 HC HL
              generalize at8 z.data.toList k = y at ck hx
              go_upto_region 13 with (fail)
              have HB2 : Hid (Below wc.heap.size wc (V1.setCell ⟨B, k, none⟩ (.int .u8 (x.toNat : Int)))) := Lib.hid (HBM.out.setCell (by rw [HBB.out]; exact Nat.le_refl _) _)
              generalize V1.setCell ⟨B, k, none⟩ (.int .u8 (x.toNat : Int)) = V2 at HY2 HB2
              generalize z.data.toList.set k x = l2 at HY2 HL HC
              clear ck fk hx hand b2
              have HU : Hid (frUnpack (strOf l2).data.toList 1048576 = ((⟨#[]⟩ : ByteArray).data.toList, 0, c)) := Lib.hid (by
                rw [strOf_list]; exact frUnpack_err l2 1048576 c (Nat.le_refl _) HC.out)
              have hls : (strOf l2).size ≤ 140737488351232 := by rw [strOf_size, HL.out]; omega
              have HLS := Lib.hid hls; clear hls
              have hc0' : ((c : Int) != 0) = true := bne_iff_ne.2 (by omega)
              go_wp2_with (first
                | (refine wpList_conv rfl 30 9 (.tmp 69) rfl _ _ _ rfl (run_bytes_back V2 B 0 z.size cp l2 HY2.out.at_ HL.out) ?_)
                | (go_at_call 10; (with_reducible refine (FUnpack_is (strOf l2) 1048576 ⟨#[]⟩ 0 c _ HLS.out HU.out).mono ?_); rintro e V3 ⟨rfl, hV3⟩)
                | (go_at_call 12; (with_reducible refine (awake07 _).mono ?_); rintro e V5 ⟨rfl, hV5⟩))
              go_ret
              exact ⟨rfl, bstep (bstep (bstep hB1 HB2.out) hV3) hV5⟩
end Go.Proofs.Ytipadidfiffkjaa
