/- The walk of SumsBurst. -/
import Derived.Test.YtghiobmobihgpaaBurst
namespace Go.Proofs.Ytghiobmobihgpaa
open Go.RowKit Go.PostSums
/-- as it was below the heap of W, and grown -/
def BelowOf (W w' : World) : Prop := Below W.heap.size W w'
theorem BelowOf.block {W w' : World} (h : BelowOf W w') (k : Nat) (hk : k < W.heap.size) : w'.heap[k]? = W.heap[k]? := Below.block h k hk
theorem call_below {P : Program} {f : FuncId} {args : Array Value} {v : Value} {W : World} (h : ∀ w', Calls P f args w' fun e w'' => e = .returned v ∧ Below w'.heap.size w' w'') (w' : World) (hw : BelowOf W w') :
    Calls P f args w' fun e w'' => e = .returned v ∧ BelowOf W w'' := (h w').mono fun _ _ ⟨he, hb⟩ => ⟨he, bstep hw hb⟩
set_option maxHeartbeats 800000 in
theorem SumsBurst_walk (s : ByteArray) (at_ by_ : Int) (w : World) (hs : s.size ≤ 140737488351232) (_ : (Lit.int .i64 at_).wf = true) (_ : (Lit.int .i64 by_).wf = true) :
    Calls Try.prog 8 #[.string s, .int .i64 at_, .int .i64 by_] w fun e w' => e = .returned (.bool true) ∧ Below w.heap.size w w' := by
  have hand := and_all by_
  have hml : s.size ≤ maxLen := by unfold maxLen; omega
  by_cases h0 : s.size < 4
  · go_enter Try.func8, Try.ntmps8
    go_wp2_with (first
      | (go_at_call 13; refine (awake02 _).mono ?_; rintro e W3 ⟨rfl, hB3⟩))
    go_ret
    exact ⟨rfl, hB3⟩
  · by_cases h1 : 4096 < s.size
    · go_enter Try.func8, Try.ntmps8
      go_wp2_with (first
        | (go_at_call 13; refine (awake02 _).mono ?_; rintro e W3 ⟨rfl, hB3⟩))
      go_ret
      exact ⟨rfl, hB3⟩
    · by_cases h2 : by_ % 4294967296 = 0
      · have b2 : (by_ % 4294967296 == 0) = true := beq_iff_eq.2 h2
        clear h2
        go_enter Try.func8, Try.ntmps8
        go_wp2_with (first
          | (go_at_call 13; refine (awake02 _).mono ?_; rintro e W3 ⟨rfl, hB3⟩))
        go_ret
        exact ⟨rfl, hB3⟩
      · have b2 : (by_ % 4294967296 == 0) = false := beq_eq_false_iff_ne.2 h2
        have H2 := Lib.hid h2
        obtain ⟨d, hd⟩ : ∃ d : Int, by_ % 4294967296 = d := ⟨_, rfl⟩
        rw [hd] at hand b2
        clear hd h2
        go_enter Try.func8, Try.ntmps8
        go_upto_if 30 with (fail)
        obtain ⟨p0, p1⟩ := place_lt at_ (s.size - 3) (by omega)
        rw [show ((s.size - 3 : Nat) : Int) = (s.size : Int) - 3 by omega] at p0 p1
        generalize at_.tmod ((s.size : Int) - 3) = r at p0 p1
        go_cut [7] (fun v7 wx => v7 = .int .i64 (r.natAbs : Nat) ∧ wx = w)
        case first =>
          by_cases hr : r < 0
          · go_wp2_with fail
            go_meet
            exact ⟨congrArg _ (by omega), rfl⟩
          · go_wp2_with fail
            go_meet
            exact ⟨congrArg _ (by omega), rfl⟩
        case rest =>
          obtain ⟨rfl, rfl⟩ := hcut
          have hk : r.natAbs + 3 < s.size := by omega
          generalize r.natAbs = k at hk
          clear p0 p1 hand b2
          have hkl : k + 4 ≤ s.data.toList.length := by simp; omega
          have HC := Lib.hid (patch_crc s.data.toList k by_ hkl H2.out)
          go_upto_region 7 with (refine wpList_conv rfl 9 30 (.tmp 33) rfl _ _ _ rfl (Lib.run_convert_string_bytes wc 9 30 5 s Try.underlying9 Try.underlying30 Try.underlying5) ?_)
          have HY := Lib.hid (bytes_made wc s)
          have HB1 := Lib.hid (below_made wc s)
          generalize Lib.bytesWorld wc 5 s = W1 at HY HB1
          generalize grownCap wc s.size 0 5 = cp
          generalize hB : wc.heap.size = B at HY
          have HBB := Lib.hid hB
          clear hB
          go_wp2_with fail
          go_loopw [9] (fun v9 wr => ∃ i : Nat, i ≤ 4 ∧ v9 = .int .i64 i ∧ Hid (Bytes wr B (patch s.data.toList k by_ i) ∧ Below wc.heap.size wc wr)) (fun v9 _ => 4 - (intOf v9).toNat)
          case atStart => exact ⟨0, by omega, rfl, Lib.hid ⟨HY.out, HB1.out⟩⟩
          case round =>
            obtain ⟨i, hi, rfl, Hi⟩ := hrel
            by_cases hi4 : i < 4
            · have hpl := patch_len s.data.toList k by_ i
              have hkp : k + i < (patch s.data.toList k by_ i).length := by rw [hpl]; omega
              have ck := Hi.out.1.cell (k + i) hkp
              have fk := Hi.out.1.free (k + i) hkp
              have hx := xor_told (patch s.data.toList k by_ i) (k + i) (byteOf by_ i) (byteOf_lt by_ i)
              have HX := Lib.hid (fun m => (Hi.out.1.of_block (w' := wr.drewN m) rfl).set (k + i) hkp (told (patch s.data.toList k by_ i) (k + i) (byteOf by_ i)))
              have hbl := byteOf_lt by_ i
              have hand2 := (and255 (by_ / 2 ^ (8 * i))).trans (byteOf_int by_ i).symm
              generalize hz : byteOf by_ i = z at hx hbl hand2
              have HZ := Lib.hid hz
              clear hz
              generalize at8 (patch s.data.toList k by_ i) (k + i) = y at ck hx
              have HI := Lib.hid (show IntKind.i64.wrap ((k : Int) + (i : Int)) = (k : Int) + (i : Int) from IntWalk.i64_in _ (by omega))
              go_wp2_with fail
              refine QuietTail.wp_region (fun w' => ∃ m, w' = wr.drewN m) 18 (by kernel_rfl) (by kernel_rfl) ⟨1, rfl⟩ ?_
              simp only [List.take_succ_cons, List.take_zero, List.drop_succ_cons, List.drop_zero]
              have w1 := HI.out
              have w3 : IntKind.i64.wrap (8 * (i : Int)) = 8 * (i : Int) := IntWalk.i64_in _ (by omega)
              have q1 : 0 ≤ (k : Int) + (i : Int) := by omega
              have q2 : (k : Int) + (i : Int) < s.size := by omega
              have q3 : ((k : Int) + (i : Int)).toNat = k + i := by omega
              have q4 : 0 ≤ 8 * (i : Int) := by omega
              have q5 : (8 * (i : Int)).toNat = 8 * i := by omega
              have q6 : 8 * (i : Int) < 64 := by omega
              repeat (go_big_quiet_step (fail))
              refine wpQuiet_nil ?_
              rintro _ ⟨nq, rfl⟩
              clear w1 w3 q1 q2 q3 q4 q5 q6
              go_wp2_with fail
              go_roundw
              case rel => exact ⟨i + 1, by omega, by go_num, Lib.hid ⟨by rw [← HZ.out]; exact HX.out nq, (Hi.out.2.trans (below_drewN wr nq _)).setCell (by rw [HBB.out]; exact Nat.le_refl _) _⟩⟩
              case measure => simp [intOf]; omega
            · obtain rfl : i = 4 := by omega
              have hlen : (patch s.data.toList k by_ 4).length = s.size := by rw [patch_len]; simp
              have HL := Lib.hid hlen
              have HYB := Lib.hid Hi.out.1
              have HBW := Lib.hid Hi.out.2
              have hBlt : B < wr.heap.size := by
                obtain ⟨cs, t, fr, hb, _⟩ := HYB.out
                exact (Array.getElem?_eq_some_iff.1 hb).1
              have hn1 : (((crcN 0 s.data.toList : Nat) : Int) != ((crcN 0 (patch s.data.toList k by_ 4) : Nat) : Int)) = true := by rw [bne_iff_ne]; intro e; exact HC.out (Int.ofNat.inj e)
              have A1 := Lib.hid (fun w' => Crc_any s w' hml)
              have A2 := Lib.hid (fun w' => Crc_any (strOf (patch s.data.toList k by_ 4)) w' (by rw [strOf_size, hlen]; exact hml))
              rw [strOf_list] at A2
              clear hlen Hi
              generalize crcN 0 s.data.toList = c1 at hn1 A1
              generalize patch s.data.toList k by_ 4 = l2 at HYB HL A2 hn1
              generalize crcN 0 l2 = c2 at hn1 A2
              have HR : ∀ w', BelowOf wr w' → (convert 30 9 (.slice (some ⟨B, 0, none⟩) s.size cp)).run Try.prog w' = .ok (.string (strOf l2)) w' := fun w' hw' =>
                run_bytes_back w' B 0 s.size cp l2 ((HYB.out.of_block (hw'.block B hBlt)).at_) HL.out
              have HR2 := Lib.hid HR
              clear HR
              go_wp2_with fail
              refine QuietTail.wp_all (BelowOf wr) (by kernel_rfl) (by kernel_rfl) (below_drewN wr 1 _) ?_
              repeat (first
                | (refine QuietTail.conv rfl 30 9 (.tmp 59) rfl _ _ rfl HR2.out ?_; simp only [Act.put, List.setIfInBounds_toArray, List.set_cons_succ, List.set_cons_zero])
                | (go_big_quiet_step (first | exact fun _ => rfl | with_reducible exact call_below A1.out _ | with_reducible exact call_below A2.out _ | with_reducible exact call_below awake02 _)))
              refine wpQuiet_nil ?_
              intro w' hw'
              have HW2 := Lib.hid hw'
              clear hw'
              go_wp2_with fail
              go_ret
              exact ⟨rfl, bstep HBW.out HW2.out⟩
end Go.Proofs.Ytghiobmobihgpaa
