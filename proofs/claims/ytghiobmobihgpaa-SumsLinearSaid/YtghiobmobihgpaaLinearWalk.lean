/- The walk of SumsLinear. -/
import Derived.Test.YtghiobmobihgpaaLinear
import Derived.Test.YtghiobmobihgpaaGrows
import Derived.Test.YtghiobmobihgpaaBurstWalk
import Derived.OwnWalk
import Derived.Deep.RegionHeld3
namespace Go.Proofs.Ytghiobmobihgpaa
open Go.RowKit Go.PostSums
theorem xor_cell (s t : ByteArray) (i : Nat) (hs : i < s.size) (ht : i < t.size) : Go.bits .xor .u8 (s[i].toNat : Int) (t[i].toNat : Int) = ((UInt8.ofNat (at8 s.data.toList i ^^^ at8 t.data.toList i)).toNat : Int) := by
  have e1 : at8 s.data.toList i = s[i].toNat := by rw [at8_elem _ i (by simpa using hs)]; rfl
  have e2 : at8 t.data.toList i = t[i].toNat := by rw [at8_elem _ i (by simpa using ht)]; rfl
  rw [e1, e2, xor8 _ _ s[i].toNat_lt t[i].toNat_lt]
  have : s[i].toNat ^^^ t[i].toNat < 2 ^ 8 := Nat.xor_lt_two_pow s[i].toNat_lt t[i].toNat_lt
  rw [UInt8.toNat_ofNat', Nat.mod_eq_of_lt this]
theorem crc_xorTo (s t : ByteArray) (n : Nat) (hs : n ≤ s.size) (ht : n ≤ t.size) :
    crcN 0 (xorTo s.data.toList t.data.toList n n) = crcN 0 (s.extract 0 n).data.toList ^^^ crcN 0 (t.extract 0 n).data.toList ^^^ crcN 0 (List.replicate n 0) := by
  have es : (s.extract 0 n).data.toList = s.data.toList.take n := by simp
  have et : (t.extract 0 n).data.toList = t.data.toList.take n := by simp
  have gt : ∀ (l : List UInt8) i, i < n → (l.take n).getD i 0 = l.getD i 0 := fun l i h => by
    simp only [List.getD_eq_getElem?_getD, List.getElem?_take, if_pos h]
  have go : ∀ (l : List UInt8) i, l.length ≤ i → l.getD i 0 = 0 := fun l i h => by
    rw [List.getD_eq_getElem?_getD, List.getElem?_eq_none h]; rfl
  rw [es, et]
  refine crcN_linear _ _ _ _ (by rw [xorTo_len, List.length_take]; simp; omega) (by rw [xorTo_len, List.length_take]; simp; omega) (by rw [xorTo_len, List.length_replicate]) (fun i => ?_) (fun i => ?_)
  · by_cases h : i < n
    · rw [gt _ _ h, gt _ _ h]
      have := xorTo_at s.data.toList t.data.toList n n i h
      rw [if_pos h] at this
      exact this
    · rw [go _ _ (by rw [xorTo_len]; omega), go _ _ (by rw [List.length_take]; omega), go _ _ (by rw [List.length_take]; omega)]; rfl
  · by_cases h : i < n
    · simp [List.getD_eq_getElem?_getD, h]
    · rw [go _ _ (by rw [List.length_replicate]; omega)]; rfl
theorem info_u8 : (Try.prog.info? 5).map (fun i => (i.zero, i.size, i.bytes)) = some (some (.int .u8 0), 1, 1) := by kernel_rfl
set_option maxHeartbeats 800000 in
theorem SumsLinear_walk (s t : ByteArray) (w : World) (hs : s.size ≤ 140737488351232) (_ : t.size ≤ 140737488351232) :
    Calls Try.prog 7 #[.string s, .string t] w fun e w' => e = .returned (.bool true) ∧ Below w.heap.size w w' := by
  go_enter Try.func7, Try.ntmps7
  go_upto_if 14 with (fail)
  obtain ⟨n, hn, hns, hnt⟩ : ∃ n : Nat, (if t.size < s.size then (t.size : Int) else (s.size : Int)) = (n : Int) ∧ n ≤ s.size ∧ n ≤ t.size := by
    by_cases h : t.size < s.size
    · exact ⟨t.size, if_pos h, by omega, by omega⟩
    · exact ⟨s.size, if_neg h, by omega, by omega⟩
  rw [hn]
  have HN := Lib.hid hn
  clear hn
  by_cases h1 : 8192 < n
  · have e1 : decide ((8192 : Int) < (n : Int)) = true := decide_eq_true (by omega)
    rw [e1]
    go_wp2_with (first
      | (go_at_call 13; refine (awake02 _).mono ?_; rintro e W3 ⟨rfl, hB3⟩))
    go_ret
    exact ⟨rfl, hB3⟩
  · have e1 : decide ((8192 : Int) < (n : Int)) = false := decide_eq_false (by omega)
    rw [e1]
    go_wp2_with fail
    obtain ⟨iu, hi, hz, hsz, hbb⟩ := info_parts info_u8
    have hb1 : iu.bytes * n ≤ 281474976710656 := by rw [hbb]; omega
    go_wp2_with fail
    obtain ⟨w1, hrun, r1, r2⟩ := run_make_full (P := Try.prog) w w.heap.size 30 5 iu _ 1 Try.underlying30 hi hz hsz .i64 .i64 n hb1 (by unfold maxLen; omega) (Nat.le_refl _)
    rw [hrun]
    rw [made_zero] at r1
    have HZ := Lib.hid (bytes_of_row (List.replicate n 0) r1)
    have HB1 := Lib.hid (grown_below r2)
    have HR := Lib.hid hrun
    clear hrun r1 r2 hi hz hsz hbb hb1 e1 iu HR
    generalize hB : w.heap.size = B at HZ
    have HBB := Lib.hid hB
    clear hB
    go_wp2_with fail
    go_loopw [7] (fun v7 wr => ∃ i : Nat, i ≤ n ∧ v7 = .int .i64 i ∧ Hid (Bytes wr B (xorTo s.data.toList t.data.toList n i) ∧ Below w.heap.size w wr)) (fun v7 _ => n - (intOf v7).toNat)
    case atStart => exact ⟨0, by omega, rfl, Lib.hid ⟨by rw [xorTo_zero]; exact HZ.out, HB1.out⟩⟩
    case round =>
      obtain ⟨i, hi, rfl, Hi⟩ := hrel
      by_cases hin : i < n
      · have hpl := xorTo_len s.data.toList t.data.toList n i
        have his : i < s.size := by omega
        have hit : i < t.size := by omega
        have ck := Hi.out.1.cell i (by rw [hpl]; exact hin)
        have fk := Hi.out.1.free i (by rw [hpl]; exact hin)
        have HX := (fun m => (Hi.out.1.of_block (w' := wr.drewN m) rfl).set i (by rw [hpl]; exact hin) (UInt8.ofNat (at8 s.data.toList i ^^^ at8 t.data.toList i)))
        simp only [xorTo_step] at HX
        have hx := xor_cell s t i his hit
        generalize UInt8.ofNat (at8 s.data.toList i ^^^ at8 t.data.toList i) = z at hx HX
        generalize at8 (xorTo s.data.toList t.data.toList n i) i = y at ck
        have HI := Lib.hid (show IntKind.i64.wrap ((i : Int) + 1) = (i : Int) + 1 from IntWalk.i64_in _ (by omega))
        go_wp2_with fail
        refine QuietTail.wp_region (fun w' => ∃ m, w' = wr.drewN m) 10 (by kernel_rfl) (by kernel_rfl) ⟨1, rfl⟩ ?_
        simp only [List.take_succ_cons, List.take_zero, List.drop_succ_cons, List.drop_zero]
        repeat (go_big_quiet_step (fail))
        refine wpQuiet_nil ?_
        rintro _ ⟨nq, rfl⟩
        have HX2 := Lib.hid (HX nq)
        clear HX
        go_wp2_with fail
        go_roundw
        case rel => exact ⟨i + 1, by omega, by go_num, Lib.hid ⟨HX2.out, (Hi.out.2.trans (below_drewN wr nq _)).setCell (by rw [HBB.out]; exact Nat.le_refl _) _⟩⟩
        case measure => simp [intOf]; omega
      · obtain rfl : i = n := by omega
        have hBlt : B < wr.heap.size := by
          obtain ⟨cs, t, fr, hb, _⟩ := Hi.out.1
          exact (Array.getElem?_eq_some_iff.1 hb).1
        have HYB := Lib.hid Hi.out.1
        have HBW := Lib.hid Hi.out.2
        clear Hi
        have hlen := xorTo_len s.data.toList t.data.toList i i
        have hml : ∀ k, k ≤ 140737488351232 → k ≤ maxLen := fun k hk => by unfold maxLen; omega
        have A1 := Lib.hid (fun w' => Crc_any (strOf (xorTo s.data.toList t.data.toList i i)) w' (by rw [strOf_size, hlen]; exact hml _ (by omega)))
        have A2 := Lib.hid (fun w' => Crc_any (s.extract 0 i) w' (by rw [ByteArray.size_extract]; exact hml _ (by omega)))
        have A3 := Lib.hid (fun w' => Crc_any (t.extract 0 i) w' (by rw [ByteArray.size_extract]; exact hml _ (by omega)))
        have A4 := Lib.hid (fun w' => Crc_any (strOf (List.replicate i 0)) w' (by rw [strOf_size, List.length_replicate]; exact hml _ (by omega)))
        rw [strOf_list] at A1 A4
        have hlin : crcN 0 (xorTo s.data.toList t.data.toList i i) = crcN 0 (s.extract 0 i).data.toList ^^^ crcN 0 (t.extract 0 i).data.toList ^^^ crcN 0 (List.replicate i 0) := crc_xorTo s t i hns hnt
        have l2 := crcN_lt 0 (s.extract 0 i).data.toList (by decide)
        have l3 := crcN_lt 0 (t.extract 0 i).data.toList (by decide)
        have l4 := crcN_lt 0 (List.replicate i 0) (by decide)
        have HR2 := Lib.hid (fun w' (hw' : BelowOf wr w') => run_bytes_back w' B 0 i i _ ((HYB.out.of_block (hw'.block B hBlt)).at_) hlen)
        have HR4 := Lib.hid (fun w' g (hw' : Bytes w' g (List.replicate i 0)) => run_bytes_back w' g 0 i i _ hw'.at_ (List.length_replicate ..))
        generalize crcN 0 (xorTo s.data.toList t.data.toList i i) = c1 at A1 hlin
        generalize strOf (xorTo s.data.toList t.data.toList i i) = X at A1 HR2
        generalize strOf (List.replicate i 0) = Z at A4 HR4
        generalize crcN 0 (s.extract 0 i).data.toList = c2 at A2 hlin l2
        generalize crcN 0 (t.extract 0 i).data.toList = c3 at A3 hlin l3
        generalize crcN 0 (List.replicate i 0) = c4 at A4 hlin l4
        have hx1 := xor64 c2 c3 (by omega) (by omega)
        have l5 : c2 ^^^ c3 < 2 ^ 32 := Nat.xor_lt_two_pow l2 l3
        generalize c2 ^^^ c3 = c5 at hlin hx1 l5
        have hx2 := xor64 c5 c4 (by omega) (by omega)
        rw [← hlin] at hx2
        clear hlin l2 l3 l4 l5 hlen
        go_wp2_with fail
        refine wp_region_noPanic ?_
        refine Grows.wp_region_make' (G := BelowOf) 13 54 (fun w => Below.refl _ _) (fun u v w h k => bstep h k) (by kernel_rfl) (fun _ _ _ _ _ h => h) rfl (by kernel_rfl) rfl rfl ?_
        apply Exists.intro
        apply And.intro
        case left =>
          intro w1' h1'
          have h2' := Lib.hid (fun w' (hw' : BelowOf w1' w') => HR2.out w' (bstep (bstep (below_drewN wr 1 _) h1') hw'))
          simp only [List.take_succ_cons, List.take_zero]
          repeat (first
            | (refine QuietTail.conv rfl 30 9 (.tmp 33) rfl _ _ rfl h2'.out ?_; simp only [Act.put, List.setIfInBounds_toArray, List.set_cons_succ, List.set_cons_zero])
            | (go_big_quiet_step (first | exact fun _ => rfl | with_reducible exact call_below A1.out _ | with_reducible exact call_below A2.out _ | with_reducible exact call_below A3.out _)))
          exact wpQuiet_nil rfl
        case right =>
          intro w5 h5
          obtain ⟨iu, hi, hz, hsz, hbb⟩ := info_parts info_u8
          have hb1 : iu.bytes * i ≤ 281474976710656 := by rw [hbb]; omega
          obtain ⟨w6, hrun, r1, r2⟩ := run_make_full (P := Try.prog) w5 w5.heap.size 30 5 iu _ 1 Try.underlying30 hi hz hsz .i64 .i64 i hb1 (by unfold maxLen; omega) (Nat.le_refl _)
          rw [made_zero] at r1
          have HZ6 := Lib.hid (bytes_of_row (List.replicate i 0) r1)
          have hlt6 : w5.heap.size < w6.heap.size := by
            obtain ⟨cs, t, fr, hb, _⟩ := HZ6.out
            exact (Array.getElem?_eq_some_iff.1 hb).1
          have hB6 := grown_below r2
          refine ⟨.slice (some ⟨w5.heap.size, 0, none⟩) i i, w6, ?_, hB6, ?_⟩
          · simp [execOp, Act.eval, hrun, Result.andThen]
          clear hrun r1 r2 hi hz hsz hbb hb1 iu
          have hB6' := Lib.hid hB6
          clear hB6
          generalize w5.heap.size = g at HZ6 hlt6
          simp only [Act.put, List.setIfInBounds_toArray, List.set_cons_succ, List.set_cons_zero]
          apply Exists.intro
          refine ⟨?_, ?_⟩
          · intro w7 h7
            have h2' := Lib.hid (fun w' (hw' : BelowOf w7 w') => HR4.out w' g (HZ6.out.of_block ((bstep h7 hw').block g hlt6)))
            simp only [List.drop_succ_cons, List.drop_zero]
            repeat (first
              | (refine QuietTail.conv rfl 30 9 (.tmp 46) rfl _ _ rfl h2'.out ?_; simp only [Act.put, List.setIfInBounds_toArray, List.set_cons_succ, List.set_cons_zero])
              | (go_big_quiet_step (first | exact fun _ => rfl | with_reducible exact call_below A4.out _ | with_reducible exact call_below awake02 _)))
            exact wpQuiet_nil rfl
          · intro w8 h8
            refine NoPanic.normal ?_
            go_wp2_with fail
            go_ret
            exact ⟨rfl, bstep (bstep (bstep (bstep HBW.out (below_drewN wr 1 _)) h5) hB6'.out) h8⟩
end Go.Proofs.Ytghiobmobihgpaa
