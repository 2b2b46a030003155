/- lz.number and lz.sequence: what they put behind bytes. -/
import Derived.Test.YtipadidfiffkjaaLzCopies
namespace Go.Proofs.Ytipadidfiffkjaa
open Go.RowKit Go.PostSums Go.PostMem
theorem extB_short (n : Nat) (h : n < 255) : PostLz.extB n = [UInt8.ofNat n] := by rw [PostLz.extB, if_pos h]
theorem extB_long (n : Nat) (h : ¬ n < 255) : PostLz.extB n = 255 :: PostLz.extB (n - 255) := by rw [PostLz.extB, if_neg h]
theorem ofNat_int (n : Nat) (h : n < 256) : (n : Int) = ((UInt8.ofNat n).toNat : Int) := by rw [UInt8.toNat_ofNat']; omega
def PutPost (base : Nat) (l : List UInt8) (w : World) (e : Ending) (w' : World) : Prop := ∃ v', e = .returned v' ∧ Buf w' base 5 v' l ∧ Below base w w'
set_option maxRecDepth 100000 in
set_option maxHeartbeats 800000 in
theorem lnumber_walk (base : Nat) (v : Value) (l : List UInt8) (n : Nat) (w : World) (hB : Buf w base 5 v l) (hb : base ≤ w.heap.size) (hl : l.length ≤ 4294967296) (hn : 15 ≤ n) (hn2 : n ≤ 4294967296) :
    Calls Try.prog 51 #[v, .int .i64 (n : Int)] w (PutPost base (l ++ PostLz.extB (n - 15)) w) := by
  obtain ⟨A, c, rfl, hc, _⟩ := hB.len
  have HB := Lib.hid hB
  clear hB
  go_enter Try.func51, Try.ntmps51
  go_wp2_with fail
  go_loopw [0, 1] (fun v0 v1 wr => ∃ (j : Nat) (m : List UInt8), v1 = .int .i64 (j : Int) ∧ j ≤ n - 15 ∧ m.length + j ≤ l.length + n ∧ Hid (Buf wr base 5 v0 m ∧ Below base w wr ∧ m ++ PostLz.extB j = l ++ PostLz.extB (n - 15))) (fun _ v1 _ => (intOf v1).toNat)
  case atStart => exact ⟨n - 15, l, by first | rfl | (congr 1; omega), Nat.le_refl _, by omega, Lib.hid ⟨HB.out, Below.refl _ _, rfl⟩⟩
  case round =>
    obtain ⟨j, m, rfl, hj, hm, HI⟩ := hrel
    obtain ⟨A', c', rfl, hc', _⟩ := HI.out.1.len
    by_cases h255 : 255 ≤ j
    · go_wp2_with (refine wpList_byte rfl (.tmp 11) (.tmp 12) 30 rfl base 5 infoU8 Try.underlying30 _ m rfl HI.out.1 rfl _ 255 rfl (by omega) (Nat.le_trans hb HI.out.2.1.size) ?_; intro v3 w3 hbuf hold hg)
      have hb3 := HI.out.2.1.trans (below_grown hg (fun k hk => Buf.own_ge HI.out.1 k hk) (Nat.le_trans hb HI.out.2.1.size))
      have HNW := Lib.hid (And.intro hbuf hb3)
      clear hbuf hb3 hold hg
      go_roundw
      case rel =>
        refine ⟨j - 255, m ++ [255], by first | rfl | (congr 1; omega), by omega, by simp; omega, Lib.hid ⟨HNW.out.1, HNW.out.2, ?_⟩⟩
        rw [← HI.out.2.2, extB_long j (by omega), List.append_assoc]; rfl
      case measure => simp [intOf]; omega
    · have hj256 : j < 256 := by omega
      go_wp2_with (refine wpList_byte rfl (.tmp 14) (.tmp 17) 30 rfl base 5 infoU8 Try.underlying30 _ m rfl HI.out.1 rfl _ (UInt8.ofNat j) (by first | exact ofNat_int j hj256 | (rw [← ofNat_int j hj256]; omega)) (by omega) (Nat.le_trans hb HI.out.2.1.size) ?_; intro v3 w3 hbuf hold hg)
      have hb3 := HI.out.2.1.trans (below_grown hg (fun k hk => Buf.own_ge HI.out.1 k hk) (Nat.le_trans hb HI.out.2.1.size))
      rw [← extB_short j (by omega), HI.out.2.2] at hbuf
      have HNW := Lib.hid (And.intro hbuf hb3)
      clear hbuf hb3 hold hg
      go_ret
      exact ⟨_, rfl, HNW.out.1, HNW.out.2⟩
theorem token_or (a b : Nat) (x y : Int) (hx : x = (min a 15 : Nat) * 16) (hy : y = (min b 15 : Nat)) : Go.bits .or .i64 x y % 256 = ((PostLz.token a b).toNat : Int) := by
  rw [bits_join .i64 63 (by decide) wrap_i64_in 4 _ _ (by omega) (by omega) (by omega) (by omega) (by omega) (by omega)]
  unfold PostLz.token
  rw [UInt8.toNat_ofNat']
  omega
set_option maxRecDepth 100000 in
set_option maxHeartbeats 1600000 in
theorem last_walk (base : Nat) (v : Value) (l : List UInt8) (lit : ByteArray) (w : World) (hB : Buf w base 5 v l) (hb : base ≤ w.heap.size) (hl : l.length ≤ 4194304) (hn : lit.size ≤ 4194304) :
    Calls Try.prog 41 #[v, .string lit, .int .i64 0, .int .i64 0] w (PutPost base (l ++ PostLz.lastB lit.data.toList) w) := by
  obtain ⟨A, c, rfl, hc, _⟩ := hB.len
  have HB := Lib.hid hB
  have HLn : Hid (lit.data.toList.length = lit.size) := Lib.hid (by simp)
  clear hB
  by_cases ha : lit.size < 15
  · have HS : Hid (PostLz.lastB lit.data.toList = PostLz.token lit.data.toList.length 0 :: lit.data.toList) := Lib.hid (by
      unfold PostLz.lastB PostLz.headB PostLz.numB; rw [HLn.out, if_pos ha]; rfl)
    go_enter Try.func41, Try.ntmps41
    go_upto_if 27 with (refine wpList_byte rfl (.tmp 16) (.tmp 24) 30 rfl base 5 infoU8 Try.underlying30 _ l rfl HB.out rfl _ (PostLz.token lit.data.toList.length 0) (token_or _ _ _ _ (by have := HLn.out; omega) (by omega)) (by omega) hb ?_; intro v3 w3 hbuf hold hg)
    have hb3 := below_grown hg (fun k hk => Buf.own_ge HB.out k hk) hb
    have HN := Lib.hid (And.intro hbuf hb3)
    clear hbuf hb3 hold hg
    go_wp2_with (refine wpList_text rfl (.tmp 31) (.tmp 32) 30 9 rfl base 5 infoU8 Try.underlying30 Try.underlying9 _ _ rfl HN.out.1 lit rfl (by simp; omega) (Nat.le_trans hb HN.out.2.size) ?_; intro v4 w4 hbuf hold hg)
    have hb4 := below_grown hg (fun k hk => Buf.own_ge HN.out.1 k hk) (Nat.le_trans hb HN.out.2.size)
    go_ret
    refine ⟨_, rfl, ?_, HN.out.2.trans hb4⟩
    rw [HS.out]
    rw [List.append_assoc] at hbuf
    exact hbuf
  · have HS : Hid (PostLz.lastB lit.data.toList = PostLz.token lit.data.toList.length 0 :: (PostLz.extB (lit.size - 15) ++ lit.data.toList)) := Lib.hid (by
      unfold PostLz.lastB PostLz.headB PostLz.numB; rw [HLn.out, if_neg ha])
    have hxl := PostLz.extB_len (lit.size - 15)
    have HX := Lib.hid hxl
    clear hxl
    go_enter Try.func41, Try.ntmps41
    go_upto_if 27 with (refine wpList_byte rfl (.tmp 16) (.tmp 24) 30 rfl base 5 infoU8 Try.underlying30 _ l rfl HB.out rfl _ (PostLz.token lit.data.toList.length 0) (token_or _ _ _ _ (by have := HLn.out; omega) (by omega)) (by omega) hb ?_; intro v3 w3 hbuf hold hg)
    have hb3 := below_grown hg (fun k hk => Buf.own_ge HB.out k hk) hb
    have HN := Lib.hid (And.intro hbuf hb3)
    clear hbuf hb3 hold hg
    go_upto_region 5 with (go_at_call 51; (with_reducible refine (lnumber_walk base _ _ lit.size _ HN.out.1 (Nat.le_trans hb HN.out.2.size) (by simp; omega) (by omega) (by omega)).mono ?_); rintro e w4 ⟨v4, rfl, hbuf, hb4⟩)
    have HN4 := Lib.hid (And.intro hbuf (HN.out.2.trans hb4))
    clear hbuf hb4
    generalize (if (15 : Int) < (lit.size : Int) then (15 : Int) else (lit.size : Int)) = z
    go_wp2_with (refine wpList_text rfl (.tmp 31) (.tmp 32) 30 9 rfl base 5 infoU8 Try.underlying30 Try.underlying9 _ _ rfl HN4.out.1 lit rfl (by have := HX.out; simp; omega) (Nat.le_trans hb HN4.out.2.size) ?_; intro v5 w5 hbuf hold hg)
    have hb5 := below_grown hg (fun k hk => Buf.own_ge HN4.out.1 k hk) (Nat.le_trans hb HN4.out.2.size)
    go_ret
    refine ⟨_, rfl, ?_, HN4.out.2.trans hb5⟩
    rw [HS.out]
    simp only [List.append_assoc, List.cons_append, List.nil_append] at hbuf
    exact hbuf
theorem lo_far (far : Nat) : ((far : Int) % 256) = ((UInt8.ofNat far).toNat : Int) := by rw [UInt8.toNat_ofNat']; omega
theorem hi_far (far : Nat) (h : far ≤ 65535) : ((far : Int) / 256) = ((UInt8.ofNat (far / 256)).toNat : Int) := by rw [UInt8.toNat_ofNat']; omega
set_option maxRecDepth 100000 in
set_option maxHeartbeats 1600000 in
theorem seq_walk (base : Nat) (v : Value) (l : List UInt8) (lit : ByteArray) (far n : Nat) (w : World) (hB : Buf w base 5 v l) (hb : base ≤ w.heap.size) (hl : l.length ≤ 4194304) (hn : lit.size ≤ 4194304)
    (hf : far ≤ 65535) (h4 : 4 ≤ n) (hn2 : n ≤ 4194304) :
    Calls Try.prog 41 #[v, .string lit, .int .i64 (far : Int), .int .i64 (n : Int)] w (PutPost base (l ++ PostLz.seqB lit.data.toList far n) w) := by
  obtain ⟨A, c, rfl, hc, _⟩ := hB.len
  have HB := Lib.hid hB
  clear hB
  have HLn : Hid (lit.data.toList.length = lit.size) := Lib.hid (by simp)
  have HXa := Lib.hid (PostLz.numB_len lit.size)
  have b0 : ((n : Int) == 0) = false := beq_eq_false_iff_ne.2 (by omega)
  have hm0 : 0 ≤ (n : Int) - 4 := by omega
  obtain ⟨b, hbn⟩ : ∃ b : Nat, b = n - 4 := ⟨_, rfl⟩
  have HBN := Lib.hid hbn
  have hbi : (n : Int) - 4 = (b : Int) := by omega
  have hb2 : b ≤ 4194304 := by omega
  have hif : (if 0 < b then (b : Int) else 0) = (b : Int) := by split <;> omega
  have HXb := Lib.hid (PostLz.numB_len b)
  have HS : Hid (l ++ PostLz.seqB lit.data.toList far n = l ++ [PostLz.token lit.data.toList.length b] ++ PostLz.numB lit.size ++ lit.data.toList ++ [UInt8.ofNat far, UInt8.ofNat (far / 256)] ++ PostLz.numB b) := Lib.hid (by
    unfold PostLz.seqB PostLz.headB PostLz.tailB; rw [← hbn, HLn.out]; simp)
  clear hbn
  go_enter Try.func41, Try.ntmps41
  go_upto_region 2 with (fail)
  clear hif hbi hm0
  go_upto_if 27 with (refine wpList_byte rfl (.tmp 16) (.tmp 24) 30 rfl base 5 infoU8 Try.underlying30 _ l rfl HB.out rfl _ (PostLz.token lit.data.toList.length b) (token_or _ _ _ _ (by have := HLn.out; omega) (by omega)) (by omega) hb ?_; intro v3 w3 hbuf hold hg)
  have hb3 := below_grown hg (fun k hk => Buf.own_ge HB.out k hk) hb
  have HN := Lib.hid (And.intro hbuf hb3)
  clear hbuf hb3 hold hg
  generalize (if (15 : Int) < (lit.size : Int) then (15 : Int) else (lit.size : Int)) = za
  generalize (if (15 : Int) < (b : Int) then (15 : Int) else (b : Int)) = zb
  go_cut [0] (fun v0 wx => Hid (Buf wx base 5 v0 (l ++ [PostLz.token lit.data.toList.length b] ++ PostLz.numB lit.size) ∧ Below base w wx))
  case first =>
    by_cases ha : lit.size < 15
    · go_wp2_with fail
      go_meet
      exact Lib.hid ⟨by unfold PostLz.numB; rw [if_pos ha, List.append_nil]; exact HN.out.1, HN.out.2⟩
    · go_wp2_with (go_at_call 51; (with_reducible refine (lnumber_walk base _ _ lit.size _ HN.out.1 (Nat.le_trans hb HN.out.2.size) (by simp; omega) (by omega) (by omega)).mono ?_); rintro e w4 ⟨v4, rfl, hbuf, hb4⟩)
      go_meet
      exact Lib.hid ⟨by unfold PostLz.numB; rw [if_neg ha]; exact hbuf, HN.out.2.trans hb4⟩
  case rest =>
    have hcut' := hcut
    clear hcut HN
    have hx : (PostLz.numB lit.size).length ≤ 4194304 := by rw [HXa.out]; split <;> omega
    have hlen4 : (l ++ [PostLz.token lit.data.toList.length b] ++ PostLz.numB lit.size).length + lit.size ≤ 140737488355328 := by
      simp only [List.length_append, List.length_cons, List.length_nil]; omega
    have hlen5 : (l ++ [PostLz.token lit.data.toList.length b] ++ PostLz.numB lit.size ++ lit.data.toList).length ≤ 16777216 := by
      have := HLn.out
      simp only [List.length_append, List.length_cons, List.length_nil]; omega
    generalize l ++ [PostLz.token lit.data.toList.length b] ++ PostLz.numB lit.size = l4 at hcut' hlen4 hlen5 HS
    go_upto_if 46 with (first
      | (refine wpList_text rfl (.tmp 31) (.tmp 32) 30 9 rfl base 5 infoU8 Try.underlying30 Try.underlying9 _ _ rfl hcut'.out.1 lit rfl hlen4 (Nat.le_trans hb hcut'.out.2.size) ?_; intro v5 w5 hbuf hold hg; have HN5 := Lib.hid (And.intro hbuf (hcut'.out.2.trans (below_grown hg (fun k hk => Buf.own_ge hcut'.out.1 k hk) (Nat.le_trans hb hcut'.out.2.size)))); clear hbuf hold hg)
      | (refine wpList_two rfl (.tmp 37) (.tmp 43) 30 rfl base 5 infoU8 Try.underlying30 _ _ rfl HN5.out.1 rfl _ _ (UInt8.ofNat far) (UInt8.ofNat (far / 256)) (lo_far far) (hi_far far hf) (by omega) (Nat.le_trans hb HN5.out.2.size) ?_; intro v6 w6 hbuf hold hg; have HN6 := Lib.hid (And.intro hbuf (HN5.out.2.trans (below_grown hg (fun k hk => Buf.own_ge HN5.out.1 k hk) (Nat.le_trans hb HN5.out.2.size)))); clear hbuf hold hg))
    by_cases hb15 : b < 15
    · go_wp2_with fail
      go_ret
      refine ⟨_, rfl, ?_, HN6.out.2⟩
      rw [HS.out]; unfold PostLz.numB; rw [if_pos hb15, List.append_nil]; exact HN6.out.1
    · go_wp2_with (go_at_call 51; (with_reducible refine (lnumber_walk base _ _ b _ HN6.out.1 (Nat.le_trans hb HN6.out.2.size) (by simp only [List.length_append, List.length_cons, List.length_nil] at hlen5 ⊢; omega) (by omega) (by omega)).mono ?_); rintro e w7 ⟨v7, rfl, hbuf, hb7⟩)
      go_ret
      refine ⟨_, rfl, ?_, HN6.out.2.trans hb7⟩
      rw [HS.out]; unfold PostLz.numB; rw [if_neg hb15]; exact hbuf
end Go.Proofs.Ytipadidfiffkjaa
