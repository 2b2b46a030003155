/- The walk of LzEnds. -/
import Derived.Test.YtaepfppdhcgegaaLzLaws
import Derived.Deep.CutBlock
namespace Go.Proofs.Ytaepfppdhcgegaa
open Go.RowKit Go.PostSums Go.PostMem
/-- a number is being read at the place k, a so far; x: 15 until it ends -/
def Reads (z : ByteArray) (k a x : Nat) (A : Nat) (rest : List UInt8) : Prop :=
  (x = 15 ∧ 15 ≤ a ∧ k < z.size ∧ PostLz.ext (z.data.toList.drop k) a = some (A, rest)) ∨ ((x = 0 ∨ a < 15) ∧ a = A ∧ z.data.toList.drop k = rest)
theorem reads_begin (z : ByteArray) (k n A : Nat) (rest : List UInt8) (h : PostLz.num n (z.data.toList.drop k) = some (A, rest)) : Reads z k n 15 A rest := by
  unfold PostLz.num at h
  split at h
  · simp only [Option.some.injEq, Prod.mk.injEq] at h
    exact .inr ⟨.inr (by omega), h.1, h.2⟩
  · refine .inl ⟨rfl, by omega, ?_, h⟩
    have := PostLz.ext_len _ _ _ _ h
    rw [List.length_drop, size_list] at this
    omega
theorem reads_step (z : ByteArray) (k a A : Nat) (rest : List UInt8) (hk : k < z.size) (ha : 15 ≤ a) (h : PostLz.ext (z.data.toList.drop k) a = some (A, rest)) :
    Reads z (k + 1) (a + z[k].toNat) (if z[k].toNat = 255 then 15 else 0) A rest := by
  rw [drop_at z k hk, PostLz.ext] at h
  have := z[k].toNat_lt
  split at h
  · rw [if_neg (by omega)]
    simp only [Option.some.injEq, Prod.mk.injEq] at h
    exact .inr ⟨.inl rfl, h.1, h.2⟩
  · rw [if_pos (by omega)]
    refine .inl ⟨rfl, by omega, ?_, h⟩
    have := PostLz.ext_len _ _ _ _ h
    rw [List.length_drop, size_list] at this
    omega
theorem blk_shape (s : List UInt8) (f : Nat) (c : UInt8) (r : List UInt8) (h : PostLz.Blk s f (c :: r)) :
    ∃ (lit tail : List UInt8) (b : Nat), c.toNat / 16 = min lit.length 15 ∧ c.toNat % 16 = min b 15 ∧ r = PostLz.numB lit.length ++ (lit ++ tail) ∧ f + lit.length ≤ s.length ∧
      ((tail = [] ∧ f + lit.length = s.length ∧ (lit.length = s.length ∨ 5 ≤ lit.length)) ∨
       ∃ z2, tail.drop 2 = PostLz.numB b ++ z2 ∧ 2 ≤ tail.length ∧ f + lit.length + 12 ≤ s.length ∧ f + lit.length + (b + 4) + 5 ≤ s.length ∧ PostLz.Blk s (f + lit.length + (b + 4)) z2) := by
  generalize hz : c :: r = zz at h
  cases h with
  | last f h =>
    unfold PostLz.lastB PostLz.headB at hz
    injection hz with h1 h2
    have hl : (s.drop f).length = s.length - f := by simp
    refine ⟨s.drop f, [], 0, by rw [h1, PostLz.token_hi], by rw [h1, PostLz.token_lo], by rw [h2, List.append_nil], by omega, .inl ⟨rfl, by omega, by omega⟩⟩
  | seq f a p n z2 hf hp hw h4 hn h12 he hz2 =>
    unfold PostLz.seqB PostLz.headB at hz
    simp only [List.cons_append, List.append_assoc] at hz
    injection hz with h1 h2
    have hl := PostLz.lit_len (s := s) hf (by omega)
    refine ⟨(s.drop f).take (a - f), PostLz.tailB (a - p) (n - 4) ++ z2, n - 4, by rw [h1, PostLz.token_hi], by rw [h1, PostLz.token_lo], by rw [h2], by omega, .inr ⟨z2, rfl, by simp [PostLz.tailB], by omega, by omega, ?_⟩⟩
    rw [hl, show f + (a - f) + (n - 4 + 4) = a + n by omega]
    exact hz2
set_option maxRecDepth 100000 in
set_option maxHeartbeats 1600000 in
theorem LzEnds_walk (s : ByteArray) (w : World) (hs : s.size ≤ 140737488351232) :
    Calls Try.prog 5 #[.string s] w fun e w' => e = .returned (.bool true) ∧ Below w.heap.size w w' := by
  by_cases h1 : 4096 < s.size
  · go_enter Try.func5, Try.ntmps5
    go_wp2_with (go_at_call 11; refine (awake06 _).mono ?_; rintro e W3 ⟨rfl, hB3⟩)
    go_ret
    exact ⟨rfl, hB3⟩
  · obtain ⟨z, hz, hzl⟩ := packed s
    have HZ := Lib.hid hz
    have hz9 : z.size ≤ 9000 := by omega
    have hd13 : decide ((4096 : Int) < (s.size : Int)) = false := decide_eq_false (by omega)
    have HBk : Hid (PostLz.Blk s.data.toList 0 (z.data.toList.drop 0)) := Lib.hid (by rw [List.drop_zero, hz]; exact PostLz.pack_is _)
    clear hz
    go_enter Try.func5, Try.ntmps5
    go_wp2_with (go_at_call 12; refine (Pack_is s z _ HZ.out (by omega)).mono ?_; rintro e W1 ⟨rfl, hB1⟩)
    go_loopw [5, 6] (fun v5 v6 wr => ∃ f k : Nat, v5 = .int .i64 (f : Int) ∧ v6 = .int .i64 (k : Int) ∧ Hid (k ≤ z.size ∧ PostLz.Blk s.data.toList f (z.data.toList.drop k) ∧ ∃ m, wr = W1.drewN m)) (fun _ v6 _ => z.size - (intOf v6).toNat)
    case atStart => exact ⟨0, 0, rfl, rfl, Lib.hid ⟨Nat.zero_le _, HBk.out, 0, rfl⟩⟩
    case round =>
      obtain ⟨f, k, rfl, rfl, HI⟩ := hrel
      obtain ⟨hk, hblk, hw⟩ := HI.out
      clear HI
      have HW := Lib.hid hw; clear hw
      have hlt : k < z.size := by
        rcases Nat.lt_or_ge k z.size with h | h
        · exact h
        · exact absurd (List.drop_of_length_le (by rw [size_list]; exact h)) hblk.ne
      have ik : (k : Int) < (z.size : Int) := by omega
      have hd25 : decide (z.size ≤ k) = false := decide_eq_false (by omega)
      have hblk' := blk_shape s.data.toList f z[k] (z.data.toList.drop (k + 1)) (by rw [← drop_at z k hlt]; exact hblk)
      rw [size_list] at hblk'
      obtain ⟨lit, tail, b, hhi, hlo, hrest, hfl, hcase⟩ := hblk'
      have HR1 : Hid (Reads z (k + 1) (z[k].toNat / 16) 15 lit.length (lit ++ tail)) := Lib.hid (reads_begin z (k + 1) _ _ _ (by rw [hrest, hhi]; exact PostLz.num_numB _ _))
      have HR2 : Hid (∀ j z2, z.data.toList.drop j = PostLz.numB b ++ z2 → Reads z j (z[k].toNat % 16) 15 b z2) := Lib.hid (fun j z2 h => reads_begin z j _ _ _ (by rw [h, hlo]; exact PostLz.num_numB _ _))
      have hb8 := z[k].toNat_lt
      clear hhi hlo hrest hblk
      go_wp2_with fail
      go_quiet (fail)
      go_upto_block 2 with (fail)
      have HWq : Hid (∃ m, wr.drewN nq = W1.drewN m) := Lib.hid (by obtain ⟨m, rfl⟩ := HW.out; exact ⟨_, World.drewN_drewN _ _ _⟩)
      generalize wr.drewN nq = W2 at HWq
      have hy15 : z[k].toNat / 16 ≤ 15 := by omega
      obtain ⟨y, Hy⟩ : ∃ y, Hid (z[k].toNat = y) := ⟨_, Lib.hid rfl⟩
      have hy : z[k].toNat = y := Hy.out
      rw [hy] at hb8 hy15 HR1 HR2 ⊢
      clear hy
      go_cut [6, 7] (fun v6 v7 wx => ∃ j : Nat, v6 = .int .i64 (j : Int) ∧ v7 = .int .i64 (lit.length : Int) ∧ k < j ∧ j ≤ z.size ∧ Hid (z.data.toList.drop j = lit ++ tail) ∧ wx = W2)
      case first =>
        go_wp2_with fail
        go_loop [6, 7, 9] (fun v6 v7 v9 => ∃ j a x : Nat, v6 = .int .i64 (j : Int) ∧ v7 = .int .i64 (a : Int) ∧ v9 = .int .i64 (x : Int) ∧ k < j ∧ j ≤ z.size ∧ a ≤ 15 + 255 * j ∧ Hid (Reads z j a x lit.length (lit ++ tail))) (fun v6 _ _ => z.size - (intOf v6).toNat)
        case atStart => exact ⟨k + 1, y / 16, 15, by go_num, by go_num, rfl, by omega, by omega, by omega, HR1⟩
        case round =>
          obtain ⟨j, a, x, rfl, rfl, rfl, hkj, hjz, haj, HRd⟩ := hrel
          rcases HRd.out with ⟨hx, ha, hj, hext⟩ | ⟨hx, ha, hd⟩
          · subst hx
            have HX := Lib.hid hext
            clear hext
            have ij : (j : Int) < (z.size : Int) := by omega
            have HST := Lib.hid (reads_step z j a lit.length (lit ++ tail) hj ha HX.out)
            have hj8 := z[j].toNat_lt
            by_cases h255 : z[j].toNat = 255
            · have b1 : ((z[j].toNat : Int) != 255) = false := by rw [bne_eq_false_iff_eq]; omega
              rw [if_pos h255] at HST
              have HH := Lib.hid h255
              clear h255
              go_wp2_with fail
              go_round
              case rel => exact ⟨j + 1, a + z[j].toNat, 15, by go_num, by go_num, rfl, by omega, by omega, by omega, HST⟩
              case measure => simp [intOf]; omega
            · have b1 : ((z[j].toNat : Int) != 255) = true := bne_iff_ne.2 (by omega)
              rw [if_neg h255] at HST
              clear h255
              go_wp2_with fail
              go_round
              case rel => exact ⟨j + 1, a + z[j].toNat, 0, by go_num, by go_num, rfl, by omega, by omega, by omega, HST⟩
              case measure => simp [intOf]; omega
          · have HDone := Lib.hid (And.intro ha hd)
            clear ha hd
            by_cases hx0 : x = 0
            · subst hx0
              go_wp2_with fail
              go_meet
              exact ⟨j, rfl, by rw [HDone.out.1], hkj, hjz, Lib.hid HDone.out.2, rfl⟩
            · have ha15 : a < 15 := by rcases hx with h | h; exact absurd h hx0; exact h
              by_cases hx15 : ((x : Int) == 15) = true
              · go_wp2_with fail
                go_meet
                exact ⟨j, rfl, by rw [HDone.out.1], hkj, hjz, Lib.hid HDone.out.2, rfl⟩
              · have hx15' : ((x : Int) == 15) = false := by simpa using hx15
                go_wp2_with fail
                go_meet
                exact ⟨j, rfl, by rw [HDone.out.1], hkj, hjz, Lib.hid HDone.out.2, rfl⟩
      case rest =>
        obtain ⟨j, rfl, rfl, hkj, hjz, HD, rfl⟩ := hcut
        have hjl : j + (lit.length + tail.length) = z.size := by
          have := congrArg List.length HD.out
          simp only [List.length_drop, size_list, List.length_append] at this
          omega
        rcases hcase with ⟨ht, hfe, h5⟩ | ⟨z2, ht2, htl, h12, h5, hb2⟩
        · have ht0 : tail.length = 0 := by rw [ht]; rfl
          have e1 : ((j : Int) + (lit.length : Int) == (z.size : Int)) = true := beq_iff_eq.2 (by omega)
          have e2 : ((f : Int) + (lit.length : Int) == (s.size : Int)) = true := beq_iff_eq.2 (by omega)
          have e3 : (z.size : Int) ≤ (j : Int) + (lit.length : Int) := by omega
          have HHd := Lib.hid (And.intro ht hfe)
          have HJL := Lib.hid hjl
          clear ht hfe hjl ht0
          by_cases h55 : 5 ≤ lit.length
          · go_wp2_with (go_at_call 11; refine (awake06 _).mono ?_; rintro e W3 ⟨rfl, hB3⟩)
            go_ret
            obtain ⟨m, rfl⟩ := HWq.out
            exact ⟨rfl, bstep hB1 ⟨hB3.os, hB3.tape, hB3.output, hB3.size, hB3.block⟩⟩
          · have e4 : ((lit.length : Int) == (s.size : Int)) = true := beq_iff_eq.2 (by rcases h5 with h | h <;> omega)
            go_wp2_with (go_at_call 11; refine (awake06 _).mono ?_; rintro e W3 ⟨rfl, hB3⟩)
            go_ret
            obtain ⟨m, rfl⟩ := HWq.out
            exact ⟨rfl, bstep hB1 ⟨hB3.os, hB3.tape, hB3.output, hB3.size, hB3.block⟩⟩
        · have e3 : ¬ (z.size : Int) ≤ (j : Int) + (lit.length : Int) := by omega
          have hd71 : decide ((z.size : Int) ≤ (j : Int) + (lit.length : Int)) = false := decide_eq_false e3
          have HT2 := Lib.hid ht2
          have HBk2 := Lib.hid hb2
          clear ht2 hb2
          go_upto_block 4 with (fail)
          have hy16 : y % 16 ≤ 15 := by omega
          have hj2 : j + lit.length + 2 ≤ z.size := by omega
          have HRd2 : Hid (Reads z (j + lit.length + 2) (y % 16) 15 b z2) := Lib.hid (HR2.out _ _ (by
            have h : z.data.toList.drop (j + lit.length + 2) = tail.drop 2 := by
              rw [show j + lit.length + 2 = j + (lit.length + 2) by omega, ← List.drop_drop, HD.out, List.drop_append]
              rw [List.drop_of_length_le (by omega), List.nil_append]
              congr 1; omega
            rw [h, HT2.out]))
          clear HR1 HR2
          go_cut [6, 8] (fun v6 v8 wx => ∃ i : Nat, v6 = .int .i64 (i : Int) ∧ v8 = .int .i64 (b : Int) ∧ j + lit.length + 2 ≤ i ∧ i ≤ z.size ∧ Hid (z.data.toList.drop i = z2) ∧ wx = wc)
          case first =>
            go_wp2_with fail
            go_loop [6, 8, 10] (fun v6 v8 v10 => ∃ i a x : Nat, v6 = .int .i64 (i : Int) ∧ v8 = .int .i64 (a : Int) ∧ v10 = .int .i64 (x : Int) ∧ j + lit.length + 2 ≤ i ∧ i ≤ z.size ∧ a ≤ 15 + 255 * i ∧ Hid (Reads z i a x b z2)) (fun v6 _ _ => z.size - (intOf v6).toNat)
            case atStart => exact ⟨j + lit.length + 2, y % 16, 15, by go_num, by go_num, rfl, Nat.le_refl _, hj2, by omega, HRd2⟩
            case round =>
              obtain ⟨i, a, x, rfl, rfl, rfl, hki, hiz, hai, HRd⟩ := hrel
              rcases HRd.out with ⟨hx, ha, hi, hext⟩ | ⟨hx, ha, hd⟩
              · subst hx
                have HX := Lib.hid hext
                clear hext
                have ii : (i : Int) < (z.size : Int) := by omega
                have HST := Lib.hid (reads_step z i a b z2 hi ha HX.out)
                have hi8 := z[i].toNat_lt
                by_cases h255 : z[i].toNat = 255
                · have b1 : ((z[i].toNat : Int) != 255) = false := by rw [bne_eq_false_iff_eq]; omega
                  rw [if_pos h255] at HST
                  have HH := Lib.hid h255
                  clear h255
                  go_wp2_with fail
                  go_round
                  case rel => exact ⟨i + 1, a + z[i].toNat, 15, by go_num, by go_num, rfl, by omega, by omega, by omega, HST⟩
                  case measure => simp [intOf]; omega
                · have b1 : ((z[i].toNat : Int) != 255) = true := bne_iff_ne.2 (by omega)
                  rw [if_neg h255] at HST
                  clear h255
                  go_wp2_with fail
                  go_round
                  case rel => exact ⟨i + 1, a + z[i].toNat, 0, by go_num, by go_num, rfl, by omega, by omega, by omega, HST⟩
                  case measure => simp [intOf]; omega
              · have HDone := Lib.hid (And.intro ha hd)
                clear ha hd
                by_cases hx0 : x = 0
                · subst hx0
                  go_wp2_with fail
                  go_meet
                  exact ⟨i, rfl, by rw [HDone.out.1], hki, hiz, Lib.hid HDone.out.2, rfl⟩
                · have ha15 : a < 15 := by rcases hx with h | h; exact absurd h hx0; exact h
                  by_cases hx15 : ((x : Int) == 15) = true
                  · go_wp2_with fail
                    go_meet
                    exact ⟨i, rfl, by rw [HDone.out.1], hki, hiz, Lib.hid HDone.out.2, rfl⟩
                  · have hx15' : ((x : Int) == 15) = false := by simpa using hx15
                    go_wp2_with fail
                    go_meet
                    exact ⟨i, rfl, by rw [HDone.out.1], hki, hiz, Lib.hid HDone.out.2, rfl⟩
          case rest =>
            obtain ⟨i, rfl, rfl, hki, hiz, HDi, rfl⟩ := hcut
            have e5 : ¬ (s.size : Int) < (f : Int) + (lit.length : Int) + 12 := by omega
            go_wp2_with fail
            go_roundw
            case rel => exact ⟨f + lit.length + (b + 4), i, by first | rfl | (congr 1; omega), rfl, Lib.hid ⟨hiz, by rw [HDi.out]; exact HBk2.out, HWq.out⟩⟩
            case measure => simp [intOf]; omega
end Go.Proofs.Ytaepfppdhcgegaa
