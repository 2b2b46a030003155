/- (*lz.block).copies: a copy is read. -/
import Derived.Test.YtipadidfiffkjaaLzLits
import Derived.Test.YtipadidfiffkjaaBits
import Derived.Test.YtipadidfiffkjaaRot
namespace Go.Proofs.Ytipadidfiffkjaa
open Go.RowKit Go.PostSums Go.PostMem
theorem or_two (a b : Nat) (ha : a < 256) (hb : b < 256) : Go.bits .or .i64 (a : Int) ((b : Int) * 256) = ((a + 256 * b : Nat) : Int) := by
  have comm : ∀ x y : Int, Go.bits .or .i64 x y = Go.bits .or .i64 y x := fun x y => by simp [Go.bits, BitVec.or_comm]
  rw [comm, bits_join .i64 63 (by decide) wrap_i64_in 8 _ _ (by omega) (by omega) (by omega) (by omega) (by omega) (by omega)]
  omega
def CopiesPost (b : Nat) (s : ByteArray) (at_ most : Nat) (out : List UInt8) (n : Nat) (w : World) (e : Ending) (w' : World) : Prop :=
  match PostLz.copies most n (s.data.toList.drop at_) out with
  | .error c => e = .returned (.int .i64 (c : Int)) ∧ Below b w w'
  | .ok (r, out') => ∃ k v', r = s.data.toList.drop k ∧ at_ ≤ k ∧ k ≤ s.size ∧ e = .returned (.int .i64 0) ∧ Lz w' b s k most v' out' ∧ Below b w w'
set_option maxRecDepth 100000 in
set_option maxHeartbeats 1600000 in
theorem copies_walk (b : Nat) (s : ByteArray) (at_ most : Nat) (v : Value) (out : List UInt8) (n : Nat) (w : World) (hL : Lz w b s at_ most v out) (hs : s.size ≤ 140737488351232) (hat : at_ ≤ s.size) (hn : n ≤ 15) (hm : most ≤ 1048576) (ho : out.length ≤ most) :
    Calls Try.prog 53 #[.pointer (some ⟨b, 0, none⟩), .int .i64 (n : Int)] w (CopiesPost b s at_ most out n w) := by
  have HL := Lib.hid hL
  have hbw : b ≤ w.heap.size := Nat.le_of_lt hL.blk.lt
  obtain ⟨A, c, rfl, hc, hA⟩ := hL.buf.len
  have c0 : w.cell? ⟨b, 0, none⟩ = some (.string s) := hL.blk.cell 0
  have c1 : w.cell? ⟨b, 1, none⟩ = some (.int .i64 (at_ : Int)) := hL.blk.cell 1
  have c3 : w.cell? ⟨b, 3, none⟩ = some (.slice A out.length c) := hL.blk.cell 3
  have f1 := hL.blk.free 1
  clear hL hA
  by_cases h2 : s.size < at_ + 2
  · have HP : Hid (PostLz.copies most n (s.data.toList.drop at_) out = .error 5) := Lib.hid (by
      have hl : (s.data.toList.drop at_).length < 2 := by simp; omega
      match hd : s.data.toList.drop at_, hl with
      | [], _ => rfl
      | [_], _ => rfl)
    have t2 : (s.size : Int) < (at_ : Int) + 2 := by omega
    go_enter Try.func53, Try.ntmps53
    go_wp2_with fail
    go_quiet (fail)
    go_wp2_with fail
    go_ret
    unfold CopiesPost
    rw [HP.out]
    exact ⟨rfl, rfl, rfl, rfl, Nat.le_refl _, fun _ _ => rfl⟩
  · have i0 : at_ < s.size := by omega
    have i1 : at_ + 1 < s.size := by omega
    have j0 : (at_ : Int) < (s.size : Int) := by omega
    have j1 : (at_ : Int) + 1 < (s.size : Int) := by omega
    have HD : Hid (s.data.toList.drop at_ = s[at_] :: s[at_ + 1] :: s.data.toList.drop (at_ + 2)) := Lib.hid (by rw [drop_at s at_ i0, drop_at s (at_ + 1) i1])
    obtain ⟨far, hfar⟩ : ∃ far : Nat, far = s[at_].toNat + 256 * s[at_ + 1].toNat := ⟨_, rfl⟩
    have hfl : far ≤ 65535 := by
      have l1 := s[at_].toNat_lt
      have l2 := s[at_ + 1].toNat_lt
      omega
    have hor : Go.bits .or .i64 (wrap64 (s[at_].toNat : Int)) (wrap64 (wrap64 (s[at_ + 1].toNat : Int) * 256)) = (far : Int) := by
      have l1 := s[at_].toNat_lt
      have l2 := s[at_ + 1].toNat_lt
      rw [wrap64_in (s[at_].toNat : Int) (by omega) (by omega), wrap64_in (s[at_ + 1].toNat : Int) (by omega) (by omega), wrap64_in _ (by omega) (by omega), or_two _ _ l1 l2, hfar]
    have HF := Lib.hid hfar
    clear hfar
    have w1 : IntKind.i64.wrap ((at_ : Int) + 1) = (at_ : Int) + 1 := IntWalk.i64_in _ (by omega)
    have p1 : 0 ≤ (at_ : Int) + 1 := by omega
    have t1 : ((at_ : Int) + 1).toNat = at_ + 1 := by omega
    go_enter Try.func53, Try.ntmps53
    go_wp2_with fail
    go_quiet (fail)
    generalize nq = nq1
    go_wp2_with fail
    go_quiet (fail)
    go_upto_region 5 with (fail)
    clear hor
    generalize s[at_ + 1].toNat = y1
    generalize s[at_].toNat = y0
    clear w1 p1 t1
    have HB1 : Hid (LzB ((w.drewN (nq1 + nq)).setCell ⟨b, 1, none⟩ (.int .i64 ((at_ : Int) + 2))) b s (at_ + 2) most (.slice A out.length c)) := Lib.hid (HL.out.blk.setN _ _ (at_ + 2) (by omega))
    have HG1 := Lib.hid (grown_setN w (nq1 + nq) b 1 (.int .i64 ((at_ : Int) + 2)))
    generalize (w.drewN (nq1 + nq)).setCell ⟨b, 1, none⟩ (.int .i64 ((at_ : Int) + 2)) = W1 at HB1 HG1
    have HL1 := Lib.hid (HL.out.row HB1.out HG1.out)
    have HW1 : Hid (Below b w W1) := Lib.hid (below_grown HG1.out (fun j hj => by cases hj; exact Nat.le_refl _) hbw)
    have d3 : W1.cell? ⟨b, 3, none⟩ = some (.slice A out.length c) := HB1.out.cell 3
    clear c0 c1 c3 f1
    have HP0 : Hid (PostLz.copies most n (s.data.toList.drop at_) out = if far = 0 ∨ out.length < far then .error 60 else
        match PostLz.num n (s.data.toList.drop (at_ + 2)) with
        | none => .error 5
        | some (x, r5) => if most < out.length + (x + 4) then .error 4 else .ok (r5, PostLz.copyN out far (x + 4))) := Lib.hid (by rw [HD.out]; simp only [PostLz.copies]; rw [← HF.out]; rfl)
    by_cases e1 : far = 0
    · have b1 : ((far : Int) == 0) = true := beq_iff_eq.2 (by omega)
      have HP : Hid (PostLz.copies most n (s.data.toList.drop at_) out = .error 60) := Lib.hid (by rw [HP0.out, if_pos (.inl e1)])
      go_wp2_with fail
      go_ret
      unfold CopiesPost
      rw [HP.out]
      exact ⟨rfl, HW1.out⟩
    · have b1 : ((far : Int) == 0) = false := beq_eq_false_iff_ne.2 (by omega)
      by_cases e2 : out.length < far
      · have b2 : (out.length : Int) < (far : Int) := by omega
        have HP : Hid (PostLz.copies most n (s.data.toList.drop at_) out = .error 60) := Lib.hid (by rw [HP0.out, if_pos (.inr e2)])
        go_wp2_with fail
        go_ret
        unfold CopiesPost
        rw [HP.out]
        exact ⟨rfl, HW1.out⟩
      · have b2 : ¬ (out.length : Int) < (far : Int) := by omega
        have HP1 : Hid (PostLz.copies most n (s.data.toList.drop at_) out = match PostLz.num n (s.data.toList.drop (at_ + 2)) with
          | none => .error 5
          | some (x, r5) => if most < out.length + (x + 4) then .error 4 else .ok (r5, PostLz.copyN out far (x + 4))) := Lib.hid (by rw [HP0.out, if_neg (by omega)])
        clear HP0 HD HF
        have hat2 : at_ + 2 ≤ s.size := by omega
        cases hnum : PostLz.num n (s.data.toList.drop (at_ + 2)) with
        | none =>
          have HN := Lib.hid hnum
          have HP : Hid (PostLz.copies most n (s.data.toList.drop at_) out = .error 5) := Lib.hid (by rw [HP1.out, hnum])
          clear hnum
          go_wp2_with (go_at_call 56; with_reducible refine (number_none b s (at_ + 2) most _ n _ HB1.out hs hat2 hn HN.out).mono ?_; rintro e w1 ⟨rfl, h1, h2⟩)
          go_ret
          unfold CopiesPost
          rw [HP.out]
          exact ⟨rfl, HW1.out.trans (below_grown h2 (fun k hk => by cases hk; exact Nat.le_refl _) (Nat.le_of_lt HB1.out.lt))⟩
        | some x =>
          obtain ⟨x, r⟩ := x
          have HN := Lib.hid hnum
          have HP : Hid (PostLz.copies most n (s.data.toList.drop at_) out = if most < out.length + (x + 4) then .error 4 else .ok (r, PostLz.copyN out far (x + 4))) := Lib.hid (by rw [HP1.out, hnum])
          clear hnum HP1
          go_upto_region 8 with (go_at_call 56; with_reducible refine (number_some b s (at_ + 2) most _ n _ HB1.out hs hat2 hn x r HN.out).mono ?_; rintro e w1 ⟨rfl, k, hr, hak, hks, hx, h1, h2⟩)
          have HR := Lib.hid hr
          have HL2 := Lib.hid (HL1.out.row h1 h2)
          have HW2 : Hid (Below b w w1) := Lib.hid (HW1.out.trans (below_grown h2 (fun k hk => by cases hk; exact Nat.le_refl _) (Nat.le_of_lt HB1.out.lt)))
          clear hr h1 h2 d3
          have d2 : w1.cell? ⟨b, 2, none⟩ = some (.int .i64 (most : Int)) := HL2.out.blk.cell 2
          have d3 : w1.cell? ⟨b, 3, none⟩ = some (.slice A out.length c) := HL2.out.blk.cell 3
          by_cases e4 : most < out.length + (x + 4)
          · have b4 : (most : Int) < (out.length : Int) + ((x : Int) + 4) := by omega
            go_wp2_with fail
            go_quiet (fail)
            go_wp2_with fail
            go_ret
            unfold CopiesPost
            rw [HP.out, if_pos e4]
            exact ⟨rfl, HW2.out.trans ⟨rfl, rfl, rfl, Nat.le_refl _, fun _ _ => rfl⟩⟩
          · have b4 : ¬ (most : Int) < (out.length : Int) + ((x : Int) + 4) := by omega
            go_wp2_with fail
            go_quiet (fail)
            go_wp2_with fail
            have HL3 : Hid (Lz (w1.drewN nq) b s k most (.slice A out.length c) (PostLz.copyN out far 0)) := Lib.hid ⟨HL2.out.blk, HL2.out.buf.heap rfl⟩
            have HW3 : Hid (Below b w (w1.drewN nq)) := Lib.hid (HW2.out.trans ⟨rfl, rfl, rfl, Nat.le_refl _, fun _ _ => rfl⟩)
            have hbs : b + 1 ≤ (w1.drewN nq).heap.size := Nat.succ_le_of_lt HL2.out.blk.lt
            have HFR : Hid (0 < far ∧ far ≤ out.length) := Lib.hid (by omega)
            clear d2 d3 HL2 HW2 HL1 HW1 HG1 HB1 b1 b2 e1 e2 b4 HN
            generalize w1.drewN nq = W3 at HL3 HW3 hbs
            have HS := Lib.hid hbs; clear hbs
            go_loopw [82] (fun v82 wr => ∃ i : Nat, i ≤ x + 4 ∧ v82 = .int .i64 (i : Int) ∧ Hid (∃ v', Lz wr b s k most v' (PostLz.copyN out far i) ∧ Below b w wr)) (fun v82 _ => x + 4 - (intOf v82).toNat)
            case atStart => exact ⟨0, Nat.zero_le _, rfl, Lib.hid ⟨_, HL3.out, HW3.out⟩⟩
            case round =>
              obtain ⟨i, hi, rfl, HI⟩ := hrel
              by_cases hlt : i < x + 4
              · obtain ⟨v', hLz, hBl⟩ := HI.out
                have hlen := PostLz.copyN_len far i out
                obtain ⟨A', c', rfl, hc', _⟩ := hLz.buf.len
                obtain ⟨g, rfl⟩ := hLz.buf.addr (by have := HFR.out; omega)
                have HI2 := Lib.hid hLz
                have HW4 := Lib.hid hBl
                have HSN := Lib.hid (PostLz.copyN_snoc far i out)
                generalize PostLz.copyN out far i = o at *
                have hfo : far ≤ o.length := by have := HFR.out; omega
                have hf0 : 0 < far := HFR.out.1
                have hoL : o.length ≤ 1048576 := by omega
                have tl : (i : Int) < (x : Int) + 4 := by omega
                have HLN := Lib.hid hlen
                clear hlen
                clear hBl hLz HI
                go_wp2_with fail
                refine wp_region_noPanic ?_
                refine Loud.wp_drawn (Later (b + 1) 5 (.slice (some ⟨g, 0, none⟩) o.length c') o) 18 20 107 Later.trans Later.drewN (by kernel_rfl) (fun _ _ _ _ _ h => h) rfl (by kernel_rfl) ?_
                apply Exists.intro
                apply And.intro
                case left =>
                  intro w2 h2
                  have h2' : Below (b + 1) wr w2 := ⟨h2.1.os, h2.1.tape, h2.1.output, h2.1.size, h2.1.block⟩
                  have d3 : w2.cell? ⟨b, 3, none⟩ = some (.slice (some ⟨g, 0, none⟩) o.length c') := (HI2.out.blk.later h2').cell 3
                  have de : w2.cell? ⟨g, o.length - far, none⟩ = some (.int .u8 (at8 o (o.length - far) : Nat)) := (h2.2 (HI2.out.buf.heap rfl)).cellAt _ (by omega)
                  have g2 : IntKind.i64.wrap ((o.length : Int) - (far : Int)) = (o.length : Int) - (far : Int) := IntWalk.i64_in _ (by omega)
                  have p2 : 0 ≤ (o.length : Int) - (far : Int) := by omega
                  have q2 : (o.length : Int) - (far : Int) < (o.length : Int) := by omega
                  have t2 : ((o.length : Int) - (far : Int)).toNat = o.length - far := by omega
                  clear h2 h2'
                  simp only [List.take_succ_cons, List.take_zero]
                  iterate 18 (go_big_quiet_step (fail))
                  exact wpQuiet_nil rfl
                case right =>
                  simp only [List.take_succ_cons, List.take_zero, List.drop_succ_cons, List.drop_zero]
                  unfold Loud.loudW
                  rintro _ ⟨m2, rfl⟩
                  have HBq : Hid (Buf ((wr.drew).drewN m2) (b + 1) 5 (.slice (some ⟨g, 0, none⟩) o.length c') o) := Lib.hid (HI2.out.buf.heap rfl)
                  have HBk : Hid (LzB ((wr.drew).drewN m2) b s k most (.slice (some ⟨g, 0, none⟩) o.length c')) := Lib.hid HI2.out.blk
                  have HBl : Hid (Below b w ((wr.drew).drewN m2)) := Lib.hid (HW4.out.trans ⟨rfl, rfl, rfl, Nat.le_refl _, fun _ _ => rfl⟩)
                  generalize (wr.drew).drewN m2 = w2 at HBq HBk HBl
                  go_wp2_with fail
                  have hg1 := World.grownBy_alloc w2 (.cells #[.int .u8 ((at8 o (o.length - far) : Nat) : Int)] 5) none
                  have hbz : b + 1 ≤ w2.heap.size := Nat.succ_le_of_lt HBk.out.lt
                  refine ⟨⟨below_grown hg1 (fun k hk => nomatch hk) hbz, fun h => h.kept_none hg1⟩, ?_⟩
                  have HBq3 := Lib.hid (HBq.out.kept_none hg1)
                  have hnew : (w2.alloc (.cells #[.int .u8 ((at8 o (o.length - far) : Nat) : Int)] 5)).cell? ⟨w2.heap.size, 0, none⟩ = some (.int .u8 ((at8 o (o.length - far) : Nat) : Int)) := by
                    rw [cell_of_row _ _ 0 _ _ _ (heap_alloc_new w2 _)]; rfl
                  unfold Loud.loudW
                  rintro _ ⟨m3, rfl⟩
                  refine wpList_bytes rfl (.tmp 88) (.tmp 102) 30 rfl (b + 1) 5 infoU8 Try.underlying30 _ o rfl (HBq3.out.heap rfl) w2.heap.size 1 1 [o.getD (o.length - far) 0] rfl rfl ?_ ?_ ?_ ?_
                  · intro j u hj
                    match j, hj with
                    | 0, hj =>
                      obtain rfl : _ = u := Option.some.inj hj
                      exact hnew
                  · omega
                  · have := hg1.size
                    exact Nat.le_trans hbz this
                  intro v3 w3 hbuf hold hg
                  have hg' : w2.grownBy w3 (some g) := grown_trans (grown_none hg1 _) ⟨hg.os, hg.tape, hg.output, hg.size, hg.block⟩
                  have hgb : b + 1 ≤ g := Buf.own_ge HBq.out g rfl
                  have hb3 : Below (b + 1) w2 w3 := below_grown hg' (fun j hj => by cases hj; exact hgb) hbz
                  have hb3' : Below (b + 1) ((w2.alloc (.cells #[.int .u8 ((at8 o (o.length - far) : Nat) : Int)] 5)).drewN m3) w3 := below_grown hg (fun j hj => by cases hj; exact hgb) (Nat.le_trans hbz hg1.size)
                  refine wpList_nil ⟨⟨hb3', fun _ => hold⟩, ?_⟩
                  unfold Loud.loudW
                  rintro _ ⟨m4, rfl⟩
                  have HF3 := Lib.hid (LzB.later HBk.out hb3)
                  have g3 := HF3.out.free 3
                  have k3 : w3.cell? ⟨b, 3, none⟩ = some (.slice (some ⟨g, 0, none⟩) o.length c') := HF3.out.cell 3
                  have HB3 := Lib.hid (HBl.out.trans (hb3.mono (Nat.le_succ b)))
                  obtain ⟨A3, c4, rfl, hc4, _⟩ := hbuf.len
                  have HBf := Lib.hid hbuf
                  clear hb3 hb3' hbuf hold hg hg' hnew hg1
                  generalize hnl : (o ++ [o.getD (o.length - far) 0]).length = n3 at HBf hc4
                  clear hnl
                  go_wp2_with fail
                  refine NoPanic.normal ?_
                  go_wp2_with fail
                  have hG := grown_set (w3.drewN m4) b 3 (.slice A3 n3 c4)
                  go_roundw
                  case rel =>
                    refine ⟨i + 1, by omega, by go_num, Lib.hid ⟨.slice A3 n3 c4, ⟨LzB.put (w := w3.drewN m4) HF3.out _, ?_⟩, ?_⟩⟩
                    · rw [HSN.out]
                      exact (HBf.out.heap (w' := w3.drewN m4) rfl).kept hG (fun j hj => by cases hj; exact Nat.lt_succ_self _)
                    · refine HB3.out.trans (below_grown (w := w3) ⟨hG.os, hG.tape, hG.output, hG.size, hG.block⟩ (fun j hj => by cases hj; exact Nat.le_refl _) (Nat.le_of_lt HF3.out.lt))
                  case measure => simp [intOf]; omega
              · obtain rfl : i = x + 4 := by omega
                go_wp2_with fail
                go_ret
                unfold CopiesPost
                rw [HP.out, if_neg e4]
                obtain ⟨v', hLz, hBl⟩ := HI.out
                exact ⟨k, v', HR.out, by omega, hks, rfl, hLz, hBl⟩
end Go.Proofs.Ytipadidfiffkjaa
