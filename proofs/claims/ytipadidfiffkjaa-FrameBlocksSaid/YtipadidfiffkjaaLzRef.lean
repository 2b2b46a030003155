/- postroadref06.Unpack: the same answer. -/
import Derived.Test.YtipadidfiffkjaaLzUnpack
import Derived.Deep.DeepCutAuto
namespace Go.Proofs.Ytipadidfiffkjaa
open Go.RowKit Go.PostSums Go.PostMem
def MorePost (s : ByteArray) (at_ n : Nat) (w : World) (e : Ending) (w' : World) : Prop :=
  match PostLz.ext (s.data.toList.drop at_) n with
  | none => (∃ x : Int, e = .returned (.tuple #[.int .i64 x, .int .i64 (-1)])) ∧ w = w'
  | some (a, r) => ∃ k, r = s.data.toList.drop k ∧ at_ ≤ k ∧ k ≤ s.size ∧ a ≤ 15 + 255 * s.size ∧ e = .returned (.tuple #[.int .i64 (a : Int), .int .i64 (k : Int)]) ∧ w = w'
set_option maxRecDepth 100000 in
set_option maxHeartbeats 800000 in
theorem more_walk (s : ByteArray) (at_ n : Nat) (w : World) (hs : s.size ≤ 140737488351232) (hat : at_ ≤ s.size) (hn : n ≤ 15) :
    Calls Try.prog 38 #[.string s, .int .i64 (at_ : Int), .int .i64 (n : Int)] w (MorePost s at_ n w) := by
  go_enter Try.func38, Try.ntmps38
  go_wp2_with fail
  go_loop [1, 2] (fun v1 v2 => ∃ k m : Nat, k ≤ s.size ∧ at_ ≤ k ∧ v1 = .int .i64 (k : Int) ∧ v2 = .int .i64 (m : Int) ∧ m ≤ 15 + 255 * k ∧
      Hid (PostLz.ext (s.data.toList.drop k) m = PostLz.ext (s.data.toList.drop at_) n)) (fun v1 _ => s.size - (intOf v1).toNat)
  case atStart => exact ⟨at_, n, hat, Nat.le_refl _, rfl, rfl, by omega, Lib.hid rfl⟩
  case round =>
    obtain ⟨k, m, hk, hak, rfl, rfl, hm, HE⟩ := hrel
    by_cases hlt : k < s.size
    · have ik : (k : Int) < (s.size : Int) := by omega
      have HD := Lib.hid (drop_at s k hlt)
      have hb8 := s[k].toNat_lt
      have t1 : ((k : Int) + 1 - 1).toNat = k := by omega
      by_cases hc : s[k].toNat < 255
      · have b1 : ((s[k].toNat : Int) != 255) = true := bne_iff_ne.2 (by omega)
        go_wp2_with fail
        go_ret2
        unfold MorePost
        rw [← HE.out, HD.out, PostLz.ext, if_pos hc]
        exact ⟨k + 1, rfl, by omega, by omega, by omega, by first | rfl | (congr 4; omega), rfl⟩
      · have b1 : ((s[k].toNat : Int) != 255) = false := by rw [bne_eq_false_iff_eq]; omega
        go_wp2_with fail
        go_round
        case rel => exact ⟨k + 1, m + s[k].toNat, by omega, by omega, by go_num, by go_num, by omega, Lib.hid (by rw [← HE.out, HD.out, PostLz.ext, if_neg hc])⟩
        case measure => simp [intOf]; omega
    · obtain rfl : k = s.size := by omega
      go_wp2_with fail
      go_ret2
      unfold MorePost
      rw [← HE.out, List.drop_of_length_le (by simp), PostLz.ext]
      exact ⟨⟨_, rfl⟩, rfl⟩
theorem more_none (s : ByteArray) (at_ n : Nat) (x y : Int) (w : World) (hx : x = (at_ : Int)) (hy : y = (n : Int)) (hs : s.size ≤ 140737488351232) (hat : at_ ≤ s.size) (hn : n ≤ 15) (h : PostLz.ext (s.data.toList.drop at_) n = none) :
    Calls Try.prog 38 #[.string s, .int .i64 x, .int .i64 y] w fun e w' => ∃ x : Int, e = .returned (.tuple #[.int .i64 x, .int .i64 (-1)]) ∧ w = w' := by
  subst hx; subst hy
  exact (more_walk s at_ n w hs hat hn).mono fun e w' hp => by unfold MorePost at hp; rw [h] at hp; obtain ⟨⟨x, h1⟩, h2⟩ := hp; exact ⟨x, h1, h2⟩
theorem more_some (s : ByteArray) (at_ n : Nat) (x y : Int) (w : World) (hx : x = (at_ : Int)) (hy : y = (n : Int)) (hs : s.size ≤ 140737488351232) (hat : at_ ≤ s.size) (hn : n ≤ 15) (a : Nat) (r : List UInt8) (h : PostLz.ext (s.data.toList.drop at_) n = some (a, r)) :
    Calls Try.prog 38 #[.string s, .int .i64 x, .int .i64 y] w fun e w' => ∃ k : Nat, e = .returned (.tuple #[.int .i64 (a : Int), .int .i64 (k : Int)]) ∧ w = w' ∧ r = s.data.toList.drop k ∧ at_ ≤ k ∧ k ≤ s.size ∧ a ≤ 15 + 255 * s.size := by
  subst hx; subst hy
  exact (more_walk s at_ n w hs hat hn).mono fun e w' hp => by
    unfold MorePost at hp; rw [h] at hp
    obtain ⟨k, h1, h2, h3, h4, h5, h6⟩ := hp
    exact ⟨k, h5, h6, h1, h2, h3, h4⟩
set_option maxRecDepth 100000 in
set_option maxHeartbeats 3200000 in
theorem RUnpack_any (s : ByteArray) (most : Int) (w : World) (hs : s.size ≤ 140737488351232) :
    Calls Try.prog 24 #[.string s, .int .i64 most] w (UnpackPost s most w) := by
  by_cases h1 : most < 0
  · have HP : Hid (PostLz.unpack s.data.toList most = ([], 1)) := Lib.hid (by unfold PostLz.unpack; rw [if_pos (.inl h1)])
    go_enter Try.func24, Try.ntmps24
    go_wp2_with fail
    go_ret2
    unfold UnpackPost
    rw [HP.out]
    exact ⟨rfl, Below.refl _ _⟩
  · by_cases h2 : 1048576 < most
    · have HP : Hid (PostLz.unpack s.data.toList most = ([], 1)) := Lib.hid (by unfold PostLz.unpack; rw [if_pos (.inr h2)])
      go_enter Try.func24, Try.ntmps24
      go_wp2_with fail
      go_ret2
      unfold UnpackPost
      rw [HP.out]
      exact ⟨rfl, Below.refl _ _⟩
    · obtain ⟨m, rfl⟩ : ∃ m : Nat, most = (m : Int) := ⟨most.toNat, by omega⟩
      have hm : m ≤ 1048576 := by omega
      have HP : Hid (PostLz.unpack s.data.toList (m : Int) = PostLz.answer (PostLz.unpackFrom m s.data.toList [])) := Lib.hid (by
        unfold PostLz.unpack; rw [if_neg (by omega), Int.toNat_natCast])
      go_enter Try.func24, Try.ntmps24
      go_wp2_with fail
      go_loopw [6, 7] (fun v6 v7 wr => ∃ (k : Nat) (out : List UInt8), v7 = .int .i64 (k : Int) ∧ Hid (k ≤ s.size ∧ Buf wr w.heap.size 5 v6 out ∧ out.length ≤ m ∧ Below w.heap.size w wr ∧ PostLz.unpackFrom m (s.data.toList.drop k) out = PostLz.unpackFrom m s.data.toList [])) (fun _ v7 _ => s.size - (intOf v7).toNat)
      case atStart => exact ⟨0, [], rfl, Lib.hid ⟨Nat.zero_le _, Buf.nil _ _ _, Nat.zero_le _, Below.refl _ _, rfl⟩⟩
      case round =>
        obtain ⟨k, out, rfl, HI⟩ := hrel
        obtain ⟨hk, hBuf, ho, hBl, hE⟩ := HI.out
        obtain ⟨A, c, rfl, hc, _⟩ := hBuf.len
        clear HI
        have HBf := Lib.hid hBuf; have HBl := Lib.hid hBl; have HE := Lib.hid hE
        clear hBuf hBl hE
        by_cases hlt : k < s.size
        · have ik : (k : Int) < (s.size : Int) := by omega
          have HD := Lib.hid (drop_at s k hlt)
          have hb8 := s[k].toNat_lt
          go_wp2_with fail
          go_quiet (fail)
          go_upto_if 35 with (fail)
          have HBW : Hid (Buf (wr.drewN nq) w.heap.size 5 (.slice A out.length c) out ∧ Below w.heap.size w (wr.drewN nq)) := Lib.hid ⟨HBf.out.heap rfl, HBl.out.trans ⟨rfl, rfl, rfl, Nat.le_refl _, fun _ _ => rfl⟩⟩
          generalize wr.drewN nq = W1 at HBW
          obtain ⟨y, Hy⟩ : ∃ y, Hid (s[k].toNat = y) := ⟨_, Lib.hid rfl⟩
          have hy : s[k].toNat = y := Hy.out
          rw [hy] at hb8 ⊢
          clear hy
          have hy15 : y / 16 ≤ 15 := by omega
          have hk1 : k + 1 ≤ s.size := hlt
          cases hnum : PostLz.num (y / 16) (s.data.toList.drop (k + 1)) with
          | none =>
            have e15 : y / 16 = 15 := by
              unfold PostLz.num at hnum
              split at hnum
              · simp at hnum
              · omega
            have b15 : ((y : Int) / 16 == 15) = true := beq_iff_eq.2 (by omega)
            have HX : Hid (PostLz.ext (s.data.toList.drop (k + 1)) 15 = none) := Lib.hid (by
              unfold PostLz.num at hnum; rw [if_neg (by omega), e15] at hnum; exact hnum)
            have HP' : Hid (PostLz.unpack s.data.toList (m : Int) = ([], 5)) := Lib.hid (by rw [HP.out, ← HE.out, HD.out, PostLz.unpackFrom_cons, Hy.out]; unfold PostLz.lits; rw [hnum]; rfl)
            have HE15 := Lib.hid e15
            clear hnum e15
            go_wp2_with (go_at_call 38; with_reducible refine (more_none s (k + 1) 15 _ _ _ (by omega) (by have := HE15.out; omega) hs hk1 (Nat.le_refl _) HX.out).mono ?_; rintro e1 w2 ⟨x, rfl, rfl⟩)
            go_ret2
            unfold UnpackPost
            rw [HP'.out]
            exact ⟨rfl, HBW.out.2⟩
          | some x =>
            obtain ⟨a, r⟩ := x
            have HN := Lib.hid hnum
            clear hnum
            go_cut [7, 8] (fun v7 v8 wx => ∃ k2 : Nat, v7 = .int .i64 (k2 : Int) ∧ v8 = .int .i64 (a : Int) ∧ r = s.data.toList.drop k2 ∧ k + 1 ≤ k2 ∧ k2 ≤ s.size ∧ a ≤ 15 + 255 * s.size ∧ wx = W1)
            case first =>
              by_cases e15 : y / 16 = 15
              · have b15 : ((y : Int) / 16 == 15) = true := beq_iff_eq.2 (by omega)
                have HX : Hid (PostLz.ext (s.data.toList.drop (k + 1)) 15 = some (a, r)) := Lib.hid (by
                  have hnum := HN.out
                  unfold PostLz.num at hnum; rw [if_neg (by omega), e15] at hnum; exact hnum)
                have HE15 := Lib.hid e15
                clear e15
                go_wp2_with (go_at_call 38; with_reducible refine (more_some s (k + 1) 15 _ _ _ (by omega) (by have := HE15.out; omega) hs hk1 (Nat.le_refl _) a r HX.out).mono ?_; rintro e1 w2 ⟨k2, rfl, rfl, hr, h1, h2, h3⟩)
                go_meet
                exact ⟨k2, rfl, rfl, hr, h1, h2, h3, rfl⟩
              · have b15 : ((y : Int) / 16 == 15) = false := beq_eq_false_iff_ne.2 (by omega)
                have hnum := HN.out
                unfold PostLz.num at hnum; rw [if_pos (by omega)] at hnum
                simp only [Option.some.injEq, Prod.mk.injEq] at hnum
                have hna := Lib.hid hnum.1
                have hnr := Lib.hid hnum.2
                clear hnum
                go_wp2_with fail
                go_meet
                exact ⟨k + 1, by go_num, by rw [← hna.out]; go_num, hnr.out.symm, Nat.le_refl _, hk1, by have := hna.out; omega, rfl⟩
            case rest =>
              obtain ⟨k2, rfl, rfl, hr, hk2, hks2, ha, rfl⟩ := hcut
              have HR := Lib.hid hr
              have HL : Hid (PostLz.lits m (y / 16) (s.data.toList.drop (k + 1)) out = if m < out.length + a then .error 4 else if s.size < k2 + a then .error 5 else .ok (s.data.toList.drop (k2 + a), out ++ (s.data.toList.drop k2).take a)) := Lib.hid (by
                unfold PostLz.lits; rw [HN.out]; simp only
                have hrl : r.length = s.size - k2 := by rw [hr]; simp
                by_cases h : s.size < k2 + a
                · rw [if_pos h, if_pos (show r.length < a by omega)]
                · rw [if_neg h, if_neg (show ¬ r.length < a by omega), hr, List.drop_drop])
              clear hr HN
              by_cases e1 : m < out.length + a
              · have b1 : (m : Int) < (out.length : Int) + (a : Int) := by omega
                have HP' : Hid (PostLz.unpack s.data.toList (m : Int) = ([], 4)) := Lib.hid (by rw [HP.out, ← HE.out, HD.out, PostLz.unpackFrom_cons, Hy.out, HL.out, if_pos e1]; rfl)
                clear e1
                go_wp2_with fail
                go_ret2
                unfold UnpackPost
                rw [HP'.out]
                exact ⟨rfl, HBW.out.2⟩
              · have b1 : ¬ (m : Int) < (out.length : Int) + (a : Int) := by omega
                by_cases e2 : s.size < k2 + a
                · have b2 : (s.size : Int) < (k2 : Int) + (a : Int) := by omega
                  have HP' : Hid (PostLz.unpack s.data.toList (m : Int) = ([], 5)) := Lib.hid (by rw [HP.out, ← HE.out, HD.out, PostLz.unpackFrom_cons, Hy.out, HL.out, if_neg e1, if_pos e2]; rfl)
                  clear e1 e2
                  go_wp2_with fail
                  go_ret2
                  unfold UnpackPost
                  rw [HP'.out]
                  exact ⟨rfl, HBW.out.2⟩
                · have b2 : ¬ (s.size : Int) < (k2 : Int) + (a : Int) := by omega
                  have HL2 : Hid (PostLz.lits m (y / 16) (s.data.toList.drop (k + 1)) out = .ok (s.data.toList.drop (k2 + a), out ++ (s.data.toList.drop k2).take a)) := Lib.hid (by rw [HL.out, if_neg e1, if_neg e2])
                  have he : (s.extract k2 (k2 + a)).data.toList = (s.data.toList.drop k2).take a := by simp
                  have hel : (s.extract k2 (k2 + a)).size = a := by simp; omega
                  have HEL := Lib.hid hel
                  have HET := Lib.hid he
                  clear hel he HL
                  go_upto_region 18 with (refine wpList_text rfl (.tmp 57) (.tmp 63) 30 9 rfl w.heap.size 5 infoU8 Try.underlying30 Try.underlying9 _ out rfl HBW.out.1 (s.extract k2 (k2 + a)) rfl (by rw [HEL.out]; omega) HBW.out.2.size ?_; intro v3 w3 hb3 hold hg3)
                  have hB3 : Below w.heap.size w w3 := HBW.out.2.trans (below_grown hg3 (fun j hj => Buf.own_ge HBW.out.1 j hj) HBW.out.2.size)
                  rw [HET.out] at hb3
                  have ho2 : (out ++ (s.data.toList.drop k2).take a).length ≤ m := by simp; omega
                  obtain ⟨A3, c3, rfl, hc3, _⟩ := hb3.len
                  have HB3 := Lib.hid (And.intro hb3 hB3)
                  clear hb3 hB3 hold hg3
                  obtain ⟨k3, hk3⟩ : ∃ k3, k3 = k2 + a := ⟨_, rfl⟩
                  have hks3 : k3 ≤ s.size := by omega
                  rw [← hk3] at HL2
                  generalize out ++ (s.data.toList.drop k2).take a = o2 at HL2 ho2 HB3 hc3
                  have H3 := Lib.hid hk3
                  have hka : (k2 : Int) + (a : Int) = (k3 : Int) := by omega
                  clear hk3 e1 e2 b1 b2
                  by_cases hend : k3 = s.size
                  · have b3 : ((k3 : Int) == (s.size : Int)) = true := beq_iff_eq.2 (by omega)
                    have HP' : Hid (PostLz.unpack s.data.toList (m : Int) = (o2, 0)) := Lib.hid (by
                      rw [HP.out, ← HE.out, HD.out, PostLz.unpackFrom_cons, Hy.out, HL2.out]
                      simp only
                      rw [if_pos (by rw [hend, List.drop_of_length_le (by simp)])]; rfl)
                    clear hend
                    go_wp2_with (refine wpList_conv rfl 30 9 (.tmp 72) rfl _ _ _ rfl (HB3.out.1.back Try.underlying30 Try.underlying5 Try.underlying9) ?_)
                    go_ret2
                    unfold UnpackPost
                    rw [HP'.out]
                    exact ⟨rfl, HB3.out.2⟩
                  · have b3 : ((k3 : Int) == (s.size : Int)) = false := beq_eq_false_iff_ne.2 (by omega)
                    have HEE : Hid (PostLz.unpackFrom m s.data.toList [] = match PostLz.copies m (y % 16) (s.data.toList.drop k3) o2 with
                      | .error e => .error e
                      | .ok (r5, out3) => PostLz.unpackFrom m r5 out3) := Lib.hid (by
                      rw [← HE.out, HD.out, PostLz.unpackFrom_cons, Hy.out, HL2.out]
                      simp only
                      rw [if_neg (by intro h; have := congrArg List.length h; simp at this; omega)]
                      cases PostLz.copies m (y % 16) (s.data.toList.drop k3) o2 <;> rfl)
                    have hy16 : y % 16 ≤ 15 := by omega
                    clear HL2 HBW HE HD HR HEL HET HBf HBl
                    by_cases h2' : s.size < k3 + 2
                    · have HP' : Hid (PostLz.unpack s.data.toList (m : Int) = ([], 5)) := Lib.hid (by
                        rw [HP.out, HEE.out]
                        have hl : (s.data.toList.drop k3).length < 2 := by simp; omega
                        match hd : s.data.toList.drop k3, hl with
                        | [], _ => rfl
                        | [_], _ => rfl)
                      have t2 : (s.size : Int) < (k3 : Int) + 2 := by omega
                      clear h2' hend
                      go_wp2_with fail
                      go_ret2
                      unfold UnpackPost
                      rw [HP'.out]
                      exact ⟨rfl, HB3.out.2⟩
                    · have i0 : k3 < s.size := by omega
                      have i1 : k3 + 1 < s.size := by omega
                      have j0 : (k3 : Int) < (s.size : Int) := by omega
                      have j1 : (k3 : Int) + 1 < (s.size : Int) := by omega
                      have HD3 : Hid (s.data.toList.drop k3 = s[k3] :: s[k3 + 1] :: s.data.toList.drop (k3 + 2)) := Lib.hid (by rw [drop_at s k3 i0, drop_at s (k3 + 1) i1])
                      obtain ⟨far, hfar⟩ : ∃ far : Nat, far = s[k3].toNat + 256 * s[k3 + 1].toNat := ⟨_, rfl⟩
                      have HF := Lib.hid hfar
                      have hfl : far ≤ 65535 := by
                        have l1 := s[k3].toNat_lt
                        have l2 := s[k3 + 1].toNat_lt
                        omega
                      have hor : wrap64 (wrap64 (s[k3].toNat : Int) + wrap64 (256 * wrap64 (s[k3 + 1].toNat : Int))) = (far : Int) := by
                        have l1 := s[k3].toNat_lt
                        have l2 := s[k3 + 1].toNat_lt
                        rw [wrap64_in (s[k3].toNat : Int) (by omega) (by omega), wrap64_in (s[k3 + 1].toNat : Int) (by omega) (by omega), wrap64_in (256 * _) (by omega) (by omega), wrap64_in _ (by omega) (by omega), hfar]
                        omega
                      clear hfar
                      have g1 : IntKind.i64.wrap ((k3 : Int) + 1) = (k3 : Int) + 1 := IntWalk.i64_in _ (by omega)
                      have p1 : 0 ≤ (k3 : Int) + 1 := by omega
                      have t1 : ((k3 : Int) + 1).toNat = k3 + 1 := by omega
                      go_wp2_with fail
                      go_quiet (fail)
                      go_upto_region 25 with (fail)
                      rw [hor]
                      clear hor
                      generalize s[k3 + 1].toNat = y1
                      generalize s[k3].toNat = y0
                      clear g1 p1 t1
                      have HB4 : Hid (Buf (w3.drewN nq) w.heap.size 5 (.slice A3 o2.length c3) o2 ∧ Below w.heap.size w (w3.drewN nq)) := Lib.hid ⟨HB3.out.1.heap rfl, HB3.out.2.trans ⟨rfl, rfl, rfl, Nat.le_refl _, fun _ _ => rfl⟩⟩
                      generalize w3.drewN nq = W4 at HB4
                      have HC0 : Hid (PostLz.copies m (y % 16) (s.data.toList.drop k3) o2 = if far = 0 ∨ o2.length < far then .error 60 else
                          match PostLz.num (y % 16) (s.data.toList.drop (k3 + 2)) with
                          | none => .error 5
                          | some (x, r5) => if m < o2.length + (x + 4) then .error 4 else .ok (r5, PostLz.copyN o2 far (x + 4))) := Lib.hid (by rw [HD3.out]; simp only [PostLz.copies]; rw [← HF.out]; rfl)
                      clear HD3 HF HB3
                      by_cases e1 : far = 0
                      · have b1 : ((far : Int) == 0) = true := beq_iff_eq.2 (by omega)
                        have HP' : Hid (PostLz.unpack s.data.toList (m : Int) = ([], 60)) := Lib.hid (by rw [HP.out, HEE.out, HC0.out, if_pos (.inl e1)]; rfl)
                        go_wp2_with fail
                        go_ret2
                        unfold UnpackPost
                        rw [HP'.out]
                        exact ⟨rfl, HB4.out.2⟩
                      · have b1 : ((far : Int) == 0) = false := beq_eq_false_iff_ne.2 (by omega)
                        by_cases e2 : o2.length < far
                        · have b2 : (o2.length : Int) < (far : Int) := by omega
                          have HP' : Hid (PostLz.unpack s.data.toList (m : Int) = ([], 60)) := Lib.hid (by rw [HP.out, HEE.out, HC0.out, if_pos (.inr e2)]; rfl)
                          go_wp2_with fail
                          go_ret2
                          unfold UnpackPost
                          rw [HP'.out]
                          exact ⟨rfl, HB4.out.2⟩
                        · have b2 : ¬ (o2.length : Int) < (far : Int) := by omega
                          have hk5 : k3 + 2 ≤ s.size := by omega
                          go_upto_if 101 with (fail)
                          cases hnum : PostLz.num (y % 16) (s.data.toList.drop (k3 + 2)) with
                          | none =>
                            have e15 : y % 16 = 15 := by
                              unfold PostLz.num at hnum
                              split at hnum
                              · simp at hnum
                              · omega
                            have b15 : ((y : Int) % 16 == 15) = true := beq_iff_eq.2 (by omega)
                            have HX : Hid (PostLz.ext (s.data.toList.drop (k3 + 2)) 15 = none) := Lib.hid (by
                              unfold PostLz.num at hnum; rw [if_neg (by omega), e15] at hnum; exact hnum)
                            have HP' : Hid (PostLz.unpack s.data.toList (m : Int) = ([], 5)) := Lib.hid (by rw [HP.out, HEE.out, HC0.out, if_neg (by omega), hnum]; rfl)
                            have HE15 := Lib.hid e15
                            clear hnum e15
                            go_wp2_with (go_at_call 38; with_reducible refine (more_none s (k3 + 2) 15 _ _ _ (by omega) (by have := HE15.out; omega) hs hk5 (Nat.le_refl _) HX.out).mono ?_; rintro e1 w2 ⟨x, rfl, rfl⟩)
                            go_ret2
                            unfold UnpackPost
                            rw [HP'.out]
                            exact ⟨rfl, HB4.out.2⟩
                          | some x =>
                            obtain ⟨x, r⟩ := x
                            have HN := Lib.hid hnum
                            have HC1 : Hid (PostLz.copies m (y % 16) (s.data.toList.drop k3) o2 = if m < o2.length + (x + 4) then .error 4 else .ok (r, PostLz.copyN o2 far (x + 4))) := Lib.hid (by rw [HC0.out, if_neg (by omega), hnum])
                            clear hnum HC0
                            go_cut [7, 9] (fun v7 v9 wx => ∃ k6 : Nat, v7 = .int .i64 (k6 : Int) ∧ v9 = .int .i64 (x : Int) ∧ r = s.data.toList.drop k6 ∧ k3 + 2 ≤ k6 ∧ k6 ≤ s.size ∧ x ≤ 15 + 255 * s.size ∧ wx = W4)
                            case first =>
                              by_cases e15 : y % 16 = 15
                              · have b15 : ((y : Int) % 16 == 15) = true := beq_iff_eq.2 (by omega)
                                have HX : Hid (PostLz.ext (s.data.toList.drop (k3 + 2)) 15 = some (x, r)) := Lib.hid (by
                                  have hnum := HN.out
                                  unfold PostLz.num at hnum; rw [if_neg (by omega), e15] at hnum; exact hnum)
                                have HE15 := Lib.hid e15
                                clear e15
                                go_wp2_with (go_at_call 38; with_reducible refine (more_some s (k3 + 2) 15 _ _ _ (by omega) (by have := HE15.out; omega) hs hk5 (Nat.le_refl _) x r HX.out).mono ?_; rintro e1 w2 ⟨k6, rfl, rfl, hr, h1, h2, h3⟩)
                                go_meet
                                exact ⟨k6, rfl, rfl, hr, h1, h2, h3, rfl⟩
                              · have b15 : ((y : Int) % 16 == 15) = false := beq_eq_false_iff_ne.2 (by omega)
                                have hnum := HN.out
                                unfold PostLz.num at hnum; rw [if_pos (by omega)] at hnum
                                simp only [Option.some.injEq, Prod.mk.injEq] at hnum
                                have hna := Lib.hid hnum.1
                                have hnr := Lib.hid hnum.2
                                clear hnum
                                go_wp2_with fail
                                go_meet
                                exact ⟨k3 + 2, by go_num, by rw [← hna.out]; go_num, hnr.out.symm, Nat.le_refl _, hk5, by have := hna.out; omega, rfl⟩
                            case rest =>
                              obtain ⟨k6, rfl, rfl, hr, hk6, hks6, hx, rfl⟩ := hcut
                              have HR6 := Lib.hid hr
                              clear hr HN
                              by_cases e4 : m < o2.length + (x + 4)
                              · have b4 : (m : Int) < (o2.length : Int) + (x : Int) + 4 := by omega
                                have HP' : Hid (PostLz.unpack s.data.toList (m : Int) = ([], 4)) := Lib.hid (by rw [HP.out, HEE.out, HC1.out, if_pos e4]; rfl)
                                clear e4
                                go_wp2_with fail
                                go_ret2
                                unfold UnpackPost
                                rw [HP'.out]
                                exact ⟨rfl, HB4.out.2⟩
                              · have b4 : ¬ (m : Int) < (o2.length : Int) + (x : Int) + 4 := by omega
                                have HC2 : Hid (PostLz.unpackFrom m (s.data.toList.drop k6) (PostLz.copyN o2 far (x + 4)) = PostLz.unpackFrom m s.data.toList []) := Lib.hid (by rw [HEE.out, HC1.out, if_neg e4, HR6.out])
                                have HFR : Hid (0 < far ∧ far ≤ o2.length) := Lib.hid (by omega)
                                clear HC1 HEE HR6
                                go_wp2_with fail
                                have hlm : o2.length + (x + 4) ≤ m := by omega
                                clear e4 b4 e1 e2 b1 b2
                                go_loopw [6, 11] (fun v6 v11 wq => ∃ i : Nat, i ≤ x + 4 ∧ v11 = .int .i64 (i : Int) ∧ Hid (Buf wq w.heap.size 5 v6 (PostLz.copyN o2 far i) ∧ Below w.heap.size w wq)) (fun _ v11 _ => x + 4 - (intOf v11).toNat)
                                case atStart => exact ⟨0, Nat.zero_le _, rfl, HB4⟩
                                case round =>
                                  obtain ⟨i, hi, rfl, HI⟩ := hrel
                                  by_cases hli : i < x + 4
                                  · have hlen := PostLz.copyN_len far i o2
                                    obtain ⟨A', c', rfl, hc', _⟩ := HI.out.1.len
                                    obtain ⟨g, rfl⟩ := HI.out.1.addr (by have := HFR.out; omega)
                                    have HSN := Lib.hid (PostLz.copyN_snoc far i o2)
                                    generalize PostLz.copyN o2 far i = o at *
                                    have hfo : far ≤ o.length := by have := HFR.out; omega
                                    have hf0 : 0 < far := HFR.out.1
                                    have hoL : o.length ≤ 1048576 := by omega
                                    have tl : (i : Int) < (x : Int) + 4 := by omega
                                    have HLN := Lib.hid hlen
                                    clear hlen
                                    have de := HI.out.1.cellAt (o.length - far) (by omega)
                                    go_wp2_with (refine wpList_byte rfl (.tmp 124) (.tmp 132) 30 rfl w.heap.size 5 infoU8 Try.underlying30 _ o rfl HI.out.1 rfl _ (o.getD (o.length - far) 0) rfl (by omega) HI.out.2.size ?_; intro v3 w3' hbuf hold hg)
                                    have hg' := below_grown hg (fun j hj => Buf.own_ge HI.out.1 j hj) HI.out.2.size
                                    have HNW := Lib.hid (And.intro hbuf (HI.out.2.trans hg'))
                                    clear hbuf hold hg hg' de
                                    go_roundw
                                    case rel => exact ⟨i + 1, by omega, by go_num, by rw [HSN.out]; exact HNW⟩
                                    case measure => simp [intOf]; omega
                                  · obtain rfl : i = x + 4 := by omega
                                    go_wp2_with fail
                                    go_roundw
                                    case rel => exact ⟨k6, _, rfl, Lib.hid ⟨hks6, HI.out.1, by rw [PostLz.copyN_len]; exact hlm, HI.out.2, HC2.out⟩⟩
                                    case measure => simp [intOf]; omega
        · obtain rfl : k = s.size := by omega
          have HP' : Hid (PostLz.unpack s.data.toList (m : Int) = ([], 5)) := Lib.hid (by rw [HP.out, ← HE.out, List.drop_of_length_le (by simp), PostLz.unpackFrom_nil]; rfl)
          go_wp2_with fail
          go_ret2
          unfold UnpackPost
          rw [HP'.out]
          exact ⟨rfl, HBl.out⟩
end Go.Proofs.Ytipadidfiffkjaa
