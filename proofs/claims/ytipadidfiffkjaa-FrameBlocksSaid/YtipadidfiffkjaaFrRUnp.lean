/- The reference's Unpack, whatever the bytes: the same plain answer as the program's. -/
import Derived.Test.YtipadidfiffkjaaFrRPl
namespace Go.Proofs.Ytipadidfiffkjaa
open Go.RowKit Go.PostSums Go.PostMem
theorem rowBelow {w w1 : World} (h : Below w.heap.size w w1) (o : Obj) (cs : Array Value) : Below w.heap.size w ((w1.alloc o).setRow w1.heap.size cs) :=
  (h.alloc h.size o).trans ⟨rfl, rfl, rfl, by simp [World.setRow], fun i hi => setRow_other _ _ i cs (by have := h.size; omega)⟩
def RLoopAt (s : ByteArray) (most : Nat) (f : FSt) (B0 : Except Nat (Nat × List UInt8)) (g : Nat) (w : World) (v9 v10 : Value) (wr : World) : Prop :=
  ∃ (a : Nat) (out : List UInt8) (u : ByteArray), v9 = .int .i64 (a : Int) ∧ v10 = .string u ∧ Hid (u = strOf out ∧ a ≤ s.size ∧ out.length ≤ most ∧ HdAt wr g f ∧ Below w.heap.size w wr ∧ blocksR s.data.toList f.room most (onOf f 16) a out = B0)
set_option maxRecDepth 100000 in
set_option maxHeartbeats 3200000 in
theorem RFUnpack_in (s : ByteArray) (most : Nat) (w : World) (hs : s.size ≤ 140737488351232) (hm : most ≤ 1048576) :
    Calls Try.prog 11 #[.string s, .int .i64 (most : Int)] w (UnpP (frameA (frameR s.data.toList most)) w) := by
  have m0 : ¬ (most : Int) < 0 := by omega
  have m1 : ¬ (1048576 : Int) < (most : Int) := by omega
  obtain ⟨R, hR⟩ : ∃ R, R = frameR s.data.toList most := ⟨_, rfl⟩
  rw [← hR]
  rw [frameR_head] at hR
  have HR := Lib.hid hR; clear hR
  go_enter Try.func11, Try.ntmps11
  go_wp2_with fail
  (with_reducible refine (RBegins_any s most w hs).mono ?_)
  rintro e w1 ⟨hb1, hp⟩
  cases h1 : headR s.data.toList most with
  | error c =>
    rw [h1] at hp
    simp only at hp
    subst hp
    have HR := Lib.hid (show R = .error c by rw [HR.out, h1])
    have c0 : ((c : Int) != 0) = true := bne_iff_ne.2 (by have := headR_err h1; omega)
    clear h1
    go_wp2_with (refine wpList_store_row rfl 45 (.tmp 7) _ rfl w1.heap.size _ rfl rfl _ _ (heap_alloc_new w1 _) rinfo rfl (one5 _ _ _ _ _) ?_)
    go_ret3
    rw [HR.out]
    exact ⟨rfl, rowBelow hb1 _ _⟩
  | ok f =>
    rw [h1] at hp
    simp only at hp
    subst hp
    obtain ⟨f1, f2, f3, f4⟩ := headR_ok h1
    rw [list_size] at f2
    obtain ⟨B0, hB0⟩ : ∃ B0, B0 = blocksR s.data.toList f.room most (onOf f 16) f.a [] := ⟨_, rfl⟩
    have HR := Lib.hid (show R = restR s.data.toList f B0 by rw [HR.out, h1, hB0, ← f1])
    have HB0 := Lib.hid hB0; clear hB0
    clear h1
    go_upto_region 6 with (refine wpList_store_row rfl 45 (.tmp 7) _ rfl w1.heap.size _ rfl rfl _ _ (heap_alloc_new w1 _) rinfo rfl (one5 _ _ _ _ _) ?_)
    have HG : Hid (HdAt ((w1.alloc (.cells #[.bool false, .bool false, .int .i64 0, .int .i64 0, .int .i64 0] 45)).setRow w1.heap.size (headC (onOf f 16) (onOf f 4) (if onOf f 8 = true then (f.size : Int) else -1) f.room f.a)) w1.heap.size f) := Lib.hid (setRow_heap _ _ _ _ _ _ (heap_alloc_new w1 _))
    have HBl := Lib.hid (rowBelow hb1 (.cells #[.bool false, .bool false, .int .i64 0, .int .i64 0, .int .i64 0] 45) (headC (onOf f 16) (onOf f 4) (if onOf f 8 = true then (f.size : Int) else -1) f.room f.a))
    generalize (w1.alloc _).setRow _ _ = W2 at HG HBl ⊢
    generalize w1.heap.size = g at HG ⊢
    clear hb1 m0 m1
    have dd := HG.out.cells.2.2.2.2
    go_wp2_with fail
    go_loopw [9, 10] (fun v9 v10 wr => RLoopAt s most f B0 g w v9 v10 wr) (fun v9 _ _ => s.size - (intOf v9).toNat)
    case atStart => exact ⟨f.a, [], _, rfl, rfl, Lib.hid ⟨rfl, f2, Nat.zero_le _, HG.out, HBl.out, HB0.out.symm⟩⟩
    case round =>
      obtain ⟨a, out, u, rfl, rfl, HI⟩ := hrel
      obtain ⟨hu, hak, ho, hG, hBl, hE⟩ := HI.out
      obtain ⟨dd0, dd1, dd2, dd3, -⟩ := hG.cells
      rw [blocksR_eq, list_size] at hE
      have HG := Lib.hid hG
      have HBl := Lib.hid hBl
      have HU := Lib.hid hu
      have hul : u.size = out.length := by rw [hu, strOf_size]
      have k1 : (a : Int) ≤ (s.size : Int) := by omega
      have HD2 := Lib.hid dd2
      clear HI hG hBl hu dd dd2
      by_cases c1 : s.size < a + 4
      · rw [if_pos c1] at hE
        subst hE
        go_wp2_with (first
          | (go_at_call 14; (with_reducible refine (rnum_any s a _ hs hak).mono ?_); rintro e1 w1 ⟨rfl, hp⟩; rw [if_pos c1] at hp; subst hp))
        go_ret3
        rw [HR.out]
        exact ⟨rfl, HBl.out⟩
      · rw [if_neg c1] at hE
        have hx32 : leN (s.data.toList.drop a) 4 < 4294967296 := leN_lt _ 4
        generalize hx : leN (s.data.toList.drop a) 4 = x at hE hx32
        by_cases c2 : x = 0
        · rw [if_pos c2] at hE
          have HR := Lib.hid (show R = restR s.data.toList f (.ok (a + 4, out)) by rw [HR.out, ← hE])
          clear hE
          subst c2
          go_upto_region 38 with (first
            | (go_at_call 14; (with_reducible refine (rnum_any s a _ hs hak).mono ?_); rintro e1 w1 ⟨rfl, hp⟩; rw [if_neg c1, hx] at hp; subst hp))
          have HR := Lib.hid (HR.out.trans (restR_ok _ _ _ _))
          have hus : u.size ≤ 140737488351232 := by omega
          by_cases hbad : onOf f 8 = true ∧ f.size ≠ out.length
          · have HR := Lib.hid (HR.out.trans (if_pos hbad))
            have d2 := HD2.out
            rw [if_pos hbad.1] at d2
            have g1 : (0 : Int) ≤ (f.size : Int) := by omega
            have g2 : ¬ (f.size : Int) = (u.size : Int) := by have := hbad.2; omega
            clear hbad
            go_wp2_with (fail)
            go_ret3
            rw [HR.out]
            exact ⟨rfl, HBl.out⟩
          · have HR := Lib.hid (HR.out.trans (if_neg hbad))
            have d2 : ∃ z : Int, wr.cell? ⟨g, 2, none⟩ = some (.int .i64 z) ∧ (z < 0 ∨ (¬ z < 0 ∧ z = (u.size : Int))) := by
              by_cases h8 : onOf f 8 = true
              · refine ⟨_, by rw [HD2.out, if_pos h8], .inr ⟨by omega, ?_⟩⟩
                have : f.size = out.length := Decidable.byContradiction fun h => hbad ⟨h8, h⟩
                omega
              · exact ⟨_, by rw [HD2.out, if_neg h8], .inl (by decide)⟩
            obtain ⟨z, d2, hzz⟩ := d2
            clear hbad
            obtain ⟨o4, ho4⟩ : ∃ o4, o4 = onOf f 4 := ⟨_, rfl⟩
            rw [← ho4] at dd1
            have HR := Lib.hid (show R = _ by rw [HR.out, ← ho4])
            clear ho4
            obtain ⟨E, hEs⟩ : ∃ E, E = sumE s.data.toList o4 out (a + 4) := ⟨_, rfl⟩
            have HR := Lib.hid (show R = _ by rw [HR.out, ← hEs])
            rw [← show u.data.toList = out by rw [HU.out, strOf_list]] at hEs
            have HSE := Lib.hid hEs.symm
            clear hEs
            cases o4 with
            | false =>
              have HR := Lib.hid (show R = .ok (out, a + 4) by rw [HR.out, if_pos (show E = 0 by rw [← HSE.out]; rfl)]; rfl)
              rcases hzz with hz | ⟨hz, rfl⟩
              all_goals
                go_wp2_with (fail)
                go_ret3
                rw [HR.out, HU.out]
                exact ⟨rfl, HBl.out⟩
            | true =>
              by_cases hE0 : E = 0
              · subst hE0
                have HR := Lib.hid (show R = .ok (out, a + 4 + 4) by rw [HR.out, if_pos rfl]; rfl)
                rcases hzz with hz | ⟨hz, rfl⟩
                all_goals
                  go_wp2_with (first
                    | (go_at_call 23; (with_reducible refine (rsum_at s (a + 4) _ u _ (by omega) hs (by omega) hus).mono ?_); rintro e3 w3 ⟨rfl, hb3⟩; rw [HSE.out]))
                  go_ret3
                  rw [HR.out, HU.out]
                  exact ⟨rfl, bstep HBl.out hb3⟩
              · have HR := Lib.hid (show R = .error E by rw [HR.out, if_neg hE0])
                have hE0' : ((E : Int) != 0) = true := bne_iff_ne.2 (by omega)
                rcases hzz with hz | ⟨hz, rfl⟩
                all_goals
                  go_wp2_with (first
                    | (go_at_call 23; (with_reducible refine (rsum_at s (a + 4) _ u _ (by omega) hs (by omega) hus).mono ?_); rintro e3 w3 ⟨rfl, hb3⟩; rw [HSE.out]))
                  go_ret3
                  rw [HR.out]
                  exact ⟨rfl, bstep HBl.out hb3⟩
        · rw [if_neg c2] at hE
          have hsh : (x : Int) / 2147483648 = ((x / 2147483648 : Nat) : Int) := by omega
          have hlo := loBits2 x hx32
          have c2' : ¬ (x : Int) = 0 := by omega
          obtain ⟨n, hn⟩ : ∃ n, n = lo31 x := ⟨_, rfl⟩
          rw [← hn] at hE
          have hn' : x % 2147483648 = n := by rw [hn]; rfl
          rw [hn'] at hlo
          have hn31 : n < 2147483648 := by omega
          clear hn hn'
          have hhi : hi31 x = x / 2147483648 := rfl
          generalize hi31 x = y at hE hhi
          rw [← hhi] at hsh
          have HHI := Lib.hid hhi; clear hhi
          by_cases c3 : n = 0 ∨ f.room < n
          · rw [if_pos c3] at hE
            subst hE
            by_cases c4 : n = 0
            · subst c4
              go_wp2_with (first
                | (go_at_call 14; (with_reducible refine (rnum_any s a _ hs hak).mono ?_); rintro e1 w1 ⟨rfl, hp⟩; rw [if_neg c1, hx] at hp; subst hp))
              all_goals (go_ret3; rw [HR.out]; exact ⟨rfl, HBl.out⟩)
            · have c4' : ¬ (n : Int) = 0 := by omega
              have c5 : (f.room : Int) < (n : Int) := by omega
              go_wp2_with (first
                | (go_at_call 14; (with_reducible refine (rnum_any s a _ hs hak).mono ?_); rintro e1 w1 ⟨rfl, hp⟩; rw [if_neg c1, hx] at hp; subst hp))
              all_goals (go_ret3; rw [HR.out]; exact ⟨rfl, HBl.out⟩)
          · rw [if_neg c3] at hE
            have c4' : ¬ (n : Int) = 0 := by omega
            have c5 : n ≤ f.room := by omega
            have c5' : ¬ (f.room : Int) < (n : Int) := by omega
            have e0 : ((n : Int) == 0) = false := beq_eq_false_iff_ne.2 c4'
            by_cases c6 : s.size < a + 4 + n
            · rw [if_pos c6] at hE
              subst hE
              have c6' : (s.size : Int) - ((a : Int) + 4) < (n : Int) := by omega
              go_wp2_with (first
                | (go_at_call 14; (with_reducible refine (rnum_any s a _ hs hak).mono ?_); rintro e1 w1 ⟨rfl, hp⟩; rw [if_neg c1, hx] at hp; subst hp))
              all_goals (go_ret3; rw [HR.out]; exact ⟨rfl, HBl.out⟩)
            · rw [if_neg c6] at hE
              have c6' : ¬ (s.size : Int) - ((a : Int) + 4) < (n : Int) := by omega
              have c6le : a + 4 + n ≤ s.size := by omega
              have i1 : (0 : Int) ≤ (a : Int) + 4 := by omega
              have i2 : (a : Int) + 4 ≤ (a : Int) + 4 + (n : Int) := by omega
              have i3 : (a : Int) + 4 + (n : Int) ≤ (s.size : Int) := by omega
              have i4 : ((a : Int) + 4).toNat = a + 4 := by omega
              have i5 : ((a : Int) + 4 + (n : Int)).toNat = a + 4 + n := by omega
              generalize hTT : (s.data.toList.drop (a + 4)).take n = T at hE
              have hTn : T.length = n := by rw [← hTT]; simp; omega
              obtain ⟨t, ht⟩ : ∃ t, t = strOf T := ⟨_, rfl⟩
              have HT : Hid (s.extract (a + 4) (a + 4 + n) = t) := Lib.hid (by rw [extract_strOf s (a + 4) (a + 4 + n) n rfl, hTT, ht])
              have HTL : Hid (t.data.toList = T) := Lib.hid (by rw [ht, strOf_list])
              have htn : t.size = n := by rw [ht, strOf_size, hTn]
              have hts : t.size ≤ 140737488351232 := by omega
              have HTS := Lib.hid ht
              clear hTT ht
              obtain ⟨E, hEs⟩ : ∃ E, E = sumE s.data.toList (onOf f 16) T (a + 4 + n) := ⟨_, rfl⟩
              rw [← hEs] at hE
              have HSE := Lib.hid hEs.symm
              clear hEs
              go_upto_region 21 with (first
                | (go_at_call 14; (with_reducible refine (rnum_any s a _ hs hak).mono ?_); rintro e1 w1 ⟨rfl, hp⟩; rw [if_neg c1, hx] at hp; subst hp))
              rw [HT.out]
              by_cases c7 : E = 0
              rotate_left
              · rw [if_pos c7] at hE
                subst hE
                have hon : onOf f 16 = true := by
                  rw [← Bool.not_eq_false]
                  intro h
                  apply c7
                  rw [← HSE.out, h]; rfl
                rw [hon] at dd0
                have HSE := Lib.hid (show sumE s.data.toList true T (a + 4 + n) = E by rw [← hon]; exact HSE.out)
                have c7' : ((E : Int) != 0) = true := bne_iff_ne.2 (by omega)
                have yd : (y : Int) = 1 ∨ ¬ (y : Int) = 1 := by omega
                rcases yd with yd | yd
                all_goals
                  go_wp2_with (first
                    | (go_at_call 23; (with_reducible refine (rsum_at s (a + 4 + n) _ t _ (by omega) hs c6le hts).mono ?_); rintro e3 w3 ⟨rfl, hb3⟩; rw [HTL.out, HSE.out]; have dd3 := (HG.out.later hb3).cells.2.2.2.1))
                  go_ret3
                  rw [HR.out]
                  exact ⟨rfl, bstep HBl.out hb3⟩
              · rw [if_neg (by simpa using c7)] at hE
                subst c7
                by_cases c8 : y = 1
                · simp only [if_pos c8] at hE
                  rw [if_neg (by simp)] at hE
                  subst c8
                  cases hon : onOf f 16 with
                  | true =>
                    rw [hon] at dd0
                    have HSE := Lib.hid (show sumE s.data.toList true T (a + 4 + n) = 0 by rw [← hon]; exact HSE.out)
                    have hle : a + 4 + n + 4 ≤ s.size := sumE_le HSE.out
                    rw [show after (onOf f 16) (a + 4 + n) = a + 4 + n + 4 by rw [hon]; rfl] at hE
                    by_cases c9 : most < out.length + T.length
                    · rw [if_pos c9] at hE
                      subst hE
                      have c9' : (most : Int) < (u.size : Int) + (t.size : Int) := by omega
                      go_wp2_with (first
                        | (go_at_call 23; (with_reducible refine (rsum_at s (a + 4 + n) _ t _ (by omega) hs c6le hts).mono ?_); rintro e3 w3 ⟨rfl, hb3⟩; rw [HTL.out, HSE.out]; have dd3 := (HG.out.later hb3).cells.2.2.2.1))
                      go_ret3
                      rw [HR.out]
                      exact ⟨rfl, bstep HBl.out hb3⟩
                    · rw [if_neg c9] at hE
                      have HE := Lib.hid hE; clear hE
                      have c9' : ¬ (most : Int) < (u.size : Int) + (t.size : Int) := by omega
                      go_wp2_with (first
                        | (go_at_call 23; (with_reducible refine (rsum_at s (a + 4 + n) _ t _ (by omega) hs c6le hts).mono ?_); rintro e3 w3 ⟨rfl, hb3⟩; rw [HTL.out, HSE.out]; have dd3 := (HG.out.later hb3).cells.2.2.2.1))
                      have HBV := Lib.hid (bstep HBl.out hb3)
                      go_roundw
                      case rel => exact ⟨a + 4 + n + 4, out ++ T, u ++ t, congrArg (Value.int .i64) (by omega), rfl, Lib.hid ⟨by rw [HU.out, show t = strOf T from HTS.out, strOf_app], by omega, by rw [List.length_append]; omega, HdAt.later HG.out (hb3), HBV.out, HE.out⟩⟩
                      case measure => simp only [intOf]; show s.size - (_ : Int).toNat < s.size - (_ : Int).toNat; omega
                  | false =>
                    rw [hon] at dd0
                    rw [show after (onOf f 16) (a + 4 + n) = a + 4 + n by rw [hon]; rfl] at hE
                    by_cases c9 : most < out.length + T.length
                    · rw [if_pos c9] at hE
                      subst hE
                      have c9' : (most : Int) < (u.size : Int) + (t.size : Int) := by omega
                      go_wp2_with (fail)
                      go_ret3
                      rw [HR.out]
                      exact ⟨rfl, HBl.out⟩
                    · rw [if_neg c9] at hE
                      have HE := Lib.hid hE; clear hE
                      have c9' : ¬ (most : Int) < (u.size : Int) + (t.size : Int) := by omega
                      go_wp2_with (fail)
                      have HBV := Lib.hid (HBl.out)
                      go_roundw
                      case rel => exact ⟨a + 4 + n, out ++ T, u ++ t, congrArg (Value.int .i64) (by omega), rfl, Lib.hid ⟨by rw [HU.out, show t = strOf T from HTS.out, strOf_app], by omega, by rw [List.length_append]; omega, HdAt.later HG.out (Below.refl _ _), HBV.out, HE.out⟩⟩
                      case measure => simp only [intOf]; show s.size - (_ : Int).toNat < s.size - (_ : Int).toNat; omega
                · simp only [if_neg c8] at hE
                  have c8' : ((y : Int) == 1) = false := beq_eq_false_iff_ne.2 (by omega)
                  obtain ⟨M, hM⟩ : ∃ M : Nat, M = min f.room 1048576 := ⟨_, rfl⟩
                  have HUC : Hid (∀ (x : Int), x = (M : Int) → ∀ w', Calls Try.prog 24 #[.string t, .int .i64 x] w' (UnpackPost t M w')) := Lib.hid fun x hx w' => by subst hx; exact RUnpack_any t M w' hts
                  unfold UnpackPost at HUC
                  have hul2 := unpackedR_len f.room T
                  unfold unpackedR at hE hul2
                  rw [← hM] at hE hul2
                  rw [HTL.out] at HUC
                  generalize PostLz.unpack T (M : Int) = r at HUC hE hul2
                  obtain ⟨U, c⟩ := r
                  simp only at HUC hE hul2
                  have HM := Lib.hid hM; clear hM
                  obtain ⟨k, hk⟩ : ∃ k, k = if c = 4 ∧ f.room ≤ 1048576 then 70 else c := ⟨_, rfl⟩
                  rw [← hk] at hE
                  obtain ⟨v, hv⟩ : ∃ v, v = strOf U := ⟨_, rfl⟩
                  have hvs : v.size = U.length := by rw [hv, strOf_size]
                  rw [← hv] at HUC
                  have HV := Lib.hid hv; clear hv
                  cases hon : onOf f 16 with
                  | true =>
                    rw [hon] at dd0
                    have HSE := Lib.hid (show sumE s.data.toList true T (a + 4 + n) = 0 by rw [← hon]; exact HSE.out)
                    have hle : a + 4 + n + 4 ≤ s.size := sumE_le HSE.out
                    rw [show after (onOf f 16) (a + 4 + n) = a + 4 + n + 4 by rw [hon]; rfl] at hE
                    by_cases hroom : f.room ≤ 1048576
                    · have hroom' : (f.room : Int) ≤ 1048576 := by omega
                      by_cases hc4 : c = 4
                      · subst hc4
                        rw [show k = 70 by rw [hk, if_pos ⟨rfl, hroom⟩]] at hE
                        clear hk
                        rw [if_pos (by decide)] at hE
                        subst hE
                        go_wp2_with (first
                          | (go_at_call 23; (with_reducible refine (rsum_at s (a + 4 + n) _ t _ (by omega) hs c6le hts).mono ?_); rintro e3 w3 ⟨rfl, hb3⟩; rw [HTL.out, HSE.out]; have dd3 := (HG.out.later hb3).cells.2.2.2.1)
                          | (go_at_call 24; have hM := HM.out; (with_reducible refine (HUC.out _ (by first | omega | (split <;> omega)) _).mono ?_); clear hM; rintro e5 w5 ⟨rfl, hb5⟩; have dd3 := (HG.out.later (bstep hb3 hb5)).cells.2.2.2.1))
                        go_ret3
                        rw [HR.out]
                        exact ⟨rfl, bstep (bstep HBl.out hb3) hb5⟩
                      · rw [show k = c by rw [hk, if_neg (fun h => hc4 h.1)]] at hE
                        clear hk
                        have hc4' : ¬ (c : Int) = 4 := by omega
                        by_cases hc0 : c = 0
                        · subst hc0
                          rw [if_neg (by simp)] at hE
                          by_cases c9 : most < out.length + U.length
                          · rw [if_pos c9] at hE
                            subst hE
                            have c9' : (most : Int) < (u.size : Int) + (v.size : Int) := by omega
                            go_wp2_with (first
                              | (go_at_call 23; (with_reducible refine (rsum_at s (a + 4 + n) _ t _ (by omega) hs c6le hts).mono ?_); rintro e3 w3 ⟨rfl, hb3⟩; rw [HTL.out, HSE.out]; have dd3 := (HG.out.later hb3).cells.2.2.2.1)
                              | (go_at_call 24; have hM := HM.out; (with_reducible refine (HUC.out _ (by first | omega | (split <;> omega)) _).mono ?_); clear hM; rintro e5 w5 ⟨rfl, hb5⟩; have dd3 := (HG.out.later (bstep hb3 hb5)).cells.2.2.2.1))
                            go_ret3
                            rw [HR.out]
                            exact ⟨rfl, bstep (bstep HBl.out hb3) hb5⟩
                          · rw [if_neg c9] at hE
                            have HE := Lib.hid hE; clear hE
                            have c9' : ¬ (most : Int) < (u.size : Int) + (v.size : Int) := by omega
                            go_wp2_with (first
                              | (go_at_call 23; (with_reducible refine (rsum_at s (a + 4 + n) _ t _ (by omega) hs c6le hts).mono ?_); rintro e3 w3 ⟨rfl, hb3⟩; rw [HTL.out, HSE.out]; have dd3 := (HG.out.later hb3).cells.2.2.2.1)
                              | (go_at_call 24; have hM := HM.out; (with_reducible refine (HUC.out _ (by first | omega | (split <;> omega)) _).mono ?_); clear hM; rintro e5 w5 ⟨rfl, hb5⟩; have dd3 := (HG.out.later (bstep hb3 hb5)).cells.2.2.2.1))
                            have HBV := Lib.hid (bstep (bstep HBl.out hb3) hb5)
                            go_roundw
                            case rel => exact ⟨a + 4 + n + 4, out ++ U, u ++ v, congrArg (Value.int .i64) (by omega), rfl, Lib.hid ⟨by rw [HU.out, HV.out, strOf_app], by omega, by rw [List.length_append]; omega, HdAt.later HG.out (bstep hb3 hb5), HBV.out, HE.out⟩⟩
                            case measure => simp only [intOf]; show s.size - (_ : Int).toNat < s.size - (_ : Int).toNat; omega
                        · rw [if_pos hc0] at hE
                          subst hE
                          have hc0' : ((c : Int) != 0) = true := bne_iff_ne.2 (by omega)
                          go_wp2_with (first
                            | (go_at_call 23; (with_reducible refine (rsum_at s (a + 4 + n) _ t _ (by omega) hs c6le hts).mono ?_); rintro e3 w3 ⟨rfl, hb3⟩; rw [HTL.out, HSE.out]; have dd3 := (HG.out.later hb3).cells.2.2.2.1)
                            | (go_at_call 24; have hM := HM.out; (with_reducible refine (HUC.out _ (by first | omega | (split <;> omega)) _).mono ?_); clear hM; rintro e5 w5 ⟨rfl, hb5⟩; have dd3 := (HG.out.later (bstep hb3 hb5)).cells.2.2.2.1))
                          go_ret3
                          rw [HR.out]
                          exact ⟨rfl, bstep (bstep HBl.out hb3) hb5⟩
                    · have hroom' : ¬ (f.room : Int) ≤ 1048576 := by omega
                      have hroom2 : (1048576 : Int) < (f.room : Int) := by omega
                      rw [show k = c by rw [hk, if_neg (fun h => hroom h.2)]] at hE
                      clear hk
                      by_cases hc4 : c = 4
                      · subst hc4
                        rw [if_pos (by decide)] at hE
                        subst hE
                        go_wp2_with (first
                          | (go_at_call 23; (with_reducible refine (rsum_at s (a + 4 + n) _ t _ (by omega) hs c6le hts).mono ?_); rintro e3 w3 ⟨rfl, hb3⟩; rw [HTL.out, HSE.out]; have dd3 := (HG.out.later hb3).cells.2.2.2.1)
                          | (go_at_call 24; have hM := HM.out; (with_reducible refine (HUC.out _ (by first | omega | (split <;> omega)) _).mono ?_); clear hM; rintro e5 w5 ⟨rfl, hb5⟩; have dd3 := (HG.out.later (bstep hb3 hb5)).cells.2.2.2.1))
                        go_ret3
                        rw [HR.out]
                        exact ⟨rfl, bstep (bstep HBl.out hb3) hb5⟩
                      · have hc4' : ¬ (c : Int) = 4 := by omega
                        by_cases hc0 : c = 0
                        · subst hc0
                          rw [if_neg (by simp)] at hE
                          by_cases c9 : most < out.length + U.length
                          · rw [if_pos c9] at hE
                            subst hE
                            have c9' : (most : Int) < (u.size : Int) + (v.size : Int) := by omega
                            go_wp2_with (first
                              | (go_at_call 23; (with_reducible refine (rsum_at s (a + 4 + n) _ t _ (by omega) hs c6le hts).mono ?_); rintro e3 w3 ⟨rfl, hb3⟩; rw [HTL.out, HSE.out]; have dd3 := (HG.out.later hb3).cells.2.2.2.1)
                              | (go_at_call 24; have hM := HM.out; (with_reducible refine (HUC.out _ (by first | omega | (split <;> omega)) _).mono ?_); clear hM; rintro e5 w5 ⟨rfl, hb5⟩; have dd3 := (HG.out.later (bstep hb3 hb5)).cells.2.2.2.1))
                            go_ret3
                            rw [HR.out]
                            exact ⟨rfl, bstep (bstep HBl.out hb3) hb5⟩
                          · rw [if_neg c9] at hE
                            have HE := Lib.hid hE; clear hE
                            have c9' : ¬ (most : Int) < (u.size : Int) + (v.size : Int) := by omega
                            go_wp2_with (first
                              | (go_at_call 23; (with_reducible refine (rsum_at s (a + 4 + n) _ t _ (by omega) hs c6le hts).mono ?_); rintro e3 w3 ⟨rfl, hb3⟩; rw [HTL.out, HSE.out]; have dd3 := (HG.out.later hb3).cells.2.2.2.1)
                              | (go_at_call 24; have hM := HM.out; (with_reducible refine (HUC.out _ (by first | omega | (split <;> omega)) _).mono ?_); clear hM; rintro e5 w5 ⟨rfl, hb5⟩; have dd3 := (HG.out.later (bstep hb3 hb5)).cells.2.2.2.1))
                            have HBV := Lib.hid (bstep (bstep HBl.out hb3) hb5)
                            go_roundw
                            case rel => exact ⟨a + 4 + n + 4, out ++ U, u ++ v, congrArg (Value.int .i64) (by omega), rfl, Lib.hid ⟨by rw [HU.out, HV.out, strOf_app], by omega, by rw [List.length_append]; omega, HdAt.later HG.out (bstep hb3 hb5), HBV.out, HE.out⟩⟩
                            case measure => simp only [intOf]; show s.size - (_ : Int).toNat < s.size - (_ : Int).toNat; omega
                        · rw [if_pos hc0] at hE
                          subst hE
                          have hc0' : ((c : Int) != 0) = true := bne_iff_ne.2 (by omega)
                          go_wp2_with (first
                            | (go_at_call 23; (with_reducible refine (rsum_at s (a + 4 + n) _ t _ (by omega) hs c6le hts).mono ?_); rintro e3 w3 ⟨rfl, hb3⟩; rw [HTL.out, HSE.out]; have dd3 := (HG.out.later hb3).cells.2.2.2.1)
                            | (go_at_call 24; have hM := HM.out; (with_reducible refine (HUC.out _ (by first | omega | (split <;> omega)) _).mono ?_); clear hM; rintro e5 w5 ⟨rfl, hb5⟩; have dd3 := (HG.out.later (bstep hb3 hb5)).cells.2.2.2.1))
                          go_ret3
                          rw [HR.out]
                          exact ⟨rfl, bstep (bstep HBl.out hb3) hb5⟩
                  | false =>
                    rw [hon] at dd0
                    rw [show after (onOf f 16) (a + 4 + n) = a + 4 + n by rw [hon]; rfl] at hE
                    by_cases hroom : f.room ≤ 1048576
                    · have hroom' : (f.room : Int) ≤ 1048576 := by omega
                      by_cases hc4 : c = 4
                      · subst hc4
                        rw [show k = 70 by rw [hk, if_pos ⟨rfl, hroom⟩]] at hE
                        clear hk
                        rw [if_pos (by decide)] at hE
                        subst hE
                        go_wp2_with (first
                          | (go_at_call 24; have hM := HM.out; (with_reducible refine (HUC.out _ (by first | omega | (split <;> omega)) _).mono ?_); clear hM; rintro e5 w5 ⟨rfl, hb5⟩; have dd3 := (HG.out.later hb5).cells.2.2.2.1))
                        go_ret3
                        rw [HR.out]
                        exact ⟨rfl, bstep HBl.out hb5⟩
                      · rw [show k = c by rw [hk, if_neg (fun h => hc4 h.1)]] at hE
                        clear hk
                        have hc4' : ¬ (c : Int) = 4 := by omega
                        by_cases hc0 : c = 0
                        · subst hc0
                          rw [if_neg (by simp)] at hE
                          by_cases c9 : most < out.length + U.length
                          · rw [if_pos c9] at hE
                            subst hE
                            have c9' : (most : Int) < (u.size : Int) + (v.size : Int) := by omega
                            go_wp2_with (first
                              | (go_at_call 24; have hM := HM.out; (with_reducible refine (HUC.out _ (by first | omega | (split <;> omega)) _).mono ?_); clear hM; rintro e5 w5 ⟨rfl, hb5⟩; have dd3 := (HG.out.later hb5).cells.2.2.2.1))
                            go_ret3
                            rw [HR.out]
                            exact ⟨rfl, bstep HBl.out hb5⟩
                          · rw [if_neg c9] at hE
                            have HE := Lib.hid hE; clear hE
                            have c9' : ¬ (most : Int) < (u.size : Int) + (v.size : Int) := by omega
                            go_wp2_with (first
                              | (go_at_call 24; have hM := HM.out; (with_reducible refine (HUC.out _ (by first | omega | (split <;> omega)) _).mono ?_); clear hM; rintro e5 w5 ⟨rfl, hb5⟩; have dd3 := (HG.out.later hb5).cells.2.2.2.1))
                            have HBV := Lib.hid (bstep HBl.out hb5)
                            go_roundw
                            case rel => exact ⟨a + 4 + n, out ++ U, u ++ v, congrArg (Value.int .i64) (by omega), rfl, Lib.hid ⟨by rw [HU.out, HV.out, strOf_app], by omega, by rw [List.length_append]; omega, HdAt.later HG.out (hb5), HBV.out, HE.out⟩⟩
                            case measure => simp only [intOf]; show s.size - (_ : Int).toNat < s.size - (_ : Int).toNat; omega
                        · rw [if_pos hc0] at hE
                          subst hE
                          have hc0' : ((c : Int) != 0) = true := bne_iff_ne.2 (by omega)
                          go_wp2_with (first
                            | (go_at_call 24; have hM := HM.out; (with_reducible refine (HUC.out _ (by first | omega | (split <;> omega)) _).mono ?_); clear hM; rintro e5 w5 ⟨rfl, hb5⟩; have dd3 := (HG.out.later hb5).cells.2.2.2.1))
                          go_ret3
                          rw [HR.out]
                          exact ⟨rfl, bstep HBl.out hb5⟩
                    · have hroom' : ¬ (f.room : Int) ≤ 1048576 := by omega
                      have hroom2 : (1048576 : Int) < (f.room : Int) := by omega
                      rw [show k = c by rw [hk, if_neg (fun h => hroom h.2)]] at hE
                      clear hk
                      by_cases hc4 : c = 4
                      · subst hc4
                        rw [if_pos (by decide)] at hE
                        subst hE
                        go_wp2_with (first
                          | (go_at_call 24; have hM := HM.out; (with_reducible refine (HUC.out _ (by first | omega | (split <;> omega)) _).mono ?_); clear hM; rintro e5 w5 ⟨rfl, hb5⟩; have dd3 := (HG.out.later hb5).cells.2.2.2.1))
                        go_ret3
                        rw [HR.out]
                        exact ⟨rfl, bstep HBl.out hb5⟩
                      · have hc4' : ¬ (c : Int) = 4 := by omega
                        by_cases hc0 : c = 0
                        · subst hc0
                          rw [if_neg (by simp)] at hE
                          by_cases c9 : most < out.length + U.length
                          · rw [if_pos c9] at hE
                            subst hE
                            have c9' : (most : Int) < (u.size : Int) + (v.size : Int) := by omega
                            go_wp2_with (first
                              | (go_at_call 24; have hM := HM.out; (with_reducible refine (HUC.out _ (by first | omega | (split <;> omega)) _).mono ?_); clear hM; rintro e5 w5 ⟨rfl, hb5⟩; have dd3 := (HG.out.later hb5).cells.2.2.2.1))
                            go_ret3
                            rw [HR.out]
                            exact ⟨rfl, bstep HBl.out hb5⟩
                          · rw [if_neg c9] at hE
                            have HE := Lib.hid hE; clear hE
                            have c9' : ¬ (most : Int) < (u.size : Int) + (v.size : Int) := by omega
                            go_wp2_with (first
                              | (go_at_call 24; have hM := HM.out; (with_reducible refine (HUC.out _ (by first | omega | (split <;> omega)) _).mono ?_); clear hM; rintro e5 w5 ⟨rfl, hb5⟩; have dd3 := (HG.out.later hb5).cells.2.2.2.1))
                            have HBV := Lib.hid (bstep HBl.out hb5)
                            go_roundw
                            case rel => exact ⟨a + 4 + n, out ++ U, u ++ v, congrArg (Value.int .i64) (by omega), rfl, Lib.hid ⟨by rw [HU.out, HV.out, strOf_app], by omega, by rw [List.length_append]; omega, HdAt.later HG.out (hb5), HBV.out, HE.out⟩⟩
                            case measure => simp only [intOf]; show s.size - (_ : Int).toNat < s.size - (_ : Int).toNat; omega
                        · rw [if_pos hc0] at hE
                          subst hE
                          have hc0' : ((c : Int) != 0) = true := bne_iff_ne.2 (by omega)
                          go_wp2_with (first
                            | (go_at_call 24; have hM := HM.out; (with_reducible refine (HUC.out _ (by first | omega | (split <;> omega)) _).mono ?_); clear hM; rintro e5 w5 ⟨rfl, hb5⟩; have dd3 := (HG.out.later hb5).cells.2.2.2.1))
                          go_ret3
                          rw [HR.out]
                          exact ⟨rfl, bstep HBl.out hb5⟩
end Go.Proofs.Ytipadidfiffkjaa
