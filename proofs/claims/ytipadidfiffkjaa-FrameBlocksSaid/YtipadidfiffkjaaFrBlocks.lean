/- blocks: all blocks of a frame. -/
import Derived.Test.YtipadidfiffkjaaFrPlain
import Derived.Test.YtipadidfiffkjaaLzNumber
namespace Go.Proofs.Ytipadidfiffkjaa
open Go.RowKit Go.PostSums Go.PostMem
theorem blocksR_eq (s : List UInt8) (room most : Nat) (on : Bool) (a : Nat) (out : List UInt8) : blocksR s room most on a out =
    if s.length < a + 4 then .error 5 else if leN (s.drop a) 4 = 0 then .ok (a + 4, out) else
    if lo31 (leN (s.drop a) 4) = 0 ∨ room < lo31 (leN (s.drop a) 4) then .error 70 else
    if s.length < a + 4 + lo31 (leN (s.drop a) 4) then .error 5 else
    if sumE s on ((s.drop (a + 4)).take (lo31 (leN (s.drop a) 4))) (a + 4 + lo31 (leN (s.drop a) 4)) ≠ 0 then .error (sumE s on ((s.drop (a + 4)).take (lo31 (leN (s.drop a) 4))) (a + 4 + lo31 (leN (s.drop a) 4))) else
    if (if hi31 (leN (s.drop a) 4) = 1 then ((s.drop (a + 4)).take (lo31 (leN (s.drop a) 4)), 0) else unpackedR room ((s.drop (a + 4)).take (lo31 (leN (s.drop a) 4)))).2 ≠ 0 then .error (if hi31 (leN (s.drop a) 4) = 1 then ((s.drop (a + 4)).take (lo31 (leN (s.drop a) 4)), 0) else unpackedR room ((s.drop (a + 4)).take (lo31 (leN (s.drop a) 4)))).2 else
    if most < out.length + (if hi31 (leN (s.drop a) 4) = 1 then ((s.drop (a + 4)).take (lo31 (leN (s.drop a) 4)), 0) else unpackedR room ((s.drop (a + 4)).take (lo31 (leN (s.drop a) 4)))).1.length then .error 4 else
    blocksR s room most on (after on (a + 4 + lo31 (leN (s.drop a) 4))) (out ++ (if hi31 (leN (s.drop a) 4) = 1 then ((s.drop (a + 4)).take (lo31 (leN (s.drop a) 4)), 0) else unpackedR room ((s.drop (a + 4)).take (lo31 (leN (s.drop a) 4)))).1) := by
  unfold blocksR
  conv => lhs; rw [blocksG]
  rfl
theorem fwrite_any (B b : Nat) (s : ByteArray) (f : FSt) (l : List UInt8) (t : ByteArray) (w : World) (h : Fr w B b s f l) (hlen : l.length + t.size ≤ 140737488355328) (hBw : B ≤ w.heap.size) :
    Calls Try.prog 25 #[.pointer (some ⟨b, 6, none⟩), .string t] w fun e w' => e = .returned (.tuple #[.int .i64 (t.size : Int), .nilIface]) ∧ Fr w' B b s f (l ++ t.data.toList) ∧ Kept b B w w' := by
  obtain ⟨p, v, h0⟩ := h
  refine (WriteString_at B b _ _ 6 l t w h0 (by decide) (show 6 + 1 < 8 by decide) (show liesAt Try.prog Try.prog.depth 40 (8 / Try.prog.cellsOf 40) 6 38 1 = true by kernel_rfl) hlen hBw).mono ?_
  rintro e w' ⟨rfl, ⟨v', h1⟩, hk⟩
  exact ⟨rfl, ⟨_, _, h1⟩, hk⟩
theorem flen_any (B b : Nat) (s : ByteArray) (f : FSt) (l : List UInt8) (w : World) (h : Fr w B b s f l) :
    Calls Try.prog 35 #[.pointer (some ⟨b, 6, none⟩)] w fun e w' => e = .returned (.int .i64 (l.length : Int)) ∧ w' = w := by
  obtain ⟨p, v, h0⟩ := h
  obtain ⟨A, c, hc⟩ := h0.len
  exact Len_at b 6 A l.length c w hc
theorem unpackedR_len (room : Nat) (t : List UInt8) : (unpackedR room t).1.length ≤ 1048576 := by
  unfold unpackedR PostLz.unpack
  simp only
  split
  · simp
  · rename_i h
    cases hu : PostLz.unpackFrom ((min room 1048576 : Nat) : Int).toNat t [] with
    | error c => simp [PostLz.answer]
    | ok u =>
      have := PostLz.unpackFrom_most _ _ t [] u (Nat.le_refl _) hu
      simp only [PostLz.answer]
      omega
theorem Fr.atOf {w : World} {B b : Nat} {s : ByteArray} {f : FSt} {l : List UInt8} (h : Fr w B b s f l) : atOf w b = f.a := by unfold Go.Proofs.Ytipadidfiffkjaa.atOf; rw [h.cells.2.1]; rfl
def onOf (f : FSt) (k : Nat) : Bool := decide (f.flag / k % 2 = 1)
def BlocksPost (B b : Nat) (s : ByteArray) (f : FSt) (l : List UInt8) (w : World) (e : Ending) (w' : World) : Prop :=
  Kept b B w w' ∧ match blocksR s.data.toList f.room f.most (onOf f 16) f.a l with
    | .error c => e = .returned (.int .i64 (c : Int)) ∧ c ≠ 0
    | .ok (a, out) => e = .returned (.int .i64 0) ∧ Fr w' B b s { f with a := a } out ∧ a ≤ s.size ∧ out.length ≤ f.most
set_option maxRecDepth 100000 in
set_option maxHeartbeats 1600000 in
theorem blocks_any (B b : Nat) (s : ByteArray) (f : FSt) (l : List UInt8) (w : World) (h : Fr w B b s f l) (hs : s.size ≤ 140737488351232) (ha : f.a ≤ s.size) (hf : f.flag < 256) (hr : f.room ≤ 4194304) (hm : f.most ≤ 1048576) (hl : l.length ≤ f.most) (hBw : B ≤ w.heap.size) :
    Calls Try.prog 19 #[.pointer (some ⟨b, 0, none⟩)] w (BlocksPost B b s f l w) := by
  obtain ⟨on, hon⟩ : ∃ on, on = onOf f 16 := ⟨_, rfl⟩
  have hm16 : (Go.bits .and .u8 (f.flag : Int) 16 == 0) = !on := by
    rw [u8and16 f.flag hf, hon, onOf]
    rcases (show f.flag / 16 % 2 = 0 ∨ f.flag / 16 % 2 = 1 by omega) with e | e <;> rw [e] <;> rfl
  have HON := Lib.hid hon
  clear hon
  have H0 := Lib.hid h; clear h
  go_enter Try.func19, Try.ntmps19
  go_wp2_with fail
  go_loopw [3] (fun _ wr => ∃ (a : Nat) (out : List UInt8), Hid (a ≤ s.size ∧ Fr wr B b s { f with a := a } out ∧ out.length ≤ f.most ∧ Kept b B w wr ∧ blocksR s.data.toList f.room f.most on a out = blocksR s.data.toList f.room f.most on f.a l)) (fun _ wr => s.size - atOf wr b)
  case atStart => exact ⟨f.a, l, Lib.hid ⟨ha, H0.out, hl, Kept.refl _ _ _, rfl⟩⟩
  case round =>
    obtain ⟨a, out, HI⟩ := hrel
    obtain ⟨hak, hF, ho, hK, hE⟩ := HI.out
    rw [blocksR_eq, list_size] at hE
    have HF := Lib.hid hF
    have HK := Lib.hid hK
    clear HI hF hK
    by_cases c1 : s.size < a + 4
    · rw [if_pos c1] at hE
      have HE := Lib.hid hE.symm; clear hE
      go_wp2_with (go_at_call 32; (with_reducible refine (number_any B b s _ out _ HF.out hs hak).mono ?_); rintro e w1 ⟨hk, hp⟩; rw [if_pos c1] at hp; obtain ⟨rfl, hF1⟩ := hp)
      go_ret
      exact ⟨HK.out.trans hk, by rw [← HON.out, HE.out]; exact ⟨rfl, by decide⟩⟩
    · rw [if_neg c1] at hE
      have hx32 : leN (s.data.toList.drop a) 4 < 4294967296 := leN_lt _ 4
      generalize hx : leN (s.data.toList.drop a) 4 = x at hE hx32
      by_cases c2 : x = 0
      · rw [if_pos c2] at hE
        have HE := Lib.hid hE.symm; clear hE
        subst c2
        go_wp2_with (go_at_call 32; (with_reducible refine (number_any B b s _ out _ HF.out hs hak).mono ?_); rintro e w1 ⟨hk, hp⟩; rw [if_neg c1, hx] at hp; obtain ⟨rfl, hF1⟩ := hp)
        go_ret
        exact ⟨HK.out.trans hk, by rw [← HON.out, HE.out]; exact ⟨rfl, hF1, by omega, ho⟩⟩
      · rw [if_neg c2] at hE
        have hhi := hiBit x hx32
        have hlo := loBits x hx32
        have c2' : ¬ (x : Int) = 0 := by omega
        obtain ⟨n, hn⟩ : ∃ n, n = lo31 x := ⟨_, rfl⟩
        rw [← hn] at hE
        have hn' : x % 2147483648 = n := by rw [hn]; rfl
        rw [hn'] at hlo
        have hn31 : n < 2147483648 := by omega
        clear hn hn'
        by_cases c3 : n = 0 ∨ f.room < n
        · rw [if_pos c3] at hE
          have HE := Lib.hid hE.symm; clear hE
          by_cases c4 : n = 0
          · subst c4
            go_wp2_with (first
              | (go_at_call 32; (with_reducible refine (number_any B b s _ out _ HF.out hs hak).mono ?_); rintro e w1 ⟨hk, hp⟩; rw [if_neg c1, hx] at hp; obtain ⟨rfl, hF1⟩ := hp; have d4 := hF1.cells.2.2.2.2.1))
            all_goals (go_ret; exact ⟨HK.out.trans hk, by rw [← HON.out, HE.out]; exact ⟨rfl, by decide⟩⟩)
          · have c4' : ¬ (n : Int) = 0 := by omega
            have c5 : (f.room : Int) < (n : Int) := by omega
            go_wp2_with (first
              | (go_at_call 32; (with_reducible refine (number_any B b s _ out _ HF.out hs hak).mono ?_); rintro e w1 ⟨hk, hp⟩; rw [if_neg c1, hx] at hp; obtain ⟨rfl, hF1⟩ := hp; have d4 := hF1.cells.2.2.2.2.1))
            all_goals (go_ret; exact ⟨HK.out.trans hk, by rw [← HON.out, HE.out]; exact ⟨rfl, by decide⟩⟩)
        · rw [if_neg c3] at hE
          have c4' : ¬ (n : Int) = 0 := by omega
          have c5 : n ≤ f.room := by omega
          have e0 : ((n : Int) == 0) = false := beq_eq_false_iff_ne.2 c4'
          by_cases c6 : s.size < a + 4 + n
          · rw [if_pos c6] at hE
            have HE := Lib.hid hE.symm; clear hE
            go_wp2_with (first
              | (go_at_call 32; (with_reducible refine (number_any B b s _ out _ HF.out hs hak).mono ?_); rintro e w1 ⟨hk, hp⟩; rw [if_neg c1, hx] at hp; obtain ⟨rfl, hF1⟩ := hp; have d4 := hF1.cells.2.2.2.2.1)
              | (go_at_call 29; (with_reducible refine (take_any B b s _ out n _ hF1 hs (by show a + 4 ≤ s.size; omega) (by omega)).mono ?_); rintro e w2 ⟨hk2, hp⟩; rw [if_pos c6] at hp; obtain ⟨rfl, hF2⟩ := hp))
            all_goals (go_ret; exact ⟨(HK.out.trans hk).trans hk2, by rw [← HON.out, HE.out]; exact ⟨rfl, by decide⟩⟩)
          · rw [if_neg c6] at hE
            generalize hT : (s.data.toList.drop (a + 4)).take n = T at hE
            have hTn : T.length = n := by rw [← hT]; simp; omega
            obtain ⟨t, ht⟩ : ∃ t, t = strOf T := ⟨_, rfl⟩
            have HT : Hid (strOf ((s.data.toList.drop (a + 4)).take n) = t) := Lib.hid (by rw [hT, ht])
            have HTL : Hid (t.data.toList = T) := Lib.hid (by rw [ht, strOf_list])
            have htn : t.size = n := by rw [ht, strOf_size, hTn]
            have hts : t.size ≤ 140737488351232 := by omega
            clear hT ht
            obtain ⟨E, hEs⟩ : ∃ E, E = sumE s.data.toList on T (a + 4 + n) := ⟨_, rfl⟩
            rw [← hEs] at hE
            have HSE := Lib.hid hEs.symm
            clear hEs
            by_cases c7 : E = 0
            · rw [if_neg (by simpa using c7)] at hE
              subst c7
              obtain ⟨a2, ha2⟩ : ∃ a2, a2 = after on (a + 4 + n) := ⟨_, rfl⟩
              have ha3 : a + 4 + n ≤ a2 := by rw [ha2]; exact after_le _ _
              have ha4 : a2 ≤ s.size := by
                have := HSE.out
                rw [ha2]
                unfold sumE at this
                unfold after
                rw [list_size] at this
                cases on
                · simp; omega
                · simp only [if_true] at this ⊢
                  split at this
                  · cases this
                  · omega
              rw [← ha2] at hE
              have HA2 := Lib.hid ha2; clear ha2
              by_cases c8 : hi31 x = 1
              · simp only [if_pos c8] at hE
                rw [if_neg (by simp)] at hE
                have hb1 : (Go.bits .and .i64 (x : Int) 2147483648 != 0) = true := by rw [hhi]; unfold hi31 at c8; rw [c8]; rfl
                clear hhi
                by_cases c9 : f.most < out.length + T.length
                · rw [if_pos c9] at hE
                  have HE := Lib.hid hE.symm; clear hE
                  have c9' : (f.most : Int) < (out.length : Int) + (t.size : Int) := by omega
                  go_wp2_with (first
                    | (go_at_call 32; (with_reducible refine (number_any B b s _ out _ HF.out hs hak).mono ?_); rintro e w1 ⟨hk, hp⟩; rw [if_neg c1, hx] at hp; obtain ⟨rfl, hF1⟩ := hp; have d4 := hF1.cells.2.2.2.2.1)
                    | (go_at_call 29; (with_reducible refine (take_any B b s _ out n _ hF1 hs (by show a + 4 ≤ s.size; omega) (by omega)).mono ?_); rintro e w2 ⟨hk2, hp⟩; rw [if_neg c6, HT.out] at hp; obtain ⟨rfl, hF2⟩ := hp)
                    | (go_at_call 33; (with_reducible refine (summed_any B b s ⟨a + 4 + n, f.most, f.flag, f.room, f.size⟩ out 16 on t _ hm16 hF2 hs (by show a + 4 + n ≤ s.size; omega) hts (Nat.le_trans hBw (Nat.le_trans HK.out.size (Nat.le_trans hk.size hk2.size)))).mono ?_); rintro e w3 ⟨hk3, hp⟩; rw [summed_sumE, HTL.out, HSE.out, if_pos rfl] at hp; obtain ⟨rfl, hF3⟩ := hp; have d2 := hF3.cells.2.2.1))
                  go_quiet (first | (go_at_call 35; exact Calls.quiet_of_same (flen_any B b s _ out _ (hF3.drewN _))))
                  go_wp2_with fail
                  go_ret
                  exact ⟨(((HK.out.trans hk).trans hk2).trans hk3).trans (kept_drewN _ _ _ _), by rw [← HON.out, HE.out]; exact ⟨rfl, by decide⟩⟩
                · rw [if_neg c9] at hE
                  have HE := Lib.hid hE; clear hE
                  have c9' : (out.length : Int) + (t.size : Int) ≤ (f.most : Int) := by omega
                  go_wp2_with (first
                    | (go_at_call 32; (with_reducible refine (number_any B b s _ out _ HF.out hs hak).mono ?_); rintro e w1 ⟨hk, hp⟩; rw [if_neg c1, hx] at hp; obtain ⟨rfl, hF1⟩ := hp; have d4 := hF1.cells.2.2.2.2.1)
                    | (go_at_call 29; (with_reducible refine (take_any B b s _ out n _ hF1 hs (by show a + 4 ≤ s.size; omega) (by omega)).mono ?_); rintro e w2 ⟨hk2, hp⟩; rw [if_neg c6, HT.out] at hp; obtain ⟨rfl, hF2⟩ := hp)
                    | (go_at_call 33; (with_reducible refine (summed_any B b s ⟨a + 4 + n, f.most, f.flag, f.room, f.size⟩ out 16 on t _ hm16 hF2 hs (by show a + 4 + n ≤ s.size; omega) hts (Nat.le_trans hBw (Nat.le_trans HK.out.size (Nat.le_trans hk.size hk2.size)))).mono ?_); rintro e w3 ⟨hk3, hp⟩; rw [summed_sumE, HTL.out, HSE.out, if_pos rfl] at hp; obtain ⟨rfl, hF3⟩ := hp; have d2 := hF3.cells.2.2.1))
                  go_quiet (first | (go_at_call 35; exact Calls.quiet_of_same (flen_any B b s _ out _ (hF3.drewN _))))
                  rename_i nq
                  have hb4 : B ≤ (w3.drewN nq).heap.size := Nat.le_trans hBw (Nat.le_trans HK.out.size (Nat.le_trans hk.size (Nat.le_trans hk2.size hk3.size)))
                  go_wp2_with (go_at_call 25; (with_reducible refine (fwrite_any B b s _ out t _ (hF3.drewN _) (by omega) hb4).mono ?_); rintro e w4 ⟨rfl, hF4, hk4⟩)
                  have HF4 := Lib.hid hF4
                  have HK4 := Lib.hid ((((HK.out.trans hk).trans hk2).trans hk3).trans ((kept_drewN w3 b B nq).trans hk4))
                  clear hF4 hk4 hk3 hk2 hk hF3 hF2 hF1
                  go_roundw
                  case rel => exact ⟨a2, out ++ T, Lib.hid ⟨ha4, by have := HF4.out; rw [HTL.out, ← HA2.out] at this; exact this, by rw [List.length_append]; omega, HK4.out, HE.out⟩⟩
                  case measure => rw [HF4.out.atOf, HF.out.atOf]; show s.size - after on (a + 4 + n) < s.size - a; rw [← HA2.out]; omega
              · simp only [if_neg c8] at hE
                have hb1 : (Go.bits .and .i64 (x : Int) 2147483648 != 0) = false := by
                  have : hi31 x = 0 := by unfold hi31 at c8 ⊢; omega
                  unfold hi31 at this
                  rw [hhi, this]; rfl
                clear hhi
                have hul := unpackedR_len f.room T
                obtain ⟨rU, hrU⟩ : ∃ r, r = unpackedR f.room T := ⟨_, rfl⟩
                rw [← hrU] at hE hul
                obtain ⟨U, c⟩ := rU
                have HU := Lib.hid hrU.symm; clear hrU
                simp only at hE hul
                by_cases c10 : c = 0
                · rw [if_neg (by simpa using c10)] at hE
                  subst c10
                  obtain ⟨u, hu⟩ : ∃ u, u = strOf U := ⟨_, rfl⟩
                  have HUL : Hid (u.data.toList = U) := Lib.hid (by rw [hu, strOf_list])
                  have hun : u.size = U.length := by rw [hu, strOf_size]
                  have HUU := Lib.hid hu.symm; clear hu
                  by_cases c9 : f.most < out.length + U.length
                  · rw [if_pos c9] at hE
                    have HE := Lib.hid hE.symm; clear hE
                    have c9' : (f.most : Int) < (out.length : Int) + (u.size : Int) := by omega
                    go_wp2_with (first
                      | (go_at_call 32; (with_reducible refine (number_any B b s _ out _ HF.out hs hak).mono ?_); rintro e w1 ⟨hk, hp⟩; rw [if_neg c1, hx] at hp; obtain ⟨rfl, hF1⟩ := hp; have d4 := hF1.cells.2.2.2.2.1)
                      | (go_at_call 29; (with_reducible refine (take_any B b s _ out n _ hF1 hs (by show a + 4 ≤ s.size; omega) (by omega)).mono ?_); rintro e w2 ⟨hk2, hp⟩; rw [if_neg c6, HT.out] at hp; obtain ⟨rfl, hF2⟩ := hp)
                      | (go_at_call 33; (with_reducible refine (summed_any B b s ⟨a + 4 + n, f.most, f.flag, f.room, f.size⟩ out 16 on t _ hm16 hF2 hs (by show a + 4 + n ≤ s.size; omega) hts (Nat.le_trans hBw (Nat.le_trans HK.out.size (Nat.le_trans hk.size hk2.size)))).mono ?_); rintro e w3 ⟨hk3, hp⟩; rw [summed_sumE, HTL.out, HSE.out, if_pos rfl] at hp; obtain ⟨rfl, hF3⟩ := hp; have hb4 : B ≤ w3.heap.size := (Nat.le_trans hBw (Nat.le_trans HK.out.size (Nat.le_trans hk.size (Nat.le_trans hk2.size hk3.size)))))
                      | (go_at_call 34; (with_reducible refine (unpacked_any B b s _ out t _ hF3 hts).mono ?_); rintro e w5 ⟨hp, hb5⟩; rw [HTL.out] at hp; simp only [HU.out] at hp; rw [HUU.out] at hp; subst hp; have hF5 := hF3.other hb5; have hk5 := Kept.of_below (b := b) hb5 hb4; have d2 := hF5.cells.2.2.1))
                    go_quiet (first | (go_at_call 35; exact Calls.quiet_of_same (flen_any B b s _ out _ (hF5.drewN _))))
                    go_wp2_with fail
                    go_ret
                    exact ⟨((((HK.out.trans hk).trans hk2).trans hk3).trans hk5).trans (kept_drewN _ _ _ _), by rw [← HON.out, HE.out]; exact ⟨rfl, by decide⟩⟩
                  · rw [if_neg c9] at hE
                    have HE := Lib.hid hE; clear hE
                    have c9' : (out.length : Int) + (u.size : Int) ≤ (f.most : Int) := by omega
                    go_wp2_with (first
                      | (go_at_call 32; (with_reducible refine (number_any B b s _ out _ HF.out hs hak).mono ?_); rintro e w1 ⟨hk, hp⟩; rw [if_neg c1, hx] at hp; obtain ⟨rfl, hF1⟩ := hp; have d4 := hF1.cells.2.2.2.2.1)
                      | (go_at_call 29; (with_reducible refine (take_any B b s _ out n _ hF1 hs (by show a + 4 ≤ s.size; omega) (by omega)).mono ?_); rintro e w2 ⟨hk2, hp⟩; rw [if_neg c6, HT.out] at hp; obtain ⟨rfl, hF2⟩ := hp)
                      | (go_at_call 33; (with_reducible refine (summed_any B b s ⟨a + 4 + n, f.most, f.flag, f.room, f.size⟩ out 16 on t _ hm16 hF2 hs (by show a + 4 + n ≤ s.size; omega) hts (Nat.le_trans hBw (Nat.le_trans HK.out.size (Nat.le_trans hk.size hk2.size)))).mono ?_); rintro e w3 ⟨hk3, hp⟩; rw [summed_sumE, HTL.out, HSE.out, if_pos rfl] at hp; obtain ⟨rfl, hF3⟩ := hp; have hb4 : B ≤ w3.heap.size := (Nat.le_trans hBw (Nat.le_trans HK.out.size (Nat.le_trans hk.size (Nat.le_trans hk2.size hk3.size)))))
                      | (go_at_call 34; (with_reducible refine (unpacked_any B b s _ out t _ hF3 hts).mono ?_); rintro e w5 ⟨hp, hb5⟩; rw [HTL.out] at hp; simp only [HU.out] at hp; rw [HUU.out] at hp; subst hp; have hF5 := hF3.other hb5; have hk5 := Kept.of_below (b := b) hb5 hb4; have d2 := hF5.cells.2.2.1))
                    go_quiet (first | (go_at_call 35; exact Calls.quiet_of_same (flen_any B b s _ out _ (hF5.drewN _))))
                    have hb6 : B ≤ (w5.drewN nq).heap.size := Nat.le_trans hb4 hk5.size
                    go_wp2_with (go_at_call 25; (with_reducible refine (fwrite_any B b s _ out u _ (hF5.drewN _) (by omega) hb6).mono ?_); rintro e w4 ⟨rfl, hF4, hk4⟩)
                    have HF4 := Lib.hid hF4
                    have HK4 := Lib.hid (((((HK.out.trans hk).trans hk2).trans hk3).trans hk5).trans ((kept_drewN w5 b B nq).trans hk4))
                    clear hF4 hk4 hk3 hk2 hk hF3 hF2 hF1 hF5 hk5
                    go_roundw
                    case rel => exact ⟨a2, out ++ U, Lib.hid ⟨ha4, by have := HF4.out; rw [HUL.out, ← HA2.out] at this; exact this, by rw [List.length_append]; omega, HK4.out, HE.out⟩⟩
                    case measure => rw [HF4.out.atOf, HF.out.atOf]; show s.size - after on (a + 4 + n) < s.size - a; rw [← HA2.out]; omega
                · rw [if_pos c10] at hE
                  have HE := Lib.hid hE.symm; clear hE
                  have c10' : ((c : Int) != 0) = true := bne_iff_ne.2 (by omega)
                  go_wp2_with (first
                    | (go_at_call 32; (with_reducible refine (number_any B b s _ out _ HF.out hs hak).mono ?_); rintro e w1 ⟨hk, hp⟩; rw [if_neg c1, hx] at hp; obtain ⟨rfl, hF1⟩ := hp; have d4 := hF1.cells.2.2.2.2.1)
                    | (go_at_call 29; (with_reducible refine (take_any B b s _ out n _ hF1 hs (by show a + 4 ≤ s.size; omega) (by omega)).mono ?_); rintro e w2 ⟨hk2, hp⟩; rw [if_neg c6, HT.out] at hp; obtain ⟨rfl, hF2⟩ := hp)
                    | (go_at_call 33; (with_reducible refine (summed_any B b s ⟨a + 4 + n, f.most, f.flag, f.room, f.size⟩ out 16 on t _ hm16 hF2 hs (by show a + 4 + n ≤ s.size; omega) hts (Nat.le_trans hBw (Nat.le_trans HK.out.size (Nat.le_trans hk.size hk2.size)))).mono ?_); rintro e w3 ⟨hk3, hp⟩; rw [summed_sumE, HTL.out, HSE.out, if_pos rfl] at hp; obtain ⟨rfl, hF3⟩ := hp; have hb4 : B ≤ w3.heap.size := (Nat.le_trans hBw (Nat.le_trans HK.out.size (Nat.le_trans hk.size (Nat.le_trans hk2.size hk3.size)))))
                    | (go_at_call 34; (with_reducible refine (unpacked_any B b s _ out t _ hF3 hts).mono ?_); rintro e w5 ⟨hp, hb5⟩; rw [HTL.out] at hp; simp only [HU.out] at hp; subst hp; have hk5 := Kept.of_below (b := b) hb5 hb4))
                  all_goals (go_ret; exact ⟨(((HK.out.trans hk).trans hk2).trans hk3).trans hk5, by rw [← HON.out, HE.out]; exact ⟨rfl, c10⟩⟩)
            · rw [if_pos c7] at hE
              have HE := Lib.hid hE.symm; clear hE
              have c7' : ((E : Int) == 0) = false := beq_eq_false_iff_ne.2 (by omega)
              go_wp2_with (first
                | (go_at_call 32; (with_reducible refine (number_any B b s _ out _ HF.out hs hak).mono ?_); rintro e w1 ⟨hk, hp⟩; rw [if_neg c1, hx] at hp; obtain ⟨rfl, hF1⟩ := hp; have d4 := hF1.cells.2.2.2.2.1)
                | (go_at_call 29; (with_reducible refine (take_any B b s _ out n _ hF1 hs (by show a + 4 ≤ s.size; omega) (by omega)).mono ?_); rintro e w2 ⟨hk2, hp⟩; rw [if_neg c6, HT.out] at hp; obtain ⟨rfl, hF2⟩ := hp)
                | (go_at_call 33; (with_reducible refine (summed_any B b s ⟨a + 4 + n, f.most, f.flag, f.room, f.size⟩ out 16 on t _ hm16 hF2 hs (by show a + 4 + n ≤ s.size; omega) hts (Nat.le_trans hBw (Nat.le_trans HK.out.size (Nat.le_trans hk.size hk2.size)))).mono ?_); rintro e w3 ⟨hk3, hp⟩; rw [summed_sumE, HTL.out, HSE.out, if_neg c7] at hp; subst hp))
              all_goals (go_ret; exact ⟨((HK.out.trans hk).trans hk2).trans hk3, by rw [← HON.out, HE.out]; exact ⟨rfl, c7⟩⟩)
end Go.Proofs.Ytipadidfiffkjaa
