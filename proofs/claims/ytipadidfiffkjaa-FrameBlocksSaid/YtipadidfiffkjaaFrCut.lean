/- The plain laws: a frame that lacks bytes is too short; a frame in which one byte is another one is refused. -/
import Derived.Test.YtipadidfiffkjaaFrLaw
namespace Go.Proofs.Ytipadidfiffkjaa
open Go.RowKit Go.PostSums Go.PostMem
theorem parts_one (l : List UInt8) (h0 : l ≠ []) (h : l.length ≤ 65536) : partsB l = blockB l := by
  rw [partsB_cons l h0, List.take_of_length_le h, List.drop_of_length_le h, partsB_nil, List.append_nil]
theorem take_left_more (A B : List UInt8) (j : Nat) (h : A.length ≤ j) : (A ++ B).take j = A ++ B.take (j - A.length) := by
  rw [List.take_append, List.take_of_length_le h]
theorem set_left_more (A B : List UInt8) (j : Nat) (v : UInt8) (h : A.length ≤ j) : (A ++ B).set j v = A ++ B.set (j - A.length) v := by
  rw [List.set_append, if_neg (by omega)]
theorem blocks_short (S : List UInt8) (most a room : Nat) (on : Bool) (out : List UInt8) (h : S.length < a + 4) : blocksR S room most on a out = .error 5 := by
  rw [blocksR_eq, if_pos h]
theorem end_cut (S : List UInt8) (most a hh j : Nat) (out : List UInt8) (f : FSt) (hj : j < 8) (hd : S.drop a = (le4 0 ++ le4 hh).take j) (hS : S.length = a + j) (h8 : onOf f 8 = false) (h4 : onOf f 4 = true) :
    restR S f (blocksR S 65536 most true a out) = .error 5 := by
  by_cases h : j < 4
  · rw [blocks_short S most a 65536 true out (by omega)]; rfl
  · rw [take_left_more _ _ _ (by rw [le4_length]; omega), le4_length] at hd
    rw [block_end S most a true 65536 out _ hd, restR_ok, h8, h4, if_neg (by simp)]
    have e : sumE S true out (a + 4) = 5 := by
      unfold sumE
      rw [if_pos rfl, if_pos (by omega)]
    rw [e, if_neg (by decide)]
theorem on_stF (most : Nat) : onOf (stF most) 16 = true ∧ onOf (stF most) 8 = false ∧ onOf (stF most) 4 = true := by simp [onOf, stF]
theorem head_cut (k most : Nat) (h : k < 7) : headR (frHead.take k) most = .error 5 := by
  rcases (show k = 0 ∨ k = 1 ∨ k = 2 ∨ k = 3 ∨ k = 4 ∨ k = 5 ∨ k = 6 by omega) with rfl | rfl | rfl | rfl | rfl | rfl | rfl <;> rfl
theorem frPack_split (l : List UInt8) : frPack l = frHead ++ (partsB l ++ (le4 0 ++ le4 (hashN 0 l))) := by
  unfold frPack
  simp only [List.append_assoc]
theorem frHead_len : frHead.length = 7 := rfl
theorem frameR_of (D : List UInt8) (most : Nat) : frameR (frHead ++ D) most = restR (frHead ++ D) (stF most) (blocksR (frHead ++ D) 65536 most true 7 []) := by
  rw [frameR_head, head_frame D most]
  simp only
  rw [(on_stF most).1]
  rfl
theorem frame_cut (l : List UInt8) (h : l.length ≤ 65536) (k most : Nat) (hk : k < (frPack l).length) (hm : l.length ≤ most) : frameR ((frPack l).take k) most = .error 5 := by
  have hfl := frPack_len l
  by_cases h7 : k < 7
  · have e : (frPack l).take k = frHead.take k := by
      rw [frPack_split, List.take_append_of_le_length (by rw [frHead_len]; omega)]
    rw [frameR_head, e, head_cut k most h7]
  · have e : (frPack l).take k = frHead ++ (partsB l ++ (le4 0 ++ le4 (hashN 0 l))).take (k - 7) := by
      rw [frPack_split, take_left_more _ _ _ (by rw [frHead_len]; omega), frHead_len]
    rw [e, frameR_of]
    obtain ⟨-, o8, o4⟩ := on_stF most
    by_cases h0 : l = []
    · subst h0
      rw [partsB_nil] at hfl ⊢
      rw [List.nil_append]
      have hj : k - 7 < 8 := by simp at hfl; omega
      refine end_cut _ most 7 (hashN 0 []) (k - 7) [] (stF most) hj rfl ?_ o8 o4
      rw [List.length_append, frHead_len, List.length_take]
      have : (le4 0 ++ le4 (hashN 0 [])).length = 8 := rfl
      omega
    · have hp := parts_one l h0 h
      obtain ⟨N, x, hb, hN, hN0, hlo, hx0, hxl, hans⟩ := block_is l h0 h
      have hx64 : x.length ≤ 65536 := Nat.le_trans hxl h
      rw [hp, hb] at hfl ⊢
      simp only [List.length_append, le4_length] at hfl
      generalize hj : k - 7 = j
      have hj2 : j < 4 + x.length + 4 + 8 := by omega
      generalize hD : (le4 N ++ x ++ le4 (hashN 0 x) ++ (le4 0 ++ le4 (hashN 0 l))).take j = D
      have hDl : D.length = j := by
        rw [← hD, List.length_take]
        simp only [List.length_append, le4_length]
        omega
      have hSl : (frHead ++ D).length = 7 + j := by rw [List.length_append, frHead_len, hDl]
      have hd : (frHead ++ D).drop 7 = D := rfl
      by_cases j4 : j < 4
      · rw [blocks_short _ most 7 65536 true [] (by omega)]; rfl
      · have hD1 : D = le4 N ++ (x ++ (le4 (hashN 0 x) ++ (le4 0 ++ le4 (hashN 0 l)))).take (j - 4) := by
          rw [← hD]
          simp only [List.append_assoc]
          rw [take_left_more _ _ _ (by rw [le4_length]; omega), le4_length]
        by_cases j5 : j < 8 + x.length
        · have en : leN ((frHead ++ D).drop 7) 4 = N := by rw [hd, hD1]; exact le4_leN N hN _
          have e5 : blocksR (frHead ++ D) 65536 most true 7 [] = .error 5 := by
            rw [blocksR_eq, if_neg (by omega), en, if_neg hN0, hlo, if_neg (by omega)]
            by_cases j6 : j < 4 + x.length
            · rw [if_pos (by omega)]
            · have es : sumE (frHead ++ D) true (((frHead ++ D).drop (7 + 4)).take x.length) (7 + 4 + x.length) = 5 := by
                unfold sumE
                rw [if_pos rfl, if_pos (by omega)]
              rw [if_neg (by omega), es, if_pos (by decide)]
          rw [e5]; rfl
        · have hD2 : D = le4 N ++ (x ++ (le4 (hashN 0 x) ++ (le4 0 ++ le4 (hashN 0 l)).take (j - 4 - x.length - 4))) := by
            rw [hD1, take_left_more _ _ _ (by omega), take_left_more _ _ _ (by rw [le4_length]; omega), le4_length]
          obtain ⟨s1, s2⟩ := blocks_step (frHead ++ D) most 7 N [] x _ l (by rw [hd]; exact hD2) hN hN0 hlo hx0 hx64 hans (by simpa using hm)
          rw [s1]
          exact end_cut _ most _ (hashN 0 l) (j - 4 - x.length - 4) _ (stF most) (by omega) s2 (by omega) o8 o4
theorem le4_set (n j : Nat) (v : UInt8) (r : List UInt8) (hn : n < 4294967296) (hj : j < 4) (hv : v.toNat ≠ n / 256 ^ j % 256) : leN ((le4 n).set j v ++ r) 4 ≠ n := by
  have hv' := v.toNat_lt
  rcases (show j = 0 ∨ j = 1 ∨ j = 2 ∨ j = 3 by omega) with rfl | rfl | rfl | rfl
  all_goals
    simp only [Nat.reducePow, Nat.pow_zero, Nat.div_one] at hv
    simp only [leN, at8, le4, List.set_cons_zero, List.set_cons_succ, List.cons_append, List.getD_eq_getElem?_getD, List.getElem?_cons_zero, List.getElem?_cons_succ, Option.getD_some, byteAt, UInt8.toNat_ofNat', Nat.reducePow, Nat.pow_zero, Nat.div_one]
    omega
theorem le4_get (n j : Nat) (hj : j < 4) : ((le4 n).getD j 0).toNat = n / 256 ^ j % 256 := by
  rcases (show j = 0 ∨ j = 1 ∨ j = 2 ∨ j = 3 by omega) with rfl | rfl | rfl | rfl
  all_goals
    simp [le4, byteAt]
theorem getD_left (A B : List UInt8) (j : Nat) (h : j < A.length) : (A ++ B).getD j 0 = A.getD j 0 := by
  rw [List.getD_eq_getElem?_getD, List.getD_eq_getElem?_getD, List.getElem?_append_left h]
theorem getD_right (A B : List UInt8) (j : Nat) (h : A.length ≤ j) : (A ++ B).getD j 0 = B.getD (j - A.length) 0 := by
  rw [List.getD_eq_getElem?_getD, List.getD_eq_getElem?_getD, List.getElem?_append_right h]
theorem end_tell (S : List UInt8) (most a j : Nat) (v : UInt8) (out : List UInt8) (f : FSt) (hj : j < 8) (hd : S.drop a = (le4 0 ++ le4 (hashN 0 out)).set j v) (hv : v ≠ (le4 0 ++ le4 (hashN 0 out)).getD j 0) (hS : S.length = a + 8) (h8 : onOf f 8 = false) (h4 : onOf f 4 = true) :
    ∃ c, c ≠ 0 ∧ restR S f (blocksR S 65536 most true a out) = .error c := by
  by_cases h : j < 4
  · have hd2 : S.drop a = (le4 0).set j v ++ le4 (hashN 0 out) := by
      rw [hd, List.set_append, if_pos (by rw [le4_length]; exact h)]
    have hv2 : v.toNat ≠ 0 / 256 ^ j % 256 := by
      intro e
      apply hv
      rw [getD_left _ _ _ (by rw [le4_length]; exact h)]
      rw [← UInt8.toNat_inj, e, le4_get 0 j h]
    have hx := le4_set 0 j v (le4 (hashN 0 out)) (by decide) h hv2
    rw [← hd2] at hx
    rw [blocksR_eq, if_neg (by omega), if_neg hx]
    generalize lo31 (leN (S.drop a) 4) = n
    by_cases c3 : n = 0 ∨ 65536 < n
    · rw [if_pos c3]; exact ⟨70, by decide, rfl⟩
    · rw [if_neg c3]
      by_cases c6 : S.length < a + 4 + n
      · rw [if_pos c6]; exact ⟨5, by decide, rfl⟩
      · have es : sumE S true ((S.drop (a + 4)).take n) (a + 4 + n) = 5 := by
          unfold sumE
          rw [if_pos rfl, if_pos (by omega)]
        rw [if_neg c6, es, if_pos (by decide)]
        exact ⟨5, by decide, rfl⟩
  · have hd2 : S.drop a = le4 0 ++ (le4 (hashN 0 out)).set (j - 4) v := by
      rw [hd, set_left_more _ _ _ _ (by rw [le4_length]; omega), le4_length]
    have d4 : S.drop (a + 4) = (le4 (hashN 0 out)).set (j - 4) v ++ [] := by rw [List.append_nil]; exact drop_more hd2 4 rfl
    have hv2 : v.toNat ≠ hashN 0 out / 256 ^ (j - 4) % 256 := by
      intro e
      apply hv
      rw [getD_right _ _ _ (by rw [le4_length]; omega), le4_length]
      rw [← UInt8.toNat_inj, e, le4_get _ (j - 4) (by omega)]
    have hx := le4_set (hashN 0 out) (j - 4) v [] (hashN_lt 0 out) (by omega) hv2
    rw [← d4] at hx
    rw [block_end S most a true 65536 out _ hd2, restR_ok, h8, h4, if_neg (by simp)]
    have es : sumE S true out (a + 4) = 71 := by
      unfold sumE
      rw [if_pos rfl, if_neg (by omega), if_neg hx]
    rw [es, if_neg (by decide)]
    exact ⟨71, by decide, rfl⟩
theorem set_unlike (x : List UInt8) (i : Nat) (v : UInt8) (hi : i < x.length) (hv : v ≠ x.getD i 0) : Unlike x (x.set i v) i := by
  refine ⟨by simp, hi, ?_, ?_⟩
  · intro e
    apply hv
    unfold at8 at e
    rw [← UInt8.toNat_inj, e, List.getD_eq_getElem?_getD, List.getElem?_set_self hi]
    rfl
  · intro j hj
    unfold at8
    rw [List.getD_eq_getElem?_getD, List.getD_eq_getElem?_getD, List.getElem?_set_ne (Ne.symm hj)]
theorem frame_tell (l : List UInt8) (h : l.length ≤ 65536) (k most : Nat) (v : UInt8) (hk : k < (frPack l).length) (hm : l.length ≤ most) (h7 : 7 ≤ k) (h11 : l ≠ [] → 11 ≤ k) (hv : v ≠ (frPack l).getD k 0) :
    ∃ c, c ≠ 0 ∧ frameR ((frPack l).set k v) most = .error c := by
  have hfl := frPack_len l
  have e : (frPack l).set k v = frHead ++ (partsB l ++ (le4 0 ++ le4 (hashN 0 l))).set (k - 7) v := by
    rw [frPack_split, set_left_more _ _ _ _ (by rw [frHead_len]; exact h7), frHead_len]
  rw [frPack_split, getD_right _ _ _ (by rw [frHead_len]; exact h7), frHead_len] at hv
  rw [e, frameR_of]
  obtain ⟨-, o8, o4⟩ := on_stF most
  by_cases h0 : l = []
  · subst h0
    rw [partsB_nil] at hfl hv ⊢
    rw [List.nil_append] at hv ⊢
    refine end_tell _ most 7 (k - 7) v [] (stF most) (by simp at hfl; omega) rfl hv ?_ o8 o4
    rw [List.length_append, frHead_len, List.length_set]
    rfl
  · have hp := parts_one l h0 h
    have hk11 := h11 h0
    obtain ⟨N, x, hb, hN, hN0, hlo, hx0, hxl, hans⟩ := block_is l h0 h
    have hx64 : x.length ≤ 65536 := Nat.le_trans hxl h
    rw [hp, hb] at hfl hv ⊢
    simp only [List.length_append, le4_length] at hfl
    generalize hj : k - 7 = j at hv ⊢
    have hj2 : j < 4 + x.length + 4 + 8 := by omega
    have hj4 : 4 ≤ j := by omega
    simp only [List.append_assoc] at hv ⊢
    generalize hD : (le4 N ++ (x ++ (le4 (hashN 0 x) ++ (le4 0 ++ le4 (hashN 0 l))))).set j v = D
    have hDl : D.length = 4 + x.length + 4 + 8 := by
      rw [← hD, List.length_set]
      simp only [List.length_append, le4_length]
      omega
    have hSl : (frHead ++ D).length = 7 + (4 + x.length + 4 + 8) := by rw [List.length_append, frHead_len, hDl]
    have hd : (frHead ++ D).drop 7 = D := rfl
    rw [set_left_more _ _ _ _ (by rw [le4_length]; exact hj4), le4_length] at hD
    rw [getD_right _ _ _ (by rw [le4_length]; exact hj4), le4_length] at hv
    have en : leN ((frHead ++ D).drop 7) 4 = N := by rw [hd, ← hD]; exact le4_leN N hN _
    have d11 : (frHead ++ D).drop (7 + 4) = (x ++ (le4 (hashN 0 x) ++ (le4 0 ++ le4 (hashN 0 l)))).set (j - 4) v := drop_more (hd.trans hD.symm) 4 rfl
    -- the block's sum does not fit
    have bad : sumE (frHead ++ D) true (((frHead ++ D).drop (7 + 4)).take x.length) (7 + 4 + x.length) = 71 → ∃ c, c ≠ 0 ∧ restR (frHead ++ D) (stF most) (blocksR (frHead ++ D) 65536 most true 7 []) = .error c := by
      intro es
      refine ⟨71, by decide, ?_⟩
      rw [blocksR_eq, if_neg (by omega), en, if_neg hN0, hlo, if_neg (by omega), if_neg (by omega), es, if_pos (by decide)]
      rfl
    by_cases j6 : j < 4 + x.length
    · apply bad
      rw [List.set_append, if_pos (by omega)] at d11
      rw [getD_left _ _ _ (by omega)] at hv
      have d12 : (frHead ++ D).drop (7 + 4 + x.length) = le4 (hashN 0 x) ++ (le4 0 ++ le4 (hashN 0 l)) := drop_more d11 x.length (by simp)
      have et : ((frHead ++ D).drop (7 + 4)).take x.length = x.set (j - 4) v := by
        rw [d11]
        exact List.take_left' (by simp)
      unfold sumE
      rw [if_pos rfl, if_neg (by omega), d12, le4_leN _ (hashN_lt 0 x), et, if_neg (hashN_unlike 0 x _ (j - 4) (set_unlike x (j - 4) v (by omega) hv))]
    · rw [set_left_more _ _ _ _ (by omega)] at d11
      rw [getD_right _ _ _ (by omega)] at hv
      have d12 : (frHead ++ D).drop (7 + 4 + x.length) = (le4 (hashN 0 x) ++ (le4 0 ++ le4 (hashN 0 l))).set (j - 4 - x.length) v := drop_more d11 x.length rfl
      have et : ((frHead ++ D).drop (7 + 4)).take x.length = x := by
        rw [d11]
        exact List.take_left' rfl
      by_cases j8 : j < 8 + x.length
      · apply bad
        rw [List.set_append, if_pos (by rw [le4_length]; omega)] at d12
        rw [getD_left _ _ _ (by rw [le4_length]; omega)] at hv
        have hv2 : v.toNat ≠ hashN 0 x / 256 ^ (j - 4 - x.length) % 256 := by
          intro e
          apply hv
          rw [← UInt8.toNat_inj, e, le4_get _ _ (by omega)]
        unfold sumE
        rw [if_pos rfl, if_neg (by omega), d12, et, if_neg (le4_set _ _ v _ (hashN_lt 0 x) (by omega) hv2)]
      · rw [set_left_more _ _ _ _ (by rw [le4_length]; omega), le4_length] at d12
        rw [getD_right _ _ _ (by rw [le4_length]; omega), le4_length] at hv
        have hD2 : (frHead ++ D).drop 7 = le4 N ++ (x ++ (le4 (hashN 0 x) ++ (le4 0 ++ le4 (hashN 0 l)).set (j - 4 - x.length - 4) v)) := by
          rw [hd, ← hD, set_left_more _ _ _ _ (by omega), set_left_more _ _ _ _ (by rw [le4_length]; omega), le4_length]
        obtain ⟨s1, s2⟩ := blocks_step (frHead ++ D) most 7 N [] x _ l hD2 hN hN0 hlo hx0 hx64 hans (by simpa using hm)
        rw [s1]
        exact end_tell _ most _ (j - 4 - x.length - 4) v ([] ++ l) (stF most) (by omega) s2 hv (by omega) o8 o4
end Go.Proofs.Ytipadidfiffkjaa
