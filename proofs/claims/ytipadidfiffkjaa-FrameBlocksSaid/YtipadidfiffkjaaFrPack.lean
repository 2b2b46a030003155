/- frame.Pack: the frame of a text. -/
import Derived.Test.YtipadidfiffkjaaFrHead2
import Derived.Test.YtipadidfiffkjaaLzPack
namespace Go.Proofs.Ytipadidfiffkjaa
open Go.RowKit Go.PostSums Go.PostMem
def chunksG (k : Nat) (B : List UInt8 → List UInt8) (l : List UInt8) : List UInt8 :=
  if _h : l = [] then [] else B (l.take (k + 1)) ++ chunksG k B (l.drop (k + 1))
termination_by l.length
decreasing_by
  have : l.length ≠ 0 := by simpa using _h
  simp
  omega
def hiN (n : Nat) : Nat := n + 2147483648
def blockB (p : List UInt8) : List UInt8 :=
  if p.length ≤ (PostLz.pack p).length then le4 (hiN p.length) ++ p ++ le4 (hashN 0 p) else le4 (PostLz.pack p).length ++ PostLz.pack p ++ le4 (hashN 0 (PostLz.pack p))
def partsB (l : List UInt8) : List UInt8 := chunksG 65535 blockB l
theorem partsB_nil : partsB [] = [] := by unfold partsB; rw [chunksG]; rfl
theorem partsB_cons (l : List UInt8) (h : l ≠ []) : partsB l = blockB (l.take 65536) ++ partsB (l.drop 65536) := by
  unfold partsB
  conv => lhs; rw [chunksG]
  rw [dif_neg h]
def frHead : List UInt8 := [4, 34, 77, 24, 116, 64, byteAt (hashN 0 [116, 64]) 1]
def frPack (l : List UInt8) : List UInt8 := frHead ++ partsB l ++ (le4 0 ++ le4 (hashN 0 l))
theorem orBit (n : Nat) (h : n ≤ 65536) : Go.bits .or .i64 (n : Int) 2147483648 = ((hiN n : Nat) : Int) := by
  have := (bits_nat .i64 63 (by decide) wrap_i64_in n 2147483648 (by omega) (by decide)).2
  refine this.trans ?_
  have e : n ||| 2147483648 = n + 2147483648 := by
    rw [Nat.or_comm, show (2147483648 : Nat) = 2 ^ 31 * 1 from rfl, ← Nat.two_pow_add_eq_or_of_lt (Nat.lt_of_le_of_lt h (by decide)) 1]
    omega
  rw [e]; rfl
/-- a builder of its own at block b -/
def Bu (w : World) (b : Nat) (l : List UInt8) : Prop := ∃ p v, BAt w (b + 1) b #[p, v] 38 0 l
theorem Bu.other {w w' : World} {b : Nat} {l : List UInt8} (h : Bu w b l) (hb : Below w.heap.size w w') : Bu w' b l := by
  obtain ⟨p, v, h0⟩ := h
  exact ⟨p, v, h0.other hb⟩
theorem bwrite_any (b : Nat) (l : List UInt8) (t : ByteArray) (w : World) (h : Bu w b l) (hlen : l.length + t.size ≤ 140737488355328) :
    Calls Try.prog 25 #[.pointer (some ⟨b, 0, none⟩), .string t] w fun e w' => e = .returned (.tuple #[.int .i64 (t.size : Int), .nilIface]) ∧ Bu w' b (l ++ t.data.toList) ∧ Kept b (b + 1) w w' := by
  obtain ⟨p, v, h0⟩ := h
  have hlt := heap_lt h0.1
  refine (WriteString_at (b + 1) b _ _ 0 l t w h0 (by decide) (show 0 + 1 < 2 by decide) (show liesAt Try.prog Try.prog.depth 38 (2 / Try.prog.cellsOf 38) 0 38 1 = true by kernel_rfl) hlen hlt).mono ?_
  rintro e w' ⟨rfl, ⟨v', h1⟩, hk⟩
  exact ⟨rfl, ⟨_, _, h1⟩, hk⟩
theorem bstring_any (b : Nat) (l : List UInt8) (w : World) (h : Bu w b l) :
    Calls Try.prog 21 #[.pointer (some ⟨b, 0, none⟩)] w fun e w' => e = .returned (.string (strOf l)) ∧ Bu w' b l ∧ Kept b (b + 1) w w' := by
  obtain ⟨p, v, h0⟩ := h
  have hlt := heap_lt h0.1
  refine (String_at (b + 1) b _ _ 0 l w h0 (by decide) hlt).mono ?_
  rintro e w' ⟨rfl, h1, hk⟩
  exact ⟨rfl, ⟨_, _, h1⟩, hk⟩
theorem kept_lt {b : Nat} {w w' : World} (h : Kept b (b + 1) w w') (hb : b < w.heap.size) : Below b w w' :=
  ⟨h.os, h.tape, h.output, h.size, fun i hi => h.block i (by omega) (by omega) (by omega)⟩
def lenOf : Value → Nat
  | .string z => z.size
  | _ => 0
theorem blkstr (N : Nat) (x : ByteArray) : (strOf (le4 N) ++ x ++ strOf (le4 (hashN 0 x.data.toList))).data.toList = le4 N ++ x.data.toList ++ le4 (hashN 0 x.data.toList) ∧ (strOf (le4 N) ++ x ++ strOf (le4 (hashN 0 x.data.toList))).size = x.size + 8 := by
  have h : strOf (le4 N) ++ x ++ strOf (le4 (hashN 0 x.data.toList)) = strOf (le4 N ++ x.data.toList ++ le4 (hashN 0 x.data.toList)) := by
    apply ByteArray.ext
    simp [strOf]
  rw [h, strOf_list, strOf_size]
  refine ⟨rfl, ?_⟩
  simp [le4]
theorem endstr (n m : Nat) : (strOf (le4 n) ++ strOf (le4 m)).data.toList = le4 n ++ le4 m ∧ (strOf (le4 n) ++ strOf (le4 m)).size = 8 := by
  have h : strOf (le4 n) ++ strOf (le4 m) = strOf (le4 n ++ le4 m) := by
    apply ByteArray.ext
    simp [strOf]
  rw [h, strOf_list, strOf_size]
  exact ⟨rfl, rfl⟩
theorem take_k (l : List UInt8) (k n : Nat) (h : k = min l.length n) : l.take k = l.take n ∧ l.drop k = l.drop n := by
  rcases Nat.le_total l.length n with h1 | h1
  · rw [h, Nat.min_eq_left h1, List.take_of_length_le (Nat.le_refl _), List.take_of_length_le h1, List.drop_of_length_le (Nat.le_refl _), List.drop_of_length_le h1]
    exact ⟨rfl, rfl⟩
  · rw [h, Nat.min_eq_right h1]
    exact ⟨rfl, rfl⟩
theorem Pack_at (s z : ByteArray) (w : World) (hz : z.data.toList = PostLz.pack s.data.toList) (h : s.size ≤ 1048576) :
    Calls Try.prog 27 #[.string s] w fun e w' => e = .returned (.tuple #[.string z, .int .i64 0]) ∧ Below w.heap.size w w' :=
  (Pack_any s w (by omega)).mono fun e w' ⟨he, hb⟩ => ⟨by rw [he, if_neg (by omega), if_neg (by omega), ← hz, strOf_self], hb⟩
theorem packed_p (s : ByteArray) : ∃ z : ByteArray, z.data.toList = PostLz.pack s.data.toList ∧ z.size ≤ s.size + s.size / 255 + 2 := by
  refine ⟨strOf (PostLz.pack s.data.toList), strOf_list _, ?_⟩
  rw [strOf_size]
  have := pack_len s.data.toList
  rwa [list_size] at this
def PackFPost (s : ByteArray) (w : World) (e : Ending) (w' : World) : Prop :=
  e = .returned (.tuple #[.string (strOf (if 1048576 < s.size then [] else frPack s.data.toList)), .int .i64 (if 1048576 < s.size then 4 else 0)]) ∧ Below w.heap.size w w'
set_option maxRecDepth 100000 in
set_option maxHeartbeats 3200000 in
theorem FPack_any (s : ByteArray) (w : World) (hs : s.size ≤ 140737488351232) :
    Calls Try.prog 13 #[.string s] w (PackFPost s w) := by
  by_cases hl : 1048576 < s.size
  · have hl' : (1048576 : Int) < (s.size : Int) := by omega
    have HP : Hid ((if 1048576 < s.size then [] else frPack s.data.toList) = [] ∧ (if 1048576 < s.size then (4 : Int) else 0) = 4) := Lib.hid ⟨if_pos hl, if_pos hl⟩
    go_enter Try.func13, Try.ntmps13
    go_wp2_with fail
    go_ret2
    unfold PackFPost
    rw [HP.out.1, HP.out.2]
    exact ⟨rfl, Below.refl _ _⟩
  · have hl' : ¬ (1048576 : Int) < (s.size : Int) := by omega
    have HP : Hid ((if 1048576 < s.size then [] else frPack s.data.toList) = frPack s.data.toList ∧ (if 1048576 < s.size then (4 : Int) else 0) = 0) := Lib.hid ⟨if_neg hl, if_neg hl⟩
    go_enter Try.func13, Try.ntmps13
    go_upto_region 5 with (fail)
    obtain ⟨b, hb⟩ : ∃ b, b = w.heap.size := ⟨_, rfl⟩
    have H0 : Hid (Bu (w.alloc (.cells #[.pointer none, .slice none 0 0] 38)) b [] ∧ Below w.heap.size w (w.alloc (.cells #[.pointer none, .slice none 0 0] 38))) := Lib.hid (by
      subst hb
      refine ⟨⟨.pointer none, .slice none 0 0, heap_alloc_new w _, .pointer none, .slice none 0 0, rfl, .inl rfl, rfl, World.ownsRowF_nil _ _ _ _⟩, (Below.refl _ w).alloc (Nat.le_refl _) _⟩)
    rw [← hb]
    generalize w.alloc _ = W0 at H0 ⊢
    obtain ⟨z, hz⟩ : ∃ z, z = strOf (le4 (hashN 0 [116, 64])) := ⟨_, rfl⟩
    have hzs : z.size = 4 := by rw [hz, strOf_size]; rfl
    have HZ := Lib.hid hz; clear hz
    have HBe := Lib.hid hb; clear hb
    have hzl : ∀ x y : ByteArray, x.size = 4 → y.size = 2 → 0 + (x ++ y ++ z.extract 1 2).size ≤ 140737488355328 := by
      intro x y hx hy
      rw [ByteArray.size_append, ByteArray.size_append, ByteArray.size_extract, hx, hy]
      omega
    have HZL := Lib.hid hzl; clear hzl
    go_wp2_with (first
      | (go_at_call 26; (with_reducible refine (fsum_any ⟨#[116, 64]⟩ _ (by decide)).mono ?_); rintro e1 w1 ⟨rfl, hb1⟩; rw [show strOf (le4 (hashN 0 (⟨#[116, 64]⟩ : ByteArray).data.toList)) = z from HZ.out.symm])
      | (go_at_call 25; (with_reducible refine (bwrite_any b [] _ _ (H0.out.1.other hb1) (HZL.out _ _ rfl rfl)).mono ?_); rintro e2 w2 ⟨rfl, hB2, hk2⟩))
    have HK2 := Lib.hid hk2
    have H2 : Hid (Bu w2 b frHead ∧ Below w.heap.size w w2) := Lib.hid (by
      refine ⟨?_, ?_⟩
      · have e : [] ++ ((⟨#[4, 34, 77, 24]⟩ : ByteArray) ++ ⟨#[116, 64]⟩ ++ z.extract 1 2).data.toList = frHead := by
          rw [HZ.out]
          simp [strOf, frHead, le4]
        rw [← e]; exact hB2
      · exact ((H0.out.2.trans (hb1.mono H0.out.2.size)).trans ((kept_lt HK2.out (heap_lt (H0.out.1.other hb1).choose_spec.choose_spec.1)).mono (Nat.le_of_eq HBe.out.symm))))
    clear hB2 hk2 hb1 HK2
    go_loopw [6] (fun v6 wr => ∃ r : ByteArray, v6 = .string r ∧ Hid (∃ acc, r.size ≤ s.size ∧ Bu wr b acc ∧ acc ++ partsB r.data.toList = frHead ++ partsB s.data.toList ∧ acc.length + 9 * r.size ≤ 7 + 9 * s.size ∧ Below w.heap.size w wr)) (fun v6 _ => lenOf v6)
    case atStart => exact ⟨s, rfl, Lib.hid ⟨frHead, Nat.le_refl _, H2.out.1, rfl, Nat.le_of_eq rfl, H2.out.2⟩⟩
    case round =>
      obtain ⟨r, rfl, HI⟩ := hrel
      obtain ⟨acc, hr, hB, hE, hlen, hbl⟩ := HI.out
      have HBu := Lib.hid hB; have HE := Lib.hid hE; have HBl := Lib.hid hbl
      clear HI hB hE hbl
      by_cases hz : r.size = 0
      · have hr0 : r.data.toList = [] := by rw [← List.length_eq_zero_iff, list_size]; exact hz
        have hb : r.toList.isEmpty = true := by rw [Go.ByteArray.toList_eq, hr0]; rfl
        have HE := Lib.hid (show acc = frHead ++ partsB s.data.toList by rw [← HE.out, hr0, partsB_nil, List.append_nil])
        clear hr0
        have hsz : s.size ≤ 1048576 := by omega
        go_wp2_with (first
          | (go_at_call 28; (with_reducible refine (ffixed_at 0 0 _ rfl (by decide)).mono ?_); rintro e3 w3 ⟨rfl, hb3⟩)
          | (go_at_call 26; (with_reducible refine (fsum_any s _ hs).mono ?_); rintro e4 w4 ⟨rfl, hb4⟩)
          | (go_at_call 25; obtain ⟨es1, es2⟩ := endstr 0 (hashN 0 s.data.toList); have ES := Lib.hid es1; have ES2 := Lib.hid es2; clear es1 es2; generalize strOf (le4 0) ++ strOf (le4 (hashN 0 s.data.toList)) = y at ES ES2 ⊢; (with_reducible refine (bwrite_any b acc y _ ((HBu.out.other hb3).other hb4) (by rw [ES2.out]; omega)).mono ?_); rintro e5 w5 ⟨rfl, hB5, hk5⟩)
          | (go_at_call 21; (with_reducible refine (bstring_any b _ _ hB5).mono ?_); rintro e6 w6 ⟨rfl, hB6, hk6⟩))
        go_ret2
        unfold PackFPost
        rw [HP.out.1, HP.out.2]
        have ef : acc ++ y.data.toList = frPack s.data.toList := by rw [ES.out, HE.out]; rfl
        rw [ef]
        have hb34 : Below w.heap.size w w4 := bstep (bstep HBl.out hb3) hb4
        have hlt4 : b < w4.heap.size := Nat.lt_of_lt_of_le (heap_lt HBu.out.choose_spec.choose_spec.1) (Nat.le_trans hb3.size hb4.size)
        have hbe := HBe.out
        exact ⟨rfl, (hb34.trans ((kept_lt hk5 hlt4).mono (by omega))).trans ((kept_lt hk6 (Nat.lt_of_lt_of_le hlt4 hk5.size)).mono (by omega))⟩
      · have hrn : r.data.toList ≠ [] := by intro h; apply hz; rw [← list_size, h]; rfl
        have hb : r.toList.isEmpty = false := by
          rw [Go.ByteArray.toList_eq, List.isEmpty_eq_false_iff]; exact hrn
        have HRN := Lib.hid hrn; clear hrn
        obtain ⟨k, hk⟩ : ∃ k, k = min r.size 65536 := ⟨_, rfl⟩
        obtain ⟨p, hp⟩ : ∃ p, p = r.extract 0 k := ⟨_, rfl⟩
        have hps : p.size = k := by rw [hp, ByteArray.size_extract]; omega
        have hpl : p.data.toList = r.data.toList.take k := by rw [hp]; simp
        have htk := take_k r.data.toList k 65536 (by rw [list_size]; exact hk)
        rw [htk.1] at hpl
        have HPL := Lib.hid hpl
        have HDR := Lib.hid htk.2
        clear hpl htk
        obtain ⟨z2, hz2, hz2s⟩ := packed_p p
        have HZ2 := Lib.hid hz2; clear hz2
        have hk' : (if (65536 : Int) < (r.size : Int) then (65536 : Int) else (r.size : Int)) = (k : Int) := by split <;> omega
        have hkr : (k : Int) ≤ (r.size : Int) := by omega
        have HP2 := Lib.hid hp
        have HPS := Lib.hid hps
        have HKE := Lib.hid hk
        clear hp hk hps
        go_upto_region 9 with (fail)
        next =>
          rw [← HP2.out]
          have hps := HPS.out
          have hk := HKE.out
          have hp1 : (p.size : Int) ≤ (r.size : Int) := by omega
          have hps' : p.size ≤ 65536 := by omega
          have hp0 : 0 < p.size := by omega
          clear hk hps hk' hkr
          obtain ⟨r2, hr2⟩ : ∃ r2, r2 = r.extract p.size r.size := ⟨_, rfl⟩
          have hr2s : r2.size = r.size - p.size := by rw [hr2, ByteArray.size_extract]; omega
          have hr2l : r2.data.toList = r.data.toList.drop 65536 := by
            rw [hr2, ← HDR.out, ← HPS.out]
            simp [List.take_of_length_le]
          have HR2 := Lib.hid hr2l; clear hr2l
          go_upto_region 10 with (fail)
          rw [← hr2]
          clear hr2
          by_cases hc : p.size ≤ z2.size
          · have hc' : (p.size : Int) ≤ (z2.size : Int) := by omega
            have hor := orBit p.size hps'
            have hN : hiN p.size < 4294967296 := by unfold hiN; omega
            obtain ⟨F, hF⟩ : ∃ F, F = strOf (le4 (hiN p.size)) := ⟨_, rfl⟩
            obtain ⟨G, hG⟩ : ∃ G, G = strOf (le4 (hashN 0 p.data.toList)) := ⟨_, rfl⟩
            have hF4 : F.size = 4 := by rw [hF, strOf_size]; rfl
            have hG4 : G.size = 4 := by rw [hG, strOf_size]; rfl
            have HF := Lib.hid hF; have HG := Lib.hid hG; clear hF hG
            have HBK : Hid (blockB (r.data.toList.take 65536) = le4 (hiN p.size) ++ p.data.toList ++ le4 (hashN 0 p.data.toList)) := Lib.hid (by
              unfold blockB
              rw [← HPL.out, ← HZ2.out, list_size, list_size, if_pos hc])
            go_wp2_with (first
              | (go_at_call 27; (with_reducible refine (Pack_at p z2 _ HZ2.out (by omega)).mono ?_); rintro e1 w1 ⟨rfl, hb1⟩)
              | (go_at_call 28; (with_reducible refine (ffixed_at (hiN p.size) _ _ rfl hN).mono ?_); rintro e3 w3 ⟨rfl, hb3⟩; rw [← HF.out])
              | (go_at_call 26; (with_reducible refine (fsum_any p _ (by omega)).mono ?_); rintro e4 w4 ⟨rfl, hb4⟩; rw [← HG.out])
              | (go_at_call 25; obtain ⟨es1, es2⟩ := blkstr (hiN p.size) p; rw [← HF.out, ← HG.out] at es1 es2; have ES := Lib.hid es1; have ES2 := Lib.hid es2; clear es1 es2; generalize F ++ p ++ G = y at ES ES2 ⊢; (with_reducible refine (bwrite_any b acc y _ (((HBu.out.other hb1).other hb3).other hb4) (by rw [ES2.out]; omega)).mono ?_); rintro e5 w5 ⟨rfl, hB5, hk5⟩))
            have hys := ES2.out
            have hyl : y.data.toList.length = y.size := list_size y
            have hb34 : Below w.heap.size w w4 := bstep (bstep (bstep HBl.out hb1) hb3) hb4
            have hlt4 : b < w4.heap.size := Nat.lt_of_lt_of_le (heap_lt HBu.out.choose_spec.choose_spec.1) (Nat.le_trans hb1.size (Nat.le_trans hb3.size hb4.size))
            have hbe := HBe.out
            have HL := Lib.hid (hb34.trans ((kept_lt hk5 hlt4).mono (by omega)))
            go_roundw
            case rel => exact ⟨r2, rfl, Lib.hid ⟨acc ++ y.data.toList, by omega, hB5, by rw [← HE.out, partsB_cons _ HRN.out, HBK.out, HR2.out, ES.out, List.append_assoc], by rw [List.length_append]; omega, HL.out⟩⟩
            case measure => show lenOf (.string r2) < lenOf (.string r); simp only [lenOf]; omega
          · have hc' : ¬ (p.size : Int) ≤ (z2.size : Int) := by omega
            have hN : z2.size < 4294967296 := by omega
            obtain ⟨F, hF⟩ : ∃ F, F = strOf (le4 z2.size) := ⟨_, rfl⟩
            obtain ⟨G, hG⟩ : ∃ G, G = strOf (le4 (hashN 0 z2.data.toList)) := ⟨_, rfl⟩
            have hF4 : F.size = 4 := by rw [hF, strOf_size]; rfl
            have hG4 : G.size = 4 := by rw [hG, strOf_size]; rfl
            have HF := Lib.hid hF; have HG := Lib.hid hG; clear hF hG
            have HBK : Hid (blockB (r.data.toList.take 65536) = le4 z2.size ++ z2.data.toList ++ le4 (hashN 0 z2.data.toList)) := Lib.hid (by
              unfold blockB
              rw [← HPL.out, ← HZ2.out, list_size, list_size, if_neg hc])
            go_wp2_with (first
              | (go_at_call 27; (with_reducible refine (Pack_at p z2 _ HZ2.out (by omega)).mono ?_); rintro e1 w1 ⟨rfl, hb1⟩)
              | (go_at_call 28; (with_reducible refine (ffixed_at z2.size _ _ rfl hN).mono ?_); rintro e3 w3 ⟨rfl, hb3⟩; rw [← HF.out])
              | (go_at_call 26; (with_reducible refine (fsum_any z2 _ (by omega)).mono ?_); rintro e4 w4 ⟨rfl, hb4⟩; rw [← HG.out])
              | (go_at_call 25; obtain ⟨es1, es2⟩ := blkstr z2.size z2; rw [← HF.out, ← HG.out] at es1 es2; have ES := Lib.hid es1; have ES2 := Lib.hid es2; clear es1 es2; generalize F ++ z2 ++ G = y at ES ES2 ⊢; (with_reducible refine (bwrite_any b acc y _ (((HBu.out.other hb1).other hb3).other hb4) (by rw [ES2.out]; omega)).mono ?_); rintro e5 w5 ⟨rfl, hB5, hk5⟩))
            have hys := ES2.out
            have hyl : y.data.toList.length = y.size := list_size y
            have hb34 : Below w.heap.size w w4 := bstep (bstep (bstep HBl.out hb1) hb3) hb4
            have hlt4 : b < w4.heap.size := Nat.lt_of_lt_of_le (heap_lt HBu.out.choose_spec.choose_spec.1) (Nat.le_trans hb1.size (Nat.le_trans hb3.size hb4.size))
            have hbe := HBe.out
            have HL := Lib.hid (hb34.trans ((kept_lt hk5 hlt4).mono (by omega)))
            go_roundw
            case rel => exact ⟨r2, rfl, Lib.hid ⟨acc ++ y.data.toList, by omega, hB5, by rw [← HE.out, partsB_cons _ HRN.out, HBK.out, HR2.out, ES.out, List.append_assoc], by rw [List.length_append]; omega, HL.out⟩⟩
            case measure => show lenOf (.string r2) < lenOf (.string r); simp only [lenOf]; omega
end Go.Proofs.Ytipadidfiffkjaa
