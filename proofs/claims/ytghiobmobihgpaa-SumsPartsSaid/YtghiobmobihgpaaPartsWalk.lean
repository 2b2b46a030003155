/- The walk of SumsParts. -/
import Derived.Test.YtghiobmobihgpaaMore
import Derived.Test.YtghiobmobihgpaaHashWalks
namespace Go.Proofs.Ytghiobmobihgpaa
open Go.RowKit Go.PostSums
/-- the hasher in block b took the text S -/
def Took (w : World) (b q : Nat) (S : ByteArray) : Prop := IsHasher w b q (lanes (.of q) S.data.toList).1 S.size (lanes (.of q) S.data.toList).2
theorem took_tell (q : Nat) (S : ByteArray) : tellN q S.size (lanes (.of q) S.data.toList).1 (lanes (.of q) S.data.toList).2 = hashN q S.data.toList := by
  unfold hashN; rw [show S.data.toList.length = S.size by simp]
theorem Took.write {w : World} {b q : Nat} {S : ByteArray} (h : Took w b q S) (p : ByteArray) (hp : p.size ≤ 140737488351232) (hs : S.size ≤ 8192) :
    Calls Try.prog 16 #[.pointer (some ⟨b, 0, none⟩), .string p] w fun e w' => e = .returned (.int .i64 0) ∧ Took w' b q (S ++ p) ∧ w.grownBy w' (some b) := by
  refine (Write_any b q S.size _ _ p w h (lanes_rest _ _ _ (Nat.le_refl _)) hp (by omega)).mono fun e w' ⟨h1, h2, h3⟩ => ⟨h1, ?_, h3⟩
  unfold Took
  rw [append_list, append_size, lanes_append _ (.of q) S.data.toList p.data.toList (Nat.le_refl _)]
  exact h2
theorem Took.sum {w : World} {b q : Nat} {S : ByteArray} (h : Took w b q S) (hs : S.size ≤ 8192) :
    Calls Try.prog 17 #[.pointer (some ⟨b, 0, none⟩)] w fun e w' => e = .returned (.int .i64 (hashN q S.data.toList : Nat)) ∧ ∃ m, w' = w.drewN m := by
  rw [← took_tell]
  exact Sum_any b q S.size _ _ w h (by omega)
theorem Took.of_block {w w' : World} {b q : Nat} {S : ByteArray} (h : Took w b q S) (hb : Below w.heap.size w w') : Took w' b q S := by
  obtain ⟨A, c, h1, h2, h3, h4⟩ := h
  have hlt : b < w.heap.size := (Array.getElem?_eq_some_iff.1 h1).1
  refine ⟨A, c, (hb.block b hlt).trans h1, h2, h3, ?_⟩
  rcases h4 with h4 | ⟨B, o, g1, g2, g3, g4⟩
  · exact .inl h4
  · exact .inr ⟨B, o, g1, g2, Nat.lt_of_lt_of_le g3 hb.size, g4.of_block (hb.block B g3)⟩
def PartsRel (w : World) (n b q : Nat) (v7 v8 : Value) (wr : World) : Prop := ∃ (i : Nat) (S : ByteArray), i ≤ n ∧ v8 = .int .i64 (i : Int) ∧ v7 = .string S ∧ S.size ≤ 8192 ∧ Hid (Took wr b q S ∧ Below w.heap.size w wr)
set_option maxRecDepth 100000 in
set_option maxHeartbeats 800000 in
theorem SumsParts_walk (A : Option Addr) (n cap : Nat) (ss : List ByteArray) (c : Int) (w : World) (hA : Strings w A n ss) (hn : n ≤ maxLen) (_ : (Lit.int .i64 c).wf = true) :
    Calls Try.prog 10 #[.slice A n cap, .int .i64 c] w fun e w' => e = .returned (.bool true) ∧ Below w.heap.size w w' := by
  unfold maxLen at hn
  have HA := Lib.hid hA
  clear hA
  by_cases hc : c < 0 ∨ 4294967295 < c
  · have hb := NewHasher_bad c
    have HN := Lib.hid (fun w' => hb w' hc)
    clear hb
    by_cases h0 : c < 0
    · go_enter Try.func10, Try.ntmps10
      go_wp2_with (first
        | (go_at_call 20; with_reducible refine (HN.out _).mono ?_; rintro e W1 ⟨rfl, rfl⟩)
        | (go_at_call 13; refine (awake02 _).mono ?_; rintro e V3 ⟨rfl, hV3⟩))
      go_ret
      exact ⟨rfl, hV3⟩
    · have h1 : 4294967295 < c := by omega
      go_enter Try.func10, Try.ntmps10
      go_wp2_with (first
        | (go_at_call 20; with_reducible refine (HN.out _).mono ?_; rintro e W1 ⟨rfl, rfl⟩)
        | (go_at_call 13; refine (awake02 _).mono ?_; rintro e V3 ⟨rfl, hV3⟩))
      go_ret
      exact ⟨rfl, hV3⟩
  · obtain ⟨q, rfl⟩ := Int.eq_ofNat_of_zero_le (show 0 ≤ c by omega)
    have hq : q < 4294967296 := by omega
    have hq2 : Hid (((q : Int) % 4294967296).toNat = q) := Lib.hid (by omega)
    clear hc
    have hd1 : decide ((q : Int) < 4294967296) = true := decide_eq_true (by omega)
    have hd2 : decide (0 ≤ (q : Int)) = true := decide_eq_true (by omega)
    have HQ := Lib.hid hq
    clear hq
    go_enter Try.func10, Try.ntmps10
    go_wp2_with (first
      | (go_at_call 20; refine (NewHasher_any q _ HQ.out).mono ?_; rintro e W1 ⟨rfl, hW1⟩; have HW := Lib.hid hW1; clear hW1))
    have H0 : Hid (Took W1 w.heap.size q ⟨#[]⟩ ∧ Below w.heap.size w W1) := Lib.hid (by
      rw [HW.out]
      refine ⟨?_, (Below.refl _ _).alloc (Nat.le_refl _) _⟩
      have := hasher_new q w
      unfold Took
      rw [show (ByteArray.data ⟨#[]⟩).toList = [] from rfl, lanes_short _ _ (by decide)]
      exact this)
    clear HW
    generalize hb : w.heap.size = b at H0
    have HB := Lib.hid hb
    clear hb
    clear hd1 hd2
    go_loopw [7, 8] (fun v7 v8 wr => PartsRel w n b q v7 v8 wr) (fun _ v8 _ => n - (intOf v8).toNat)
    case atStart => exact ⟨0, ⟨#[]⟩, by omega, rfl, rfl, by decide, Lib.hid ⟨H0.out.1, by rw [HB.out]; exact H0.out.2⟩⟩
    case round =>
      obtain ⟨i, S, hi, rfl, rfl, hS, Hr⟩ := hrel
      have HT := Lib.hid Hr.out.1
      have HBr := Lib.hid Hr.out.2
      clear Hr
      by_cases hlt : i < n
      · rcases HA.out.below HBr.out with h0 | ⟨a, ha, hc⟩
        · omega
        subst ha
        obtain ⟨ci, szi⟩ := hc i hlt
        clear hc
        generalize ss.getD i ByteArray.empty = p at ci szi
        by_cases hbig : 8192 < S.size + p.size
        · go_wp2_with (first
            | (go_at_call 13; refine (awake02 _).mono ?_; rintro e V3 ⟨rfl, hV3⟩))
          go_ret
          exact ⟨rfl, bstep HBr.out hV3⟩
        · have HZ := Lib.hid (append_size S p)
          have hz : (S ++ p).size ≤ 8192 := by rw [HZ.out]; omega
          have hz2 : (S ++ p).size ≤ 140737488351232 := by omega
          have HH : Hid (∀ w' : World, Calls Try.prog 15 #[.string (S ++ p), .int .i64 (q : Int)] w' fun e w'' => e = .returned (.int .i64 (hashN q (S ++ p).data.toList : Nat)) ∧ Below w'.heap.size w' w'') :=
            Lib.hid (fun w' => by have := RHash_any (S ++ p) q w' hz2; rwa [hq2.out] at this)
          have HS : Hid (∀ w' : World, Took w' b q (S ++ p) → Calls Try.prog 17 #[.pointer (some ⟨b, 0, none⟩)] w' fun e w'' => e = .returned (.int .i64 (hashN q (S ++ p).data.toList : Nat)) ∧ ∃ m, w'' = w'.drewN m) :=
            Lib.hid (fun w' ht => ht.sum hz)
          generalize hashN q (S ++ p).data.toList = y at HH HS
          have HWr := Lib.hid (HT.out.write p szi hS)
          have Hz := Lib.hid hz
          clear hz hz2
          go_wp2_with (first
            | (go_at_call 16; with_reducible refine (HWr.out).mono ?_; rintro e V1 ⟨rfl, hT1, hG1⟩; have HT1 := Lib.hid hT1; have HG1 := Lib.hid hG1; clear hT1 hG1)
            | (go_at_call 17; with_reducible refine (HS.out _ HT1.out).mono ?_; rintro e V2 ⟨rfl, ⟨m2, rfl⟩⟩)
            | (go_at_call 15; with_reducible refine (HH.out _).mono ?_; rintro e V3 ⟨rfl, hV3⟩; have HV3 := Lib.hid hV3; clear hV3))
          go_roundw
          case rel =>
            have hB1 : Below w.heap.size w V1 := below_new HBr.out (by rw [HB.out]; exact Nat.le_refl _) HG1.out
            have hB2 : Below V1.heap.size V1 (V1.drewN m2) := below_drewN V1 m2 _
            exact ⟨i + 1, S ++ p, by omega, by go_num, rfl, Hz.out, Lib.hid ⟨((HT1.out.of_block hB2).of_block HV3.out), bstep (bstep hB1 hB2) HV3.out⟩⟩
          case measure => simp [intOf]; omega
      · obtain rfl : i = n := by omega
        have hz2 : S.size ≤ 140737488351232 := by omega
        have HH : Hid (∀ w' : World, Calls Try.prog 14 #[.string S, .int .i64 (q : Int)] w' fun e w'' => e = .returned (.int .i64 (hashN q S.data.toList : Nat)) ∧ Below w'.heap.size w' w'') :=
          Lib.hid (fun w' => by have := Hash_any S q w' hz2; rwa [hq2.out] at this)
        have HS := Lib.hid (HT.out.sum hS)
        generalize hashN q S.data.toList = y at HH HS
        clear hz2
        go_wp2_with (first
          | (go_at_call 17; with_reducible refine (HS.out).mono ?_; rintro e V2 ⟨rfl, ⟨m2, rfl⟩⟩)
          | (go_at_call 14; with_reducible refine (HH.out _).mono ?_; rintro e V3 ⟨rfl, hV3⟩; have HV3 := Lib.hid hV3; clear hV3)
          | (go_at_call 13; refine (awake02 _).mono ?_; rintro e V4 ⟨rfl, hV4⟩))
        go_ret
        exact ⟨rfl, bstep (bstep (bstep HBr.out (below_drewN wr m2 _)) HV3.out) hV4⟩
end Go.Proofs.Ytghiobmobihgpaa
