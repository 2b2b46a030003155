/- lz.Pack: the block of a text. -/
import Derived.Test.YtipadidfiffkjaaLzSeq
import Derived.Test.YtipadidfiffkjaaLzKey
import Derived.Maps.RangeWalk
import Derived.Deep.WholeRow
namespace Go.Proofs.Ytipadidfiffkjaa
open Go.RowKit Go.PostSums Go.PostMem
theorem pack_len (s : List UInt8) : (PostLz.pack s).length ≤ s.length + s.length / 255 + 2 := by
  have := PostLz.blk_short (PostLz.pack_is s) (Nat.zero_le _)
  simpa using this
/-- the map's places are those of last -/
def Places (get : Value → Option Value) (last : List UInt8 → Option Nat) : Prop := ∀ a b c d : UInt8, get (key4V [a, b, c, d]) = (last [a, b, c, d]).map fun p => Value.int .i64 (p : Int)
theorem places_put {get : Value → Option Value} {last : List UInt8 → Option Nat} (h : Places get last) (y0 y1 y2 y3 : UInt8) (a : Nat) : Places (MapF.put get (key4V [y0, y1, y2, y3]) (.int .i64 (a : Int))) (PostLz.upd last [y0, y1, y2, y3] a) := by
  intro a0 b0 c0 d0
  unfold PostLz.upd
  by_cases e : [a0, b0, c0, d0] = [y0, y1, y2, y3]
  · rw [if_pos e, e, MapF.put_same]; rfl
  · rw [if_neg e, MapF.put_other _ _ _ (fun h => e (key4V_inj h))]; exact h _ _ _ _
theorem info4 : (Try.prog.info? 69).map (·.size) = some 4 := by kernel_rfl
theorem ml_on (s : List UInt8) (p a n : Nat) (h : a + n + 5 < s.length) (he : s.getD (p + n) 0 = s.getD (a + n) 0) : PostLz.ml s p a (n + 1) = PostLz.ml s p a n := by
  conv => rhs; rw [PostLz.ml]
  rw [if_pos ⟨h, he⟩]
theorem ml_off (s : List UInt8) (p a n : Nat) (h : ¬ (a + n + 5 < s.length ∧ s.getD (p + n) 0 = s.getD (a + n) 0)) : PostLz.ml s p a n = n := by
  rw [PostLz.ml, if_neg h]
theorem getD_at (s : ByteArray) (i : Nat) (h : i < s.size) : s.data.toList.getD i 0 = s[i] := by
  rw [List.getD_eq_getElem?_getD, List.getElem?_eq_getElem (by simpa using h)]; rfl
theorem seq_at (base : Nat) (v : Value) (l : List UInt8) (lit : ByteArray) (far n : Nat) (x y : Int) (w : World) (hx : x = (far : Int)) (hy : y = (n : Int)) (hB : Buf w base 5 v l) (hb : base ≤ w.heap.size) (hl : l.length ≤ 4194304) (hn : lit.size ≤ 4194304)
    (hf : far ≤ 65535) (h4 : 4 ≤ n) (hn2 : n ≤ 4194304) :
    Calls Try.prog 41 #[v, .string lit, .int .i64 x, .int .i64 y] w (PutPost base (l ++ PostLz.seqB lit.data.toList far n) w) := by
  subst hx; subst hy; exact seq_walk base v l lit far n w hB hb hl hn hf h4 hn2
structure PackAt (w : World) (b : Nat) (s : ByteArray) (a f : Nat) (v : Value) (out : List UInt8) (last : List UInt8 → Option Nat) (w0 : World) : Prop where
  buf : Buf w (b + 1) 5 v out
  map : ∃ n get, n ≤ a ∧ MapF.IsMap w Try.prog 69 b n get ∧ Places get last
  eq : out ++ PostLz.packFrom s.data.toList a f last = PostLz.pack s.data.toList
  le : f ≤ a
  met : PostLz.Met s.data.toList a last
  old : Below b w0 w
  size : b + 1 ≤ w.heap.size
def BelowOf (W W' : World) : Prop := Below W.heap.size W W'
def PackPost (s : ByteArray) (w : World) (e : Ending) (w' : World) : Prop :=
  e = .returned (.tuple #[.string (strOf (if 1048576 < s.size then [] else PostLz.pack s.data.toList)), .int .i64 (if 1048576 < s.size then 4 else 0)]) ∧ Below w.heap.size w w'
set_option maxRecDepth 100000 in
set_option maxHeartbeats 1600000 in
theorem Pack_any (s : ByteArray) (w : World) (hs : s.size ≤ 140737488351232) :
    Calls Try.prog 27 #[.string s] w (PackPost s w) := by
  by_cases hl : 1048576 < s.size
  · have hl' : (1048576 : Int) < (s.size : Int) := by omega
    have HP : Hid ((if 1048576 < s.size then [] else PostLz.pack s.data.toList) = [] ∧ (if 1048576 < s.size then (4 : Int) else 0) = 4) := Lib.hid ⟨if_pos hl, if_pos hl⟩
    go_enter Try.func27, Try.ntmps27
    go_wp2_with fail
    go_ret2
    unfold PackPost
    rw [HP.out.1, HP.out.2]
    exact ⟨rfl, Below.refl _ _⟩
  · have hl' : ¬ (1048576 : Int) < (s.size : Int) := by omega
    have HP : Hid ((if 1048576 < s.size then [] else PostLz.pack s.data.toList) = PostLz.pack s.data.toList ∧ (if 1048576 < s.size then (4 : Int) else 0) = 0) := Lib.hid ⟨if_neg hl, if_neg hl⟩
    have hmm := @run_makeMap Try.prog
    go_enter Try.func27, Try.ntmps27
    go_wp2_with fail
    obtain ⟨b, hb⟩ : ∃ b, b = w.heap.size := ⟨_, rfl⟩
    have hA0 : Hid (PackAt (w.alloc (.map #[] 0)) b s 0 0 (.slice none 0 0) [] (fun _ => none) w) := Lib.hid (by
      subst hb
      exact ⟨Buf.nil _ _ _, ⟨0, _, Nat.le_refl _, MapF.made w Try.prog 69, fun _ _ _ _ => rfl⟩, rfl, Nat.le_refl _, (fun _ _ h => nomatch h), (Below.refl _ _).alloc (Nat.le_refl _) _, by simp⟩)
    generalize w.alloc (.map #[] 0) = W0 at hA0
    rw [← hb]
    have HB := Lib.hid hb; clear hb hmm hl
    have HPL : Hid ((PostLz.pack s.data.toList).length ≤ 2097152) := Lib.hid (by
      have := pack_len s.data.toList
      have h2 : s.data.toList.length = s.size := by simp
      rw [h2] at this; omega)
    have hss : s.size ≤ 1048576 := by omega
    go_loopw [4, 6, 7] (fun v4 v6 v7 wr => ∃ (a f : Nat), v7 = .int .i64 (a : Int) ∧ v6 = .int .i64 (f : Int) ∧ Hid (∃ out last, a ≤ 1048600 ∧ f ≤ s.size ∧ PackAt wr b s a f v4 out last w)) (fun _ _ v7 _ => 1048600 - (intOf v7).toNat)
    case atStart => exact ⟨0, 0, rfl, rfl, Lib.hid ⟨_, _, Nat.zero_le _, Nat.zero_le _, hA0.out⟩⟩
    case round =>
      obtain ⟨a, f, rfl, rfl, HI⟩ := hrel
      obtain ⟨out, last, ha, hf, hA⟩ := HI.out
      clear HI hA0
      have HA := Lib.hid hA
      obtain ⟨A, c, rfl, hc, _⟩ := hA.buf.len
      clear hA
      by_cases h12 : a + 12 ≤ s.size
      · have t12 : (a : Int) + 12 ≤ (s.size : Int) := by omega
        have i0 : a < s.size := by omega
        have i1 : a + 1 < s.size := by omega
        have i2 : a + 2 < s.size := by omega
        have i3 : a + 3 < s.size := by omega
        have j0 : (a : Int) < (s.size : Int) := by omega
        have j1 : (a : Int) + 1 < (s.size : Int) := by omega
        have j2 : (a : Int) + 2 < (s.size : Int) := by omega
        have j3 : (a : Int) + 3 < (s.size : Int) := by omega
        have HK : Hid (PostLz.key4 s.data.toList a = [s[a], s[a + 1], s[a + 2], s[a + 3]]) := Lib.hid (by
          unfold PostLz.key4; rw [drop_at s a i0, drop_at s (a + 1) i1, drop_at s (a + 2) i2, drop_at s (a + 3) i3]; rfl)
        have g1 : IntKind.i64.wrap ((a : Int) + 1) = (a : Int) + 1 := IntWalk.i64_in _ (by omega)
        have g2 : IntKind.i64.wrap ((a : Int) + 2) = (a : Int) + 2 := IntWalk.i64_in _ (by omega)
        have g3 : IntKind.i64.wrap ((a : Int) + 3) = (a : Int) + 3 := IntWalk.i64_in _ (by omega)
        have p1 : 0 ≤ (a : Int) + 1 := Int.add_nonneg (Int.natCast_nonneg _) (by decide)
        have p2 : 0 ≤ (a : Int) + 2 := Int.add_nonneg (Int.natCast_nonneg _) (by decide)
        have p3 : 0 ≤ (a : Int) + 3 := Int.add_nonneg (Int.natCast_nonneg _) (by decide)
        have t1 : ((a : Int) + 1).toNat = a + 1 := rfl
        have t2 : ((a : Int) + 2).toNat = a + 2 := rfl
        have t3 : ((a : Int) + 3).toNat = a + 3 := rfl
        go_wp2_with fail
        refine wp_region_noPanic ?_
        refine Loud.wp_drawn BelowOf 16 17 98 (fun u v w h k => bstep h k) (fun w m => ⟨rfl, rfl, rfl, Nat.le_refl _, fun _ _ => rfl⟩) (by kernel_rfl) (fun _ _ _ _ _ h => h) rfl (by kernel_rfl) ?_
        apply Exists.intro
        apply And.intro
        case left =>
          intro w2 h2
          simp only [List.take_succ_cons, List.take_zero]
          iterate 16 (go_big_quiet_step (fail))
          exact wpQuiet_nil rfl
        case right =>
          simp only [List.take_succ_cons, List.take_zero, List.drop_succ_cons, List.drop_zero]
          generalize s[a + 3] = y3 at HK ⊢
          generalize s[a + 2] = y2 at HK ⊢
          generalize s[a + 1] = y1 at HK ⊢
          generalize s[a] = y0 at HK ⊢
          clear g1 g2 g3 p1 p2 p3 t1 t2 t3 j0 j1 j2 j3
          unfold Loud.loudW
          rintro _ ⟨m2, rfl⟩
          go_wp2_with fail
          have hba := (Below.refl wr.heap.size (wr.drewN (1 + m2))).alloc (Nat.le_refl _) (.cells #[.int .u8 0, .int .u8 0, .int .u8 0, .int .u8 0] 69)
          refine ⟨⟨hba.os, hba.tape, hba.output, hba.size, hba.block⟩, ?_⟩
          clear hba
          unfold Loud.loudW
          rintro _ ⟨m3, rfl⟩
          have HN5 : Hid (∃ W5 : World, W5 = ((wr.drewN (1 + m2)).alloc (.cells #[.int .u8 0, .int .u8 0, .int .u8 0, .int .u8 0] 69)).drewN m3) := Lib.hid ⟨_, rfl⟩
          obtain ⟨W5, hW5⟩ := HN5.out
          have hq5 : W5.heap[wr.heap.size]? = some (.cells #[.int .u8 0, .int .u8 0, .int .u8 0, .int .u8 0] 69 (0, 0)) := by rw [hW5]; exact heap_alloc_new (wr.drewN (1 + m2)) _
          have hb5 : Below wr.heap.size wr W5 := by
            rw [hW5]
            have h := (Below.refl wr.heap.size (wr.drewN (1 + m2))).alloc (Nat.le_refl _) (.cells #[.int .u8 0, .int .u8 0, .int .u8 0, .int .u8 0] 69)
            exact ⟨h.os, h.tape, h.output, h.size, h.block⟩
          rw [← hW5]
          have HQ5 := Lib.hid hq5
          have HB5 := Lib.hid hb5
          clear hW5 hb5 HN5
          have e0 := (cell_of_row W5 _ 0 _ _ _ hq5).trans (rfl : _ = some (Value.int .u8 0))
          have e1 := (cell_of_row W5 _ 1 _ _ _ hq5).trans (rfl : _ = some (Value.int .u8 0))
          have e2 := (cell_of_row W5 _ 2 _ _ _ hq5).trans (rfl : _ = some (Value.int .u8 0))
          have e3 := (cell_of_row W5 _ 3 _ _ _ hq5).trans (rfl : _ = some (Value.int .u8 0))
          have z0 := frozen_of_row W5 _ 0 _ _ hq5
          have z1 := frozen_of_row W5 _ 1 _ _ hq5
          have z2 := frozen_of_row W5 _ 2 _ _ hq5
          have z3 := frozen_of_row W5 _ 3 _ _ hq5
          clear hq5
          go_wp2_with fail
          refine NoPanic.normal ?_
          have hq6 := heap_setCell_same _ _ 3 _ _ (.int .u8 (y3.toNat : Int)) (heap_setCell_same _ _ 2 _ _ (.int .u8 (y2.toNat : Int)) (heap_setCell_same _ _ 1 _ _ (.int .u8 (y1.toNat : Int)) (heap_setCell_same W5 _ 0 _ _ (.int .u8 (y0.toNat : Int)) HQ5.out)))
          have hg6 := (grown_trans (grown_set W5 wr.heap.size 0 (.int .u8 (y0.toNat : Int))) (grown_trans (grown_set _ wr.heap.size 1 (.int .u8 (y1.toNat : Int))) (grown_trans (grown_set _ wr.heap.size 2 (.int .u8 (y2.toNat : Int))) (grown_set _ wr.heap.size 3 (.int .u8 (y3.toNat : Int))))))
          have hb6 := HB5.out.trans (below_grown hg6 (fun j hj => by cases hj; exact Nat.le_refl _) HB5.out.size)
          have HQ6 : Hid (_ = some (Obj.cells #[.int .u8 (y0.toNat : Int), .int .u8 (y1.toNat : Int), .int .u8 (y2.toNat : Int), .int .u8 (y3.toNat : Int)] 69 (0, 0))) := Lib.hid hq6
          have HB6 := Lib.hid hb6
          clear hq6 hg6 hb6 e0 e1 e2 e3 z0 z1 z2 z3 HQ5 HB5
          generalize (((W5.setCell ⟨wr.heap.size, 0, none⟩ (.int .u8 (y0.toNat : Int))).setCell ⟨wr.heap.size, 1, none⟩ (.int .u8 (y1.toNat : Int))).setCell ⟨wr.heap.size, 2, none⟩ (.int .u8 (y2.toNat : Int))).setCell ⟨wr.heap.size, 3, none⟩ (.int .u8 (y3.toNat : Int)) = W6 at HQ6 HB6
          obtain ⟨n, get, hn, hM, hP⟩ := HA.out.map
          have HM : Hid (MapF.IsMap W6 Try.prog 69 b n get) := Lib.hid (hM.of_block (HB6.out.block b hM.lt))
          have HPl := Lib.hid hP
          clear hM hP
          have hget : MapF.seen true (.int .i64 0) (get (key4V [y0, y1, y2, y3])) = .tuple #[.int .i64 (((last [y0, y1, y2, y3]).getD 0 : Nat) : Int), .bool (last [y0, y1, y2, y3]).isSome] := by
            rw [HPl.out]
            cases last [y0, y1, y2, y3] <;> rfl
          go_upto_region 11 with (first
            | (refine wpList_load_row rfl 69 (.tmp 8) rfl wr.heap.size rfl 69 _ (0, 0) _ HQ6.out Try.underlying69 rfl info4 ?_)
            | (refine MapF.wpList_look rfl (.tmp 38) (.tmp 39) 68 true rfl 69 3 law4 Try.underlying68 _ (zeroInt _) b n get rfl HM.out (key4V [y0, y1, y2, y3]) rfl (key4_is _ _ _ _) ?_; rw [hget])
            | (refine MapF.wpList_put rfl (.tmp 43) (.tmp 44) (.tmp 45) 68 rfl 69 3 law4 Try.underlying68 b n get rfl HM.out (by unfold maxLen; omega) (key4V [y0, y1, y2, y3]) (.int .i64 (a : Int)) rfl rfl (key4_is _ _ _ _) ?_; intro w7 hm7 hg7; go_frame))
          have hA7 : ∀ (x f2 : Nat), a < x → f2 ≤ x → (out ++ PostLz.packFrom s.data.toList x f2 (PostLz.upd last (PostLz.key4 s.data.toList a) a) = PostLz.pack s.data.toList) → PackAt w7 b s x f2 (.slice A out.length c) out (PostLz.upd last (PostLz.key4 s.data.toList a) a) w := by
            intro x f2 hx hf2 heq
            refine ⟨(HA.out.buf.below HB6.out).kept hg7 (fun j hj => by cases hj; exact Nat.lt_succ_self _), ⟨n + 1, _, by omega, hm7, ?_⟩, heq, hf2, HA.out.met.step x hx, ?_, ?_⟩
            · rw [HK.out]; exact places_put HPl.out y0 y1 y2 y3 a
            · have hbz : b ≤ wr.heap.size := Nat.le_of_succ_le HA.out.size
              exact HA.out.old.trans ((HB6.out.mono hbz).trans (below_grown hg7 (fun j hj => by cases hj; exact Nat.le_refl _) (Nat.le_trans hbz HB6.out.size)))
            · exact Nat.le_trans HA.out.size (Nat.le_trans HB6.out.size hg7.size)
          have HA7 := Lib.hid hA7
          have HS7 : Hid (Buf w7 (b + 1) 5 (.slice A out.length c) out) := Lib.hid ((HA.out.buf.below HB6.out).kept hg7 (fun j hj => by cases hj; exact Nat.lt_succ_self _))
          have HZ := Lib.hid (Nat.le_trans HA.out.size (Nat.le_trans HB6.out.size hg7.size))
          have HM7 : Hid (∀ w' : World, Below (b + 1) w7 w' → ∃ get', MapF.IsMap w' Try.prog 69 b (n + 1) get' ∧ Places get' (PostLz.upd last (PostLz.key4 s.data.toList a) a)) := Lib.hid fun w' h => ⟨_, hm7.of_block (h.block b (Nat.lt_succ_self b)), by rw [HK.out]; exact places_put HPl.out y0 y1 y2 y3 a⟩
          have HO7 : Hid (Below b w w7) := Lib.hid (by
            have hbz : b ≤ wr.heap.size := Nat.le_of_succ_le HA.out.size
            exact HA.out.old.trans ((HB6.out.mono hbz).trans (below_grown hg7 (fun j hj => by cases hj; exact Nat.le_refl _) (Nat.le_trans hbz HB6.out.size))))
          have HEQ : Hid (out ++ (match last [y0, y1, y2, y3] with
            | none => PostLz.packFrom s.data.toList (a + 1) f (PostLz.upd last (PostLz.key4 s.data.toList a) a)
            | some p => if 65535 < a - p then PostLz.packFrom s.data.toList (a + 1) f (PostLz.upd last (PostLz.key4 s.data.toList a) a)
              else PostLz.seqB ((s.data.toList.drop f).take (a - f)) (a - p) (PostLz.ml s.data.toList p a 4) ++ PostLz.packFrom s.data.toList (a + PostLz.ml s.data.toList p a 4) (a + PostLz.ml s.data.toList p a 4) (PostLz.upd last (PostLz.key4 s.data.toList a) a)) = PostLz.pack s.data.toList) := Lib.hid (by
            have h := HA.out.eq
            rw [PostLz.packFrom, if_pos (by simp; omega), HK.out] at h
            rw [HK.out]
            exact h)
          have HMT : Hid (∀ p, last [y0, y1, y2, y3] = some p → p < a) := Lib.hid (fun p hp => (HA.out.met _ _ hp).1)
          clear hA7 hm7 hg7 hget HQ6
          cases hlast : last [y0, y1, y2, y3] with
          | none =>
            have HLs := Lib.hid hlast
            clear hlast
            go_wp2_with fail
            go_roundw
            case rel =>
              have h := HEQ.out
              rw [HLs.out] at h
              exact ⟨a + 1, f, by go_num, rfl, Lib.hid ⟨_, _, by omega, hf, HA7.out (a + 1) f (by omega) (by have := HA.out.le; omega) h⟩⟩
            case measure => simp [intOf]; omega
          | some p =>
            have hpa := HMT.out p hlast
            have HLs := Lib.hid hlast
            clear hlast
            by_cases hw : 65535 < a - p
            · have hw' : (65535 : Int) < (a : Int) - (p : Int) := by omega
              go_wp2_with fail
              go_roundw
              case rel =>
                have h := HEQ.out
                rw [HLs.out] at h
                simp only at h
                rw [if_pos hw] at h
                exact ⟨a + 1, f, by go_num, rfl, Lib.hid ⟨_, _, by omega, hf, HA7.out (a + 1) f (by omega) (by have := HA.out.le; omega) h⟩⟩
              case measure => simp [intOf]; omega
            · have hw' : ¬ (65535 : Int) < (a : Int) - (p : Int) := by omega
              go_wp2_with fail
              have hsl : Hid (s.data.toList.length = s.size) := Lib.hid (by simp)
              have HEQ2 : Hid (out ++ (PostLz.seqB ((s.data.toList.drop f).take (a - f)) (a - p) (PostLz.ml s.data.toList p a 4) ++ PostLz.packFrom s.data.toList (a + PostLz.ml s.data.toList p a 4) (a + PostLz.ml s.data.toList p a 4) (PostLz.upd last (PostLz.key4 s.data.toList a) a)) = PostLz.pack s.data.toList) := Lib.hid (by
                have h := HEQ.out
                rw [HLs.out] at h
                simp only at h
                rwa [if_neg hw] at h)
              have HOL : Hid (out.length ≤ 2097152) := Lib.hid (by
                have h := congrArg List.length HEQ2.out
                have := HPL.out
                rw [List.length_append] at h
                omega)
              have hfa := HA.out.le
              clear HEQ HLs HMT HM
              go_loopw [11] (fun v11 wq => ∃ n : Nat, v11 = .int .i64 (n : Int) ∧ 4 ≤ n ∧ a + n + 5 ≤ s.size ∧ Hid (PostLz.ml s.data.toList p a n = PostLz.ml s.data.toList p a 4 ∧ ∃ m, wq = w7.drewN m)) (fun v11 _ => s.size - (intOf v11).toNat)
              case atStart => exact ⟨4, rfl, Nat.le_refl _, by omega, Lib.hid ⟨rfl, 0, rfl⟩⟩
              case round =>
                obtain ⟨n, rfl, hn4, hn5, HNI⟩ := hrel
                by_cases h5 : a + n + 5 < s.size
                · have i1' : p + n < s.size := by omega
                  have i2' : a + n < s.size := by omega
                  have q0 : (a : Int) + (n : Int) < (s.size : Int) - 5 := by omega
                  have q1 : (p : Int) + (n : Int) < (s.size : Int) := by omega
                  have q2 : (a : Int) + (n : Int) < (s.size : Int) := by omega
                  have g1 : IntKind.i64.wrap ((p : Int) + (n : Int)) = (p : Int) + (n : Int) := IntWalk.i64_in _ (by omega)
                  have g2 : IntKind.i64.wrap ((a : Int) + (n : Int)) = (a : Int) + (n : Int) := IntWalk.i64_in _ (by omega)
                  have g3 : IntKind.i64.wrap ((s.size : Int) - 5) = (s.size : Int) - 5 := IntWalk.i64_in _ (by omega)
                  have p1 : 0 ≤ (p : Int) + (n : Int) := Int.add_nonneg (Int.natCast_nonneg _) (Int.natCast_nonneg _)
                  have p2 : 0 ≤ (a : Int) + (n : Int) := Int.add_nonneg (Int.natCast_nonneg _) (Int.natCast_nonneg _)
                  have t1 : ((p : Int) + (n : Int)).toNat = p + n := rfl
                  have t2 : ((a : Int) + (n : Int)).toNat = a + n := rfl
                  by_cases he : s[p + n] = s[a + n]
                  · have b1 : ((s[p + n].toNat : Int) == (s[a + n].toNat : Int)) = true := by rw [he]; exact beq_self_eq_true _
                    have HML : Hid (PostLz.ml s.data.toList p a (n + 1) = PostLz.ml s.data.toList p a n) := Lib.hid (ml_on _ _ _ _ (by have := hsl.out; omega) (by rw [getD_at s _ i1', getD_at s _ i2', he]))
                    clear he
                    go_wp2_with fail
                    go_quiet (fail)
                    go_wp2_with fail
                    go_roundw
                    case rel =>
                      obtain ⟨m1, rfl⟩ := HNI.out.2
                      exact ⟨n + 1, by go_num, by omega, by omega, Lib.hid ⟨HML.out.trans HNI.out.1, _, World.drewN_drewN _ _ _⟩⟩
                    case measure => simp [intOf]; omega
                  · have b1 : ((s[p + n].toNat : Int) == (s[a + n].toNat : Int)) = false := beq_eq_false_iff_ne.2 (fun h => he (UInt8.toNat_inj.1 (by omega)))
                    have HML : Hid (PostLz.ml s.data.toList p a n = n) := Lib.hid (ml_off _ _ _ _ (by rw [getD_at s _ i1', getD_at s _ i2']; exact fun h => he h.2))
                    clear he
                    go_wp2_with fail
                    go_quiet (fail)
                    clear g1 g2 g3
                    obtain ⟨hml, m1, rfl⟩ := HNI.out
                    have HN4 : Hid (PostLz.ml s.data.toList p a 4 = n) := Lib.hid (by rw [← hml]; exact HML.out)
                    clear hml HML
                    have hfs : f ≤ a := hfa
                    have hes : (s.extract f a).size = a - f := by simp; omega
                    have HES := Lib.hid hes
                    have HET : Hid ((s.extract f a).data.toList = (s.data.toList.drop f).take (a - f)) := Lib.hid (by simp)
                    clear hes
                    have HX1 : Hid ((a : Int) - (p : Int) = ((a - p : Nat) : Int)) := Lib.hid (by omega)
                    have HX2 : Hid (a - p ≤ 65535) := Lib.hid (by omega)
                    have HX3 : Hid (n ≤ 4194304) := Lib.hid (by omega)
                    have HX4 : Hid (out.length ≤ 4194304) := Lib.hid (by have := HOL.out; omega)
                    have HX5 : Hid ((s.extract f a).size ≤ 4194304) := Lib.hid (by rw [HES.out]; omega)
                    go_wp2_with (go_at_call 41; (refine (seq_at (b + 1) _ out (s.extract f a) (a - p) n _ _ (w7.drewN (m1 + nq)) HX1.out rfl (HS7.out.heap rfl) HZ.out HX4.out HX5.out HX2.out hn4 HX3.out).mono ?_); rintro e w8 ⟨v8, rfl, hbuf, hb8⟩)
                    have hb8' : Below (b + 1) w7 w8 := ⟨hb8.os, hb8.tape, hb8.output, hb8.size, hb8.block⟩
                    rw [HET.out] at hbuf
                    have HN8 := Lib.hid (And.intro hbuf hb8')
                    clear hbuf hb8 hb8'
                    go_roundw
                    case rel =>
                      have h := HEQ2.out
                      rw [HN4.out, ← List.append_assoc] at h
                      obtain ⟨get', hm', hp'⟩ := HM7.out w8 HN8.out.2
                      exact ⟨a + n, a + n, by go_num, by go_num, Lib.hid ⟨_, _, by omega, by omega, ⟨HN8.out.1, ⟨_, get', by omega, hm', hp'⟩, h, Nat.le_refl _, HA.out.met.step (a + n) (by omega), HO7.out.trans (HN8.out.2.mono (Nat.le_succ b)), Nat.le_trans HZ.out HN8.out.2.size⟩⟩⟩
                    case measure => simp [intOf]; omega
                · have q0 : ¬ (a : Int) + (n : Int) < (s.size : Int) - 5 := by omega
                  have b1 : decide ((a : Int) + (n : Int) < (s.size : Int) - 5) = false := decide_eq_false q0
                  have HML : Hid (PostLz.ml s.data.toList p a n = n) := Lib.hid (ml_off _ _ _ _ (by have := hsl.out; omega))
                  have g2 : IntKind.i64.wrap ((a : Int) + (n : Int)) = (a : Int) + (n : Int) := IntWalk.i64_in _ (by omega)
                  have g3 : IntKind.i64.wrap ((s.size : Int) - 5) = (s.size : Int) - 5 := IntWalk.i64_in _ (by omega)
                  go_wp2_with fail
                  go_quiet (fail)
                  clear g2 g3
                  obtain ⟨hml, m1, rfl⟩ := HNI.out
                  have HN4 : Hid (PostLz.ml s.data.toList p a 4 = n) := Lib.hid (by rw [← hml]; exact HML.out)
                  clear hml HML
                  have hfs : f ≤ a := hfa
                  have hes : (s.extract f a).size = a - f := by simp; omega
                  have HES := Lib.hid hes
                  have HET : Hid ((s.extract f a).data.toList = (s.data.toList.drop f).take (a - f)) := Lib.hid (by simp)
                  clear hes
                  have HX1 : Hid ((a : Int) - (p : Int) = ((a - p : Nat) : Int)) := Lib.hid (by omega)
                  have HX2 : Hid (a - p ≤ 65535) := Lib.hid (by omega)
                  have HX3 : Hid (n ≤ 4194304) := Lib.hid (by omega)
                  have HX4 : Hid (out.length ≤ 4194304) := Lib.hid (by have := HOL.out; omega)
                  have HX5 : Hid ((s.extract f a).size ≤ 4194304) := Lib.hid (by rw [HES.out]; omega)
                  go_wp2_with (go_at_call 41; (refine (seq_at (b + 1) _ out (s.extract f a) (a - p) n _ _ (w7.drewN (m1 + nq)) HX1.out rfl (HS7.out.heap rfl) HZ.out HX4.out HX5.out HX2.out hn4 HX3.out).mono ?_); rintro e w8 ⟨v8, rfl, hbuf, hb8⟩)
                  have hb8' : Below (b + 1) w7 w8 := ⟨hb8.os, hb8.tape, hb8.output, hb8.size, hb8.block⟩
                  rw [HET.out] at hbuf
                  have HN8 := Lib.hid (And.intro hbuf hb8')
                  clear hbuf hb8 hb8'
                  go_roundw
                  case rel =>
                    have h := HEQ2.out
                    rw [HN4.out, ← List.append_assoc] at h
                    obtain ⟨get', hm', hp'⟩ := HM7.out w8 HN8.out.2
                    exact ⟨a + n, a + n, by go_num, by go_num, Lib.hid ⟨_, _, by omega, by omega, ⟨HN8.out.1, ⟨_, get', by omega, hm', hp'⟩, h, Nat.le_refl _, HA.out.met.step (a + n) (by omega), HO7.out.trans (HN8.out.2.mono (Nat.le_succ b)), Nat.le_trans HZ.out HN8.out.2.size⟩⟩⟩
                  case measure => simp [intOf]; omega
      · have t12 : ¬ (a : Int) + 12 ≤ (s.size : Int) := by omega
        have HEQ : Hid (out ++ PostLz.lastB (s.data.toList.drop f) = PostLz.pack s.data.toList) := Lib.hid (by
          have h := HA.out.eq
          rwa [PostLz.packFrom, if_neg (by simp; omega)] at h)
        have HOL : Hid (out.length ≤ 2097152) := Lib.hid (by
          have h := congrArg List.length HEQ.out
          have := HPL.out
          rw [List.length_append] at h
          omega)
        have HES : Hid ((s.extract f s.size).size = s.size - f) := Lib.hid (by simp)
        have HET : Hid ((s.extract f s.size).data.toList = s.data.toList.drop f) := Lib.hid (by simp; exact List.take_of_length_le (by simp))
        go_wp2_with (first
          | (go_at_call 41; (with_reducible refine (last_walk (b + 1) _ out (s.extract f s.size) _ HA.out.buf HA.out.size (by have := HOL.out; omega) (by rw [HES.out]; omega)).mono ?_); rintro e w8 ⟨v8, rfl, hbuf, hb8⟩; rw [HET.out, HEQ.out] at hbuf)
          | (refine wpList_conv rfl 30 9 (.tmp 96) rfl _ _ _ rfl (hbuf.back Try.underlying30 Try.underlying5 Try.underlying9) ?_))
        go_ret2
        unfold PackPost
        rw [HP.out.1, HP.out.2]
        exact ⟨rfl, by rw [← HB.out]; exact HA.out.old.trans (hb8.mono (Nat.le_succ b))⟩
end Go.Proofs.Ytipadidfiffkjaa
