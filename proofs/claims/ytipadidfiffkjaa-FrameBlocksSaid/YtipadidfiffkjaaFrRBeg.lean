/- The reference's begins. -/
import Derived.Test.YtipadidfiffkjaaFrRef
import Derived.Test.YtipadidfiffkjaaLzPack
namespace Go.Proofs.Ytipadidfiffkjaa
open Go.RowKit Go.PostSums Go.PostMem
def headV (f : FSt) : Value := .agg #[.bool (onOf f 16), .bool (onOf f 4), .int .i64 (if onOf f 8 = true then (f.size : Int) else -1), .int .i64 (f.room : Int), .int .i64 (f.a : Int)]
def finR (l : List UInt8) (most e sz : Nat) : Except Nat FSt :=
  if l.length ≤ e then .error 5 else if at8 l e = hashN 0 ((l.take e).drop 4) / 256 % 256 then .ok ⟨e + 1, most, at8 l 4, 2 ^ (8 + 2 * (at8 l 5 / 16)), sz⟩ else .error 71
def headR (l : List UInt8) (most : Nat) : Except Nat FSt :=
  if l.length < 4 then .error 5 else if l.take 4 ≠ magicL then .error 70 else if l.length < 5 then .error 5 else
  if at8 l 4 / 32 ≠ 3 ∨ at8 l 4 % 4 ≠ 0 then .error 70 else if l.length < 6 then .error 5 else
  if at8 l 5 % 16 ≠ 0 ∨ at8 l 5 / 16 < 4 ∨ 7 < at8 l 5 / 16 then .error 70 else
  if at8 l 4 / 8 % 2 = 0 then finR l most 6 0 else
  if l.length < 14 then .error 5 else if 4611686018427387904 < leN (l.drop 6) 8 then .error 70 else finR l most 14 (leN (l.drop 6) 8)
def RBegPost (r : Except Nat FSt) (w : World) (e : Ending) (w' : World) : Prop :=
  Below w.heap.size w w' ∧ match r with
    | .error c => e = .returned (.tuple #[.agg #[.bool false, .bool false, .int .i64 0, .int .i64 0, .int .i64 0], .int .i64 (c : Int)])
    | .ok f => e = .returned (.tuple #[headV f, .int .i64 0])
theorem w64k : ∀ k : Fin 8, wrap64 (2 ^ (8 + 2 * k.val)) = ((2 ^ (8 + 2 * k.val) : Nat) : Int) := by decide +kernel
theorem and255 (x : Nat) (h : x < 4294967296) : Go.bits .and .i64 (x : Int) 255 = ((x % 256 : Nat) : Int) := by
  have := and64 x 255 (by omega) (by decide)
  refine this.trans ?_
  rw [show (255 : Nat) = 2 ^ 8 - 1 from rfl, Nat.and_two_pow_sub_one_eq_mod]
def finQ (l : List UInt8) (x Q most e sz : Nat) : Except Nat FSt :=
  if l.length ≤ e then .error 5 else if at8 l e = hashN 0 ((l.take e).drop 4) / 256 % 256 then .ok ⟨e + 1, most, x, Q, sz⟩ else .error 71
abbrev headC (b1 b2 : Bool) (sz : Int) (Q e : Nat) : Array Value := #[.bool b1, .bool b2, .int .i64 sz, .int .i64 (Q : Int), .int .i64 (e : Int)]
/-- the two variables of begins: its answer's (still nothing) and h -/
def HeadAt (w W : World) (b1 b2 : Bool) (sz : Int) (Q e : Nat) : Prop :=
  W.heap[w.heap.size]? = some (.cells #[.bool false, .bool false, .int .i64 0, .int .i64 0, .int .i64 0] 45) ∧ W.heap[w.heap.size + 1]? = some (.cells (headC b1 b2 sz Q e) 45) ∧ Below w.heap.size w W
theorem HeadAt.four {w W : World} {b1 b2 : Bool} {sz : Int} {Q e : Nat} (h : HeadAt w W b1 b2 sz Q e) : W.cell? ⟨w.heap.size + 1, 4, none⟩ = some (.int .i64 (e : Int)) := (cell_of_row W _ 4 _ _ _ h.2.1).trans rfl
theorem HeadAt.free {w W : World} {b1 b2 : Bool} {sz : Int} {Q e : Nat} (h : HeadAt w W b1 b2 sz Q e) (k : Nat) : W.frozen? ⟨w.heap.size + 1, k, none⟩ = false := frozen_of_row W _ k _ _ h.2.1
theorem HeadAt.later {w W V : World} {b1 b2 : Bool} {sz : Int} {Q e : Nat} (h : HeadAt w W b1 b2 sz Q e) (hb : Below W.heap.size W V) : HeadAt w V b1 b2 sz Q e :=
  ⟨(hb.block _ (heap_lt h.1)).trans h.1, (hb.block _ (heap_lt h.2.1)).trans h.2.1, h.2.2.trans (hb.mono h.2.2.size)⟩
theorem HeadAt.size_ {w W : World} {b1 b2 : Bool} {sz : Int} {Q e : Nat} (h : HeadAt w W b1 b2 sz Q e) (x : Int) : HeadAt w (W.setCell ⟨w.heap.size + 1, 2, none⟩ (.int .i64 x)) b1 b2 x Q e :=
  ⟨((grown_set W (w.heap.size + 1) 2 _).block _ (heap_lt h.1) (by simp)).trans h.1, heap_setCell_same W _ 2 _ _ _ h.2.1, h.2.2.trans (below_grown (grown_set W (w.heap.size + 1) 2 _) (fun k hk => by simp at hk; omega) h.2.2.size)⟩
theorem HeadAt.end_ {w W : World} {b1 b2 : Bool} {sz : Int} {Q e : Nat} (h : HeadAt w W b1 b2 sz Q e) (x : Nat) : HeadAt w (W.setCell ⟨w.heap.size + 1, 4, none⟩ (.int .i64 (x : Int))) b1 b2 sz Q x :=
  ⟨((grown_set W (w.heap.size + 1) 4 _).block _ (heap_lt h.1) (by simp)).trans h.1, heap_setCell_same W _ 4 _ _ _ h.2.1, h.2.2.trans (below_grown (grown_set W (w.heap.size + 1) 4 _) (fun k hk => by simp at hk; omega) h.2.2.size)⟩
theorem one5 (a b : Bool) (x y z : Int) : (#[.bool a, .bool b, .int .i64 x, .int .i64 y, .int .i64 z] : Array Value).all (·.oneCell') = true := by
  simp [Value.oneCell']
theorem HeadAt.fill {w W : World} {b1 b2 : Bool} {sz : Int} {Q e : Nat} (h : HeadAt w W b1 b2 sz Q e) {c1 c2 : Bool} {tz : Int} {T f : Nat} : HeadAt w (W.setRow (w.heap.size + 1) (headC c1 c2 tz T f)) c1 c2 tz T f :=
  ⟨(setRow_other W _ _ _ (by omega)).trans h.1, setRow_heap W _ _ _ _ _ h.2.1, h.2.2.trans ⟨rfl, rfl, rfl, by simp [World.setRow], fun i hi => setRow_other W _ i _ (by omega)⟩⟩
theorem HeadAt.ret {w W : World} {b1 b2 : Bool} {sz : Int} {Q e : Nat} (h : HeadAt w W b1 b2 sz Q e) (cs : Array Value) : (W.setRow w.heap.size cs).heap[w.heap.size]? = some (.cells cs 45) := setRow_heap W _ _ cs _ _ h.1
theorem HeadAt.bel {w W : World} {b1 b2 : Bool} {sz : Int} {Q e : Nat} (h : HeadAt w W b1 b2 sz Q e) (cs : Array Value) : Below w.heap.size w (W.setRow w.heap.size cs) :=
  h.2.2.trans ⟨rfl, rfl, rfl, by simp [World.setRow], fun i hi => setRow_other W _ i cs (by omega)⟩
theorem rinfo : (Try.prog.info? 45).map (·.size) = some 5 := by kernel_rfl
theorem rret (tmps : Array Value) (W : World) (g : Nat) (cs : Array Value) (fr : Nat × Nat) (hp : tmps.getD 2 undef = .pointer (some ⟨g, 0, none⟩)) (hg : W.heap[g]? = some (.cells cs 45 fr)) (hs : cs.size = 5) :
    (results Try.f22 tmps).run Try.prog W = .ok (.tuple #[.agg cs, tmps.getD 3 undef]) W := by
  rw [results_cell_tmp rfl, hp]
  simp only [asAddr, Sem.run_pure, Result.andThen]
  rw [run_loadVar_row W g 45 45 cs fr _ hg Try.underlying45 rfl (by rw [hs]; exact rinfo)]
abbrev hzero : Array Value := #[.bool false, .bool false, .int .i64 0, .int .i64 0, .int .i64 0]
set_option maxRecDepth 100000 in
set_option maxHeartbeats 1600000 in
theorem RBegins_any (s : ByteArray) (most : Nat) (w : World) (hs : s.size ≤ 140737488351232) :
    Calls Try.prog 22 #[.string s] w (RBegPost (headR s.data.toList most) w) := by
  obtain ⟨R, hR⟩ : ∃ R, R = headR s.data.toList most := ⟨_, rfl⟩
  rw [← hR]
  unfold headR at hR
  rw [list_size] at hR
  have HR := Lib.hid hR; clear hR
  have hnew : (w.alloc (.cells hzero 45)).heap[w.heap.size]? = some (.cells hzero 45) := heap_alloc_new w _
  have hbel : Below w.heap.size w (w.alloc (.cells hzero 45)) := (Below.refl _ w).alloc (Nat.le_refl _) _
  have HN := Lib.hid hnew; have HB := Lib.hid hbel; clear hnew hbel
  by_cases h4 : s.size < 4
  · have HR := Lib.hid (HR.out.trans (if_pos h4))
    have h4' : (s.size : Int) < 4 := by omega
    go_enter Try.func22, Try.ntmps22
    go_wp2_with fail
    exact bodyPost_ret (rret _ _ w.heap.size _ _ rfl HN.out rfl) rfl (by obtain rfl := HR.out; exact ⟨HB.out, rfl⟩)
  · have HR := Lib.hid (HR.out.trans (if_neg h4))
    have h4' : ¬ (s.size : Int) < 4 := by omega
    go_enter Try.func22, Try.ntmps22
    go_upto_region 3 with (fail)
    by_cases hm : s.data.toList.take 4 = magicL
    rotate_left
    · have HR := Lib.hid (HR.out.trans (if_pos hm))
      have hne : s.extract 0 4 ≠ ⟨#[4, 34, 77, 24]⟩ := fun e => hm (by have := congrArg (fun z => z.data.toList) e; simpa [magicL] using this)
      have hb : (!(s.extract 0 4).toList == [4, 34, 77, 24]) = true := by
        rw [Bool.not_eq_true', beq_eq_false_iff_ne]
        intro e
        rw [Go.ByteArray.toList_eq] at e
        exact hne (by rw [← strOf_self (s.extract 0 4), e]; rfl)
      go_wp2_with fail
      exact bodyPost_ret (rret _ _ w.heap.size _ _ rfl HN.out rfl) rfl (by obtain rfl := HR.out; exact ⟨HB.out, rfl⟩)
    · have HR := Lib.hid (HR.out.trans (if_neg (fun h => h hm)))
      have hb : (!(s.extract 0 4).toList == [4, 34, 77, 24]) = false := by
        rw [Bool.not_eq_false', beq_iff_eq, Go.ByteArray.toList_eq]
        have : (s.extract 0 4).data.toList = s.data.toList.take 4 := by simp
        rw [this, hm]; rfl
      go_upto_region 5 with (fail)
      clear hb
      by_cases h5 : s.size < 5
      · have HR := Lib.hid (HR.out.trans (if_pos h5))
        have h5' : (s.size : Int) < 5 := by omega
        go_wp2_with fail
        exact bodyPost_ret (rret _ _ w.heap.size _ _ rfl HN.out rfl) rfl (by obtain rfl := HR.out; exact ⟨HB.out, rfl⟩)
      · have HR := Lib.hid (HR.out.trans (if_neg h5))
        have h5' : ¬ (s.size : Int) < 5 := by omega
        have i4 : 4 < s.size := by omega
        go_upto_region 8 with (fail)
        have hx4 : s[4].toNat = at8 s.data.toList 4 := (at8_byte s 4 i4).symm
        rw [hx4]
        clear hx4
        have hx := at8_lt s.data.toList 4
        obtain ⟨x, hxe⟩ : ∃ x, x = at8 s.data.toList 4 := ⟨_, rfl⟩
        rw [← hxe] at hx ⊢
        have HR := Lib.hid (show R = _ by rw [HR.out, ← hxe])
        have HX := Lib.hid hxe; clear hxe
        by_cases c1 : x / 32 ≠ 3 ∨ x % 4 ≠ 0
        · have HR := Lib.hid (HR.out.trans (if_pos c1))
          have c1' : ((x : Int) / 32 = 3 ∧ ((x : Int) % 4 != 0) = true) ∨ ¬ (x : Int) / 32 = 3 := by
            by_cases q : x / 32 = 3
            · exact .inl ⟨by omega, bne_iff_ne.2 (by omega)⟩
            · exact .inr (by omega)
          rcases c1' with ⟨q1, q2⟩ | q1
          all_goals
            go_wp2_with fail
            exact bodyPost_ret (rret _ _ w.heap.size _ _ rfl HN.out rfl) rfl (by obtain rfl := HR.out; exact ⟨HB.out, rfl⟩)
        · have HR := Lib.hid (HR.out.trans (if_neg c1))
          have q1 : (x : Int) / 32 = 3 := by omega
          have q2 : ((x : Int) % 4 != 0) = false := by rw [bne_eq_false_iff_eq]; omega
          go_upto_region 10 with (fail)
          clear q1 q2
          by_cases h6 : s.size < 6
          · have HR := Lib.hid (HR.out.trans (if_pos h6))
            have h6' : (s.size : Int) < 6 := by omega
            go_wp2_with fail
            exact bodyPost_ret (rret _ _ w.heap.size _ _ rfl HN.out rfl) rfl (by obtain rfl := HR.out; exact ⟨HB.out, rfl⟩)
          · have HR := Lib.hid (HR.out.trans (if_neg h6))
            have h6' : ¬ (s.size : Int) < 6 := by omega
            have i5 : 5 < s.size := by omega
            go_upto_region 13 with (fail)
            have hx5 : s[5].toNat = at8 s.data.toList 5 := (at8_byte s 5 i5).symm
            rw [hx5]
            clear hx5
            have hy := at8_lt s.data.toList 5
            obtain ⟨y, hye⟩ : ∃ y, y = at8 s.data.toList 5 := ⟨_, rfl⟩
            rw [← hye] at hy ⊢
            have HR := Lib.hid (show R = _ by rw [HR.out, ← hye])
            have HY := Lib.hid hye; clear hye
            by_cases c2 : y % 16 ≠ 0 ∨ y / 16 < 4 ∨ 7 < y / 16
            · have HR := Lib.hid (HR.out.trans (if_pos c2))
              have c2' : ((y : Int) % 16 != 0) = true ∨ (((y : Int) % 16 != 0) = false ∧ (y : Int) / 16 < 4) ∨ (((y : Int) % 16 != 0) = false ∧ ¬ (y : Int) / 16 < 4 ∧ (7 : Int) < (y : Int) / 16) := by
                by_cases q : y % 16 = 0
                · have q' : ((y : Int) % 16 != 0) = false := by rw [bne_eq_false_iff_eq]; omega
                  by_cases q2 : y / 16 < 4
                  · exact .inr (.inl ⟨q', by omega⟩)
                  · exact .inr (.inr ⟨q', by omega, by omega⟩)
                · exact .inl (bne_iff_ne.2 (by omega))
              rcases c2' with q1 | ⟨q1, q2⟩ | ⟨q1, q2, q3⟩
              all_goals
                go_wp2_with fail
                exact bodyPost_ret (rret _ _ w.heap.size _ _ rfl HN.out rfl) rfl (by obtain rfl := HR.out; exact ⟨HB.out, rfl⟩)
            · have HR := Lib.hid (HR.out.trans (if_neg c2))
              obtain ⟨k, hk4, hk7, rfl⟩ : ∃ k, 4 ≤ k ∧ k ≤ 7 ∧ y = 16 * k := ⟨y / 16, by omega, by omega, by omega⟩
              have hkk : 16 * k / 16 = k := by omega
              have hne : ((((16 * k : Nat) : Int) % 16) != 0) = false := by rw [bne_eq_false_iff_eq]; omega
              have hke : (((16 * k : Nat) : Int)) / 16 = (k : Int) := by omega
              obtain ⟨y, hy16⟩ : ∃ y : Int, y = ((16 * k : Nat) : Int) := ⟨_, rfl⟩
              rw [← hy16] at hne hke ⊢
              have k4 : ¬ (k : Int) < 4 := by omega
              have k7 : ¬ (7 : Int) < (k : Int) := by omega
              have HC2 := Lib.hid c2; clear c2
              go_upto_region 15 with (fail)
              have HQ4 : Hid (∀ w1 n, Calls Try.prog 36 #[.int .u8 (x : Int), .int .i64 4] (World.drewN w1 n) fun e w'' => e = .returned (.bool (decide (x / 16 % 2 = 1))) ∧ ∃ m, w'' = w1.drewN m) := Lib.hid fun w1 n => (rbit4 x _ hx).mono fun _ _ ⟨he, hw⟩ => ⟨he, n, hw.symm⟩
              have HQ2 : Hid (∀ w1 n, Calls Try.prog 36 #[.int .u8 (x : Int), .int .i64 2] (World.drewN w1 n) fun e w'' => e = .returned (.bool (decide (x / 4 % 2 = 1))) ∧ ∃ m, w'' = w1.drewN m) := Lib.hid fun w1 n => (rbit2 x _ hx).mono fun _ _ ⟨he, hw⟩ => ⟨he, n, hw.symm⟩
              refine wp_region_noPanic ?_
              refine Loud.wp_drawn BelowOf 11 12 109 (fun u v w h k => bstep h k) (fun w m => ⟨rfl, rfl, rfl, Nat.le_refl _, fun _ _ => rfl⟩) (by kernel_rfl) (fun _ _ _ _ _ h => h) rfl (by kernel_rfl) ?_
              apply Exists.intro
              apply And.intro
              case left =>
                intro w2 h2
                simp only [List.take_succ_cons, List.take_zero]
                iterate 1 (go_big_quiet_step (fail))
                iterate 1 (go_big_quiet_step (with_reducible exact HQ4.out _ _))
                iterate 1 (go_big_quiet_step (fail))
                iterate 1 (go_big_quiet_step (with_reducible exact HQ2.out _ _))
                iterate 7 (go_big_quiet_step (fail))
                exact wpQuiet_nil rfl
              case right =>
              simp only [List.take_succ_cons, List.take_zero, List.drop_succ_cons, List.drop_zero]
              unfold Loud.loudW
              rintro _ ⟨m2, rfl⟩
              go_wp2_with fail
              have hba := (Below.refl ((w.alloc (.cells hzero 45)).drewN (1 + m2)).heap.size ((w.alloc (.cells hzero 45)).drewN (1 + m2))).alloc (Nat.le_refl _) (.cells hzero 45)
              refine ⟨⟨hba.os, hba.tape, hba.output, hba.size, hba.block⟩, ?_⟩
              clear hba
              unfold Loud.loudW
              rintro _ ⟨m3, rfl⟩
              have hw64 := w64k ⟨k, by omega⟩
              simp only at hw64
              rw [hw64]
              have HR : Hid (R = if x / 8 % 2 = 0 then finQ s.data.toList x (2 ^ (8 + 2 * k)) most 6 0 else if s.size < 14 then .error 5 else if 4611686018427387904 < leN (s.data.toList.drop 6) 8 then .error 70 else finQ s.data.toList x (2 ^ (8 + 2 * k)) most 14 (leN (s.data.toList.drop 6) 8)) := Lib.hid (by
                rw [HR.out, if_neg HC2.out]
                unfold finR finQ
                rw [← HX.out, ← HY.out, hkk])
              generalize 2 ^ (8 + 2 * k) = Q at HR ⊢
              clear hw64 hne hke k4 k7
              have H1 : Hid (HeadAt w ((((w.alloc (.cells hzero 45)).drewN (1 + m2)).alloc (.cells hzero 45)).drewN m3) false false 0 0 0) := Lib.hid (by
                refine ⟨?_, ?_, ?_⟩
                · exact (heap_alloc_old ((w.alloc (.cells hzero 45)).drewN (1 + m2)) _ (by simp [World.drewN])).trans HN.out
                · have := heap_alloc_new ((w.alloc (.cells hzero 45)).drewN (1 + m2)) (.cells hzero 45)
                  rw [show ((w.alloc (.cells hzero 45)).drewN (1 + m2)).heap.size = w.heap.size + 1 by simp [World.drewN]] at this
                  exact this
                · exact ((HB.out.trans (bl_drewN _ (1 + m2) _)).alloc (by simp [World.drewN]) _).trans (bl_drewN _ m3 _))
              generalize ((((w.alloc (.cells hzero 45)).drewN (1 + m2)).alloc (.cells hzero 45)).drewN m3) = W1 at H1 ⊢
              go_wp2_with (refine wpList_store_row rfl 45 (.tmp 6) _ rfl (w.heap.size + 1) _ rfl rfl _ _ H1.out.2.1 rinfo rfl (one5 _ _ _ _ _) ?_)
              refine NoPanic.normal ?_
              go_upto_region 16 with (fail)
              have H2 : Hid (HeadAt w (W1.setRow (w.heap.size + 1) #[.bool (decide (x / 16 % 2 = 1)), .bool (decide (x / 4 % 2 = 1)), .int .i64 (-1), .int .i64 (Q : Int), .int .i64 6]) (decide (x / 16 % 2 = 1)) (decide (x / 4 % 2 = 1)) (-1) Q 6) := Lib.hid H1.out.fill
              generalize W1.setRow _ _ = W2 at H2 ⊢
              clear H1
              by_cases c8 : x / 8 % 2 = 0
              · have HR := Lib.hid (HR.out.trans (if_pos c8))
                have hd : decide (x / 8 % 2 = 1) = false := by rw [c8]; rfl
                obtain ⟨e, he⟩ : ∃ e : Nat, e = 6 := ⟨_, rfl⟩
                have H3 := Lib.hid (show HeadAt w W2 (decide (x / 16 % 2 = 1)) (decide (x / 4 % 2 = 1)) (-1) Q e by rw [he]; exact H2.out)
                have HR := Lib.hid (show R = finQ s.data.toList x Q most e 0 by rw [he]; exact HR.out)
                have he4 : 4 ≤ e := by omega
                clear he H2
                go_upto_region 24 with (go_at_call 36; (with_reducible refine (rbit3 x _ hx).mono ?_); rintro e1 w1 ⟨rfl, rfl⟩; rw [hd])
                have HV : Hid (headV ⟨e + 1, most, x, Q, 0⟩ = .agg (headC (decide (x / 16 % 2 = 1)) (decide (x / 4 % 2 = 1)) (-1) Q (e + 1))) := Lib.hid (by
                  unfold headV onOf
                  simp only [hd]
                  rfl)
                generalize hW3 : W2 = W3 at H3 ⊢
                clear hW3 hd
                have HR := Lib.hid (show R = _ from HR.out)
                unfold finQ at HR
                by_cases hl : s.size ≤ e
                · have HR := Lib.hid (HR.out.trans (if_pos (by rw [list_size]; exact hl)))
                  have hl' : (s.size : Int) ≤ (e : Int) := by omega
                  have d4 := H3.out.four
                  go_wp2_with (first
                    | (refine wpList_store_row rfl 45 (.tmp 2) _ rfl w.heap.size _ rfl rfl _ _ H3.out.1 rinfo rfl (one5 _ _ _ _ _) ?_))
                  exact bodyPost_ret (rret _ _ w.heap.size _ _ rfl (H3.out.ret _) rfl) rfl (by obtain rfl := HR.out; exact ⟨H3.out.bel _, rfl⟩)
                · have HR := Lib.hid (HR.out.trans (if_neg (by rw [list_size]; exact hl)))
                  have hl' : ¬ (s.size : Int) ≤ (e : Int) := by omega
                  have d4 := H3.out.four
                  go_upto_region 26 with (fail)
                  clear d4
                  have d4 : ∀ z : Lat W3, z.val.cell? ⟨w.heap.size + 1, 4, none⟩ = some (.int .i64 (e : Int)) := fun z => (H3.out.later z.below).four
                  have ie : e < s.size := by omega
                  have hxe : s[e].toNat = at8 s.data.toList e := (at8_byte s e ie).symm
                  have k1 : (4 : Int) ≤ (e : Int) := by omega
                  obtain ⟨t, ht⟩ : ∃ t, t = s.extract 4 e := ⟨_, rfl⟩
                  have htl : t.data.toList = (s.data.toList.take e).drop 4 := by rw [ht]; simp [List.drop_take]
                  have hts : t.size ≤ 140737488351232 := by rw [ht]; simp; omega
                  obtain ⟨q, hq⟩ : ∃ q, q = hashN 0 t.data.toList := ⟨_, rfl⟩
                  have hq32 := hashN_lt 0 t.data.toList
                  rw [← hq] at hq32
                  have HSC : Hid (∀ z : Lat W3, Calls Try.prog 37 #[.string t, .int .i64 0] z.val fun e w' => e = .returned (.int .i64 (q : Int)) ∧ ∃ z' : Lat W3, w' = z'.val) := Lib.hid fun z => call_at (fun w' => by rw [hq]; exact RHash_any t 0 w' hts) z
                  have HR := Lib.hid (show R = _ by rw [HR.out, ← htl, ← hq])
                  have h255 := and255 (q / 256) (by omega)
                  rw [Int.natCast_ediv] at h255
                  have HT := Lib.hid ht; clear ht htl hq
                  have w64 : (0 : Int) ≤ (q : Int) / 256 := by omega
                  have hb8 := at8_lt s.data.toList e
                  have hw8 : wrap64 (s[e].toNat : Int) = (s[e].toNat : Int) := by rw [hxe]; exact wrap64_in _ (by omega) (by omega)
                  by_cases hqe : at8 s.data.toList e = q / 256 % 256
                  · have HR := Lib.hid (HR.out.trans (if_pos hqe))
                    have hqe' : (s[e].toNat : Int) = Go.bits .and .i64 ((q : Int) / 256) 255 := by rw [hxe, hqe]; exact h255.symm
                    have hbn : (Go.bits .and .i64 ((q : Int) / 256) 255 : Int) = (s[e].toNat : Int) := hqe'.symm
                    clear hxe h255 hqe'
                    refine QuietTail.wp_all (fun w' => ∃ z : Lat W3, w' = z.val) (by kernel_rfl) (by kernel_rfl) (LatOf.refl W3).drew ?_
                    iterate 13 (go_big_quiet_step (with_reducible (rw [← HT.out]; exact HSC.out _)))
                    refine wpQuiet_nil ?_
                    rintro _ ⟨zz, rfl⟩
                    have HZ := Lib.hid (H3.out.later zz.below)
                    have d4' := HZ.out.four
                    have f4' := HZ.out.free 4
                    clear d4
                    go_upto_region 29 with (fail)
                    have H5 := Lib.hid (show HeadAt w (zz.val.setCell ⟨w.heap.size + 1, 4, none⟩ (.int .i64 ((e : Int) + 1))) (decide (x / 16 % 2 = 1)) (decide (x / 4 % 2 = 1)) (-1) Q (e + 1) from HZ.out.end_ (e + 1))
                    clear d4' f4'
                    generalize zz.val.setCell _ _ = W5 at H5 ⊢
                    go_wp2_with (first
                      | (refine wpList_load_row rfl 45 (.tmp 6) rfl (w.heap.size + 1) rfl 45 _ _ _ H5.out.2.1 Try.underlying45 rfl rinfo ?_)
                      | (refine wpList_store_row rfl 45 (.tmp 2) _ rfl w.heap.size _ rfl rfl _ _ H5.out.1 rinfo rfl (one5 _ _ _ _ _) ?_))
                    exact bodyPost_ret (rret _ _ w.heap.size _ _ rfl (H5.out.ret _) rfl) rfl (by obtain rfl := HR.out; exact ⟨H5.out.bel _, by show Ending.returned (.tuple #[.agg _, .int .i64 0]) = Ending.returned (.tuple #[headV _, .int .i64 0]); rw [HV.out]⟩)
                  · have HR := Lib.hid (HR.out.trans (if_neg hqe))
                    have hqe' : ¬ (s[e].toNat : Int) = Go.bits .and .i64 ((q : Int) / 256) 255 := by rw [hxe]; intro h; exact hqe (Int.ofNat.inj (h.trans h255))
                    clear hxe h255
                    refine QuietTail.wp_all (fun w' => ∃ z : Lat W3, w' = z.val) (by kernel_rfl) (by kernel_rfl) (LatOf.refl W3).drew ?_
                    iterate 13 (go_big_quiet_step (with_reducible (rw [← HT.out]; exact HSC.out _)))
                    refine wpQuiet_nil ?_
                    rintro _ ⟨zz, rfl⟩
                    have HZ := Lib.hid (H3.out.later zz.below)
                    clear d4
                    go_wp2_with (first
                      | (refine wpList_store_row rfl 45 (.tmp 2) _ rfl w.heap.size _ rfl rfl _ _ HZ.out.1 rinfo rfl (one5 _ _ _ _ _) ?_))
                    exact bodyPost_ret (rret _ _ w.heap.size _ _ rfl (HZ.out.ret _) rfl) rfl (by obtain rfl := HR.out; exact ⟨HZ.out.bel _, rfl⟩)
              · have HR := Lib.hid (HR.out.trans (if_neg c8))
                have hd : decide (x / 8 % 2 = 1) = true := by rw [decide_eq_true_iff]; omega
                obtain ⟨z6, hz6⟩ : ∃ z, z = s.extract 6 s.size := ⟨_, rfl⟩
                have z6s : z6.size = s.size - 6 := by rw [hz6]; simp
                have z6l : z6.data.toList = s.data.toList.drop 6 := by rw [hz6]; simp [List.take_of_length_le]
                have z6b : z6.size ≤ 140737488351232 := by omega
                have HZ6 := Lib.hid hz6; clear hz6
                have hf : fixedN z6.data.toList 8 = if s.size < 14 then (0, 5) else if 9223372036854775808 ≤ leN (s.data.toList.drop 6) 8 then (0, 10) else (leN (s.data.toList.drop 6) 8, 0) := by
                  unfold fixedN
                  rw [list_size, z6s, z6l]
                  by_cases h14 : s.size < 14
                  · rw [if_pos h14, if_pos (by omega)]
                  · rw [if_neg h14, if_neg (by omega)]
                generalize leN (s.data.toList.drop 6) 8 = v at hf HR
                by_cases h14 : s.size < 14
                · have HR := Lib.hid (HR.out.trans (if_pos h14))
                  rw [if_pos h14] at hf
                  have HF := Lib.hid hf; clear hf
                  go_wp2_with (first
                    | (go_at_call 36; (with_reducible refine (rbit3 x _ hx).mono ?_); rintro e1 w1 ⟨rfl, rfl⟩; rw [hd])
                    | (go_at_call 14; rw [← HZ6.out]; (with_reducible refine (rfixed_at z6 8 8 _ rfl z6b (by decide) (by decide)).mono ?_); rintro e1 w1 ⟨rfl, rfl⟩; rw [HF.out])
                    | (refine wpList_store_row rfl 45 (.tmp 2) _ rfl w.heap.size _ rfl rfl _ _ H2.out.1 rinfo rfl (one5 _ _ _ _ _) ?_))
                  exact bodyPost_ret (rret _ _ w.heap.size _ _ rfl (H2.out.ret _) rfl) rfl (by obtain rfl := HR.out; exact ⟨H2.out.bel _, rfl⟩)
                · have HR := Lib.hid (HR.out.trans (if_neg h14))
                  rw [if_neg h14] at hf
                  by_cases v1 : 9223372036854775808 ≤ v
                  · have HR := Lib.hid (HR.out.trans (if_pos (by omega)))
                    rw [if_pos v1] at hf
                    have HF := Lib.hid hf; clear hf
                    go_wp2_with (first
                      | (go_at_call 36; (with_reducible refine (rbit3 x _ hx).mono ?_); rintro e1 w1 ⟨rfl, rfl⟩; rw [hd])
                      | (go_at_call 14; rw [← HZ6.out]; (with_reducible refine (rfixed_at z6 8 8 _ rfl z6b (by decide) (by decide)).mono ?_); rintro e1 w1 ⟨rfl, rfl⟩; rw [HF.out])
                      | (refine wpList_store_row rfl 45 (.tmp 2) _ rfl w.heap.size _ rfl rfl _ _ H2.out.1 rinfo rfl (one5 _ _ _ _ _) ?_))
                    exact bodyPost_ret (rret _ _ w.heap.size _ _ rfl (H2.out.ret _) rfl) rfl (by obtain rfl := HR.out; exact ⟨H2.out.bel _, rfl⟩)
                  · rw [if_neg v1] at hf
                    have HF := Lib.hid hf; clear hf
                    by_cases v2 : 4611686018427387904 < v
                    · have HR := Lib.hid (HR.out.trans (if_pos v2))
                      have v2' : (4611686018427387904 : Int) < (v : Int) := by omega
                      go_wp2_with (first
                        | (go_at_call 36; (with_reducible refine (rbit3 x _ hx).mono ?_); rintro e1 w1 ⟨rfl, rfl⟩; rw [hd])
                        | (go_at_call 14; rw [← HZ6.out]; (with_reducible refine (rfixed_at z6 8 8 _ rfl z6b (by decide) (by decide)).mono ?_); rintro e1 w1 ⟨rfl, rfl⟩; rw [HF.out])
                        | (refine wpList_store_row rfl 45 (.tmp 2) _ rfl w.heap.size _ rfl rfl _ _ H2.out.1 rinfo rfl (one5 _ _ _ _ _) ?_))
                      exact bodyPost_ret (rret _ _ w.heap.size _ _ rfl (H2.out.ret _) rfl) rfl (by obtain rfl := HR.out; exact ⟨H2.out.bel _, rfl⟩)
                    · have HR := Lib.hid (HR.out.trans (if_neg v2))
                      have v2' : ¬ (4611686018427387904 : Int) < (v : Int) := by omega
                      obtain ⟨e, he⟩ : ∃ e : Nat, e = 14 := ⟨_, rfl⟩
                      have H3 := Lib.hid (show HeadAt w ((W2.setCell ⟨w.heap.size + 1, 2, none⟩ (.int .i64 (v : Int))).setCell ⟨w.heap.size + 1, 4, none⟩ (.int .i64 14)) (decide (x / 16 % 2 = 1)) (decide (x / 4 % 2 = 1)) (v : Int) Q e by rw [he]; exact (H2.out.size_ _).end_ 14)
                      have HR := Lib.hid (show R = finQ s.data.toList x Q most e v by rw [he]; exact HR.out)
                      have he4 : 4 ≤ e := by omega
                      have f2 := H2.out.free 2
                      have f4 := (H2.out.size_ (v : Int)).free 4
                      have c2 : W2.cell? ⟨w.heap.size + 1, 2, none⟩ = some (.int .i64 (-1)) := (cell_of_row W2 _ 2 _ _ _ H2.out.2.1).trans rfl
                      have c4 : (W2.setCell ⟨w.heap.size + 1, 2, none⟩ (.int .i64 (v : Int))).cell? ⟨w.heap.size + 1, 4, none⟩ = some (.int .i64 6) := (H2.out.size_ (v : Int)).four
                      clear he
                      go_upto_region 24 with (first
                        | (go_at_call 36; (with_reducible refine (rbit3 x _ hx).mono ?_); rintro e1 w1 ⟨rfl, rfl⟩; rw [hd])
                        | (go_at_call 14; rw [← HZ6.out]; (with_reducible refine (rfixed_at z6 8 8 _ rfl z6b (by decide) (by decide)).mono ?_); rintro e1 w1 ⟨rfl, rfl⟩; rw [HF.out]))
                      have HV : Hid (headV ⟨e + 1, most, x, Q, v⟩ = .agg (headC (decide (x / 16 % 2 = 1)) (decide (x / 4 % 2 = 1)) (v : Int) Q (e + 1))) := Lib.hid (by
                        unfold headV onOf
                        simp only [hd]
                        rfl)
                      clear f2 f4 c2 c4
                      generalize (W2.setCell _ _).setCell _ _ = W3 at H3 ⊢
                      clear H2 hd
                      have HR := Lib.hid (show R = _ from HR.out)
                      unfold finQ at HR
                      by_cases hl : s.size ≤ e
                      · have HR := Lib.hid (HR.out.trans (if_pos (by rw [list_size]; exact hl)))
                        have hl' : (s.size : Int) ≤ (e : Int) := by omega
                        have d4 := H3.out.four
                        go_wp2_with (first
                          | (refine wpList_store_row rfl 45 (.tmp 2) _ rfl w.heap.size _ rfl rfl _ _ H3.out.1 rinfo rfl (one5 _ _ _ _ _) ?_))
                        exact bodyPost_ret (rret _ _ w.heap.size _ _ rfl (H3.out.ret _) rfl) rfl (by obtain rfl := HR.out; exact ⟨H3.out.bel _, rfl⟩)
                      · have HR := Lib.hid (HR.out.trans (if_neg (by rw [list_size]; exact hl)))
                        have hl' : ¬ (s.size : Int) ≤ (e : Int) := by omega
                        have d4 := H3.out.four
                        go_upto_region 26 with (fail)
                        clear d4
                        have d4 : ∀ z : Lat W3, z.val.cell? ⟨w.heap.size + 1, 4, none⟩ = some (.int .i64 (e : Int)) := fun z => (H3.out.later z.below).four
                        have ie : e < s.size := by omega
                        have hxe : s[e].toNat = at8 s.data.toList e := (at8_byte s e ie).symm
                        have k1 : (4 : Int) ≤ (e : Int) := by omega
                        obtain ⟨t, ht⟩ : ∃ t, t = s.extract 4 e := ⟨_, rfl⟩
                        have htl : t.data.toList = (s.data.toList.take e).drop 4 := by rw [ht]; simp [List.drop_take]
                        have hts : t.size ≤ 140737488351232 := by rw [ht]; simp; omega
                        obtain ⟨q, hq⟩ : ∃ q, q = hashN 0 t.data.toList := ⟨_, rfl⟩
                        have hq32 := hashN_lt 0 t.data.toList
                        rw [← hq] at hq32
                        have HSC : Hid (∀ z : Lat W3, Calls Try.prog 37 #[.string t, .int .i64 0] z.val fun e w' => e = .returned (.int .i64 (q : Int)) ∧ ∃ z' : Lat W3, w' = z'.val) := Lib.hid fun z => call_at (fun w' => by rw [hq]; exact RHash_any t 0 w' hts) z
                        have HR := Lib.hid (show R = _ by rw [HR.out, ← htl, ← hq])
                        have h255 := and255 (q / 256) (by omega)
                        rw [Int.natCast_ediv] at h255
                        have HT := Lib.hid ht; clear ht htl hq
                        have w64 : (0 : Int) ≤ (q : Int) / 256 := by omega
                        have hb8 := at8_lt s.data.toList e
                        have hw8 : wrap64 (s[e].toNat : Int) = (s[e].toNat : Int) := by rw [hxe]; exact wrap64_in _ (by omega) (by omega)
                        by_cases hqe : at8 s.data.toList e = q / 256 % 256
                        · have HR := Lib.hid (HR.out.trans (if_pos hqe))
                          have hqe' : (s[e].toNat : Int) = Go.bits .and .i64 ((q : Int) / 256) 255 := by rw [hxe, hqe]; exact h255.symm
                          have hbn : (Go.bits .and .i64 ((q : Int) / 256) 255 : Int) = (s[e].toNat : Int) := hqe'.symm
                          clear hxe h255 hqe'
                          refine QuietTail.wp_all (fun w' => ∃ z : Lat W3, w' = z.val) (by kernel_rfl) (by kernel_rfl) (LatOf.refl W3).drew ?_
                          iterate 13 (go_big_quiet_step (with_reducible (rw [← HT.out]; exact HSC.out _)))
                          refine wpQuiet_nil ?_
                          rintro _ ⟨zz, rfl⟩
                          have HZ := Lib.hid (H3.out.later zz.below)
                          have d4' := HZ.out.four
                          have f4' := HZ.out.free 4
                          clear d4
                          go_upto_region 29 with (fail)
                          have H5 := Lib.hid (show HeadAt w (zz.val.setCell ⟨w.heap.size + 1, 4, none⟩ (.int .i64 ((e : Int) + 1))) (decide (x / 16 % 2 = 1)) (decide (x / 4 % 2 = 1)) (v : Int) Q (e + 1) from HZ.out.end_ (e + 1))
                          clear d4' f4'
                          generalize zz.val.setCell _ _ = W5 at H5 ⊢
                          go_wp2_with (first
                            | (refine wpList_load_row rfl 45 (.tmp 6) rfl (w.heap.size + 1) rfl 45 _ _ _ H5.out.2.1 Try.underlying45 rfl rinfo ?_)
                            | (refine wpList_store_row rfl 45 (.tmp 2) _ rfl w.heap.size _ rfl rfl _ _ H5.out.1 rinfo rfl (one5 _ _ _ _ _) ?_))
                          exact bodyPost_ret (rret _ _ w.heap.size _ _ rfl (H5.out.ret _) rfl) rfl (by obtain rfl := HR.out; exact ⟨H5.out.bel _, by show Ending.returned (.tuple #[.agg _, .int .i64 0]) = Ending.returned (.tuple #[headV _, .int .i64 0]); rw [HV.out]⟩)
                        · have HR := Lib.hid (HR.out.trans (if_neg hqe))
                          have hqe' : ¬ (s[e].toNat : Int) = Go.bits .and .i64 ((q : Int) / 256) 255 := by rw [hxe]; intro h; exact hqe (Int.ofNat.inj (h.trans h255))
                          clear hxe h255
                          refine QuietTail.wp_all (fun w' => ∃ z : Lat W3, w' = z.val) (by kernel_rfl) (by kernel_rfl) (LatOf.refl W3).drew ?_
                          iterate 13 (go_big_quiet_step (with_reducible (rw [← HT.out]; exact HSC.out _)))
                          refine wpQuiet_nil ?_
                          rintro _ ⟨zz, rfl⟩
                          have HZ := Lib.hid (H3.out.later zz.below)
                          clear d4
                          go_wp2_with (first
                            | (refine wpList_store_row rfl 45 (.tmp 2) _ rfl w.heap.size _ rfl rfl _ _ HZ.out.1 rinfo rfl (one5 _ _ _ _ _) ?_))
                          exact bodyPost_ret (rret _ _ w.heap.size _ _ rfl (HZ.out.ret _) rfl) rfl (by obtain rfl := HR.out; exact ⟨HZ.out.bel _, rfl⟩)
end Go.Proofs.Ytipadidfiffkjaa
