/- frame.Unpack: the six steps, one behind the other. -/
import Derived.Test.YtipadidfiffkjaaFrEnds
import Derived.LoopN
import Derived.OwnWalk
namespace Go.Proofs.Ytipadidfiffkjaa
open Go.RowKit Go.PostSums Go.PostMem
theorem hmf (fn : Fn) (first cap : Array Value) (w : World) : (Instr.makeFunc fn first cap).run Try.prog w = .ok (.func fn first cap) w := rfl
def stepV (b k : Nat) : Value := .func (.func k) #[.pointer (some ⟨b, 0, none⟩)] #[]
def Six (w : World) (b c : Nat) : Prop := w.heap[c]? = some (.cells #[stepV b 15, stepV b 16, stepV b 17, stepV b 18, stepV b 19, stepV b 20] 41 (0, 0))
theorem Six.kept {w w' : World} {b c B : Nat} (h : Six w b c) (hk : Kept b B w w') (h1 : c < B) (h2 : c ≠ b) : Six w' b c :=
  (hk.block c (heap_lt h) h1 h2).trans h
theorem Six.cells {w : World} {b c : Nat} (h : Six w b c) :
    w.cell? ⟨c, 0, none⟩ = some (.func (.func 15) #[.pointer (some ⟨b, 0, none⟩)] #[]) ∧ w.cell? ⟨c, 1, none⟩ = some (.func (.func 16) #[.pointer (some ⟨b, 0, none⟩)] #[]) ∧
    w.cell? ⟨c, 2, none⟩ = some (.func (.func 17) #[.pointer (some ⟨b, 0, none⟩)] #[]) ∧ w.cell? ⟨c, 3, none⟩ = some (.func (.func 18) #[.pointer (some ⟨b, 0, none⟩)] #[]) ∧
    w.cell? ⟨c, 4, none⟩ = some (.func (.func 19) #[.pointer (some ⟨b, 0, none⟩)] #[]) ∧ w.cell? ⟨c, 5, none⟩ = some (.func (.func 20) #[.pointer (some ⟨b, 0, none⟩)] #[]) := by
  refine ⟨?_, ?_, ?_, ?_, ?_, ?_⟩ <;> exact (cell_of_row w c _ _ _ _ h).trans rfl
theorem beginsR_ok {l : List UInt8} {f g : FSt} (h : beginsR l f = .ok g) : g = { f with a := f.a + 4 } ∧ f.a + 4 ≤ l.length := by
  unfold beginsR at h
  split at h
  · cases h
  · split at h
    · cases h; exact ⟨rfl, by omega⟩
    · cases h
theorem beginsR_err {l : List UInt8} {f : FSt} {c : Nat} (h : beginsR l f = .error c) : c ≠ 0 := by
  unfold beginsR at h
  split at h
  · cases h; decide
  · split at h <;> cases h; decide
theorem flagsR_ok {l : List UInt8} {f g : FSt} (h : flagsR l f = .ok g) : g = { f with a := f.a + 1, flag := at8 l f.a } ∧ f.a + 1 ≤ l.length := by
  unfold flagsR at h
  split at h
  · cases h
  · split at h
    · cases h
    · cases h; exact ⟨rfl, by omega⟩
theorem flagsR_err {l : List UInt8} {f : FSt} {c : Nat} (h : flagsR l f = .error c) : c ≠ 0 := by
  unfold flagsR at h
  split at h
  · cases h; decide
  · split at h <;> cases h; decide
theorem sizesR_ok {l : List UInt8} {f g : FSt} (h : sizesR l f = .ok g) : f.a ≤ g.a ∧ g.a ≤ l.length ∧ g.flag = f.flag ∧ g.most = f.most ∧ g.room ≤ 4194304 := by
  unfold sizesR at h
  have hr : ∀ k, k ≤ 7 → 2 ^ (8 + 2 * k) ≤ 4194304 := fun k hk => Nat.le_trans (Nat.pow_le_pow_right (by decide) (show 8 + 2 * k ≤ 22 by omega)) (by decide)
  split at h
  · cases h
  · split at h
    · cases h
    · rename_i h1 h2
      have := hr (at8 l f.a / 16) (by omega)
      split at h
      · cases h
        exact ⟨by simp, by simp; omega, rfl, rfl, this⟩
      · split at h
        · cases h
        · split at h
          · cases h
          · cases h; exact ⟨by simp, by simp; omega, rfl, rfl, this⟩
theorem sizesR_err {l : List UInt8} {f : FSt} {c : Nat} (h : sizesR l f = .error c) : c ≠ 0 := by
  unfold sizesR at h
  split at h
  · cases h; decide
  · split at h
    · cases h; decide
    · split at h
      · cases h
      · split at h
        · cases h; decide
        · split at h <;> cases h; decide
theorem headedR_ok {l : List UInt8} {f g : FSt} (h : headedR l f = .ok g) : g = { f with a := f.a + 1 } ∧ f.a + 1 ≤ l.length := by
  unfold headedR at h
  split at h
  · cases h
  · split at h
    · cases h; exact ⟨rfl, by omega⟩
    · cases h
theorem headedR_err {l : List UInt8} {f : FSt} {c : Nat} (h : headedR l f = .error c) : c ≠ 0 := by
  unfold headedR at h
  split at h
  · cases h; decide
  · split at h <;> cases h; decide
theorem summedR_err {l : List UInt8} {on : Bool} {t : List UInt8} {f : FSt} {c : Nat} (h : summedR l on t f = .error c) : c ≠ 0 := by
  unfold summedR at h
  split at h
  · split at h
    · cases h; decide
    · split at h <;> cases h; decide
  · cases h
theorem endsR_err {l : List UInt8} {out : List UInt8} {f : FSt} {c : Nat} (h : endsR l out f = .error c) : c ≠ 0 := by
  unfold endsR at h
  split at h
  · cases h; decide
  · exact summedR_err h
/-- what a whole frame answers -/
def frameR (s : List UInt8) (most : Nat) : Except Nat (List UInt8 × Nat) :=
  match beginsR s ⟨0, most, 0, 0, 0⟩ with
  | .error c => .error c
  | .ok f1 => match flagsR s f1 with
    | .error c => .error c
    | .ok f2 => match sizesR s f2 with
      | .error c => .error c
      | .ok f3 => match headedR s f3 with
        | .error c => .error c
        | .ok f4 => match blocksR s f4.room f4.most (onOf f4 16) f4.a [] with
          | .error c => .error c
          | .ok (a, out) => match endsR s out { f4 with a := a } with
            | .error c => .error c
            | .ok f6 => .ok (out, f6.a)
def frameA : Except Nat (List UInt8 × Nat) → List UInt8 × Nat × Nat
  | .ok (t, n) => (t, n, 0)
  | .error c => ([], 0, c)
def frUnpack (s : List UInt8) (most : Int) : List UInt8 × Nat × Nat :=
  if most < 0 ∨ 1048576 < most then ([], 0, 1) else frameA (frameR s most.toNat)
def UnpP (r : List UInt8 × Nat × Nat) (w : World) (e : Ending) (w' : World) : Prop :=
  e = .returned (.tuple #[.string (strOf r.1), .int .i64 (r.2.1 : Int), .int .i64 (r.2.2 : Int)]) ∧ Below w.heap.size w w'
/-- later worlds in which the frame stands as it is -/
structure LatF (B b : Nat) (s : ByteArray) (f : FSt) (l : List UInt8) (w : World) where
  val : World
  fr : Fr val B b s f l
  kept : Kept b B w val
theorem string_lat {B b : Nat} {s : ByteArray} {f : FSt} {l : List UInt8} {w : World} (hBw : B ≤ w.heap.size) (z : LatF B b s f l w) :
    Calls Try.prog 21 #[.pointer (some ⟨b, 6, none⟩)] z.val fun e w' => e = .returned (.string (strOf l)) ∧ ∃ y : LatF B b s f l w, w' = y.val := by
  refine (fstring_any B b s f l z.val z.fr (Nat.le_trans hBw z.kept.size)).mono ?_
  rintro e w' ⟨rfl, h1, h2⟩
  exact ⟨rfl, ⟨w', h1, z.kept.trans h2⟩, rfl⟩
theorem Below.of_kept {b : Nat} {u v w : World} (h : Below u.heap.size u v) (hb : u.heap.size ≤ b) (hv : b + 2 = v.heap.size) (k : Kept b (b + 2) v w) : Below u.heap.size u w :=
  h.trans ⟨k.os, k.tape, k.output, k.size, fun i hi => k.block i (Nat.lt_of_lt_of_le hi h.size) (by omega) (by omega)⟩
set_option maxRecDepth 100000 in
set_option maxHeartbeats 1600000 in
theorem FUnpack_in (s : ByteArray) (most : Nat) (w : World) (hs : s.size ≤ 140737488351232) (hm : most ≤ 1048576) :
    Calls Try.prog 10 #[.string s, .int .i64 (most : Int)] w (UnpP (frameA (frameR s.data.toList most)) w) := by
  have hmf' := hmf
  have m0 : ¬ (most : Int) < 0 := by omega
  have m1 : ¬ (1048576 : Int) < (most : Int) := by omega
  have hz : s.data.toList.length = s.size := list_size s
  obtain ⟨b, hb⟩ : ∃ b, b = w.heap.size := ⟨_, rfl⟩
  obtain ⟨R, hR⟩ : ∃ R, R = frameR s.data.toList most := ⟨_, rfl⟩
  rw [← hR]
  have HR := Lib.hid hR; clear hR
  go_enter Try.func10, Try.ntmps10
  go_wp2_with fail
  rw [← hb]
  have H0 : Hid (∀ W, W = ((w.alloc (.cells #[.string s, .int .i64 0, .int .i64 (most : Int), .int .u8 0, .int .i64 0, .int .i64 0, .pointer none, .slice none 0 0] 40)).alloc
      (.cells #[stepV b 15, stepV b 16, stepV b 17, stepV b 18, stepV b 19, stepV b 20] 41)) →
      Fr W (b + 2) b s ⟨0, most, 0, 0, 0⟩ [] ∧ Six W b (b + 1) ∧ Below w.heap.size w W ∧ b + 2 = W.heap.size) := Lib.hid (by
    rintro W rfl
    subst hb
    refine ⟨⟨.pointer none, .slice none 0 0, ?_, .pointer none, .slice none 0 0, rfl, .inl rfl, rfl, World.ownsRowF_nil _ _ _ _⟩, ?_, ((Below.refl _ w).alloc (Nat.le_refl _) _).alloc (by simp) _, ?_⟩
    · show ((w.heap.push _).push _)[w.heap.size]? = some _
      rw [Array.getElem?_push_lt (by simp)]
      simp
    · show ((w.heap.push _).push _)[w.heap.size + 1]? = some _
      have : w.heap.size + 1 = (w.heap.push (Obj.cells #[.string s, .int .i64 0, .int .i64 (most : Int), .int .u8 0, .int .i64 0, .int .i64 0, .pointer none, .slice none 0 0] 40)).size := by simp
      rw [this, Array.getElem?_push_size]
    · simp)
  unfold stepV at H0
  obtain ⟨hF0, h60, hB0, hz0⟩ := H0.out _ rfl
  clear H0
  generalize (w.alloc _).alloc _ = W0 at hF0 h60 hB0 hz0 ⊢
  have HF0 := Lib.hid hF0; have H60 := Lib.hid h60; have HB0 := Lib.hid hB0; have HZ0 := Lib.hid hz0; have HBB := Lib.hid hb
  have H2 : b + 2 ≤ W0.heap.size := Nat.le_of_eq hz0
  have hbl : w.heap.size ≤ b := Nat.le_of_eq hb.symm
  clear hF0 hB0 hz0 hb
  refine wp_loop_rounds 7 ?_
  have HS0 : Hid (b + 2 ≤ W0.heap.size) := Lib.hid H2
  have HK0 : Hid (Kept b (b + 2) W0 W0) := Lib.hid (Kept.refl _ _ _)
  clear H2 h60
  have hc := H60.out.cells.1
  rw [rounds_succ]
  go_wp2_with fail
  clear hc
  (with_reducible refine (begins_any (b + 2) b s _ [] _ HF0.out hs (Nat.zero_le _)).mono ?_)
  rintro e w1 ⟨hk1, hp⟩
  have HK1 := Lib.hid (HK0.out.trans hk1)
  have H61 := Lib.hid (H60.out.kept hk1 (by omega) (by omega))
  have HS1 := Lib.hid (Nat.le_trans HS0.out hk1.size)
  clear hk1
  cases h1 : beginsR s.data.toList ⟨0, most, 0, 0, 0⟩ with
  | error c =>
    rw [h1] at hp
    simp only at hp
    subst hp
    have c0 : ((c : Int) != 0) = true := bne_iff_ne.2 (by have := beginsR_err h1; omega)
    have HE : Hid (R = .error c) := Lib.hid (by rw [HR.out]; unfold frameR; simp only [h1])
    clear h1
    go_wp2_with fail
    go_ret3
    rw [HE.out]
    exact ⟨rfl, Below.of_kept HB0.out hbl HZ0.out HK1.out⟩
  | ok f1 =>
    rw [h1] at hp
    obtain ⟨rfl, hF1⟩ := hp
    have HF1 := Lib.hid hF1
    clear hF1
    obtain ⟨q1, a1⟩ := beginsR_ok h1
    rw [hz] at a1
    have a1' : f1.a ≤ s.size := by rw [q1]; exact a1
    have m1' : f1.most = most := by rw [q1]
    have r1 : 4 ≤ f1.a := by rw [q1]; exact Nat.le_refl _
    clear q1 a1
    go_wp2_with fail
    have hc := H61.out.cells.2.1
    rw [rounds_succ]
    go_wp2_with fail
    clear hc
    (with_reducible refine (flags_any (b + 2) b s f1 [] _ HF1.out hs a1').mono ?_)
    rintro e w2 ⟨hk2, hp⟩
    have HK2 := Lib.hid (HK1.out.trans hk2)
    have H62 := Lib.hid (H61.out.kept hk2 (by omega) (by omega))
    have HS2 := Lib.hid (Nat.le_trans HS1.out hk2.size)
    clear hk2
    cases h2 : flagsR s.data.toList f1 with
    | error c =>
      rw [h2] at hp
      simp only at hp
      subst hp
      have c0 : ((c : Int) != 0) = true := bne_iff_ne.2 (by have := flagsR_err h2; omega)
      have HE : Hid (R = .error c) := Lib.hid (by rw [HR.out]; unfold frameR; simp only [h1, h2])
      clear h2
      go_wp2_with fail
      go_ret3
      rw [HE.out]
      exact ⟨rfl, Below.of_kept HB0.out hbl HZ0.out HK2.out⟩
    | ok f2 =>
      rw [h2] at hp
      obtain ⟨rfl, hF2⟩ := hp
      have HF2 := Lib.hid hF2
      clear hF2
      obtain ⟨q2, a2⟩ := flagsR_ok h2
      rw [hz] at a2
      have a2' : f2.a ≤ s.size := by rw [q2]; exact a2
      have m2' : f2.most = most := by rw [q2]; exact m1'
      have r2 : 4 ≤ f2.a := by rw [q2]; exact Nat.le_trans r1 (Nat.le_succ _)
      have g2 : f2.flag < 256 := by rw [q2]; exact at8_lt _ _
      clear q2 a2
      go_wp2_with fail
      have hc := H62.out.cells.2.2.1
      rw [rounds_succ]
      go_wp2_with fail
      clear hc
      (with_reducible refine (sizes_any (b + 2) b s f2 [] _ HF2.out hs a2' g2).mono ?_)
      rintro e w3 ⟨hk3, hp⟩
      have HK3 := Lib.hid (HK2.out.trans hk3)
      have H63 := Lib.hid (H62.out.kept hk3 (by omega) (by omega))
      have HS3 := Lib.hid (Nat.le_trans HS2.out hk3.size)
      clear hk3
      cases h3 : sizesR s.data.toList f2 with
      | error c =>
        rw [h3] at hp
        simp only at hp
        subst hp
        have c0 : ((c : Int) != 0) = true := bne_iff_ne.2 (by have := sizesR_err h3; omega)
        have HE : Hid (R = .error c) := Lib.hid (by rw [HR.out]; unfold frameR; simp only [h1, h2, h3])
        clear h3
        go_wp2_with fail
        go_ret3
        rw [HE.out]
        exact ⟨rfl, Below.of_kept HB0.out hbl HZ0.out HK3.out⟩
      | ok f3 =>
        rw [h3] at hp
        obtain ⟨rfl, hF3⟩ := hp
        have HF3 := Lib.hid hF3
        clear hF3
        obtain ⟨k3, a3', g3, m3, o3⟩ := sizesR_ok h3
        rw [hz] at a3'
        rw [← g3] at g2
        rw [← m3] at m2'
        have r3 : 4 ≤ f3.a := Nat.le_trans r2 k3
        clear k3 g3 m3
        go_wp2_with fail
        have hc := H63.out.cells.2.2.2.1
        rw [rounds_succ]
        go_wp2_with fail
        clear hc
        (with_reducible refine (headed_any (b + 2) b s f3 [] _ HF3.out hs a3' r3 HS3.out).mono ?_)
        rintro e w4 ⟨hk4, hp⟩
        have HK4 := Lib.hid (HK3.out.trans hk4)
        have H64 := Lib.hid (H63.out.kept hk4 (by omega) (by omega))
        have HS4 := Lib.hid (Nat.le_trans HS3.out hk4.size)
        clear hk4
        cases h4 : headedR s.data.toList f3 with
        | error c =>
          rw [h4] at hp
          simp only at hp
          subst hp
          have c0 : ((c : Int) != 0) = true := bne_iff_ne.2 (by have := headedR_err h4; omega)
          have HE : Hid (R = .error c) := Lib.hid (by rw [HR.out]; unfold frameR; simp only [h1, h2, h3, h4])
          clear h4
          go_wp2_with fail
          go_ret3
          rw [HE.out]
          exact ⟨rfl, Below.of_kept HB0.out hbl HZ0.out HK4.out⟩
        | ok f4 =>
          rw [h4] at hp
          obtain ⟨rfl, hF4⟩ := hp
          have HF4 := Lib.hid hF4
          clear hF4
          obtain ⟨q4, a4⟩ := headedR_ok h4
          rw [hz] at a4
          have a4' : f4.a ≤ s.size := by rw [q4]; exact a4
          have m4' : f4.most = most := by rw [q4]; exact m2'
          have g4 : f4.flag < 256 := by rw [q4]; exact g2
          have o4 : f4.room ≤ 4194304 := by rw [q4]; exact o3
          clear q4 a4
          go_wp2_with fail
          have hc := H64.out.cells.2.2.2.2.1
          rw [rounds_succ]
          go_wp2_with fail
          clear hc
          (with_reducible refine (blocks_any (b + 2) b s f4 [] _ HF4.out hs a4' g4 o4 (by rw [m4']; exact hm) (Nat.zero_le _) HS4.out).mono ?_)
          rintro e w5 ⟨hk5, hp⟩
          have HK5 := Lib.hid (HK4.out.trans hk5)
          have H65 := Lib.hid (H64.out.kept hk5 (by omega) (by omega))
          have HS5 := Lib.hid (Nat.le_trans HS4.out hk5.size)
          clear hk5
          cases h5 : blocksR s.data.toList f4.room f4.most (onOf f4 16) f4.a [] with
          | error c =>
            rw [h5] at hp
            simp only at hp
            obtain ⟨rfl, hcn⟩ := hp
            have c0 : ((c : Int) != 0) = true := bne_iff_ne.2 (by omega)
            have HE : Hid (R = .error c) := Lib.hid (by rw [HR.out]; unfold frameR; simp only [h1, h2, h3, h4, h5])
            clear h5
            go_wp2_with fail
            go_ret3
            rw [HE.out]
            exact ⟨rfl, Below.of_kept HB0.out hbl HZ0.out HK5.out⟩
          | ok x =>
            obtain ⟨a5, out⟩ := x
            rw [h5] at hp
            simp only at hp
            obtain ⟨rfl, hF5, a5', ho5⟩ := hp
            have HF5 := Lib.hid hF5
            clear hF5
            go_wp2_with fail
            have hc := H65.out.cells.2.2.2.2.2
            rw [rounds_succ]
            go_wp2_with fail
            clear hc
            (with_reducible refine (ends_any (b + 2) b s _ out _ HF5.out hs a5' g4 (by rw [m4'] at ho5; omega) HS5.out).mono ?_)
            rintro e w6 ⟨hk6, hp⟩
            have HK6 := Lib.hid (HK5.out.trans hk6)
            have HS6 := Lib.hid (Nat.le_trans HS5.out hk6.size)
            clear hk6
            cases h6 : endsR s.data.toList out { f4 with a := a5 } with
            | error c =>
              rw [h6] at hp
              simp only at hp
              subst hp
              have c0 : ((c : Int) != 0) = true := bne_iff_ne.2 (by have := endsR_err h6; omega)
              have HE : Hid (R = .error c) := Lib.hid (by rw [HR.out]; unfold frameR; simp only [h1, h2, h3, h4, h5, h6])
              clear h6
              go_wp2_with fail
              go_ret3
              rw [HE.out]
              exact ⟨rfl, Below.of_kept HB0.out hbl HZ0.out HK6.out⟩
            | ok f6 =>
              rw [h6] at hp
              obtain ⟨rfl, hF6⟩ := hp
              have HE : Hid (R = .ok (out, f6.a)) := Lib.hid (by rw [HR.out]; unfold frameR; simp only [h1, h2, h3, h4, h5, h6])
              have HF6 := Lib.hid hF6
              clear hF6 h6
              go_wp2_with fail
              rw [rounds_succ]
              go_wp2_with fail
              have d1 : ∀ z : LatF (b + 2) b s f6 out w6, z.val.cell? ⟨b, 1, none⟩ = some (.int .i64 (f6.a : Int)) := fun z => z.fr.cells.2.1
              have HSL : Hid (∀ z : LatF (b + 2) b s f6 out w6, Calls Try.prog 21 #[.pointer (some ⟨b, 6, none⟩)] z.val fun e w' => e = .returned (.string (strOf out)) ∧ ∃ y : LatF (b + 2) b s f6 out w6, w' = y.val) := Lib.hid fun z => string_lat HS6.out z
              haveI : Nonempty (LatF (b + 2) b s f6 out w6) := ⟨⟨w6, HF6.out, Kept.refl _ _ _⟩⟩
              refine QuietTail.wp_all (fun w' => ∃ z : LatF (b + 2) b s f6 out w6, w' = z.val) (by kernel_rfl) (by kernel_rfl) ⟨⟨w6.drew, HF6.out, ⟨rfl, rfl, rfl, Nat.le_refl _, fun _ _ _ _ => rfl⟩⟩, rfl⟩ ?_
              iterate 11 (go_big_quiet_step (with_reducible exact HSL.out _))
              refine wpQuiet_nil ?_
              rintro _ ⟨zz, rfl⟩
              go_wp2_with fail
              go_ret3
              rw [HE.out]
              exact ⟨rfl, Below.of_kept HB0.out hbl HZ0.out (HK6.out.trans zz.kept)⟩
set_option maxRecDepth 100000 in
set_option maxHeartbeats 1600000 in
theorem FUnpack_any (s : ByteArray) (most : Int) (w : World) (hs : s.size ≤ 140737488351232) :
    Calls Try.prog 10 #[.string s, .int .i64 most] w (UnpP (frUnpack s.data.toList most) w) := by
  unfold frUnpack
  by_cases h0 : most < 0
  · rw [if_pos (.inl h0)]
    go_enter Try.func10, Try.ntmps10
    go_wp2_with fail
    go_ret3
    exact ⟨rfl, Below.refl _ _⟩
  · by_cases h1 : 1048576 < most
    · rw [if_pos (.inr h1)]
      go_enter Try.func10, Try.ntmps10
      go_wp2_with fail
      go_ret3
      exact ⟨rfl, Below.refl _ _⟩
    · rw [if_neg (by omega)]
      have e : most = (most.toNat : Int) := by omega
      have := FUnpack_in s most.toNat w hs (by omega)
      rw [← e] at this
      exact this
end Go.Proofs.Ytipadidfiffkjaa
