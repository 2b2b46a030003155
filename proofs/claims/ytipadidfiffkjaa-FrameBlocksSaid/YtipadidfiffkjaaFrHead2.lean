/- The steps of a frame's head: sizes, headed; fixed, sum. -/
import Derived.Test.YtipadidfiffkjaaFrHead
namespace Go.Proofs.Ytipadidfiffkjaa
open Go.RowKit Go.PostSums Go.PostMem
theorem ffixed_at (n : Nat) (x : Int) (w : World) (hx : x = (n : Int)) (hn : n < 4294967296) :
    Calls Try.prog 28 #[.int .i64 x, .int .i64 4] w fun e w' => e = .returned (.string (strOf (le4 n))) ∧ Below w.heap.size w w' := by
  subst hx
  go_enter Try.func28, Try.ntmps28
  go_wp2_with (go_at_call 42; (with_reducible refine (PutFixed_four n _ hn).mono ?_); rintro e w1 ⟨rfl, hb⟩)
  go_ret
  exact ⟨rfl, hb⟩
theorem fsum_any (s : ByteArray) (w : World) (hs : s.size ≤ 140737488351232) :
    Calls Try.prog 26 #[.string s] w fun e w' => e = .returned (.string (strOf (le4 (hashN 0 s.data.toList)))) ∧ Below w.heap.size w w' := by
  go_enter Try.func26, Try.ntmps26
  go_wp2_with (first
    | (go_at_call 40; (with_reducible refine (Hash_any s 0 _ hs).mono ?_); rintro e w1 ⟨rfl, hb⟩)
    | (go_at_call 28; (with_reducible refine (ffixed_at (hashN 0 s.data.toList) _ _ rfl (hashN_lt _ _)).mono ?_); rintro e w2 ⟨rfl, hb2⟩))
  go_ret
  exact ⟨rfl, bstep hb hb2⟩
/-- a later world in which all that lay there lies as it did -/
structure Lat (w : World) where
  val : World
  below : Below w.heap.size w val
instance (w : World) : Nonempty (Lat w) := ⟨⟨w, Below.refl _ _⟩⟩
def LatOf (w w' : World) : Prop := ∃ x : Lat w, w' = x.val
theorem LatOf.refl (w : World) : LatOf w w := ⟨⟨w, Below.refl _ _⟩, rfl⟩
theorem LatOf.step {w w' w'' : World} (h : LatOf w w') (hb : Below w'.heap.size w' w'') : LatOf w w'' := by
  obtain ⟨z, rfl⟩ := h
  exact ⟨⟨w'', (z.below).trans (hb.mono z.below.size)⟩, rfl⟩
theorem LatOf.drew {w w' : World} (h : LatOf w w') : LatOf w w'.drew := h.step ⟨rfl, rfl, rfl, Nat.le_refl _, fun _ _ => rfl⟩
theorem call_lat {P : Program} {f : FuncId} {args : Array Value} {v : Value} {W : World} (h : ∀ w', Calls P f args w' fun e w'' => e = .returned v ∧ Below w'.heap.size w' w'') (w' : World) (hw : LatOf W w') :
    Calls P f args w' fun e w'' => e = .returned v ∧ LatOf W w'' := (h w').mono fun _ _ ⟨he, hb⟩ => ⟨he, hw.step hb⟩
theorem call_at {P : Program} {f : FuncId} {args : Array Value} {v : Value} {W : World} (h : ∀ w', Calls P f args w' fun e w'' => e = .returned v ∧ Below w'.heap.size w' w'') (z : Lat W) :
    Calls P f args z.val fun e w'' => e = .returned v ∧ ∃ z' : Lat W, w'' = z'.val := call_lat h _ ⟨z, rfl⟩
def headedR (l : List UInt8) (f : FSt) : Except Nat FSt :=
  if l.length < f.a + 1 then .error 5 else if at8 l f.a = hashN 0 ((l.take f.a).drop 4) / 256 % 256 then .ok { f with a := f.a + 1 } else .error 71
theorem le4_one (n : Nat) : at8 (le4 n) 1 = n / 256 % 256 := by
  unfold le4
  simp [at8, byteAt]
set_option maxRecDepth 100000 in
set_option maxHeartbeats 1600000 in
theorem headed_any (B b : Nat) (s : ByteArray) (f : FSt) (l : List UInt8) (w : World) (h : Fr w B b s f l) (hs : s.size ≤ 140737488351232) (ha : f.a ≤ s.size) (h4 : 4 ≤ f.a) (hBw : B ≤ w.heap.size) :
    Calls Try.prog 18 #[.pointer (some ⟨b, 0, none⟩)] w (StepPost B b s l (headedR s.data.toList f) w) := by
  unfold headedR
  rw [list_size]
  have d0 : ∀ z : Lat w, z.val.cell? ⟨b, 0, none⟩ = some (.string s) := fun z => (h.other z.below).cells.1
  have d1 : ∀ z : Lat w, z.val.cell? ⟨b, 1, none⟩ = some (.int .i64 (f.a : Int)) := fun z => (h.other z.below).cells.2.1
  obtain ⟨t, ht⟩ : ∃ t, t = s.extract 4 f.a := ⟨_, rfl⟩
  have htl : t.data.toList = (s.data.toList.take f.a).drop 4 := by rw [ht]; simp [List.drop_take]
  have hts : t.size ≤ 140737488351232 := by rw [ht]; simp; omega
  have HSC : Hid (∀ w', Calls Try.prog 26 #[.string t] w' fun e w'' => e = .returned (.string (strOf (le4 (hashN 0 t.data.toList)))) ∧ Below w'.heap.size w' w'') := Lib.hid (fun w' => fsum_any t w' hts)
  rw [← htl]
  have h256 := hashN_lt 0 t.data.toList
  generalize hashN 0 t.data.toList = q at HSC h256 ⊢
  have hz1 := le4_one q
  generalize hz : strOf (le4 q) = z at HSC
  have hzs : z.size = 4 := by rw [← hz, strOf_size]; rfl
  have i1 : 1 < z.size := by omega
  have hzz : (z[1].toNat : Nat) = q / 256 % 256 := by rw [← hz1, ← at8_byte z 1 i1, ← hz, strOf_list]
  have HZ := Lib.hid hzz
  clear hz hz1 hzz
  have HT := Lib.hid ht; clear ht htl
  have k1 : (4 : Int) ≤ (f.a : Int) := by omega
  have k2 : (f.a : Int) ≤ (s.size : Int) := by omega
  by_cases hc : s.size < f.a + 1
  · rw [if_pos hc]
    go_enter Try.func18, Try.ntmps18
    go_wp2_with fail
    refine QuietTail.wp_all (fun w' => ∃ z : Lat w, w' = z.val) (by kernel_rfl) (by kernel_rfl) (LatOf.refl w).drew ?_
    iterate 12 (go_big_quiet_step (with_reducible (rw [← HT.out]; exact call_at HSC.out _)))
    refine wpQuiet_nil ?_
    rintro _ ⟨zz, rfl⟩
    clear d0 d1
    have HFZ := Lib.hid (h.other zz.below)
    have KZ : Kept b B w zz.val := Kept.of_below zz.below hBw
    go_wp2_with (go_at_call 30; (with_reducible refine (byte_any B b s f l _ HFZ.out hs ha).mono ?_); rintro e w1 ⟨hk, hp⟩; rw [if_pos hc] at hp; obtain ⟨rfl, hF⟩ := hp)
    go_ret
    exact ⟨KZ.trans hk, rfl⟩
  · rw [if_neg hc]
    have hx := at8_lt s.data.toList f.a
    generalize hxe : at8 s.data.toList f.a = x at hx
    by_cases hq : x = q / 256 % 256
    · rw [if_pos hq]
      have hq' : (x : Int) = (z[1].toNat : Int) := by rw [HZ.out, hq]
      go_enter Try.func18, Try.ntmps18
      go_wp2_with fail
      refine QuietTail.wp_all (fun w' => ∃ z : Lat w, w' = z.val) (by kernel_rfl) (by kernel_rfl) (LatOf.refl w).drew ?_
      iterate 12 (go_big_quiet_step (with_reducible (rw [← HT.out]; exact call_at HSC.out _)))
      refine wpQuiet_nil ?_
      rintro _ ⟨zz, rfl⟩
      clear d0 d1
      have HFZ := Lib.hid (h.other zz.below)
      have KZ : Kept b B w zz.val := Kept.of_below zz.below hBw
      go_wp2_with (go_at_call 30; (with_reducible refine (byte_any B b s f l _ HFZ.out hs ha).mono ?_); rintro e w1 ⟨hk, hp⟩; rw [if_neg hc, hxe] at hp; obtain ⟨rfl, hF⟩ := hp)
      go_ret
      exact ⟨KZ.trans hk, rfl, hF⟩
    · rw [if_neg hq]
      have hq' : ¬ (x : Int) = (z[1].toNat : Int) := by rw [HZ.out]; omega
      go_enter Try.func18, Try.ntmps18
      go_wp2_with fail
      refine QuietTail.wp_all (fun w' => ∃ z : Lat w, w' = z.val) (by kernel_rfl) (by kernel_rfl) (LatOf.refl w).drew ?_
      iterate 12 (go_big_quiet_step (with_reducible (rw [← HT.out]; exact call_at HSC.out _)))
      refine wpQuiet_nil ?_
      rintro _ ⟨zz, rfl⟩
      clear d0 d1
      have HFZ := Lib.hid (h.other zz.below)
      have KZ : Kept b B w zz.val := Kept.of_below zz.below hBw
      go_wp2_with (go_at_call 30; (with_reducible refine (byte_any B b s f l _ HFZ.out hs ha).mono ?_); rintro e w1 ⟨hk, hp⟩; rw [if_neg hc, hxe] at hp; obtain ⟨rfl, hF⟩ := hp)
      go_ret
      exact ⟨KZ.trans hk, rfl⟩
end Go.Proofs.Ytipadidfiffkjaa
