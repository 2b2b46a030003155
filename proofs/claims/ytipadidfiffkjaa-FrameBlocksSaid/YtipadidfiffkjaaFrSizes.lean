/- sizes; summed; unpacked. -/
import Derived.Test.YtipadidfiffkjaaFrHead2
namespace Go.Proofs.Ytipadidfiffkjaa
open Go.RowKit Go.PostSums Go.PostMem
def sizesR (l : List UInt8) (f : FSt) : Except Nat FSt :=
  if l.length < f.a + 1 then .error 5
  else if at8 l f.a % 16 ≠ 0 ∨ at8 l f.a / 16 < 4 ∨ 7 < at8 l f.a / 16 then .error 70
  else if f.flag / 8 % 2 = 0 then .ok { f with a := f.a + 1, room := 2 ^ (8 + 2 * (at8 l f.a / 16)) }
  else if l.length < f.a + 9 then .error 5
  else if 4611686018427387904 < leN (l.drop (f.a + 1)) 8 then .error 70
  else .ok { f with a := f.a + 9, room := 2 ^ (8 + 2 * (at8 l f.a / 16)), size := leN (l.drop (f.a + 1)) 8 }
theorem fixed_of (s : ByteArray) (a n : Nat) (h : ¬ s.size < a + n) : (strOf ((s.data.toList.drop a).take n)).size = n ∧ fixedN (strOf ((s.data.toList.drop a).take n)).data.toList n = if 9223372036854775808 ≤ leN (s.data.toList.drop a) n then (0, 10) else (leN (s.data.toList.drop a) n, 0) := by
  have e : (strOf ((s.data.toList.drop a).take n)).size = n := by rw [strOf_size]; simp; omega
  refine ⟨e, ?_⟩
  unfold fixedN
  rw [if_neg (by rw [list_size, e]; omega), strOf_list, leN_take _ n n (Nat.le_refl _)]
set_option maxRecDepth 100000 in
set_option maxHeartbeats 1600000 in
theorem sizes_any (B b : Nat) (s : ByteArray) (f : FSt) (l : List UInt8) (w : World) (h : Fr w B b s f l) (hs : s.size ≤ 140737488351232) (ha : f.a ≤ s.size) (hf : f.flag < 256) :
    Calls Try.prog 17 #[.pointer (some ⟨b, 0, none⟩)] w (StepPost B b s l (sizesR s.data.toList f) w) := by
  unfold sizesR
  rw [list_size]
  by_cases hc : s.size < f.a + 1
  · rw [if_pos hc]
    go_enter Try.func17, Try.ntmps17
    go_wp2_with (go_at_call 30; (with_reducible refine (byte_any B b s f l _ h hs ha).mono ?_); rintro e w1 ⟨hk, hp⟩; rw [if_pos hc] at hp; obtain ⟨rfl, hF⟩ := hp)
    go_ret
    exact ⟨hk, rfl⟩
  · rw [if_neg hc]
    have hx := at8_lt s.data.toList f.a
    generalize hxe : at8 s.data.toList f.a = x at hx
    have hu := u8and15 x hx
    by_cases h1 : x % 16 ≠ 0 ∨ x / 16 < 4 ∨ 7 < x / 16
    · rw [if_pos h1]
      by_cases g1 : x % 16 = 0
      · have i1 : (Go.bits .and .u8 (x : Int) 15 != 0) = false := by rw [hu, g1]; rfl
        have w1 : IntKind.i64.wrap ((x : Int) / 16) = (x : Int) / 16 := IntWalk.i64_in _ (by omega)
        by_cases g2 : x / 16 < 4
        · have i2 : (x : Int) / 16 < 4 := by omega
          go_enter Try.func17, Try.ntmps17
          go_wp2_with (go_at_call 30; (with_reducible refine (byte_any B b s f l _ h hs ha).mono ?_); rintro e w1 ⟨hk, hp⟩; rw [if_neg hc, hxe] at hp; obtain ⟨rfl, hF⟩ := hp)
          go_ret
          exact ⟨hk, rfl⟩
        · have i2 : ¬ (x : Int) / 16 < 4 := by omega
          have i3 : (7 : Int) < (x : Int) / 16 := by omega
          go_enter Try.func17, Try.ntmps17
          go_wp2_with (go_at_call 30; (with_reducible refine (byte_any B b s f l _ h hs ha).mono ?_); rintro e w1 ⟨hk, hp⟩; rw [if_neg hc, hxe] at hp; obtain ⟨rfl, hF⟩ := hp)
          go_ret
          exact ⟨hk, rfl⟩
      · have i1 : (Go.bits .and .u8 (x : Int) 15 != 0) = true := by rw [hu]; exact bne_iff_ne.2 (by omega)
        go_enter Try.func17, Try.ntmps17
        go_wp2_with (go_at_call 30; (with_reducible refine (byte_any B b s f l _ h hs ha).mono ?_); rintro e w1 ⟨hk, hp⟩; rw [if_neg hc, hxe] at hp; obtain ⟨rfl, hF⟩ := hp)
        go_ret
        exact ⟨hk, rfl⟩
    · rw [if_neg h1]
      obtain ⟨k, hk4, hk7, rfl⟩ : ∃ k, 4 ≤ k ∧ k ≤ 7 ∧ x = 16 * k := ⟨x / 16, by omega, by omega, by omega⟩
      rw [show 16 * k / 16 = k by omega]
      have hu8 := u8and8 f.flag hf
      obtain ⟨R, hR⟩ : ∃ R : Nat, R = 2 ^ (8 + 2 * k) := ⟨_, rfl⟩
      rw [← hR]
      have HRm : ∀ (w1 : World) (f' : FSt), Fr w1 B b s f' l → Fr (w1.setCell ⟨b, 4, none⟩ (.int .i64 (R : Int))) B b s { f' with room := R } l := fun w1 f' h => h.room_ R
      have HC : (k = 4 ∧ (R : Int) = 65536) ∨ (k = 5 ∧ (R : Int) = 262144) ∨ (k = 6 ∧ (R : Int) = 1048576) ∨ (k = 7 ∧ (R : Int) = 4194304) := by
        rcases (show k = 4 ∨ k = 5 ∨ k = 6 ∨ k = 7 by omega) with rfl | rfl | rfl | rfl
        · exact .inl ⟨rfl, by rw [hR]; rfl⟩
        · exact .inr (.inl ⟨rfl, by rw [hR]; rfl⟩)
        · exact .inr (.inr (.inl ⟨rfl, by rw [hR]; rfl⟩))
        · exact .inr (.inr (.inr ⟨rfl, by rw [hR]; rfl⟩))
      clear hR
      by_cases hfl : f.flag / 8 % 2 = 0
      · rw [if_pos hfl]
        have i8 : (Go.bits .and .u8 (f.flag : Int) 8 == 0) = true := by rw [hu8, hfl]; rfl
        rcases HC with ⟨rfl, hR⟩ | ⟨rfl, hR⟩ | ⟨rfl, hR⟩ | ⟨rfl, hR⟩
        all_goals
          simp only [Nat.reduceMul] at hxe
          rw [hR] at HRm
          clear hR
          go_enter Try.func17, Try.ntmps17
          go_wp2_with (go_at_call 30; (with_reducible refine (byte_any B b s f l _ h hs ha).mono ?_); rintro e w1 ⟨hk, hp⟩; rw [if_neg hc, hxe] at hp; obtain ⟨rfl, hF⟩ := hp; obtain ⟨-, -, -, d3, d4, -⟩ := hF.cells; have f4 := hF.free 4)
          go_ret
          exact ⟨hk.trans (kept_set w1 b B 4 _), rfl, HRm _ _ hF⟩
      · rw [if_neg hfl]
        have i8 : (Go.bits .and .u8 (f.flag : Int) 8 == 0) = false := by rw [hu8]; rw [beq_eq_false_iff_ne]; omega
        by_cases hc9 : s.size < f.a + 9
        · rw [if_pos hc9]
          have hc9' : s.size < f.a + 1 + 8 := by omega
          rcases HC with ⟨rfl, hR⟩ | ⟨rfl, hR⟩ | ⟨rfl, hR⟩ | ⟨rfl, hR⟩
          all_goals
            simp only [Nat.reduceMul] at hxe
            rw [hR] at HRm
            clear hR
            go_enter Try.func17, Try.ntmps17
            go_wp2_with (first
              | (go_at_call 30; (with_reducible refine (byte_any B b s f l _ h hs ha).mono ?_); rintro e w1 ⟨hk, hp⟩; rw [if_neg hc, hxe] at hp; obtain ⟨rfl, hF⟩ := hp; obtain ⟨-, -, -, d3, d4, -⟩ := hF.cells; have f4 := hF.free 4)
              | (go_at_call 29; (with_reducible refine (take_at B b s { f with a := f.a + 1, room := R } l 8 8 _ rfl (HRm _ _ hF) hs (by show f.a + 1 ≤ s.size; omega) (by decide)).mono ?_); rintro e w2 ⟨hk2, hp⟩; rw [if_pos hc9'] at hp; obtain ⟨rfl, hF2⟩ := hp))
            go_ret
            exact ⟨(hk.trans (kept_set w1 b B 4 _)).trans hk2, rfl⟩
        · rw [if_neg hc9]
          have hc9' : ¬ s.size < f.a + 1 + 8 := by omega
          obtain ⟨hz8, hfx⟩ := fixed_of s (f.a + 1) 8 hc9'
          obtain ⟨y, hy⟩ : ∃ y, y = leN (s.data.toList.drop (f.a + 1)) 8 := ⟨_, rfl⟩
          rw [← hy] at hfx ⊢
          generalize hz : strOf ((s.data.toList.drop (f.a + 1)).take 8) = z at hz8 hfx
          have hzs : z.size ≤ 140737488351232 := by omega
          have HY := Lib.hid hy; clear hy
          by_cases hy1 : 9223372036854775808 ≤ y
          · rw [if_pos hy1] at hfx
            rw [if_pos (by omega)]
            have HFX := Lib.hid hfx; clear hfx
            rcases HC with ⟨rfl, hR⟩ | ⟨rfl, hR⟩ | ⟨rfl, hR⟩ | ⟨rfl, hR⟩
            all_goals
              simp only [Nat.reduceMul] at hxe
              rw [hR] at HRm
              clear hR
              go_enter Try.func17, Try.ntmps17
              go_wp2_with (first
                | (go_at_call 30; (with_reducible refine (byte_any B b s f l _ h hs ha).mono ?_); rintro e w1 ⟨hk, hp⟩; rw [if_neg hc, hxe] at hp; obtain ⟨rfl, hF⟩ := hp; obtain ⟨-, -, -, d3, d4, -⟩ := hF.cells; have f4 := hF.free 4)
                | (go_at_call 29; (with_reducible refine (take_at B b s { f with a := f.a + 1, room := R } l 8 8 _ rfl (HRm _ _ hF) hs (by show f.a + 1 ≤ s.size; omega) (by decide)).mono ?_); rintro e w2 ⟨hk2, hp⟩; rw [if_neg hc9', hz] at hp; obtain ⟨rfl, hF2⟩ := hp; obtain ⟨-, -, -, -, -, d5⟩ := hF2.cells; have f5 := hF2.free 5)
                | (go_at_call 31; (with_reducible refine (fixed_at z 8 8 _ rfl hzs (by decide) (by decide)).mono ?_); rintro e w3 ⟨rfl, rfl⟩; rw [HFX.out]))
              go_ret
              exact ⟨((hk.trans (kept_set w1 b B 4 _)).trans hk2).trans (kept_set w2 b B 5 _), rfl⟩
          · rw [if_neg hy1] at hfx
            have HFX := Lib.hid hfx; clear hfx
            by_cases hy2 : 4611686018427387904 < y
            · rw [if_pos hy2]
              have hy2' : (4611686018427387904 : Int) < (y : Int) := by omega
              rcases HC with ⟨rfl, hR⟩ | ⟨rfl, hR⟩ | ⟨rfl, hR⟩ | ⟨rfl, hR⟩
              all_goals
                simp only [Nat.reduceMul] at hxe
                rw [hR] at HRm
                clear hR
                go_enter Try.func17, Try.ntmps17
                go_wp2_with (first
                  | (go_at_call 30; (with_reducible refine (byte_any B b s f l _ h hs ha).mono ?_); rintro e w1 ⟨hk, hp⟩; rw [if_neg hc, hxe] at hp; obtain ⟨rfl, hF⟩ := hp; obtain ⟨-, -, -, d3, d4, -⟩ := hF.cells; have f4 := hF.free 4)
                  | (go_at_call 29; (with_reducible refine (take_at B b s { f with a := f.a + 1, room := R } l 8 8 _ rfl (HRm _ _ hF) hs (by show f.a + 1 ≤ s.size; omega) (by decide)).mono ?_); rintro e w2 ⟨hk2, hp⟩; rw [if_neg hc9', hz] at hp; obtain ⟨rfl, hF2⟩ := hp; obtain ⟨-, -, -, -, -, d5⟩ := hF2.cells; have f5 := hF2.free 5)
                  | (go_at_call 31; (with_reducible refine (fixed_at z 8 8 _ rfl hzs (by decide) (by decide)).mono ?_); rintro e w3 ⟨rfl, rfl⟩; rw [HFX.out]))
                go_ret
                exact ⟨((hk.trans (kept_set w1 b B 4 _)).trans hk2).trans (kept_set w2 b B 5 _), rfl⟩
            · rw [if_neg hy2]
              have hy2' : ¬ (4611686018427387904 : Int) < (y : Int) := by omega
              rcases HC with ⟨rfl, hR⟩ | ⟨rfl, hR⟩ | ⟨rfl, hR⟩ | ⟨rfl, hR⟩
              all_goals
                simp only [Nat.reduceMul] at hxe
                rw [hR] at HRm
                clear hR
                go_enter Try.func17, Try.ntmps17
                go_wp2_with (first
                  | (go_at_call 30; (with_reducible refine (byte_any B b s f l _ h hs ha).mono ?_); rintro e w1 ⟨hk, hp⟩; rw [if_neg hc, hxe] at hp; obtain ⟨rfl, hF⟩ := hp; obtain ⟨-, -, -, d3, d4, -⟩ := hF.cells; have f4 := hF.free 4)
                  | (go_at_call 29; (with_reducible refine (take_at B b s { f with a := f.a + 1, room := R } l 8 8 _ rfl (HRm _ _ hF) hs (by show f.a + 1 ≤ s.size; omega) (by decide)).mono ?_); rintro e w2 ⟨hk2, hp⟩; rw [if_neg hc9', hz] at hp; obtain ⟨rfl, hF2⟩ := hp; obtain ⟨-, -, -, -, -, d5⟩ := hF2.cells; have f5 := hF2.free 5)
                  | (go_at_call 31; (with_reducible refine (fixed_at z 8 8 _ rfl hzs (by decide) (by decide)).mono ?_); rintro e w3 ⟨rfl, rfl⟩; rw [HFX.out]))
                go_ret
                exact ⟨((hk.trans (kept_set w1 b B 4 _)).trans hk2).trans (kept_set w2 b B 5 _), rfl, hF2.size_ y⟩
end Go.Proofs.Ytipadidfiffkjaa
