/- The walk of postroadtold.isSaid. -/
import Derived.Test.YtkgidfehndkhmaaAudLeaf
import Derived.Test.YtkgidfehndkhmaaAudEq
import Derived.Test.YtkgidfehndkhmaaAudRows2
import Derived.Test.YtkgidfehndkhmaaMem
namespace Go.Proofs.Ytkgidfehndkhmaa
open Go.RowKit Go.PostAud Go.PostMem
def SRel (w0 : World) (n : Nat) (l : List Sd) (r : Rec) (v5 : Value) (wr : World) : Prop := ∃ (i : Nat), i ≤ n ∧ v5 = .int .i64 (i : Int) ∧ Hid (Below w0.heap.size w0 wr ∧ ∀ j y, j < i → l[j]? = some y → (y.recs.any fun x => decide (bare x = bare r)) = false)
def SRel2 (w0 : World) (m : Nat) (ls : List Rec) (r : Rec) (v6 : Value) (wr : World) : Prop := ∃ (k : Nat), k ≤ m ∧ v6 = .int .i64 (k : Int) ∧ Hid (Below w0.heap.size w0 wr ∧ ∀ j x, j < k → ls[j]? = some x → decide (bare x = bare r) = false)
set_option maxRecDepth 100000 in
set_option maxHeartbeats 1600000 in
theorem isSaid_any (A : Option Addr) (n cap base : Nat) (l : List Sd) (r : Rec) (w : World) (hA : SdsAt w base A n l) :
    Calls Try.prog 23 #[.slice A n cap, .agg #[.int .i64 r.off, .string r.key, .string r.value, .bool r.gone]] w fun e w' => e = .returned (.bool (saidIn l r)) ∧ Below w.heap.size w w' := by
  have hn := hA.2.1
  unfold maxLen at hn
  have hlen : Hid (l.length = n) := Lib.hid hA.1
  go_enter Try.func23, Try.ntmps23
  go_wp2_with (fail)
  have hb0 := (Below.refl w.heap.size w).alloc (Nat.le_refl _) (.cells #[.int .i64 r.off, .string r.key, .string r.value, .bool r.gone] 49)
  have hr0 := at_alloc w r.cells 49
  have H0 : Hid (Below w.heap.size w (w.alloc (.cells #[.int .i64 r.off, .string r.key, .string r.value, .bool r.gone] 49)) ∧ At (w.alloc (.cells #[.int .i64 r.off, .string r.key, .string r.value, .bool r.gone] 49)) ⟨w.heap.size, 0, none⟩ r.cells ∧ SdsAt (w.alloc (.cells #[.int .i64 r.off, .string r.key, .string r.value, .bool r.gone] 49)) base A n l) :=
    Lib.hid ⟨hb0, hr0, hA.later hb0⟩
  clear hb0 hr0 hA
  generalize w.alloc (.cells #[.int .i64 r.off, .string r.key, .string r.value, .bool r.gone] 49) = W0 at H0
  have HW0 := Lib.hid H0.out.1
  generalize w.heap.size = B at H0 ⊢
  go_loopw [5] (fun v5 wr => SRel W0 n l r v5 wr) (fun v5 _ => n - (intOf v5).toNat)
  case atStart => exact ⟨0, by omega, rfl, Lib.hid ⟨Below.refl _ _, fun _ _ h => absurd h (by omega)⟩⟩
  case round =>
    obtain ⟨i, hi, rfl, Hr⟩ := hrel
    by_cases hlt : i < n
    · obtain ⟨a, s, A', m, c, rfl, hx, hwf, hat, hrc⟩ := (H0.out.2.2.later Hr.out.1).get hlt
      have HX := Lib.hid hx
      have HAT := Lib.hid hat
      have HRC := Lib.hid hrc
      have hm := hrc.2.1
      unfold maxLen at hm
      have hlen2 : Hid (s.recs.length = m) := Lib.hid hrc.1
      have HR0 := Lib.hid (H0.out.2.1.later Hr.out.1)
      clear hx hwf hat hrc
      go_wp2_with (fail)
      go_loopw [6] (fun v6 w9 => SRel2 wr m s.recs r v6 w9) (fun v6 _ => m - (intOf v6).toNat)
      case atStart => exact ⟨0, by omega, rfl, Lib.hid ⟨Below.refl _ _, fun _ _ h => absurd h (by omega)⟩⟩
      case round =>
        obtain ⟨k, hk, rfl, Hr2⟩ := hrel
        obtain ⟨c0, c1, c2⟩ := At.three (HAT.out.later Hr2.out.1)
        by_cases hlt2 : k < m
        · obtain ⟨a2, x, rfl, hx2, hwf2, hat2⟩ := (HRC.out.later Hr2.out.1).get hlt2
          have HX2 := Lib.hid hx2
          obtain ⟨b0, b1, b2, b3⟩ := At.four hat2
          obtain ⟨d0, d1, d2, d3⟩ := At.four0 ((HR0.out.later Hr2.out.1).later ((Below.refl wr.heap.size wr).alloc (Nat.le_refl _) (.cells #[.int .i64 x.off, .string x.key, .string x.value, .bool x.gone] 49)))
          clear hwf2 hat2 hx2
          have HC := Lib.hid (bare_cases x r)
          rcases HC.out with ⟨e1, e4⟩ | ⟨e1, e2, e4⟩ | ⟨e1, e2, e3, e4⟩ | ⟨e1, e2, e3, e4⟩
          all_goals
            have HE := Lib.hid e4
            clear e4 HC
            go_wp2_with (fail)
          · go_roundw
            case rel =>
              refine ⟨k + 1, by omega, by go_num, Lib.hid ⟨bstep Hr2.out.1 ((Below.refl wr.heap.size wr).alloc (Nat.le_refl _) _), fun j y hj hy => ?_⟩⟩
              rcases Nat.lt_succ_iff_lt_or_eq.1 hj with h | rfl
              · exact Hr2.out.2 j y h hy
              · obtain rfl := Option.some.inj (hy.symm.trans HX2.out)
                exact HE.out
            case measure => simp [intOf]; omega
          · go_roundw
            case rel =>
              refine ⟨k + 1, by omega, by go_num, Lib.hid ⟨bstep Hr2.out.1 ((Below.refl wr.heap.size wr).alloc (Nat.le_refl _) _), fun j y hj hy => ?_⟩⟩
              rcases Nat.lt_succ_iff_lt_or_eq.1 hj with h | rfl
              · exact Hr2.out.2 j y h hy
              · obtain rfl := Option.some.inj (hy.symm.trans HX2.out)
                exact HE.out
            case measure => simp [intOf]; omega
          · go_roundw
            case rel =>
              refine ⟨k + 1, by omega, by go_num, Lib.hid ⟨bstep Hr2.out.1 ((Below.refl wr.heap.size wr).alloc (Nat.le_refl _) _), fun j y hj hy => ?_⟩⟩
              rcases Nat.lt_succ_iff_lt_or_eq.1 hj with h | rfl
              · exact Hr2.out.2 j y h hy
              · obtain rfl := Option.some.inj (hy.symm.trans HX2.out)
                exact HE.out
            case measure => simp [intOf]; omega
          · go_ret
            refine ⟨?_, bstep (bstep (bstep HW0.out Hr.out.1) Hr2.out.1) ((Below.refl wr.heap.size wr).alloc (Nat.le_refl _) _)⟩
            unfold saidIn
            rw [any_at HX.out (any_at HX2.out HE.out)]
            rfl
        · obtain rfl : k = m := by omega
          go_wp2_with (fail)
          go_roundw
          case rel =>
            refine ⟨i + 1, by omega, by go_num, Lib.hid ⟨bstep Hr.out.1 Hr2.out.1, fun j y hj hy => ?_⟩⟩
            rcases Nat.lt_succ_iff_lt_or_eq.1 hj with h | rfl
            · exact Hr.out.2 j y h hy
            · obtain rfl := Option.some.inj (hy.symm.trans HX.out)
              exact any_false fun j x hx => Hr2.out.2 j x (by have := (List.getElem?_eq_some_iff.1 hx).1; rw [hlen2.out] at this; exact this) hx
          case measure => simp [intOf]; omega
    · obtain rfl : i = n := by omega
      go_wp2_with (fail)
      go_ret
      refine ⟨?_, bstep HW0.out Hr.out.1⟩
      unfold saidIn
      rw [any_false (fun j y hy => Hr.out.2 j y (by have := (List.getElem?_eq_some_iff.1 hy).1; rw [hlen.out] at this; exact this) hy)]
      rfl
end Go.Proofs.Ytkgidfehndkhmaa
