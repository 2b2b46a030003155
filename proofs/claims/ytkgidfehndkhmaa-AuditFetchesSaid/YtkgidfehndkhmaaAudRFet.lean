/- The walk of postroadtold.Fetches. -/
import Derived.Test.YtkgidfehndkhmaaAudParts
import Derived.Test.YtkgidfehndkhmaaAudSaid
import Derived.Test.YtkgidfehndkhmaaAudSpec3
namespace Go.Proofs.Ytkgidfehndkhmaa
open Go.RowKit Go.PostAud Go.PostMem
def FRel (w0 : World) (n : Nat) (l : List Fet) (sd : List Sd) (v6 : Value) (wr : World) : Prop := ∃ (i : Nat), i ≤ n ∧ v6 = .int .i64 (i : Int) ∧ Hid (Below w0.heap.size w0 wr ∧ ∀ j, j < i → fetAt l sd j = 0)
def FRel2 (w0 : World) (m : Nat) (f : Fet) (sd : List Sd) (v7 : Value) (wr : World) : Prop := ∃ (k : Nat), k ≤ m ∧ v7 = .int .i64 (k : Int) ∧ Hid (Below w0.heap.size w0 wr ∧ ∀ q y, q < k → f.recs[q]? = some y → (!saidIn sd y) = false)
set_option maxRecDepth 100000 in
set_option maxHeartbeats 1600000 in
theorem RFetches_any (A A2 : Option Addr) (n cap n2 cap2 base : Nat) (l : List Fet) (sd : List Sd) (w : World) (hA : FetsAt w base A n l) (hD : SdsAt w base A2 n2 sd) :
    Calls Try.prog 15 #[.slice A n cap, .slice A2 n2 cap2] w fun e w' => e = .returned (.tuple #[.int .i64 (fetAns l sd).1, .int .i64 (fetAns l sd).2]) ∧ Below w.heap.size w w' := by
  have hn := hA.2.1
  unfold maxLen at hn
  have HA := Lib.hid hA
  have HD := Lib.hid hD
  have hlen : Hid (l.length = n) := Lib.hid hA.1
  clear hA hD
  go_enter Try.func15, Try.ntmps15
  go_wp2_with (fail)
  go_loopw [6] (fun v6 w9 => FRel w n l sd v6 w9) (fun v6 _ => n - (intOf v6).toNat)
  case atStart => exact ⟨0, by omega, rfl, Lib.hid ⟨Below.refl _ _, fun _ h => absurd h (by omega)⟩⟩
  case round =>
    obtain ⟨i, hi, rfl, Hr⟩ := hrel
    by_cases hlt : i < n
    · obtain ⟨a, f, A', m, c, rfl, hx, hwf, hat, hrc⟩ := (HA.out.later Hr.out.1).get hlt
      have HX := Lib.hid hx
      have HAT := Lib.hid hat
      have HRC := Lib.hid hrc
      have hm := hrc.2.1
      unfold maxLen at hm
      have hlen2 : Hid (f.recs.length = m) := Lib.hid hrc.1
      have HP : Hid (Calls Try.prog 22 #[.slice (some a) n cap, .int .i64 (i : Int)] wr fun e w' => e = .returned (.bool (parts l i f)) ∧ Below wr.heap.size wr w') := Lib.hid (parts_any (some a) n cap base i l f wr (HA.out.later Hr.out.1) hlt hx)
      obtain ⟨c0, c1, c2, c3, c4⟩ := At.five hat
      clear hx hwf hat hrc
      have skip : ∀ V : World, Below w.heap.size w V → fetBad l sd i f = 0 → FRel w n l sd (.int .i64 ((i : Int) + 1)) V := fun V hV h0 => by
        refine ⟨i + 1, by omega, by go_num, Lib.hid ⟨hV, fun j hj => ?_⟩⟩
        rcases Nat.lt_succ_iff_lt_or_eq.1 hj with h | rfl
        · exact Hr.out.2 j h
        · rw [fetAt_of HX.out, h0]
      have SK := Lib.hid skip
      clear skip
      by_cases he : f.err = 0
      · have hd : (f.err != 0) = false := by simpa using he
        have HE := Lib.hid he
        clear he
        by_cases hp : parts l i f = true
        · rw [hp] at HP
          go_wp2_with (go_at_call 22; with_reducible refine (HP.out).mono ?_; rintro e W1 ⟨rfl, hW1⟩; have HW1 := Lib.hid hW1; clear hW1)
          go_ret2
          rw [fetAns_bad HX.out (fetBad_parts HE.out hp) (by decide) Hr.out.2]
          exact ⟨rfl, bstep Hr.out.1 HW1.out⟩
        · rw [Bool.not_eq_true] at hp
          rw [hp] at HP
          go_wp2_with (go_at_call 22; with_reducible refine (HP.out).mono ?_; rintro e W1 ⟨rfl, hW1⟩; have HW1 := Lib.hid hW1; clear hW1)
          clear c0 c1 c2 c3 c4
          go_loopw [7] (fun v7 w9 => FRel2 W1 m f sd v7 w9) (fun v7 _ => m - (intOf v7).toNat)
          case atStart => exact ⟨0, by omega, rfl, Lib.hid ⟨Below.refl _ _, fun _ _ h => absurd h (by omega)⟩⟩
          case round =>
            obtain ⟨k, hk, rfl, Hr2⟩ := hrel
            have HB2 := Lib.hid (bstep HW1.out Hr2.out.1)
            obtain ⟨c0, c1, c2, c3, c4⟩ := At.five (HAT.out.later HB2.out)
            by_cases hlt2 : k < m
            · obtain ⟨a2, x, rfl, hx, _, hat⟩ := (HRC.out.later HB2.out).get hlt2
              have HX2 := Lib.hid hx
              obtain ⟨b0, b1, b2, b3⟩ := At.four hat
              clear hx hat
              have HS : Hid (Calls Try.prog 23 #[.slice A2 n2 cap2, .agg #[.int .i64 x.off, .string x.key, .string x.value, .bool x.gone]] wr fun e w' => e = .returned (.bool (saidIn sd x)) ∧ Below wr.heap.size wr w') := Lib.hid (isSaid_any A2 n2 cap2 base sd x wr (HD.out.later (bstep Hr.out.1 HB2.out)))
              by_cases hs : saidIn sd x = true
              · rw [hs] at HS
                go_wp2_with (go_at_call 23; with_reducible refine (HS.out).mono ?_; rintro e W2 ⟨rfl, hW2⟩; have HW2 := Lib.hid hW2; clear hW2)
                go_roundw
                case rel =>
                  refine ⟨k + 1, by omega, by go_num, Lib.hid ⟨bstep Hr2.out.1 HW2.out, fun q y hq hy => ?_⟩⟩
                  rcases Nat.lt_succ_iff_lt_or_eq.1 hq with h | rfl
                  · exact Hr2.out.2 q y h hy
                  · obtain rfl := Option.some.inj (hy.symm.trans HX2.out)
                    rw [hs]; rfl
                case measure => simp [intOf]; omega
              · rw [Bool.not_eq_true] at hs
                rw [hs] at HS
                go_wp2_with (go_at_call 23; with_reducible refine (HS.out).mono ?_; rintro e W2 ⟨rfl, hW2⟩; have HW2 := Lib.hid hW2; clear hW2)
                go_ret2
                rw [fetAns_bad HX.out (fetBad_none HE.out hp (any_at HX2.out (by rw [hs]; rfl))) (by decide) Hr.out.2]
                exact ⟨rfl, bstep (bstep Hr.out.1 HB2.out) HW2.out⟩
            · obtain rfl : k = m := by omega
              go_wp2_with (fail)
              go_roundw
              case rel =>
                exact SK.out _ (bstep Hr.out.1 HB2.out) (fetBad_ok hp (any_false fun q y hy => Hr2.out.2 q y (by have := (List.getElem?_eq_some_iff.1 hy).1; rw [hlen2.out] at this; exact this) hy))
              case measure => simp [intOf]; omega
      · have hd : (f.err != 0) = true := by simpa using he
        have HE := Lib.hid he
        clear he
        go_wp2_with (fail)
        go_roundw
        case rel => exact SK.out _ Hr.out.1 (fetBad_skip HE.out)
        case measure => simp [intOf]; omega
    · obtain rfl : i = n := by omega
      go_wp2_with (fail)
      go_ret2
      rw [fetAns_ok (fun j hj => Hr.out.2 j (by rw [hlen.out] at hj; exact hj))]
      exact ⟨rfl, Hr.out.1⟩
end Go.Proofs.Ytkgidfehndkhmaa
