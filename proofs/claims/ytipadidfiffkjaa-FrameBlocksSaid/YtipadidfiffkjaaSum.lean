/- (*sums.Hasher).Sum: xxHash32 of all that was taken. It only reads. -/
import Derived.Test.YtipadidfiffkjaaBegun
import Derived.Deep.DeepCutAuto
namespace Go.Proofs.Ytipadidfiffkjaa
open Go.RowKit Go.PostSums
def turn (k : Nat) : Nat := if k = 0 then 1 else if k = 1 then 7 else if k = 2 then 12 else 18
def psum (v : Lanes) : Nat → Nat
  | 0 => 0
  | k + 1 => (psum v k + rotN (lane v k) (turn k)) % 4294967296
theorem psum_four (v : Lanes) : psum v 4 = v.sum := by
  simp only [psum, Lanes.sum, lane, turn]
  simp
theorem psum_lt (v : Lanes) (k : Nat) (h : k ≤ 4) : psum v k < 4294967296 := by
  cases k with
  | zero => simp [psum]
  | succ k => exact m32 _
theorem lane_cell (seed n : Nat) (v : Lanes) (T : Value) (k : Nat) (hk : k < 4) : (hcells seed v n T)[2 + k]? = some (.int .u32 (lane v k : Nat)) := by
  match k, hk with
  | 0, _ => simp [hcells, lane]
  | 1, _ => simp [hcells, lane]
  | 2, _ => simp [hcells, lane]
  | 3, _ => simp [hcells, lane]
theorem index_turn (k : Nat) (hk : k < 4) (w' : World) : (Instr.index 74 (.agg #[.int .i64 1, .int .i64 7, .int .i64 12, .int .i64 18]) (.int .i64 (k : Int))).run Try.prog w' = .ok (.int .i64 (turn k : Nat)) w' := by
  have h0 : ∀ w', (Instr.index 74 (.agg #[.int .i64 1, .int .i64 7, .int .i64 12, .int .i64 18]) (.int .i64 0)).run Try.prog w' = .ok (.int .i64 1) w' := fun _ => by kernel_rfl
  have h1 : ∀ w', (Instr.index 74 (.agg #[.int .i64 1, .int .i64 7, .int .i64 12, .int .i64 18]) (.int .i64 1)).run Try.prog w' = .ok (.int .i64 7) w' := fun _ => by kernel_rfl
  have h2 : ∀ w', (Instr.index 74 (.agg #[.int .i64 1, .int .i64 7, .int .i64 12, .int .i64 18]) (.int .i64 2)).run Try.prog w' = .ok (.int .i64 12) w' := fun _ => by kernel_rfl
  have h3 : ∀ w', (Instr.index 74 (.agg #[.int .i64 1, .int .i64 7, .int .i64 12, .int .i64 18]) (.int .i64 3)).run Try.prog w' = .ok (.int .i64 18) w' := fun _ => by kernel_rfl
  have hc : k = 0 ∨ k = 1 ∨ k = 2 ∨ k = 3 := by omega
  rcases hc with rfl | rfl | rfl | rfl
  · exact h0 w'
  · exact h1 w'
  · exact h2 w'
  · exact h3 w'
theorem turn_lt (k : Nat) : turn k < 32 := by
  unfold turn; split
  · decide
  · split
    · decide
    · split <;> decide
def SumRel (b T : Nat) (wc : World) (v3 v6 : Value) (wr : World) : Prop := ∃ (A2 : Option Addr) (c2 : Nat) (r : List UInt8) (x : Nat), v6 = .slice A2 r.length c2 ∧ v3 = .int .u32 (x : Int) ∧ r.length ≤ c2 ∧ x < 4294967296 ∧
      Hid (sumTail x r = T ∧ Tail wr b A2 r ∧ ∃ m, wr = wc.drewN m)
theorem foldl_take_snoc {α β : Type} (f : α → β → α) (x : α) (l : List β) (k : Nat) (h : k < l.length) : (l.take (k + 1)).foldl f x = f ((l.take k).foldl f x) l[k] := by
  rw [List.take_succ_eq_append_getElem h, List.foldl_append]; rfl
theorem at8_elem (l : List UInt8) (k : Nat) (h : k < l.length) : at8 l k = l[k].toNat := by
  unfold at8; rw [List.getD_eq_getElem?_getD, List.getElem?_eq_getElem h]; rfl
theorem ones_snoc (x : Nat) (r : List UInt8) (k : Nat) (h : k < r.length) : ones x (r.take (k + 1)) = tail1 (ones x (r.take k)) (at8 r k) := by
  rw [at8_elem r k h]
  exact foldl_take_snoc (fun x (b : UInt8) => tail1 x b.toNat) x r k h
theorem fin_xor15 (y : Nat) (hy : y < 4294967296) : Go.bits .xor .u32 (y : Int) ((y : Int) / 32768) = ((y ^^^ y >>> 15 : Nat) : Int) := by
  have e : y >>> 15 = y / 32768 := Nat.shiftRight_eq_div_pow y 15
  rw [e, show ((y : Int) / 32768) = ((y / 32768 : Nat) : Int) by omega]
  exact xor32 y _ hy (by omega)
theorem fin_xor13 (y : Nat) (hy : y < 4294967296) : Go.bits .xor .u32 (y : Int) ((y : Int) / 8192) = ((y ^^^ y >>> 13 : Nat) : Int) := by
  have e : y >>> 13 = y / 8192 := Nat.shiftRight_eq_div_pow y 13
  rw [e, show ((y : Int) / 8192) = ((y / 8192 : Nat) : Int) by omega]
  exact xor32 y _ hy (by omega)
theorem fin_xor16 (y : Nat) (hy : y < 4294967296) : Go.bits .xor .u32 (y : Int) ((y : Int) / 65536) = ((fin3 y : Nat) : Int) := by
  unfold fin3
  have e : y >>> 16 = y / 65536 := Nat.shiftRight_eq_div_pow y 16
  rw [e, show ((y : Int) / 65536) = ((y / 65536 : Nat) : Int) by omega]
  exact xor32 y _ hy (by omega)
theorem fin1_int (y : Nat) : ((y ^^^ y >>> 15 : Nat) : Int) * 2246822519 % 4294967296 = ((fin1 y : Nat) : Int) := by
  unfold fin1 q2
  generalize y ^^^ y >>> 15 = a
  omega
theorem fin2_int (y : Nat) : ((y ^^^ y >>> 13 : Nat) : Int) * 3266489917 % 4294967296 = ((fin2 y : Nat) : Int) := by
  unfold fin2 q3
  generalize y ^^^ y >>> 13 = a
  omega
theorem fin1_lt (y : Nat) : fin1 y < 4294967296 := by unfold fin1; exact m32 _
theorem fin2_lt (y : Nat) : fin2 y < 4294967296 := by unfold fin2; exact m32 _
theorem finN_parts (y : Nat) : finN y = fin3 (fin2 (fin1 y)) := by unfold finN; exact Eq.refl _
theorem psum_succ (v : Lanes) (k : Nat) : psum v (k + 1) = (psum v k + rotN (lane v k) (turn k)) % 4294967296 := rfl
theorem psum_int (p q : Nat) : ((p : Int) + (q : Int)) % 4294967296 = (((p + q) % 4294967296 : Nat) : Int) := by omega
theorem seed_int (p : Nat) : ((p : Int) + 374761393) % 4294967296 = (((p + q5) % 4294967296 : Nat) : Int) := by unfold q5; omega
theorem base_int (p n : Nat) : ((p : Int) + (n : Int) % 4294967296) % 4294967296 = (((p + n % 4294967296) % 4294967296 : Nat) : Int) := by omega
theorem tail4_int (v x : Nat) : (((rotN ((v + x * 3266489917) % 4294967296) 17 : Nat) : Int) * 668265263 % 4294967296) = ((tail4 v x : Nat) : Int) := by
  unfold tail4
  rw [Nat.add_mod_mod, cast_mod, cast_mul]
  rfl
theorem tail1_int (v x : Nat) : (((rotN ((v + x * 374761393) % 4294967296) 11 : Nat) : Int) * 2654435761 % 4294967296) = ((tail1 v x : Nat) : Int) := by
  unfold tail1
  rw [Nat.add_mod_mod, cast_mod, cast_mul]
  rfl
def sbase (seed n : Nat) (v : Lanes) : Nat := if 16 ≤ n then v.sum else (seed + q5) % 4294967296
set_option maxRecDepth 100000 in
set_option maxHeartbeats 800000 in
theorem Sum_any (b seed n : Nat) (v : Lanes) (l : List UInt8) (w : World) (hI : IsHasher w b seed v n l) (hn : n ≤ 9223372036854775807) :
    Calls Try.prog 50 #[.pointer (some ⟨b, 0, none⟩)] w fun e w' => e = .returned (.int .i64 (tellN seed n v l : Nat)) ∧ ∃ m, w' = w.drewN m := by
  obtain ⟨A, c, hH, hlc, hvok, hT⟩ := hI
  have c0 : w.cell? ⟨b, 0, none⟩ = some (.bool true) := (hcell hH 0).trans rfl
  have c1 : w.cell? ⟨b, 1, none⟩ = some (.int .u32 (seed : Int)) := (hcell hH 1).trans rfl
  have c6 : w.cell? ⟨b, 6, none⟩ = some (.int .i64 (n : Int)) := (hcell hH 6).trans rfl
  have c7 : w.cell? ⟨b, 7, none⟩ = some (.slice A l.length c) := (hcell hH 7).trans rfl
  have HH := Lib.hid hH; have HV := Lib.hid hvok; have HT := Lib.hid hT
  clear hH hvok hT
  have HB : Hid (v.sum < 4294967296) := Lib.hid (m32 _)
  go_enter Try.func50, Try.ntmps50
  go_upto_if 27 with (fail)
  generalize hd : decide (16 ≤ (n : Int)) = d
  have HD := Lib.hid hd
  clear hd
  go_cut [3] (fun s3 wx => s3 = .int .u32 (sbase seed n v : Nat) ∧ wx = w)
  case first =>
    cases d with
    | true =>
      go_wp2_with fail
      go_loop [3, 29] (fun v3 v29 => ∃ k : Nat, k ≤ 4 ∧ v29 = .int .i64 k ∧ v3 = .int .u32 (psum v k : Nat)) (fun _ v29 => 4 - (intOf v29).toNat)
      case atStart => exact ⟨0, by omega, rfl, rfl⟩
      case round =>
        obtain ⟨k, hk, rfl, rfl⟩ := hrel
        by_cases hk4 : k < 4
        · have ck : w.cell? ⟨b, 2 + k, none⟩ = some (.int .u32 (lane v k : Nat)) := (cell_of_row w b (2 + k) _ _ _ HH.out).trans (lane_cell _ _ _ _ k hk4)
          have hix : ∀ w', (Instr.index 74 (.agg #[.int .i64 1, .int .i64 7, .int .i64 12, .int .i64 18]) (.int .i64 (k : Int))).run Try.prog w' = .ok (.int .i64 (turn k : Nat)) w' := fun w' => index_turn k hk4 w'
          have hll := lane_lt v k HV.out
          have htl := turn_lt k
          have HP := Lib.hid (psum_succ v k)
          have hpl := psum_lt v k (by omega)
          generalize psum v k = p at hpl HP
          generalize htk : turn k = tk at htl hix HP
          generalize hlk : lane v k = x at hll HP ck
          have HTK := Lib.hid htk; have HLK := Lib.hid hlk
          clear htk hlk
          have hrl := rotN_lt x tk hll (by omega)
          go_wp2_with (first | (go_at_call 54; refine (rot32_any x tk _ hll htl).mono ?_; rintro e w' ⟨rfl, rfl⟩))
          go_round
          case rel => exact ⟨k + 1, by omega, by go_num, by rw [HP.out]; exact congrArg _ (psum_int p _)⟩
          case measure => simp [intOf]; omega
        · obtain rfl : k = 4 := by omega
          have HQ := Lib.hid (psum_four v)
          have HS : Hid (sbase seed n v = v.sum) := Lib.hid (by have := of_decide_eq_true HD.out; unfold sbase; rw [if_pos (by omega)])
          go_wp2_with fail
          go_meet
          exact ⟨by rw [HS.out, ← HQ.out], rfl⟩
    | false =>
      have HS : Hid (sbase seed n v = (seed + q5) % 4294967296) := Lib.hid (by have := of_decide_eq_false HD.out; unfold sbase; rw [if_neg (by omega)])
      go_wp2_with fail
      go_meet
      exact ⟨by rw [HS.out]; exact congrArg _ (seed_int seed), rfl⟩
  case rest =>
    obtain ⟨rfl, rfl⟩ := hcut
    have HX := Lib.hid (base_int (sbase seed n v) n)
    have hx0 : (sbase seed n v + n % 4294967296) % 4294967296 < 4294967296 := m32 _
    have HT0 : Hid (tellN seed n v l = finN (sumTail ((sbase seed n v + n % 4294967296) % 4294967296) l)) := Lib.hid rfl
    generalize (sbase seed n v + n % 4294967296) % 4294967296 = x0 at HX hx0 HT0
    go_wp2_with fail
    rw [HX.out]
    go_loopw [3, 6] (fun v3 v6 wr => SumRel b (sumTail x0 l) wc v3 v6 wr) (fun _ v6 _ => slen v6)
    case atStart => exact ⟨A, c, l, x0, rfl, rfl, hlc, hx0, Lib.hid ⟨rfl, HT.out, 0, rfl⟩⟩
    case round =>
      obtain ⟨A2, c2, r, x, rfl, rfl, hrc, hx, Hall⟩ := hrel
      by_cases h4 : 4 ≤ r.length
      · obtain ⟨gS, gT, m, gW⟩ := Hall.out
        rcases gT with h0 | ⟨B, o, hA, hBb, hBlt, hbytes⟩
        · exact absurd h4 (by rw [h0]; simp)
        subst hA gW
        have GS := Lib.hid gS; have GB := Lib.hid hbytes
        clear gS hbytes
        have HW := Lib.hid (tail4_int x (word r 0))
        have hwl := word_lt r 0
        go_wp2_with (first
          | (go_at_call 55; refine (four_any B o _ _ r _ GB.out h4 h4).mono ?_; rintro e w' ⟨rfl, ⟨m2, rfl⟩⟩)
          | (go_at_call 54; refine (rot32_int _ 17 _ (by omega) (by omega) (by decide)).mono ?_; rintro e w' ⟨rfl, rfl⟩))
        have Hd : (r.drop 4).length = r.length - 4 := List.length_drop
        refine ⟨⟨_, c2 - 4, r.drop 4, tail4 x (word r 0), by rw [Hd], by rw [HW.out], by rw [Hd]; exact Nat.sub_le_sub_right hrc 4, tail4_lt _ _, Lib.hid ⟨by rw [← GS.out, sumTail_long x r h4], ?_, _, rfl⟩⟩, by simp only [slen]; omega⟩
        by_cases hc4 : c2 = 4
        · exact .inl (List.eq_nil_of_length_eq_zero (by rw [Hd]; omega))
        · exact .inr ⟨B, o + 4, by rw [if_neg hc4], hBb, hBlt, GB.out.drop 4⟩
      · obtain ⟨gS, gT, m, gW⟩ := Hall.out
        subst gW
        have GS : Hid (ones x r = sumTail x0 l) := Lib.hid (by rw [← gS, sumTail_short x r (by omega)]; rfl)
        have GT := Lib.hid gT
        clear gS gT Hall
        go_wp2_with fail
        generalize decide (4 ≤ (r.length : Int)) = d4
        go_loop [3, 69] (fun v3 v69 => ∃ k : Nat, k ≤ r.length ∧ v69 = .int .i64 k ∧ v3 = .int .u32 (ones x (r.take k) : Nat)) (fun _ v69 => r.length - (intOf v69).toNat)
        case atStart => exact ⟨0, by omega, rfl, rfl⟩
        case round =>
          obtain ⟨k, hk, rfl, rfl⟩ := hrel
          have hol := ones_lt (r.take k) x hx
          by_cases hlt : k < r.length
          · have HO := Lib.hid (ones_snoc x r k hlt)
            generalize ones x (r.take k) = y at hol HO
            rcases GT.out with h0 | ⟨B, o, hA, hBb, hBlt, hbytes⟩
            · exact absurd hlt (by rw [h0]; simp)
            subst hA
            have ck := hbytes k hlt
            have hb8 := at8_lt r k
            clear hbytes
            generalize at8 r k = z at ck hb8 HO
            have HI := Lib.hid (tail1_int y z)
            go_wp2_with (first
              | (go_at_call 54; refine (rot32_int _ 11 _ (by omega) (by omega) (by decide)).mono ?_; rintro e w' ⟨rfl, rfl⟩))
            go_round
            case rel => exact ⟨k + 1, by omega, by go_num, by rw [HO.out, ← HI.out]⟩
            case measure => simp [intOf]; omega
          · obtain rfl : k = r.length := by omega
            rw [List.take_length] at hol ⊢
            rw [GS.out] at hol ⊢
            have HF : Hid (tellN seed n v l = finN (sumTail x0 l)) := Lib.hid HT0.out
            generalize sumTail x0 l = y at hol HF
            have e1 := fin_xor15 y hol
            have e2 := fin1_int y
            have b2 : y ^^^ y >>> 15 < 4294967296 := xs_lt 15 y hol
            have b3 : fin1 y < 4294967296 := fin1_lt y
            have e3 := fin_xor13 (fin1 y) b3
            have HF2 := Lib.hid (finN_parts y)
            generalize y ^^^ y >>> 15 = y1 at e1 e2 b2
            generalize fin1 y = z at e2 b3 e3 HF2
            have e4 := fin2_int z
            have b4 : z ^^^ z >>> 13 < 4294967296 := xs_lt 13 z b3
            have b5 : fin2 z < 4294967296 := fin2_lt z
            have e5 := fin_xor16 (fin2 z) b5
            generalize z ^^^ z >>> 13 = z1 at e3 e4 b4
            generalize fin2 z = u at e4 b5 e5 HF2
            have b6 : fin3 u < 4294967296 := xs_lt 16 u b5
            generalize fin3 u = t at e5 b6 HF2
            go_wp2_with fail
            go_ret
            exact ⟨by rw [HF.out, HF2.out]; rfl, _, rfl⟩
end Go.Proofs.Ytipadidfiffkjaa
