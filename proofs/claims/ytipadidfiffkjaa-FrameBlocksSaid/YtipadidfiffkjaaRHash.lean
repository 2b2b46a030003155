/- The reference's Hash: xxHash32 of the bytes. -/
import Derived.Test.YtipadidfiffkjaaHash
import Derived.Deep.WholeRow
import Derived.Deep.DeepCutAuto
namespace Go.Proofs.Ytipadidfiffkjaa
open Go.RowKit Go.PostSums
/-- the four lanes as cells -/
def vcells (v : Lanes) : Array Value := #[.int .i64 (v.a : Int), .int .i64 (v.b : Int), .int .i64 (v.c : Int), .int .i64 (v.d : Int)]
theorem vcells_size (v : Lanes) : (vcells v).size = 4 := rfl
theorem vcells_one (v : Lanes) : (vcells v).all (·.oneCell') = true := by
  rw [Array.all_eq_true_iff_forall_mem]
  intro x hx
  simp only [vcells, List.mem_toArray, List.mem_cons, List.not_mem_nil, or_false] at hx
  rcases hx with rfl | rfl | rfl | rfl <;> rfl
theorem vcells_get (v : Lanes) (k : Nat) (hk : k < 4) : (vcells v)[k]? = some (.int .i64 (lane v k : Nat)) := by
  match k, hk with
  | 0, _ => simp [vcells, lane]
  | 1, _ => simp [vcells, lane]
  | 2, _ => simp [vcells, lane]
  | 3, _ => simp [vcells, lane]
theorem vcells_set (v : Lanes) (r : List UInt8) (k : Nat) (hk : k < 4) :
    (vcells (upTo v r k)).setIfInBounds k (.int .i64 (roundN (lane v k) (word r (4 * k)) : Nat)) = vcells (upTo v r (k + 1)) := by
  match k, hk with
  | 0, _ => simp [vcells, upTo, lane]
  | 1, _ => simp [vcells, upTo, lane]
  | 2, _ => simp [vcells, upTo, lane]
  | 3, _ => simp [vcells, upTo, lane]
theorem lane_upTo (v : Lanes) (r : List UInt8) (k : Nat) (hk : k < 4) : lane (upTo v r k) k = lane v k := by
  match k, hk with
  | 0, _ => simp [upTo, lane]
  | 1, _ => simp [upTo, lane]
  | 2, _ => simp [upTo, lane]
  | 3, _ => simp [upTo, lane]
theorem word_at (l : List UInt8) (i j : Nat) : word l (i + j) = word (l.drop i) j := by
  unfold word; simp only [at8_drop, Nat.add_assoc]
theorem sizeV : (Try.prog.info? 74).map (·.size) = some 4 := by kernel_rfl
theorem zeroV (w : World) : (zeroValue 74).run Try.prog w = .ok (.agg #[.int .i64 0, .int .i64 0, .int .i64 0, .int .i64 0]) w := by kernel_rfl
theorem of_int (q : Nat) (hq : q < 4294967296) :
    (#[.int .i64 (((q : Int) + 2654435761 + 2246822519) % 4294967296), .int .i64 (((q : Int) + 2246822519) % 4294967296), .int .i64 (q : Int), .int .i64 (((q : Int) - 2654435761) % 4294967296)] : Array Value) = vcells (.of q) := by
  have e1 : ((q : Int) + 2654435761 + 2246822519) % 4294967296 = (((q + q1 + q2) % 4294967296 : Nat) : Int) := by unfold q1 q2; omega
  have e2 : ((q : Int) + 2246822519) % 4294967296 = (((q + q2) % 4294967296 : Nat) : Int) := by unfold q2; omega
  have e3 : (q : Int) = ((q % 4294967296 : Nat) : Int) := by omega
  have e4 : ((q : Int) - 2654435761) % 4294967296 = (((q + 4294967296 - q1) % 4294967296 : Nat) : Int) := by unfold q1; omega
  rw [e1, e2, e4]
  unfold vcells Lanes.of
  rw [← e3]
theorem rbase_int (p n : Nat) : ((p : Int) + (n : Int)) % 4294967296 = (((p + n % 4294967296) % 4294967296 : Nat) : Int) := by omega
theorem sbase_lt (seed n : Nat) (v : Lanes) : sbase seed n v < 4294967296 := by
  unfold sbase; split
  · exact m32 _
  · exact m32 _
theorem byte_elem (s : ByteArray) (i : Nat) (h : i < s.size) : s.data.toList[i]'(by rw [Array.length_toList]; exact h) = s[i] := rfl
theorem rfin_xor15 (y : Nat) (hy : y < 4294967296) : Go.bits .xor .i64 (y : Int) ((y : Int) / 32768) = ((y ^^^ y >>> 15 : Nat) : Int) := by
  have e : y >>> 15 = y / 32768 := Nat.shiftRight_eq_div_pow y 15
  rw [e, show ((y : Int) / 32768) = ((y / 32768 : Nat) : Int) by omega]
  exact xor64 y _ (by omega) (by omega)
theorem rfin_xor13 (y : Nat) (hy : y < 4294967296) : Go.bits .xor .i64 (y : Int) ((y : Int) / 8192) = ((y ^^^ y >>> 13 : Nat) : Int) := by
  have e : y >>> 13 = y / 8192 := Nat.shiftRight_eq_div_pow y 13
  rw [e, show ((y : Int) / 8192) = ((y / 8192 : Nat) : Int) by omega]
  exact xor64 y _ (by omega) (by omega)
theorem rfin_xor16 (y : Nat) (hy : y < 4294967296) : Go.bits .xor .i64 (y : Int) ((y : Int) / 65536) = ((fin3 y : Nat) : Int) := by
  unfold fin3
  have e : y >>> 16 = y / 65536 := Nat.shiftRight_eq_div_pow y 16
  rw [e, show ((y : Int) / 65536) = ((y / 65536 : Nat) : Int) by omega]
  exact xor64 y _ (by omega) (by omega)
theorem mul_fin1 (y y1 : Nat) (w : World) (h : y ^^^ y >>> 15 = y1) (hy : y1 < 4294967296) :
    Calls Try.prog 44 #[.int .i64 (y1 : Int), .int .i64 2246822519] w fun e w' => e = .returned (.int .i64 (fin1 y : Nat)) ∧ w' = w := by
  refine (rmul_any y1 2246822519 w hy (by decide)).mono fun e w' ⟨he, hw⟩ => ⟨?_, hw.symm⟩
  rw [he]; unfold fin1 q2; rw [h]
theorem mul_fin2 (y y1 : Nat) (w : World) (h : y ^^^ y >>> 13 = y1) (hy : y1 < 4294967296) :
    Calls Try.prog 44 #[.int .i64 (y1 : Int), .int .i64 3266489917] w fun e w' => e = .returned (.int .i64 (fin2 y : Nat)) ∧ w' = w := by
  refine (rmul_any y1 3266489917 w hy (by decide)).mono fun e w' ⟨he, hw⟩ => ⟨?_, hw.symm⟩
  rw [he]; unfold fin2 q3; rw [h]
def RTail (s : ByteArray) (T : Nat) (wc : World) (v5 v6 : Value) (wr : World) : Prop := ∃ (j x : Nat), j ≤ s.size ∧ v5 = .int .i64 (j : Int) ∧ v6 = .int .i64 (x : Int) ∧ x < 4294967296 ∧
  Hid (sumTail x (s.data.toList.drop j) = T ∧ ∃ m, wr = wc.drewN m)
def ROnes (s : ByteArray) (T : Nat) (wc : World) (v5 v6 : Value) (wr : World) : Prop := ∃ (j x : Nat), j ≤ s.size ∧ v5 = .int .i64 (j : Int) ∧ v6 = .int .i64 (x : Int) ∧ x < 4294967296 ∧
  Hid (ones x (s.data.toList.drop j) = T ∧ ∃ m, wr = wc.drewN m)
def RCut (w : World) (q : Nat) (s : ByteArray) (v5 v6 : Value) (wx : World) : Prop := ∃ i : Nat, i ≤ s.size ∧ v5 = .int .i64 (i : Int) ∧ v6 = .int .i64 (sbase q s.size (lanes (.of q) s.data.toList).1 : Nat) ∧
  Hid (s.data.toList.drop i = (lanes (.of q) s.data.toList).2 ∧ Below w.heap.size w wx)
def RLoop (w : World) (b q : Nat) (s : ByteArray) (v5 : Value) (wr : World) : Prop := ∃ (i : Nat) (v : Lanes), i ≤ s.size ∧ v5 = .int .i64 (i : Int) ∧
  Hid (v.ok ∧ wr.heap[b]? = some (.cells (vcells v) 74 (0, 0)) ∧ lanes v (s.data.toList.drop i) = lanes (.of q) s.data.toList ∧ Below w.heap.size w wr)
set_option maxRecDepth 100000 in
set_option maxHeartbeats 1000000 in
theorem RHash_any (s : ByteArray) (seed : Int) (w : World) (hs : s.size ≤ 140737488351232) :
    Calls Try.prog 37 #[.string s, .int .i64 seed] w fun e w' => e = .returned (.int .i64 (hashN (seed % 4294967296).toNat s.data.toList : Nat)) ∧ Below w.heap.size w w' := by
  obtain ⟨q, hq⟩ : ∃ q : Nat, seed % 4294967296 = q := ⟨(seed % 4294967296).toNat, by omega⟩
  have hq2 : q < 4294967296 := by omega
  have HQ := Lib.hid (show (seed % 4294967296).toNat = q by omega)
  have HO := Lib.hid (of_int q hq2)
  have hand := and_all
  have hz := zeroV
  have hml : s.size ≤ maxLen := by unfold maxLen; omega
  go_enter Try.func37, Try.ntmps37
  go_upto_if 16 with (fail)
  generalize hd : decide (16 ≤ (s.size : Int)) = d
  have HD := Lib.hid hd
  clear hd
  go_cut [5, 6] (fun v5 v6 wx => RCut w q s v5 v6 wx)
  case first =>
    cases d with
    | true =>
      have hst := run_storeCells_new (P := Try.prog) w 74 #[.int .i64 0, .int .i64 0, .int .i64 0, .int .i64 0] (vcells (.of q)) (by rw [vcells_size]; exact sizeV) (by rw [vcells_size]; rfl) (vcells_one _)
      rw [← HO.out] at hst
      go_wp2_with fail
      rw [HO.out]
      generalize hb : w.heap.size = b
      have HB := Lib.hid hb
      have HA : Hid ((w.alloc (.cells (vcells (.of q)) 74)).heap[b]? = some (.cells (vcells (.of q)) 74 (0, 0))) := Lib.hid (by rw [← hb]; exact heap_alloc_last w _)
      clear hb hst hz
      go_loopw [5] (fun v5 wr => RLoop w b q s v5 wr) (fun v5 _ => s.size - (intOf v5).toNat)
      case atStart => exact ⟨0, .of q, by omega, rfl, Lib.hid ⟨of_ok _, HA.out, rfl, (Below.refl _ _).alloc (Nat.le_refl _) _⟩⟩
      case round =>
        obtain ⟨i, v, hi, rfl, Hall⟩ := hrel
        by_cases h16 : i + 16 ≤ s.size
        · go_wp2_with fail
          obtain ⟨wo, rfl⟩ : ∃ wo : World, wo = wr := ⟨_, rfl⟩
          go_loopw [5, 8] (fun v5 v8 wr => ∃ k : Nat, k ≤ 4 ∧ v8 = .int .i64 k ∧ v5 = .int .i64 ((i + 4 * k : Nat) : Int) ∧
            Hid (wr.heap[b]? = some (.cells (vcells (upTo v (s.data.toList.drop i) k)) 74 (0, 0)) ∧ Below w.heap.size w wr)) (fun _ v8 _ => 4 - (intOf v8).toNat)
          case atStart => exact ⟨0, by omega, rfl, rfl, Lib.hid ⟨by rw [upTo_zero]; exact Hall.out.2.1, Hall.out.2.2.2⟩⟩
          case round =>
            obtain ⟨k, hk, rfl, rfl, Hk⟩ := hrel
            by_cases hk4 : k < 4
            · obtain ⟨kH, kB⟩ := Hk.out
              have ck : wr.cell? ⟨b, k, none⟩ = some (.int .i64 (lane v k : Nat)) := (cell_of_row wr b k _ _ _ kH).trans (by rw [vcells_get _ k hk4, lane_upTo v _ k hk4])
              have fk : wr.frozen? ⟨b, k, none⟩ = false := frozen_of_row wr b k _ _ kH
              have KH := Lib.hid kH; have KB := Lib.hid kB
              clear kH kB Hk
              have hll := lane_lt v k Hall.out.1
              have hwl := word_lt s.data.toList (i + 4 * k)
              go_wp2_with fail
              refine QuietTail.wp_region (fun w' => ∃ m, w' = wr.drewN m) 13 (by kernel_rfl) (by kernel_rfl) ⟨1, rfl⟩ ?_
              simp only [List.take_succ_cons, List.take_zero, List.drop_succ_cons, List.drop_zero]
              repeat (go_big_quiet_step (first
                | (go_at_call 46; exact Calls.quiet_of (rfour_any s (i + 4 * k) _ hml (by omega)))
                | (go_at_call 44; refine Calls.quiet_of_same (rmul_int _ _ _ ?_ ?_ ?_ ?_) <;> first | omega | exact Int.ofNat_lt.2 (rotN_lt _ _ (by omega) (by decide)))
                | (go_at_call 45; refine Calls.quiet_of (rturned_int _ 13 _ ?_ ?_ (by decide)) <;> omega)))
              refine wpQuiet_nil ?_
              rintro _ ⟨nq, rfl⟩
              go_wp2_with fail
              go_roundw
              case rel =>
                refine ⟨k + 1, by omega, by go_num, congrArg (Value.int .i64) (by omega), Lib.hid ⟨?_, ?_⟩⟩
                · rw [round_int, word_at]
                  exact (heap_setCell_same (wr.drewN nq) b k _ _ _ KH.out).trans (by rw [vcells_set _ _ k hk4])
                · exact (KB.out.trans (below_drewN wr nq _)).setCell (by show w.heap.size ≤ b; rw [HB.out]; exact Nat.le_refl _) _
              case measure => simp [intOf]; omega
            · obtain rfl : k = 4 := by omega
              obtain ⟨kH, kB⟩ := Hk.out
              have KH := Lib.hid kH; have KB := Lib.hid kB
              clear kH kB Hk
              go_wp2_with fail
              go_roundw
              case rel =>
                have hl16 : 16 ≤ (s.data.toList.drop i).length := by rw [List.length_drop, Array.length_toList]; show 16 ≤ s.size - i; omega
                refine ⟨i + 16, v.block (s.data.toList.drop i), by omega, rfl, Lib.hid ⟨block_ok _ _, ?_, ?_, KB.out⟩⟩
                · rw [← upTo_four]; exact KH.out
                · rw [← Hall.out.2.2.1, lanes_long v _ hl16, List.drop_drop]
              case measure => simp [intOf]; omega
        · obtain ⟨gV, gH, gL, gB⟩ := Hall.out
          obtain ⟨g1, g2, g3, g4⟩ := gV
          have d0 : wr.cell? ⟨b, 0, none⟩ = some (.int .i64 (v.a : Int)) := (cell_of_row wr b 0 _ _ _ gH).trans rfl
          have d1 : wr.cell? ⟨b, 1, none⟩ = some (.int .i64 (v.b : Int)) := (cell_of_row wr b 1 _ _ _ gH).trans rfl
          have d2 : wr.cell? ⟨b, 2, none⟩ = some (.int .i64 (v.c : Int)) := (cell_of_row wr b 2 _ _ _ gH).trans rfl
          have d3 : wr.cell? ⟨b, 3, none⟩ = some (.int .i64 (v.d : Int)) := (cell_of_row wr b 3 _ _ _ gH).trans rfl
          have hlr : (s.data.toList.drop i).length < 16 := by rw [List.length_drop, Array.length_toList]; show s.size - i < 16; omega
          have GL : Hid (lanes (.of q) s.data.toList = (v, s.data.toList.drop i)) := Lib.hid (by rw [← gL, lanes_short v _ hlr])
          have GB := Lib.hid gB
          have r0 := rotN_lt v.a 1 g1 (by decide); have r1 := rotN_lt v.b 7 g2 (by decide); have r2 := rotN_lt v.c 12 g3 (by decide); have r3 := rotN_lt v.d 18 g4 (by decide)
          have HS : Hid (((rotN v.a 1 : Int) + (rotN v.b 7 : Int) + (rotN v.c 12 : Int) + (rotN v.d 18 : Int)) % 4294967296 = ((v.sum : Nat) : Int)) := Lib.hid (by unfold Lanes.sum; omega)
          have T0 : Hid (∀ m, Calls Try.prog 45 #[.int .i64 (v.a : Int), .int .i64 1] (wr.drewN m) fun e w' => e = .returned (.int .i64 (rotN v.a 1 : Nat)) ∧ ∃ k, w' = (wr.drewN m).drewN k) := Lib.hid (fun m => rturned_any v.a 1 _ g1 (by decide))
          have T1 : Hid (∀ m, Calls Try.prog 45 #[.int .i64 (v.b : Int), .int .i64 7] (wr.drewN m) fun e w' => e = .returned (.int .i64 (rotN v.b 7 : Nat)) ∧ ∃ k, w' = (wr.drewN m).drewN k) := Lib.hid (fun m => rturned_any v.b 7 _ g2 (by decide))
          have T2 : Hid (∀ m, Calls Try.prog 45 #[.int .i64 (v.c : Int), .int .i64 12] (wr.drewN m) fun e w' => e = .returned (.int .i64 (rotN v.c 12 : Nat)) ∧ ∃ k, w' = (wr.drewN m).drewN k) := Lib.hid (fun m => rturned_any v.c 12 _ g3 (by decide))
          have T3 : Hid (∀ m, Calls Try.prog 45 #[.int .i64 (v.d : Int), .int .i64 18] (wr.drewN m) fun e w' => e = .returned (.int .i64 (rotN v.d 18 : Nat)) ∧ ∃ k, w' = (wr.drewN m).drewN k) := Lib.hid (fun m => rturned_any v.d 18 _ g4 (by decide))
          clear gH gL gB Hall
          go_wp2_with fail
          go_quiet (first
            | (go_at_call 45; with_reducible exact Calls.quiet_of (T0.out _))
            | (go_at_call 45; with_reducible exact Calls.quiet_of (T1.out _))
            | (go_at_call 45; with_reducible exact Calls.quiet_of (T2.out _))
            | (go_at_call 45; with_reducible exact Calls.quiet_of (T3.out _)))
          go_wp2_with fail
          go_meet
          have hsb : Hid (sbase q s.size (lanes (.of q) s.data.toList).1 = v.sum) := Lib.hid (by
            have h16 := of_decide_eq_true HD.out
            unfold sbase; rw [if_pos (by omega), GL.out])
          refine ⟨i, hi, rfl, by rw [hsb.out]; exact congrArg _ HS.out, Lib.hid ⟨by rw [GL.out], GB.out.trans (below_drewN wr nq _)⟩⟩
    | false =>
      have h16 : s.size < 16 := by have := of_decide_eq_false HD.out; omega
      have hls : Hid (lanes (.of q) s.data.toList = (.of q, s.data.toList)) := Lib.hid (lanes_short _ _ (by rw [Array.length_toList]; exact h16))
      have hsb : Hid (sbase q s.size (lanes (.of q) s.data.toList).1 = (q + q5) % 4294967296) := Lib.hid (by unfold sbase; rw [if_neg (by omega)])
      go_wp2_with fail
      go_meet
      refine ⟨0, by omega, rfl, by rw [hsb.out]; exact congrArg _ (seed_int q), Lib.hid ⟨by rw [hls.out]; rfl, Below.refl _ _⟩⟩
  case rest =>
    obtain ⟨i, hi, rfl, rfl, Hc⟩ := hcut
    have HX := Lib.hid (rbase_int (sbase q s.size (lanes (.of q) s.data.toList).1) s.size)
    have hsbl : sbase q s.size (lanes (.of q) s.data.toList).1 < 4294967296 := sbase_lt _ _ _
    have hx0 : (sbase q s.size (lanes (.of q) s.data.toList).1 + s.size % 4294967296) % 4294967296 < 4294967296 := m32 _
    have HT : Hid (hashN q s.data.toList = finN (sumTail ((sbase q s.size (lanes (.of q) s.data.toList).1 + s.size % 4294967296) % 4294967296) (s.data.toList.drop i))) := Lib.hid (by
      rw [Hc.out.1]; unfold hashN tellN sbase; rw [Array.length_toList]; rfl)
    have HB := Lib.hid Hc.out.2
    clear Hc hz
    generalize (sbase q s.size (lanes (.of q) s.data.toList).1 + s.size % 4294967296) % 4294967296 = x0 at HX hx0 HT
    generalize sbase q s.size (lanes (.of q) s.data.toList).1 = y0 at HX hsbl
    go_wp2_with fail
    rw [HX.out]
    generalize hT0 : sumTail x0 (s.data.toList.drop i) = T at HT
    have HT0 := Lib.hid hT0
    clear hT0
    go_loopw [5, 6] (fun v5 v6 wr => RTail s T wc v5 v6 wr) (fun v5 _ _ => s.size - (intOf v5).toNat)
    case atStart => exact ⟨i, x0, hi, rfl, rfl, hx0, Lib.hid ⟨HT0.out, 0, rfl⟩⟩
    case round =>
      obtain ⟨j, x, hj, rfl, rfl, hx, Hall⟩ := hrel
      obtain ⟨gS, m, gW⟩ := Hall.out
      subst gW
      by_cases h4 : j + 4 ≤ s.size
      · have hl4 : 4 ≤ (s.data.toList.drop j).length := by rw [List.length_drop, Array.length_toList]; show 4 ≤ s.size - j; omega
        have GS : Hid (sumTail (tail4 x (word s.data.toList j)) (s.data.toList.drop (j + 4)) = T) := Lib.hid (by
          rw [← gS, sumTail_long x _ hl4, List.drop_drop, word_drop])
        have HW := Lib.hid (tail4_int x (word s.data.toList j))
        have hwl := word_lt s.data.toList j
        clear gS Hall
        go_wp2_with (first
          | (go_at_call 46; refine (rfour_any s j _ hml (by omega)).mono ?_; rintro e w' ⟨rfl, ⟨m1, rfl⟩⟩)
          | (go_at_call 44; refine (rmul_int _ _ _ ?_ ?_ ?_ ?_).mono ?_; omega; (first | omega | exact Int.ofNat_lt.2 (rotN_lt _ _ (by omega) (by decide))); omega; omega; rintro e w' ⟨rfl, rfl⟩)
          | (go_at_call 45; refine (rturned_int _ 17 _ (by omega) (by omega) (by decide)).mono ?_; rintro e w' ⟨rfl, ⟨m2, rfl⟩⟩))
        go_roundw
        case rel => exact ⟨j + 4, tail4 x (word s.data.toList j), by omega, by go_num, by rw [HW.out], tail4_lt _ _, Lib.hid ⟨GS.out, _, rfl⟩⟩
        case measure => simp [intOf]; omega
      · have GS : Hid (ones x (s.data.toList.drop j) = T) := Lib.hid (by
          rw [← gS, sumTail_short x _ (by rw [List.length_drop, Array.length_toList]; show s.size - j < 4; omega)]; rfl)
        clear gS Hall
        go_wp2_with fail
        generalize decide ((j : Int) + 4 ≤ (s.size : Int)) = d4
        go_loopw [5, 6] (fun v5 v6 wr => ROnes s T wc v5 v6 wr) (fun v5 _ _ => s.size - (intOf v5).toNat)
        case atStart => exact ⟨j, x, hj, rfl, rfl, hx, Lib.hid ⟨GS.out, _, rfl⟩⟩
        case round =>
          obtain ⟨i2, y, hi2, rfl, rfl, hy, Hall⟩ := hrel
          obtain ⟨gS, m2, gW⟩ := Hall.out
          subst gW
          by_cases hlt : i2 < s.size
          · have GO : Hid (ones (tail1 y s[i2].toNat) (s.data.toList.drop (i2 + 1)) = T) := Lib.hid (by
              rw [← gS, List.drop_eq_getElem_cons (i := i2) (by rw [Array.length_toList]; exact hlt), ones_cons, byte_elem s i2 hlt])
            have hb8 : s[i2].toNat < 256 := s[i2].toNat_lt
            have HW := Lib.hid (tail1_int y s[i2].toNat)
            clear gS Hall
            go_wp2_with (first
              | (go_at_call 44; refine (rmul_int _ _ _ ?_ ?_ ?_ ?_).mono ?_; omega; (first | omega | exact Int.ofNat_lt.2 (rotN_lt _ _ (by omega) (by decide))); omega; omega; rintro e w' ⟨rfl, rfl⟩)
              | (go_at_call 45; refine (rturned_int _ 11 _ (by omega) (by omega) (by decide)).mono ?_; rintro e w' ⟨rfl, ⟨m3, rfl⟩⟩))
            go_roundw
            case rel => exact ⟨i2 + 1, tail1 y s[i2].toNat, by omega, by go_num, by rw [HW.out], tail1_lt _ _, Lib.hid ⟨GO.out, _, rfl⟩⟩
            case measure => simp [intOf]; omega
          · obtain rfl : i2 = s.size := by omega
            have GY : Hid (y = T) := Lib.hid (by rw [← gS, List.drop_of_length_le (by rw [Array.length_toList]; exact Nat.le_refl _)]; rfl)
            clear gS Hall
            have HF := Lib.hid (finN_parts y)
            have e1 := rfin_xor15 y hy
            have b2 : y ^^^ y >>> 15 < 4294967296 := xs_lt 15 y hy
            have b3 : fin1 y < 4294967296 := fin1_lt y
            have e3 := rfin_xor13 (fin1 y) b3
            have M1 := Lib.hid (fun w' => mul_fin1 y _ w' rfl b2)
            have b4 : fin1 y ^^^ fin1 y >>> 13 < 4294967296 := xs_lt 13 _ b3
            have M2 := Lib.hid (fun w' => mul_fin2 (fin1 y) _ w' rfl b4)
            generalize y ^^^ y >>> 15 = y1 at e1 b2 M1
            generalize fin1 y = z at b3 e3 HF M1 M2 b4
            generalize z ^^^ z >>> 13 = z1 at e3 M2 b4
            have b5 : fin2 z < 4294967296 := fin2_lt z
            have e5 := rfin_xor16 (fin2 z) b5
            generalize fin2 z = u at b5 e5 HF M2
            generalize fin3 u = t at e5 HF
            go_wp2_with (first
              | (go_at_call 44; with_reducible refine (M1.out _).mono ?_; rintro e w' ⟨rfl, rfl⟩)
              | (go_at_call 44; with_reducible refine (M2.out _).mono ?_; rintro e w' ⟨rfl, rfl⟩))
            go_ret
            exact ⟨by rw [HQ.out, HT.out, ← GY.out, HF.out]; rfl, HB.out.trans (below_drewN wc _ _)⟩
end Go.Proofs.Ytipadidfiffkjaa
