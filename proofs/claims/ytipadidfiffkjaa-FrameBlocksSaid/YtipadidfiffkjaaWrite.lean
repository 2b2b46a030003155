/- (*sums.Hasher).Write: the hasher took the text; nothing else has changed. -/
import Derived.Test.YtipadidfiffkjaaHasher
namespace Go.Proofs.Ytipadidfiffkjaa
open Go.RowKit Go.PostSums
set_option maxHeartbeats 800000 in
theorem Write_any (b seed n : Nat) (v : Lanes) (l : List UInt8) (s : ByteArray) (w : World) (hI : IsHasher w b seed v n l) (hl : l.length < 16) (hs : s.size ≤ 140737488351232) (hn : n + s.size ≤ 9223372036854775807) :
    Calls Try.prog 49 #[.pointer (some ⟨b, 0, none⟩), .string s] w fun e w' => e = .returned (.int .i64 0) ∧
      IsHasher w' b seed (lanes v (l ++ s.data.toList)).1 (n + s.size) (lanes v (l ++ s.data.toList)).2 ∧ w.grownBy w' (some b) := by
  obtain ⟨A, c, hH, hlc, hvok, hT⟩ := hI
  have hb : b < w.heap.size := (Array.getElem?_eq_some_iff.1 hH).1
  have c0 : w.cell? ⟨b, 0, none⟩ = some (.bool true) := (hcell hH 0).trans rfl
  have c6 : w.cell? ⟨b, 6, none⟩ = some (.int .i64 (n : Int)) := (hcell hH 6).trans rfl
  have f6 := hfree hH 6
  have HH1 := Lib.hid (by have := hset hH 6 (.int .i64 ((n : Int) + (s.size : Int))); rw [hcells_n] at this; exact this)
  have HV := Lib.hid hvok; clear hvok
  have Hcast := Lib.hid (cast_add n s.size)
  have HT := Lib.hid hT
  have HS := Lib.hid hs
  have hs' : s.size ≤ 140737488351232 := hs
  clear hT hH
  go_enter Try.func49, Try.ntmps49
  go_wp2_with fail
  have G1 := grown_set w b 6 (.int .i64 ((n : Int) + (s.size : Int)))
  generalize w.setCell ⟨b, 6, none⟩ (.int .i64 ((n : Int) + (s.size : Int))) = W at G1 HH1
  have HT1 := Lib.hid (HT.out.grown G1)
  have c7 : W.cell? ⟨b, 7, none⟩ = some (.slice A l.length c) := (cell_of_row W b 7 _ _ _ HH1.out).trans rfl
  refine QuietTail.wp_region (fun w' => ∃ m, w' = W.drewN m) 16 (by kernel_rfl) (by kernel_rfl) ⟨1, rfl⟩ ?_
  simp only [List.take_succ_cons, List.take_zero, List.drop_succ_cons, List.drop_zero]
  repeat (go_big_quiet_step (fail))
  refine wpQuiet_nil ?_
  rintro _ ⟨nq, rfl⟩
  have hbW : b < (W.drewN nq).heap.size := Nat.lt_of_lt_of_le hb G1.size
  refine wpList_append_tail rfl (.tmp 39) (.tmp 40) rfl b A l s rfl rfl HT1.out hbW (by omega) ?_
  intro A' c' W2 hT2 hc' hG2
  have G2 := (grown_trans G1 (grown_trans (grown_drewN W nq (some b)) (grown_none hG2 (some b))))
  have HH2 : Hid (W2.heap[b]? = _) := Lib.hid ((hG2.block b hbW (by simp)).trans HH1.out)
  have HT2 := Lib.hid hT2
  have hm : l.length + s.size = (l ++ s.data.toList).length := by simp
  have Hm := Lib.hid hm
  clear c7 HH1 HT1 G1 hG2 hT2 hm c0 c6 f6 HT Hcast hlc
  go_wp2_with fail
  go_loopw [5] (fun v5 wr => ∃ (A2 : Option Addr) (c2 : Nat) (r : List UInt8) (v2 : Lanes), v5 = .slice A2 r.length c2 ∧ r.length ≤ c2 ∧
      Hid (wr.heap[b]? = some (.cells (hcells seed v2 (n + s.size) (.slice A l.length c)) 89 (0, 0)) ∧ v2.ok ∧ lanes v2 r = lanes v (l ++ s.data.toList) ∧ Tail wr b A2 r ∧ w.grownBy wr (some b))) (fun v5 _ => slen v5)
  case atStart => exact ⟨A', c', _, v, by rw [Hm.out], by rw [← Hm.out]; exact hc', ⟨HH2.out, HV.out, rfl, HT2.out, G2⟩⟩
  case round =>
    obtain ⟨A2, c2, r, v2, rfl, hrc, Hall⟩ := hrel
    by_cases h16 : 16 ≤ r.length
    · obtain ⟨gH, gV, gL, gT, gG⟩ := Hall.out
      have GV := Lib.hid gV; have GL := Lib.hid gL; have GG := Lib.hid gG; have GH := Lib.hid gH
      clear gV gL gG gH
      rcases gT with h0 | ⟨B, o, hA, hBb, hBlt, hbytes⟩
      · exact absurd h16 (by rw [h0]; simp)
      subst hA
      have GB := Lib.hid hbytes; clear hbytes
      go_wp2_with fail
      obtain ⟨wo, rfl⟩ : ∃ wo : World, wo = wr := ⟨_, rfl⟩
      go_loopw [47] (fun v47 wq => ∃ k : Nat, k ≤ 4 ∧ v47 = .int .i64 k ∧
        Hid (wq.heap[b]? = some (.cells (hcells seed (upTo v2 r k) (n + s.size) (.slice A l.length c)) 89 (0, 0)) ∧ wo.grownBy wq (some b))) (fun v47 _ => 4 - (intOf v47).toNat)
      case atStart => exact ⟨0, by omega, rfl, ⟨by rw [upTo_zero]; exact GH.out, grown_refl _ _⟩⟩
      case round =>
        obtain ⟨k, hk, rfl, Hk⟩ := hrel
        by_cases hk4 : k < 4
        · obtain ⟨qH, qG⟩ := Hk.out
          have ck : wr.cell? ⟨b, 2 + k, none⟩ = some (.int .u32 (lane v2 k : Nat)) := (cell_of_row wr b (2 + k) _ _ _ qH).trans (upTo_cell _ _ _ _ _ k hk4)
          have QH := Lib.hid qH; have QG := Lib.hid qG
          clear qH qG
          go_wp2_with fail
          have w4 : IntKind.i64.wrap (4 * (k : Int)) = 4 * (k : Int) := IntWalk.i64_in _ (by omega)
          have p4 : 0 ≤ 4 * (k : Int) := by omega
          have q4 : 4 * (k : Int) ≤ r.length := by omega
          have t4 : (4 * (k : Int)).toNat = 4 * k := by omega
          have hb4 : ∀ m, bytesAt (wr.drewN m) B (o + 4 * k) (r.drop (4 * k)) := fun m => (GB.out.of_block (w' := wr.drewN m) (QG.out.block B hBlt (by simpa using hBb))).drop (4 * k)
          have HB4 := Lib.hid hb4; clear hb4
          refine QuietTail.wp_region (fun w' => ∃ m, w' = wr.drewN m) 20 (by kernel_rfl) (by kernel_rfl) ⟨1, rfl⟩ ?_
          simp only [List.take_succ_cons, List.take_zero, List.drop_succ_cons, List.drop_zero]
          repeat (go_big_quiet_step (first
            | (go_at_call 55; exact Calls.quiet_of (four_any B (o + 4 * k) _ _ (r.drop (4 * k)) _ (HB4.out _) (by simp; omega) (by omega)))
            | (go_at_call 54; refine Calls.quiet_of_same (rot32_int _ 13 _ ?_ ?_ (by decide)) <;> omega)))
          refine wpQuiet_nil ?_
          rintro _ ⟨nq2, rfl⟩
          have fk : wr.frozen? ⟨b, 2 + k, none⟩ = false := frozen_of_row wr b (2 + k) _ _ QH.out
          clear w4 p4 q4 t4
          go_wp2_with fail
          go_roundw
          case rel =>
            refine ⟨k + 1, by omega, by go_num, Lib.hid ⟨?_, ?_⟩⟩
            · have hs := hset (w := wr.drewN nq2) (T := .slice A l.length c) QH.out (2 + k) (.int .u32 (((rotN ((lane v2 k + word (r.drop (4 * k)) 0 * 2246822519) % 4294967296) 13 : Nat) : Int) * 2654435761 % 4294967296))
              rw [round_int, word_drop, upTo_set _ _ _ _ _ k hk4] at hs
              rw [round_int, word_drop]
              exact hs
            · exact grown_trans QG.out (grown_trans (grown_drewN wr nq2 _) (grown_set _ b (2 + k) _))
          case measure => simp [intOf]; omega
        · obtain rfl : k = 4 := by omega
          obtain ⟨qH, qG⟩ := Hk.out
          have QH := Lib.hid qH; have QG := Lib.hid qG
          clear qH qG
          go_wp2_with fail
          go_roundw
          case rel =>
            refine ⟨_, c2 - 16, r.drop 16, v2.block r, by rw [List.length_drop], by rw [List.length_drop]; omega, Lib.hid ⟨?_, block_ok _ _, ?_, ?_, ?_⟩⟩
            · rw [← upTo_four]; exact QH.out
            · rw [← GL.out, lanes_long v2 r h16]
            · by_cases hc16 : c2 = 16
              · exact .inl (List.eq_nil_of_length_eq_zero (by rw [List.length_drop]; omega))
              · exact .inr ⟨B, o + 16, by rw [if_neg hc16], hBb, Nat.lt_of_lt_of_le hBlt QG.out.size, (GB.out.of_block (QG.out.block B hBlt (by simpa using hBb))).drop 16⟩
            · exact grown_trans GG.out QG.out
          case measure => simp only [slen]; omega
    · obtain ⟨gH, gV, gL, gT, gG⟩ := Hall.out
      have c7 : wr.cell? ⟨b, 7, none⟩ = some (.slice A l.length c) := (hcell gH 7).trans rfl
      have f7 := hfree gH 7
      have GV := Lib.hid gV; have GL := Lib.hid gL; have GG := Lib.hid gG; have GH := Lib.hid gH; have GT := Lib.hid gT
      clear gV gL gG gH gT
      go_wp2_with fail
      go_ret
      have hL : lanes v (l ++ s.data.toList) = (v2, r) := by rw [← GL.out, lanes_short v2 r (by omega)]
      have G7 := grown_set wr b 7 (.slice A2 r.length c2)
      refine ⟨rfl, ?_, grown_trans GG.out G7⟩
      rw [hL]
      refine ⟨A2, c2, ?_, hrc, GV.out, GT.out.grown G7⟩
      have := hset GH.out 7 (.slice A2 r.length c2)
      rwa [hcells_t] at this
end Go.Proofs.Ytipadidfiffkjaa
