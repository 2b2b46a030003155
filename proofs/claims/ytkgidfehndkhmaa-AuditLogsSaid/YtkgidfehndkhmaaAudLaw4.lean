/- The walk of AuditMoves. -/
import Derived.Test.YtkgidfehndkhmaaAudAwake
import Derived.Test.YtkgidfehndkhmaaAudWords
import Derived.Test.YtkgidfehndkhmaaAudMove
import Derived.Test.YtkgidfehndkhmaaAudOwn
import Derived.Deep.CutBlock
import Derived.Deep.DeepCutAuto
import Derived.ArgAppend
import Derived.WalkSpells
namespace Go.Proofs.Ytkgidfehndkhmaa
open Go.RowKit Go.PostAud Go.PostMem
theorem and_pow (x : Int) (j : Nat) (hj : j < 63) : ∃ n : Nat, n < 2 ^ j ∧ bits .and .i64 x ((2 ^ j - 1 : Nat) : Int) = (n : Int) := by
  have hp : 2 ^ j < 2 ^ 63 := Nat.pow_lt_pow_right (by decide) hj
  have hp' : 1 ≤ 2 ^ j := Nat.one_le_two_pow
  have e2 : (BitVec.ofInt 64 ((2 ^ j - 1 : Nat) : Int)).toNat = 2 ^ j - 1 := by
    rw [BitVec.toNat_ofInt]
    have h3 : ((2 ^ 64 : Nat) : Int) = 18446744073709551616 := by decide
    rw [h3]
    have : (2 : Nat) ^ 63 = 9223372036854775808 := by decide
    omega
  refine ⟨(BitVec.ofInt 64 x).toNat % 2 ^ j, Nat.mod_lt _ (by omega), ?_⟩
  have h : (BitVec.ofInt 64 x &&& BitVec.ofInt 64 ((2 ^ j - 1 : Nat) : Int)).toNat = (BitVec.ofInt 64 x).toNat % 2 ^ j := by
    rw [BitVec.toNat_and, e2, Nat.and_two_pow_sub_one_eq_mod]
  have hl : (BitVec.ofInt 64 x).toNat % 2 ^ j < 2 ^ j := Nat.mod_lt _ (by omega)
  show IntKind.i64.wrap ((BitVec.ofInt 64 x &&& BitVec.ofInt 64 ((2 ^ j - 1 : Nat) : Int)).toNat : Int) = _
  rw [h, IntKind.wrap_i64]
  have : (2 : Nat) ^ 63 = 9223372036854775808 := by decide
  omega
theorem ack_one (a : Ack) : ∀ u ∈ a.cells, u.oneCell' = true := by
  intro u hu
  unfold Ack.cells at hu
  simp only [List.mem_cons, List.not_mem_nil, or_false] at hu
  rcases hu with rfl | rfl | rfl | rfl | rfl | rfl <;> rfl
theorem mv_wf (n : Nat) (hn : n ≤ 1000) : ∀ x ∈ mvList n, x.wf := fun x hx => by
  unfold mvList at hx
  obtain ⟨i, hi, rfl⟩ := List.mem_map.1 hx
  have hi : i < n := by simpa using hi
  unfold mvAck Ack.wf i64
  exact ⟨WalkArith.wf_i64 ⟨by simp only; omega, by simp only; omega⟩, ⟨WalkArith.wf_i64 ⟨by simp only; omega, by simp only; omega⟩, WalkArith.wf_i64 ⟨by simp only; omega, by simp only; omega⟩⟩, WalkArith.wf_i64 ⟨by simp only; omega, by simp only; omega⟩, WalkArith.wf_i64 ⟨by simp only; omega, by simp only; omega⟩, WalkArith.wf_i64 ⟨by simp only; omega, by simp only; omega⟩⟩
theorem mv_wf' (n k d c i : Nat) (hn : n ≤ 1000) (hk : k ≤ 1000) (hd : d ≤ 1000) (hc : c ≤ 1000) (hi : i ≤ 1000) : ∀ x ∈ mvList n ++ [⟨0, ⟨0, (i : Int)⟩, 0, 3 * (k : Int) + (d : Int), (c : Int)⟩], x.wf := fun x hx => by
  rcases List.mem_append.1 hx with h | h
  · exact mv_wf n hn x h
  · obtain rfl := List.mem_singleton.1 h
    unfold Ack.wf i64
    exact ⟨WalkArith.wf_i64 ⟨by simp only; omega, by simp only; omega⟩, ⟨WalkArith.wf_i64 ⟨by simp only; omega, by simp only; omega⟩, WalkArith.wf_i64 ⟨by simp only; omega, by simp only; omega⟩⟩, WalkArith.wf_i64 ⟨by simp only; omega, by simp only; omega⟩, WalkArith.wf_i64 ⟨by simp only; omega, by simp only; omega⟩, WalkArith.wf_i64 ⟨by simp only; omega, by simp only; omega⟩⟩
theorem mvk (n k d : Nat) (hn : n ≤ 1000) (hk : k ≤ 1000) (hd : d ≤ 1000) : ∀ x ∈ mvList n ++ [⟨0, ⟨0, (k : Int)⟩, 0, 3 * (k : Int) + (d : Int), 3⟩], x.wf := mv_wf' n k d 3 k hn hk hd (by omega) hk
theorem mv_T5 (n k d : Nat) (hn : n ≤ 1000) (hk : k ≤ 1000) (W W0 w0 : World) (g c : Nat) (h : World.ownsRow W w0.heap.size 38 6 (.slice (some ⟨g, 0, none⟩) (n + 1) c) (n + 1) ((mvList n ++ ([⟨0, ⟨0, (k : Int)⟩, 0, 3 * (k : Int) + (d : Int), 3⟩] : List Ack)).flatMap Ack.cells)) (hb : Below w0.heap.size W0 W) :
    World.ownsRow (W.setCell ⟨g, n * 6 + 4, none⟩ (.int .i64 (3 * (k : Int)))) w0.heap.size 38 6 (.slice (some ⟨g, 0, none⟩) (n + 1) c) (n + 1) ((mvList n ++ ([⟨0, ⟨0, (k : Int)⟩, 0, 3 * (k : Int), 3⟩] : List Ack)).flatMap Ack.cells) ∧ Below w0.heap.size W0 (W.setCell ⟨g, n * 6 + 4, none⟩ (.int .i64 (3 * (k : Int)))) ∧ AcksAt (W.setCell ⟨g, n * 6 + 4, none⟩ (.int .i64 (3 * (k : Int)))) (W.setCell ⟨g, n * 6 + 4, none⟩ (.int .i64 (3 * (k : Int)))).heap.size (some ⟨g, 0, none⟩) (n + 1) (mvList n ++ [⟨0, ⟨0, (k : Int)⟩, 0, 3 * (k : Int), 3⟩]) := by
  have h5 := own_store (x := ⟨0, ⟨0, (k : Int)⟩, 0, 3 * (k : Int) + (d : Int), 3⟩) (x' := ⟨0, ⟨0, (k : Int)⟩, 0, 3 * (k : Int), 3⟩) (mv_len n) h 4 (.int .i64 (3 * (k : Int))) rfl
  exact ⟨h5, own_setBelow h hb _ _, own_acks (by simp [mv_len]) (by simpa using mv_wf' n k 0 3 k hn hk (by omega) (by omega) hk) h5⟩
theorem mv_T7 (n k d : Nat) (hn : n ≤ 1000) (hk : k ≤ 1000) (hd : d ≤ 1000) (W W0 w0 : World) (g c : Nat) (h : World.ownsRow W w0.heap.size 38 6 (.slice (some ⟨g, 0, none⟩) (n + 1) c) (n + 1) ((mvList n ++ ([⟨0, ⟨0, (k : Int)⟩, 0, 3 * (k : Int), 3⟩] : List Ack)).flatMap Ack.cells)) (hb : Below w0.heap.size W0 W) :
    Below w0.heap.size W0 ((((((W.setCell ⟨g, n * 6, none⟩ (.int .i64 0)).setCell ⟨g, n * 6 + 1, none⟩ (.int .i64 0)).setCell ⟨g, n * 6 + 2, none⟩ (.int .i64 (n : Int))).setCell ⟨g, n * 6 + 3, none⟩ (.int .i64 0)).setCell ⟨g, n * 6 + 4, none⟩ (.int .i64 (3 * (k : Int) + (d : Int)))).setCell ⟨g, n * 6 + 5, none⟩ (.int .i64 1)) ∧ AcksAt ((((((W.setCell ⟨g, n * 6, none⟩ (.int .i64 0)).setCell ⟨g, n * 6 + 1, none⟩ (.int .i64 0)).setCell ⟨g, n * 6 + 2, none⟩ (.int .i64 (n : Int))).setCell ⟨g, n * 6 + 3, none⟩ (.int .i64 0)).setCell ⟨g, n * 6 + 4, none⟩ (.int .i64 (3 * (k : Int) + (d : Int)))).setCell ⟨g, n * 6 + 5, none⟩ (.int .i64 1)) ((((((W.setCell ⟨g, n * 6, none⟩ (.int .i64 0)).setCell ⟨g, n * 6 + 1, none⟩ (.int .i64 0)).setCell ⟨g, n * 6 + 2, none⟩ (.int .i64 (n : Int))).setCell ⟨g, n * 6 + 3, none⟩ (.int .i64 0)).setCell ⟨g, n * 6 + 4, none⟩ (.int .i64 (3 * (k : Int) + (d : Int)))).setCell ⟨g, n * 6 + 5, none⟩ (.int .i64 1)).heap.size (some ⟨g, 0, none⟩) (n + 1) (mvList n ++ [⟨0, ⟨0, (n : Int)⟩, 0, 3 * (k : Int) + (d : Int), 1⟩]) := by
  have h7 := own_put6 (x := ⟨0, ⟨0, (k : Int)⟩, 0, 3 * (k : Int), 3⟩) (mv_len n) h hb ⟨0, ⟨0, (n : Int)⟩, 0, 3 * (k : Int) + (d : Int), 1⟩
  exact ⟨h7.2, own_acks (by simp [mv_len]) (mv_wf' n k d 1 n hn hk hd (by omega) hn) h7.1⟩
def MRel (w0 : World) (n : Nat) (v3 v4 : Value) (wr : World) : Prop := ∃ (i : Nat) (A : Option Addr) (c : Nat), i ≤ n ∧ v3 = .slice A i c ∧ v4 = .int .i64 (i : Int) ∧ Hid (Below w0.heap.size w0 wr ∧ wr.ownsRow w0.heap.size 38 6 (.slice A i c) i ((List.range i).flatMap fun j => (mvAck j).cells))
theorem infoAck : (Try.prog.info? 38).map (fun i => (i.zero, i.size, i.bytes)) = some (some (.agg #[.int .i64 0, .int .i64 0, .int .i64 0, .int .i64 0, .int .i64 0, .int .i64 0]), 6, 48) := by kernel_rfl
set_option maxRecDepth 100000 in
set_option maxHeartbeats 1600000 in
theorem AuditMoves_walk (many which b : Int) (w : World) (_ : (Lit.int .i64 many).wf = true) (_ : (Lit.int .i64 which).wf = true) (_ : (Lit.int .i64 b).wf = true) :
    Calls Try.prog 5 #[.int .i64 many, .int .i64 which, .int .i64 b] w fun e w' => e = .returned (.bool true) ∧ Below w.heap.size w w' := by
  obtain ⟨n', hn', hN⟩ : ∃ n : Nat, n < 16 ∧ bits .and .i64 many 15 = (n : Int) := and_pow many 4 (by decide)
  obtain ⟨w', hw', hW⟩ : ∃ n : Nat, n < 256 ∧ bits .and .i64 which 255 = (n : Int) := and_pow which 8 (by decide)
  obtain ⟨d', hd', hD⟩ : ∃ n : Nat, n < 2 ∧ bits .and .i64 b 1 = (n : Int) := and_pow b 1 (by decide)
  obtain ⟨n, hn⟩ : ∃ n : Nat, n = 2 + n' := ⟨_, rfl⟩
  obtain ⟨d, hd⟩ : ∃ d : Nat, d = 1 + d' := ⟨_, rfl⟩
  obtain ⟨k, hk⟩ : ∃ k : Nat, k = w' % n := ⟨_, rfl⟩
  have hkn : k < n := by rw [hk]; exact Nat.mod_lt _ (by omega)
  have hn2 : 2 ≤ n ∧ n ≤ 17 := by omega
  have hd2 : 1 ≤ d ∧ d ≤ 2 := by omega
  have eN : 2 + (n' : Int) = (n : Int) := by omega
  have eD : 1 + (d' : Int) = (d : Int) := by omega
  have eK : (w' : Int) % (n : Int) = (k : Int) := by rw [hk]; omega
  obtain ⟨hna, hnb⟩ := hn2
  obtain ⟨hda, hdb⟩ := hd2
  clear hn hd hk
  have C1 : Hid (∀ W A c, AcksAt W W.heap.size A n (mvList n) → Calls Try.prog 10 #[.slice A n c] W fun e w' => e = .returned (.tuple #[.int .i64 0, .int .i64 0]) ∧ Below W.heap.size W w') := Lib.hid fun W A c h => by
    have := Acks_any A n c W.heap.size (mvList n) W h (Nat.le_refl _) (by unfold maxLen; omega)
    rwa [mv_base n (by omega)] at this
  have C2 : Hid (∀ W A c, AcksAt W W.heap.size A (n + 1) (mvList n ++ [⟨0, ⟨0, (k : Int)⟩, 0, 3 * (k : Int) + (d : Int), 3⟩]) → Calls Try.prog 10 #[.slice A (n + 1) c] W fun e w' => e = .returned (.tuple #[.int .i64 110, .int .i64 (n : Int)]) ∧ Below W.heap.size W w') := Lib.hid fun W A c h => by
    have := Acks_any A (n + 1) c W.heap.size _ W h (Nat.le_refl _) (by unfold maxLen; omega)
    rwa [mv_other n k d (by omega) hkn (by omega) (by omega)] at this
  have C3 : Hid (∀ W A c, AcksAt W W.heap.size A (n + 1) (mvList n ++ [⟨0, ⟨0, (k : Int)⟩, 0, 3 * (k : Int), 3⟩]) → Calls Try.prog 10 #[.slice A (n + 1) c] W fun e w' => e = .returned (.tuple #[.int .i64 0, .int .i64 0]) ∧ Below W.heap.size W w') := Lib.hid fun W A c h => by
    have := Acks_any A (n + 1) c W.heap.size _ W h (Nat.le_refl _) (by unfold maxLen; omega)
    rwa [mv_same n k (by omega) hkn] at this
  have C4 : Hid (∀ W A c, AcksAt W W.heap.size A (n + 1) (mvList n ++ [⟨0, ⟨0, (n : Int)⟩, 0, 3 * (k : Int) + (d : Int), 1⟩]) → Calls Try.prog 10 #[.slice A (n + 1) c] W fun e w' => e = .returned (.tuple #[.int .i64 110, .int .i64 (n : Int)]) ∧ Below W.heap.size W w') := Lib.hid fun W A c h => by
    have := Acks_any A (n + 1) c W.heap.size _ W h (Nat.le_refl _) (by unfold maxLen; omega)
    rwa [mv_new n k d (by omega) hkn (by omega) (by omega)] at this
  have T5 := Lib.hid (fun W W0 w0 g c => mv_T5 n k d (by omega) (by omega) W W0 w0 g c)
  have T7 := Lib.hid (fun W W0 w0 g c => mv_T7 n k d (by omega) (by omega) (by omega) W W0 w0 g c)
  go_enter Try.func5, Try.ntmps5
  go_wp2_with (fail)
  simp only [eK]
  clear eK eN eD hN hW hD
  have hF6 : ∀ j, ((mvAck j).cells).length = 6 := fun _ => rfl
  have HF6 := Lib.hid hF6
  clear hF6
  go_loopw [10, 11] (fun v10 v11 w9 => MRel w n v10 v11 w9) (fun _ v11 _ => n - (intOf v11).toNat)
  case atStart => exact ⟨0, none, 0, by omega, rfl, rfl, Lib.hid ⟨Below.refl _ _, World.ownsRow_nil _ _ _ _⟩⟩
  case round =>
    obtain ⟨i, A0, c0, hi, rfl, rfl, Hr⟩ := hrel
    by_cases hlt : i < n
    · go_wp2_with (at_builtin; refine wpList_row rfl (.tmp 36) (.tmp 42) 22 rfl w.heap.size 38 _ 6 48 infoAck rfl (by decide) Try.underlying22 (.slice A0 i c0) i ((List.range i).flatMap fun j => (mvAck j).cells) rfl Hr.out.2 [.int .i64 0, .int .i64 0, .int .i64 (i : Int), .int .i64 0, .int .i64 (3 * (i : Int)), .int .i64 3] rfl rfl (ack_one (mvAck i)) (by unfold maxLen; omega) (by omega) Hr.out.1.size ?_; intro v3 w3 hown hold hg)
      have hb3 := Hr.out.1.trans (below_grown hg (fun k hk => own_ge Hr.out.2 k hk) Hr.out.1.size)
      obtain ⟨A3, c3, rfl, _, _⟩ := own_slice hown
      refine ⟨⟨i + 1, A3, c3, by omega, rfl, by go_num, Lib.hid ⟨hb3, ?_⟩⟩, by simp [intOf]; omega⟩
      rw [List.range_succ, List.flatMap_append, List.flatMap_cons, List.flatMap_nil, List.append_nil]
      exact hown
    · obtain rfl : n = i := by omega
      have hfl : ((List.range n).flatMap fun j => (mvAck j).cells) = (mvList n).flatMap Ack.cells := by unfold mvList; rw [List.flatMap_map]
      have HO : Hid (wr.ownsRow w.heap.size 38 6 (.slice A0 n c0) n ((mvList n).flatMap Ack.cells)) := Lib.hid (by rw [← hfl]; exact Hr.out.2)
      have HB := Lib.hid Hr.out.1
      clear hfl Hr
      obtain ⟨g, hg⟩ : ∃ g, A0 = some ⟨g, 0, none⟩ := by
        obtain ⟨_, _, e, _, h0 | ⟨g, h1, _⟩⟩ := own_slice HO.out
        · omega
        · cases e; exact ⟨g, h1⟩
      subst hg
      have hc0 : n ≤ c0 := by
        obtain ⟨_, _, e, h, _⟩ := own_slice HO.out
        cases e; exact h
      have HK0 := Lib.hid (own_acks (mv_len n) (mv_wf n (by omega)) HO.out)
      obtain ⟨i0, hi0, hz0, hz1, hz2⟩ := info_parts infoAck
      have HI0 := Lib.hid hi0
      have HZ0 := Lib.hid hz0
      have HZ1 := Lib.hid hz1
      have HZ2 := Lib.hid hz2
      clear hi0 hz0 hz1 hz2
      go_wp2_with (first
        | (go_at_call 10; with_reducible refine (C1.out _ _ _ HK0.out).mono ?_; rintro e W1 ⟨rfl, hW1⟩; have HW1 := Lib.hid hW1; clear hW1)
        | (at_builtin; refine wpList_append_grows _ rfl (.tmp 52) (.tmp 60) 22 rfl 38 i0 _ 6 48 Try.underlying22 HI0.out HZ0.out HZ1.out HZ2.out rfl (by decide) (some ⟨g, 0, none⟩) n n ((mvList n).flatMap Ack.cells) rfl (fun h => nomatch h) HO.out.1 (fun b hb => by cases hb; exact World.ownsRow.cells ((own_below HO.out HW1.out).alloc _) rfl) ⟨W1.heap.size, 0, none⟩ 1 1 [.int .i64 0, .int .i64 0, .int .i64 (k : Int), .int .i64 0, .int .i64 (3 * (k : Int) + (d : Int)), .int .i64 3] rfl rfl (cells_new W1 _ _) (ack_one ⟨0, ⟨0, (k : Int)⟩, 0, 3 * (k : Int) + (d : Int), 3⟩) (by omega) (by unfold maxLen; omega) (by omega) ?_; intro v3 w3 hown hg; obtain ⟨g3, c3, rfl, hb3, ho3⟩ := own_next (l := mvList n) (x := ⟨0, ⟨0, (k : Int)⟩, 0, 3 * (k : Int) + (d : Int), 3⟩) (HB.out.trans (HW1.out.mono HB.out.size)) hown hg; have HB3 := Lib.hid hb3; have HO3 := Lib.hid ho3; clear hown hg hb3 ho3; have HK3 := Lib.hid (own_acks (by simp [mv_len]) (mvk n k d (by omega) (by omega) (by omega)) HO3.out))
        | (go_at_call 10; with_reducible refine (C2.out _ _ _ HK3.out).mono ?_; rintro e W4 ⟨rfl, hW4⟩; have HW4 := Lib.hid hW4; clear hW4; have HO4 := Lib.hid (own_below HO3.out HW4.out); obtain ⟨hc4, hf4⟩ := own_row (mv_len n) HO4.out; have q0 := hc4 4 _ rfl; have q1 := hf4 (n * 6 + 4); clear hc4 hf4; obtain ⟨ho5, hb5, hk5⟩ := T5.out _ _ _ _ _ HO4.out (HB3.out.trans (HW4.out.mono HB3.out.size)); have HO5 := Lib.hid ho5; have HB5 := Lib.hid hb5; have HK5 := Lib.hid hk5; clear ho5 hb5 hk5)
        | (go_at_call 10; with_reducible refine (C3.out _ _ _ HK5.out).mono ?_; rintro e W6 ⟨rfl, hW6⟩; have HW6 := Lib.hid hW6; clear hW6 q0 q1; have HO6 := Lib.hid (own_below HO5.out HW6.out); obtain ⟨hc6, hf6⟩ := own_row (mv_len n) HO6.out; have r0 : W6.cell? ⟨g3, n * 6, none⟩ = _ := hc6 0 _ rfl; have r1 := hc6 1 _ rfl; have r2 := hc6 2 _ rfl; have r3 := hc6 3 _ rfl; have r4 := hc6 4 _ rfl; have r5 := hc6 5 _ rfl; have t0 := hf6 (n * 6); have t1 := hf6 (n * 6 + 1); have t2 := hf6 (n * 6 + 2); have t3 := hf6 (n * 6 + 3); have t4 := hf6 (n * 6 + 4); have t5 := hf6 (n * 6 + 5); clear hc6 hf6; obtain ⟨hb7, hk7⟩ := T7.out _ _ _ _ _ HO6.out (HB5.out.trans (HW6.out.mono HB5.out.size)); have HB7 := Lib.hid hb7; have HK7 := Lib.hid hk7; clear hb7 hk7)
        | (go_at_call 10; with_reducible refine (C4.out _ _ _ HK7.out).mono ?_; rintro e W8 ⟨rfl, hW8⟩; have HW8 := Lib.hid (HB7.out.trans (hW8.mono HB7.out.size)); clear hW8)
        | (go_at_call 12; refine (awake18 _).mono ?_; rintro e W9 ⟨rfl, hW9⟩; have HW9 := Lib.hid hW9; clear hW9)
        )
      go_ret
      exact ⟨rfl, bstep HW8.out HW9.out⟩
end Go.Proofs.Ytkgidfehndkhmaa
