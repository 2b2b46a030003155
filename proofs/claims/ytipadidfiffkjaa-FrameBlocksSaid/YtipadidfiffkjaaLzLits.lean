/- (*lz.block).lits: plain bytes are read. -/
import Derived.Test.YtipadidfiffkjaaLzNumber
import Derived.Test.YtipadidfiffkjaaLoud
import Derived.Deep.RegionHeld3
namespace Go.Proofs.Ytipadidfiffkjaa
open Go.RowKit Go.PostSums Go.PostMem
theorem infoU8 : (Try.prog.info? 5).map (fun i => (i.zero, i.size, i.bytes)) = some (some (.int .u8 0), 1, 1) := by kernel_rfl
/-- a block that is being read: its bytes, its place, what it told -/
structure Lz (w : World) (b : Nat) (s : ByteArray) (at_ most : Nat) (v : Value) (out : List UInt8) : Prop where
  blk : LzB w b s at_ most v
  buf : Buf w (b + 1) 5 v out
theorem Lz.row {w w' : World} {b : Nat} {s : ByteArray} {at_ k most : Nat} {v : Value} {out : List UInt8} (h : Lz w b s at_ most v out) (hB : LzB w' b s k most v) (hg : w.grownBy w' (some b)) : Lz w' b s k most v out :=
  ⟨hB, h.buf.kept hg (fun j hj => by cases hj; exact Nat.lt_succ_self _)⟩
def LitsPost (b : Nat) (s : ByteArray) (at_ most : Nat) (out : List UInt8) (n : Nat) (w : World) (e : Ending) (w' : World) : Prop :=
  match PostLz.lits most n (s.data.toList.drop at_) out with
  | .error c => e = .returned (.int .i64 (c : Int)) ∧ Below b w w'
  | .ok (r, out') => ∃ k v', r = s.data.toList.drop k ∧ at_ ≤ k ∧ k ≤ s.size ∧ e = .returned (.int .i64 0) ∧ Lz w' b s k most v' out' ∧ Below b w w'
set_option maxRecDepth 100000 in
set_option maxHeartbeats 800000 in
theorem lits_walk (b : Nat) (s : ByteArray) (at_ most : Nat) (v : Value) (out : List UInt8) (n : Nat) (w : World) (hL : Lz w b s at_ most v out) (hs : s.size ≤ 140737488351232) (hat : at_ ≤ s.size) (hn : n ≤ 15) (hm : most ≤ 1048576) (ho : out.length ≤ most) :
    Calls Try.prog 52 #[.pointer (some ⟨b, 0, none⟩), .int .i64 (n : Int)] w (LitsPost b s at_ most out n w) := by
  have HL := Lib.hid hL
  have hbw : b ≤ w.heap.size := Nat.le_of_lt hL.blk.lt
  obtain ⟨A, c, rfl, hc, hA⟩ := hL.buf.len
  clear hL hA
  cases hnum : PostLz.num n (s.data.toList.drop at_) with
  | none =>
    have HN := Lib.hid hnum
    have HP : Hid (PostLz.lits most n (s.data.toList.drop at_) out = .error 5) := Lib.hid (by unfold PostLz.lits; rw [hnum])
    clear hnum
    go_enter Try.func52, Try.ntmps52
    go_wp2_with (go_at_call 56; with_reducible refine (number_none b s at_ most _ n _ HL.out.blk hs hat hn HN.out).mono ?_; rintro e w1 ⟨rfl, h1, h2⟩)
    go_ret
    unfold LitsPost
    rw [HP.out]
    exact ⟨rfl, below_grown h2 (fun k hk => by cases hk; exact Nat.le_refl _) hbw⟩
  | some x =>
    obtain ⟨a, r⟩ := x
    have HN := Lib.hid hnum
    have HP : Hid (PostLz.lits most n (s.data.toList.drop at_) out = if most < out.length + a then .error 4 else if r.length < a then .error 5 else .ok (r.drop a, out ++ r.take a)) := Lib.hid (by unfold PostLz.lits; rw [hnum])
    clear hnum
    go_enter Try.func52, Try.ntmps52
    go_upto_region 2 with (go_at_call 56; with_reducible refine (number_some b s at_ most _ n _ HL.out.blk hs hat hn a r HN.out).mono ?_; rintro e w1 ⟨rfl, k, hr, hak, hks, ha, h1, h2⟩)
    have HL1 := Lib.hid (HL.out.row h1 h2)
    have HB1 := Lib.hid (below_grown h2 (fun j hj => by cases hj; exact Nat.le_refl _) hbw)
    have HR := Lib.hid hr
    have hrl : r.length = s.size - k := by rw [hr]; simp
    have c0 : w1.cell? ⟨b, 0, none⟩ = some (.string s) := h1.cell 0
    have c1 : w1.cell? ⟨b, 1, none⟩ = some (.int .i64 (k : Int)) := h1.cell 1
    have c2 : w1.cell? ⟨b, 2, none⟩ = some (.int .i64 (most : Int)) := h1.cell 2
    have c3 : w1.cell? ⟨b, 3, none⟩ = some (.slice A out.length c) := h1.cell 3
    have f1 := h1.free 1
    have f3 := h1.free 3
    have HF1 : Hid (LzB w1 b s k most (.slice A out.length c)) := Lib.hid h1
    clear HL HN hr h1 h2
    by_cases e1 : most < out.length + a
    · have t1 : (most : Int) < (out.length : Int) + (a : Int) := by omega
      go_wp2_with fail
      go_quiet (fail)
      go_wp2_with fail
      go_ret
      unfold LitsPost
      rw [HP.out, if_pos e1]
      exact ⟨rfl, HB1.out.trans ⟨rfl, rfl, rfl, Nat.le_refl _, fun _ _ => rfl⟩⟩
    · by_cases e2 : r.length < a
      · have t2 : (s.size : Int) < (k : Int) + (a : Int) := by omega
        go_wp2_with fail
        go_quiet (fail)
        go_wp2_with fail
        go_quiet (fail)
        go_wp2_with fail
        go_ret
        unfold LitsPost
        rw [HP.out, if_neg e1, if_pos e2]
        exact ⟨rfl, HB1.out.trans ⟨rfl, rfl, rfl, Nat.le_refl _, fun _ _ => rfl⟩⟩
      · go_wp2_with fail
        go_quiet (fail)
        go_wp2_with fail
        go_quiet (fail)
        go_wp2_with fail
        have g2 : IntKind.i64.wrap ((k : Int) + (a : Int)) = (k : Int) + (a : Int) := IntWalk.i64_in _ (by omega)
        have p2 : 0 ≤ (k : Int) + (a : Int) := by omega
        have q2 : (k : Int) + (a : Int) ≤ (s.size : Int) := by omega
        have q3 : (k : Int) ≤ (k : Int) + (a : Int) := by omega
        have t2 : ((k : Int) + (a : Int)).toNat = k + a := by omega
        refine wp_region_noPanic ?_
        refine Loud.wp_drawn (Later (b + 1) 5 (.slice A out.length c) out) 20 21 72 Later.trans Later.drewN (by kernel_rfl) (fun _ _ _ _ _ h => h) rfl (by kernel_rfl) ?_
        apply Exists.intro
        apply And.intro
        case left =>
          intro w2 h2
          have h2' : Below (b + 1) w1 w2 := ⟨h2.1.os, h2.1.tape, h2.1.output, h2.1.size, h2.1.block⟩
          have HX := LzB.later HF1.out h2'
          have d0 : w2.cell? ⟨b, 0, none⟩ = some (.string s) := HX.cell 0
          have d1 : w2.cell? ⟨b, 1, none⟩ = some (.int .i64 (k : Int)) := HX.cell 1
          have d3 : w2.cell? ⟨b, 3, none⟩ = some (.slice A out.length c) := HX.cell 3
          clear HX
          simp only [List.take_succ_cons, List.take_zero]
          iterate 20 (go_big_quiet_step (fail))
          exact wpQuiet_nil rfl
        case right =>
          simp only [List.take_succ_cons, List.take_zero, List.drop_succ_cons, List.drop_zero]
          unfold Loud.loudW
          rintro _ ⟨m2, rfl⟩
          refine wpList_text rfl (.tmp 45) (.tmp 60) 30 9 rfl (b + 1) 5 infoU8 Try.underlying30 Try.underlying9 _ out rfl (HL1.out.buf.heap rfl) _ rfl ?_ ?_ ?_
          · simp; omega
          · exact Nat.succ_le_of_lt HF1.out.lt
          intro v3 w3 hbuf hold hg
          have hb3 : Below (b + 1) w1 w3 := below_grown (w := w1) ⟨hg.os, hg.tape, hg.output, hg.size, hg.block⟩ (fun k hk => Buf.own_ge (HL1.out.buf) k hk) (Nat.succ_le_of_lt HF1.out.lt)
          refine wpList_nil ⟨⟨⟨hb3.os, hb3.tape, hb3.output, hb3.size, hb3.block⟩, fun _ => hold⟩, ?_⟩
          unfold Loud.loudW
          rintro _ ⟨m4, rfl⟩
          have HF3 := Lib.hid (LzB.later HF1.out hb3)
          have g3 := HF3.out.free 3
          have g1 := HF3.out.free 1
          have k1 : w3.cell? ⟨b, 1, none⟩ = some (.int .i64 (k : Int)) := HF3.out.cell 1
          have k3 : w3.cell? ⟨b, 3, none⟩ = some (.slice A out.length c) := HF3.out.cell 3
          have hb3' := Lib.hid hb3
          obtain ⟨A3, c4, rfl, hc4, _⟩ := hbuf.len
          have HBf := Lib.hid hbuf
          clear hb3 hbuf hold hg
          generalize (out ++ (s.extract k (k + a)).data.toList).length = n3 at HBf hc4
          go_wp2_with fail
          refine NoPanic.normal ?_
          go_wp2_with fail
          go_ret
          unfold LitsPost
          rw [HP.out, if_neg e1, if_neg e2]
          have hG := grown_trans (grown_set (w3.drewN m4) b 3 (.slice A3 n3 c4)) (grown_set _ b 1 (.int .i64 ((k : Int) + (a : Int))))
          refine ⟨k + a, .slice A3 n3 c4, ?_, by omega, by omega, rfl, ⟨(LzB.put (w := w3.drewN m4) HF3.out (.slice A3 n3 c4)).setI _ (k + a) (by omega), ?_⟩, ?_⟩
          · rw [HR.out, List.drop_drop]
          · rw [HR.out]
            have he : (s.extract k (k + a)).data.toList = (s.data.toList.drop k).take a := by simp
            rw [← he]
            exact (HBf.out.heap (w' := w3.drewN m4) rfl).kept hG (fun j hj => by cases hj; exact Nat.lt_succ_self _)
          · refine HB1.out.trans ((hb3'.out.mono (Nat.le_succ b)).trans ?_)
            exact below_grown (w := w3) ⟨hG.os, hG.tape, hG.output, hG.size, hG.block⟩ (fun j hj => by cases hj; exact Nat.le_refl _) (Nat.le_of_lt HF3.out.lt)
end Go.Proofs.Ytipadidfiffkjaa
