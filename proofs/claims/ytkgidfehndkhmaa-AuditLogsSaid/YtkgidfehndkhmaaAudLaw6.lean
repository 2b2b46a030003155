/- The walk of AuditTells. -/
import Derived.Test.YtkgidfehndkhmaaAudKeep
import Derived.Test.YtkgidfehndkhmaaAudAwake
import Derived.Test.YtkgidfehndkhmaaAudTell
import Derived.Test.YtkgidfehndkhmaaAudWords
import Derived.Test.YtkgidfehndkhmaaRows4
import Derived.WalkSpells
namespace Go.PostAud
open Go.RowKit
theorem z64 : i64 0 := by unfold i64; decide
theorem o64 : i64 1 := by unfold i64; decide
theorem t64 : i64 2 := by unfold i64; decide
theorem Rec.cells_len (a : Rec) : a.cells.length = 4 := rfl
theorem own_recs {w : World} {base T : Nat} {A : Option Addr} {n c : Nat} {l : List Rec} (hl : l.length = n) (hm : n ≤ maxLen) (hw : ∀ x ∈ l, x.wf) (h : w.ownsRow base T 4 (.slice A n c) n (l.flatMap Rec.cells)) : RecsAt w w.heap.size A n l := by
  refine ⟨hl, hm, ?_⟩
  rcases h.2 with ⟨_, hn⟩ | ⟨g, cap, cur, he, hb', hgg, hc, rest⟩
  · exact .inl hn
  · simp only [Value.slice.injEq] at he
    obtain ⟨rfl, _, rfl⟩ := he
    exact .inr ⟨_, rfl, (Array.getElem?_eq_some_iff.1 hgg).1, fun i x hx => ⟨hw x (List.mem_of_getElem? hx), at_flatl Rec.cells_len (World.ownsRow.cells h rfl) i x hx⟩⟩
theorem RecsAt.drop {w : World} {base g o n : Nat} {l : List Rec} (h : RecsAt w base (some ⟨g, o, none⟩) n l) {k : Nat} (hk : k ≤ n) : RecsAt w base (some ⟨g, o + k * 4, none⟩) (n - k) (l.drop k) := by
  obtain ⟨h1, h0, h2 | ⟨a, h2, h3, h4⟩⟩ := h
  · exact ⟨by simp [h1], by omega, .inl (by omega)⟩
  · obtain rfl := Option.some.inj h2
    refine ⟨by simp [h1], by omega, .inr ⟨_, rfl, h3, fun i x hx => ?_⟩⟩
    rw [List.getElem?_drop] at hx
    obtain ⟨h5, h6⟩ := h4 (k + i) x hx
    refine ⟨h5, fun j v hj => ?_⟩
    have := h6 j v hj
    rw [Addr.add_lit, Addr.add_lit] at *
    rw [show o + k * 4 + i * 4 + j = o + (k + i) * 4 + j by omega]
    exact this
theorem one_ack (x : Ack) (hx : x.wf) (T : TypeId) (w : World) : AcksAt (w.alloc (.cells x.cells.toArray T)) (w.alloc (.cells x.cells.toArray T)).heap.size (some ⟨w.heap.size, 0, none⟩) 1 [x] := by
  refine ⟨rfl, .inr ⟨_, rfl, by simp, fun i z hz => ?_⟩⟩
  match i, hz with
  | 0, hz =>
    obtain rfl := Option.some.inj hz
    exact ⟨hx, at_alloc w x.cells T⟩
theorem one_sd (s : Sd) (hs : s.wf) (T : TypeId) (w : World) (A : Option Addr) (m c : Nat) (hr : RecsAt w w.heap.size A m s.recs) : SdsAt (w.alloc (.cells (s.cells (.slice A m c)).toArray T)) (w.alloc (.cells (s.cells (.slice A m c)).toArray T)).heap.size (some ⟨w.heap.size, 0, none⟩) 1 [s] := by
  refine ⟨rfl, by decide, .inr ⟨_, rfl, by simp, fun i z hz => ?_⟩⟩
  match i, hz with
  | 0, hz =>
    obtain rfl := Option.some.inj hz
    exact ⟨hs, A, m, c, at_alloc w (s.cells (.slice A m c)) T, (hr.later ((Below.refl w.heap.size w).alloc (Nat.le_refl _) _)).base (by simp)⟩
theorem one_fet (f : Fet) (hf : f.wf) (T : TypeId) (w : World) (A : Option Addr) (m c : Nat) (hr : RecsAt w w.heap.size A m f.recs) : FetsAt (w.alloc (.cells (f.cells (.slice A m c)).toArray T)) (w.alloc (.cells (f.cells (.slice A m c)).toArray T)).heap.size (some ⟨w.heap.size, 0, none⟩) 1 [f] := by
  refine ⟨rfl, by decide, .inr ⟨_, rfl, by simp, fun i z hz => ?_⟩⟩
  match i, hz with
  | 0, hz =>
    obtain rfl := Option.some.inj hz
    exact ⟨hf, A, m, c, at_alloc w (f.cells (.slice A m c)) T, (hr.later ((Below.refl w.heap.size w).alloc (Nat.le_refl _) _)).base (by simp)⟩
end Go.PostAud
namespace Go.Proofs.Ytkgidfehndkhmaa
open Go.RowKit Go.PostAud Go.PostMem
theorem infoRec : (Try.prog.info? 49).map (fun i => (i.zero, i.size, i.bytes)) = some (some (.agg #[.int .i64 0, .string ⟨#[]⟩, .string ⟨#[]⟩, .bool false]), 4, 48) := by kernel_rfl
theorem rec_one (a : Rec) : ∀ u ∈ a.cells, u.oneCell' = true := by
  intro u hu
  unfold Rec.cells at hu
  simp only [List.mem_cons, List.not_mem_nil, or_false] at hu
  rcases hu with rfl | rfl | rfl | rfl <;> rfl
theorem and_pow' (x : Int) (j : Nat) (hj : j < 63) : ∃ n : Nat, n < 2 ^ j ∧ bits .and .i64 x ((2 ^ j - 1 : Nat) : Int) = (n : Int) := by
  have hp : 2 ^ j < 2 ^ 63 := Nat.pow_lt_pow_right (by decide) hj
  have hp' : 1 ≤ 2 ^ j := Nat.one_le_two_pow
  have e2 : (BitVec.ofInt 64 ((2 ^ j - 1 : Nat) : Int)).toNat = 2 ^ j - 1 := by
    rw [BitVec.toNat_ofInt]
    have h3 : ((2 ^ 64 : Nat) : Int) = 18446744073709551616 := by decide
    rw [h3]
    have : (2 : Nat) ^ 63 = 9223372036854775808 := by decide
    omega
  refine ⟨(BitVec.ofInt 64 x).toNat % 2 ^ j, Nat.mod_lt _ (by omega), ?_⟩
  have h : (BitVec.ofInt 64 x &&& BitVec.ofInt 64 ((2 ^ j - 1 : Nat) : Int)).toNat = (BitVec.ofInt 64 x).toNat % 2 ^ j := by
    rw [BitVec.toNat_and, e2, Nat.and_two_pow_sub_one_eq_mod]
  have hl : (BitVec.ofInt 64 x).toNat % 2 ^ j < 2 ^ j := Nat.mod_lt _ (by omega)
  show IntKind.i64.wrap ((BitVec.ofInt 64 x &&& BitVec.ofInt 64 ((2 ^ j - 1 : Nat) : Int)).toNat : Int) = _
  rw [h, IntKind.wrap_i64]
  have : (2 : Nat) ^ 63 = 9223372036854775808 := by decide
  omega
theorem sl2 (w : World) (o1 o2 : Obj) : Value.slice (some ⟨w.heap.size + 1 + 1, 0, none⟩) 1 1 = Value.slice (some ⟨((w.alloc o1).alloc o2).heap.size, 0, none⟩) 1 1 := by simp
theorem tell_app {w wr w5 : World} {T i ml cb cl : Nat} {Ab Al : Option Addr} {v5 : Value} {bs ls : List Value} {o : Obj} {cs : List Value} (hb : Below w.heap.size w wr) (hrb : wr.ownsRow w.heap.size T 4 (.slice Ab i cb) i bs) (hrl : wr.ownsRow w.heap.size T 4 (.slice Al ml cl) ml ls) (hap : Apart (.slice Ab i cb) (.slice Al ml cl))
    (hown : w5.ownsRow w.heap.size T 4 v5 (i + 1) (bs ++ cs)) (hg : ((wr.alloc o).alloc (.cells cs.toArray T)).grownBy w5 (Value.slice Ab i cb).ownBlock) (hm : Moved ((wr.alloc o).alloc (.cells cs.toArray T)) (.slice Ab i cb) v5) :
    ∃ Ab' cb', v5 = .slice Ab' (i + 1) cb' ∧ Below w.heap.size w w5 ∧ w5.ownsRow w.heap.size T 4 (.slice Ab' (i + 1) cb') (i + 1) (bs ++ cs) ∧ w5.ownsRow w.heap.size T 4 (.slice Al ml cl) ml ls ∧ Apart (.slice Ab' (i + 1) cb') (.slice Al ml cl) ∧ At w5 ⟨wr.heap.size + 1, 0, none⟩ cs := by
  obtain ⟨Ab', cb', rfl, _, _⟩ := own_slice hown
  have ho2 := (hrb.alloc o).alloc (.cells cs.toArray T)
  have hl2 := (hrl.alloc o).alloc (.cells cs.toArray T)
  have hb2 := bstep hb (((Below.refl wr.heap.size wr).alloc (Nat.le_refl _) o).alloc (by simp) (.cells cs.toArray T))
  refine ⟨Ab', cb', rfl, hb2.trans (below_grown hg (fun j hj => own_ge ho2 j hj) hb2.size), hown, hap.kept hl2 hg, hap.moved hm hl2, ?_⟩
  have ha := at_alloc (wr.alloc o) cs T
  rw [show (wr.alloc o).heap.size = wr.heap.size + 1 by simp] at ha
  refine ha.of_block (hg.block _ (by simp) (fun e => ?_))
  have := (World.ownsRow.lt hrb _ e.symm).2
  simp only at this
  omega
def T1 (w : World) (n k : Nat) (v7 v8 v9 : Value) (wr : World) : Prop := ∃ (i ml : Nat) (Ab Al : Option Addr) (cb cl : Nat), i ≤ n ∧ ml ≤ i ∧ v9 = .int .i64 (i : Int) ∧ v8 = .slice Ab i cb ∧ v7 = .slice Al ml cl ∧
  Hid (Below w.heap.size w wr ∧ wr.ownsRow w.heap.size 49 4 (.slice Ab i cb) i ((tellBody i).flatMap Rec.cells) ∧ wr.ownsRow w.heap.size 49 4 (.slice Al ml cl) ml ((tellLeft k i).flatMap Rec.cells) ∧ Apart (.slice Ab i cb) (.slice Al ml cl) ∧ ml = (tellLeft k i).length)
set_option maxRecDepth 100000 in
set_option maxHeartbeats 6400000 in
theorem AuditTells_walk (many which : Int) (w : World) (_ : (Lit.int .i64 many).wf = true) (_ : (Lit.int .i64 which).wf = true) :
    Calls Try.prog 9 #[.int .i64 many, .int .i64 which] w fun e w' => e = .returned (.bool true) ∧ Below w.heap.size w w' := by
  obtain ⟨n', hn', hN⟩ : ∃ n : Nat, n < 32 ∧ bits .and .i64 many 31 = (n : Int) := and_pow' many 5 (by decide)
  obtain ⟨w', hw', hW⟩ : ∃ n : Nat, n < 32 ∧ bits .and .i64 which 31 = (n : Int) := and_pow' which 5 (by decide)
  obtain ⟨n, hn⟩ : ∃ n : Nat, n = 3 + n' := ⟨_, rfl⟩
  obtain ⟨k', hk'⟩ : ∃ k : Nat, k = w' % (n - 2) := ⟨_, rfl⟩
  obtain ⟨k, hk⟩ : ∃ k : Nat, k = 1 + k' := ⟨_, rfl⟩
  have hkn' : k' < n - 2 := by rw [hk']; exact Nat.mod_lt _ (by omega)
  have hna : 3 ≤ n := by omega
  have hnb : n ≤ 34 := by omega
  have hkn : k + 1 < n := by omega
  have eN : 3 + (n' : Int) = (n : Int) := by omega
  have eK : (w' : Int) % ((n : Int) - 2) = (k' : Int) := by rw [hk', show ((n : Int) - 2) = ((n - 2 : Nat) : Int) by omega]; simp
  have eK2 : 1 + (k' : Int) = (k : Int) := by omega
  have hk1 : 1 ≤ k := by omega
  clear hn hk hk' hn'
  go_enter Try.func9, Try.ntmps9
  go_wp2_with (fail)
  simp only [eK]
  clear eK eK2 eN hN hW
  go_loopw [7, 8, 9] (fun v7 v8 v9 w9 => T1 w n k v7 v8 v9 w9) (fun _ _ v9 _ => n - (intOf v9).toNat)
  case atStart => exact ⟨0, 0, none, none, 0, 0, by omega, by omega, rfl, rfl, rfl, Lib.hid ⟨Below.refl _ _, World.ownsRow_nil _ _ _ _, World.ownsRow_nil _ _ _ _, apart_nil _, rfl⟩⟩
  case round =>
    obtain ⟨i, ml, Ab, Al, cb, cl, hi, hml, rfl, rfl, rfl, Hr⟩ := hrel
    have HB := Lib.hid Hr.out.1
    have HRB := Lib.hid Hr.out.2.1
    have HRL := Lib.hid Hr.out.2.2.1
    have HAP := Lib.hid Hr.out.2.2.2.1
    have HML := Lib.hid Hr.out.2.2.2.2
    clear Hr
    by_cases hlt : i < n
    · have HCV : Hid (∀ V : World, (convert 54 9 (.slice (some ⟨V.heap.size, 0, none⟩) 1 1)).run Try.prog (V.alloc (.cells #[.int .u8 (65 + (i : Int))] 5)) = .ok (.string (tellKey i)) (V.alloc (.cells #[.int .u8 (65 + (i : Int))] 5))) := Lib.hid fun V => by
        refine run_back Try.underlying54 Try.underlying5 Try.underlying9 V.heap.size 0 1 1 [UInt8.ofNat (65 + i)] (fun j hj => ?_) rfl
        obtain rfl : j = 0 := by simpa using hj
        rw [cell_of_row _ _ 0 _ _ _ (heap_alloc_new V _)]
        simp [PostSums.at8]
        omega
      by_cases hik : i = k
      · have hne : ((i : Int) != (k : Int)) = false := by simp [hik]
        have HIK := Lib.hid hik
        clear hik
        go_wp2_with (first
          | (refine wpList_conv rfl 54 9 (.tmp 37) rfl _ _ _ rfl (HCV.out _) ?_)
          | (at_builtin; refine wpList_row4 rfl (.tmp 40) (.tmp 42) 44 rfl w.heap.size 49 _ 4 48 infoRec rfl (by decide) Try.underlying44 (.slice Ab i cb) i ((tellBody i).flatMap Rec.cells) rfl ((HRB.out.alloc _).alloc _) [.int .i64 (i : Int), .string (tellKey i), .string ⟨#[]⟩, .bool false] (sl2 wr _ _) rfl (rec_one (tellRec i)) (by unfold maxLen; omega) (by omega) (by have := HB.out.size; simp; omega) ?_; intro v5 w5 hown hg hmv; have HN := Lib.hid (tell_app HB.out HRB.out HRL.out HAP.out hown hg hmv); clear hown hg hmv))
        obtain ⟨Ab', cb', rfl, hb5, ho5, hl5, hap5, _⟩ := HN.out
        refine ⟨⟨i + 1, ml, Ab', Al, cb', cl, by omega, by omega, by go_num, rfl, rfl, Lib.hid ⟨hb5, ?_, ?_, hap5, ?_⟩⟩, by simp [intOf]; omega⟩
        · rw [body_succ, List.flatMap_append, List.flatMap_cons, List.flatMap_nil, List.append_nil]; exact ho5
        · rw [HIK.out, left_same, ← HIK.out]; rw [HIK.out] at hl5 ⊢; exact hl5
        · rw [HML.out, HIK.out, left_same]
      · have hne : ((i : Int) != (k : Int)) = true := by simp; omega
        have HIK := Lib.hid hik
        clear hik
        go_wp2_with (first
          | (refine wpList_conv rfl 54 9 (.tmp 37) rfl _ _ _ rfl (HCV.out _) ?_)
          | (at_builtin; refine wpList_row4 rfl (.tmp 40) (.tmp 42) 44 rfl w.heap.size 49 _ 4 48 infoRec rfl (by decide) Try.underlying44 (.slice Ab i cb) i ((tellBody i).flatMap Rec.cells) rfl ((HRB.out.alloc _).alloc _) [.int .i64 (i : Int), .string (tellKey i), .string ⟨#[]⟩, .bool false] (sl2 wr _ _) rfl (rec_one (tellRec i)) (by unfold maxLen; omega) (by omega) (by have := HB.out.size; simp; omega) ?_; intro v5 w5 hown hg hmv; have HN := Lib.hid (tell_app HB.out HRB.out HRL.out HAP.out hown hg hmv); clear hown hg hmv; obtain ⟨Ab', cb', rfl, hb5, ho5, hl5, hap5, hbx⟩ := HN.out; have HB5 := Lib.hid hb5; have HO5 := Lib.hid ho5; have HL5 := Lib.hid hl5; have HAP5 := Lib.hid hap5; obtain ⟨x0, x1, x2, x3⟩ := At.four0 hbx; clear HN hb5 ho5 hl5 hap5 hbx)
          | (at_builtin; refine wpList_row4 rfl (.tmp 47) (.tmp 49) 44 rfl w.heap.size 49 _ 4 48 infoRec rfl (by decide) Try.underlying44 (.slice Al ml cl) ml ((tellLeft k i).flatMap Rec.cells) rfl HL5.out [.int .i64 (i : Int), .string (tellKey i), .string ⟨#[]⟩, .bool false] rfl rfl (rec_one (tellRec i)) (by unfold maxLen; omega) (by omega) HB5.out.size ?_; intro v6 w6 hown6 hg6 hmv6))
        obtain ⟨Al', cl', rfl, _, _⟩ := own_slice hown6
        refine ⟨⟨i + 1, ml + 1, Ab', Al', cb', cl', by omega, by omega, by go_num, rfl, rfl, Lib.hid ⟨HB5.out.trans (below_grown hg6 (fun j hj => own_ge HL5.out j hj) HB5.out.size), ?_, ?_, (HAP5.out.symm.moved hmv6 HO5.out).symm, ?_⟩⟩, by simp [intOf]; omega⟩
        · rw [body_succ, List.flatMap_append, List.flatMap_cons, List.flatMap_nil, List.append_nil]; exact HAP5.out.symm.kept HO5.out hg6
        · rw [left_succ HIK.out, List.flatMap_append, List.flatMap_cons, List.flatMap_nil, List.append_nil]; exact hown6
        · rw [left_succ HIK.out, List.length_append, ← HML.out]; rfl
    · obtain rfl : n = i := by omega
      obtain ⟨gl, rfl⟩ : ∃ gl, Al = some ⟨gl, 0, none⟩ := by
        obtain ⟨_, _, e, _, h0 | ⟨g, h1, _⟩⟩ := own_slice HRL.out
        · have := left_ne hkn; rw [← HML.out] at this; omega
        · cases e; exact ⟨g, h1⟩
      have hmlc : ml ≤ cl := by
        obtain ⟨_, _, e, h, _⟩ := own_slice HRL.out
        cases e; exact h
      have hmln := Lib.hid (show ml = n - 1 by rw [HML.out]; exact left_len (by omega))
      have hkm : k < ml := by have := hmln.out; omega
      have hml34 : ml ≤ 34 := by have := hmln.out; omega
      have hrb := own_recs (by simp [tellBody]) (by unfold maxLen; omega) (body_wf (by omega)) HRB.out
      have hrl := own_recs HML.out.symm (by unfold maxLen; omega) (left_wf (by omega)) HRL.out
      have hsa := (Below.refl wr.heap.size wr).alloc (Nat.le_refl _) (.cells #[.int .i64 1, .int .i64 0, .int .i64 0, .int .i64 0, .int .i64 0, .int .i64 (n : Int)] 38)
      have hsb := (Below.refl (wr.alloc (.cells #[.int .i64 1, .int .i64 0, .int .i64 0, .int .i64 0, .int .i64 0, .int .i64 (n : Int)] 38)).heap.size (wr.alloc (.cells #[.int .i64 1, .int .i64 0, .int .i64 0, .int .i64 0, .int .i64 0, .int .i64 (n : Int)] 38))).alloc (Nat.le_refl _) (.cells #[.int .i64 0, .int .i64 0, .slice Ab n cb] 47)
      have hk2 := ((one_ack (tellAck n) (tellAck_wf (by omega)) 38 wr).later hsb).base hsb.size
      have hd2 := one_sd (tellSaid n) ⟨z64, z64⟩ 47 _ Ab n cb ((hrb.later hsa).base hsa.size)
      rw [show (wr.alloc (.cells #[.int .i64 1, .int .i64 0, .int .i64 0, .int .i64 0, .int .i64 0, .int .i64 (n : Int)] 38)).heap.size = wr.heap.size + 1 by simp] at hd2
      have HB2 := Lib.hid (bstep HB.out (bstep hsa hsb))
      have HC : Hid (∀ (V : World) (f : Fet) (A4 : Option Addr) (m4 c4 : Nat), Below ((wr.alloc (.cells #[.int .i64 1, .int .i64 0, .int .i64 0, .int .i64 0, .int .i64 0, .int .i64 (n : Int)] 38)).alloc (.cells #[.int .i64 0, .int .i64 0, .slice Ab n cb] 47)).heap.size ((wr.alloc (.cells #[.int .i64 1, .int .i64 0, .int .i64 0, .int .i64 0, .int .i64 0, .int .i64 (n : Int)] 38)).alloc (.cells #[.int .i64 0, .int .i64 0, .slice Ab n cb] 47)) V → f.wf → RecsAt wr wr.heap.size A4 m4 f.recs → Calls Try.prog 16 #[.slice (some ⟨wr.heap.size, 0, none⟩) 1 1, .slice (some ⟨V.heap.size, 0, none⟩) 1 1, .slice (some ⟨wr.heap.size + 1, 0, none⟩) 1 1] (V.alloc (.cells (f.cells (.slice A4 m4 c4)).toArray 52)) fun e w' => e = .returned (.tuple #[.int .i64 (keepAns [tellAck n] [f] [tellSaid n]).1, .int .i64 (keepAns [tellAck n] [f] [tellSaid n]).2]) ∧ Below ((wr.alloc (.cells #[.int .i64 1, .int .i64 0, .int .i64 0, .int .i64 0, .int .i64 0, .int .i64 (n : Int)] 38)).alloc (.cells #[.int .i64 0, .int .i64 0, .slice Ab n cb] 47)).heap.size ((wr.alloc (.cells #[.int .i64 1, .int .i64 0, .int .i64 0, .int .i64 0, .int .i64 0, .int .i64 (n : Int)] 38)).alloc (.cells #[.int .i64 0, .int .i64 0, .slice Ab n cb] 47)) w') := Lib.hid fun V f A4 m4 c4 hv hf hr => by
        have hva := (Below.refl V.heap.size V).alloc (Nat.le_refl _) (.cells (f.cells (.slice A4 m4 c4)).toArray 52)
        have h := Keeps_any (some ⟨wr.heap.size, 0, none⟩) (some ⟨V.heap.size, 0, none⟩) (some ⟨wr.heap.size + 1, 0, none⟩) 1 1 1 1 1 1 (V.alloc (.cells (f.cells (.slice A4 m4 c4)).toArray 52)).heap.size [tellAck n] [f] [tellSaid n] _ (((hk2.later hv).later hva).base (Nat.le_trans hv.size hva.size)) (by omega)
          (one_fet f hf 52 V A4 m4 c4 (((hr.later (bstep hsa hsb)).later hv).base (Nat.le_trans (bstep hsa hsb).size hv.size))) (((hd2.later hv).later hva).base (Nat.le_trans hv.size hva.size))
        exact h.mono fun e w' ⟨h1, h2⟩ => ⟨h1, bstep (bstep hv hva) h2⟩
      have C1 : Hid (∀ V : World, Below ((wr.alloc (.cells #[.int .i64 1, .int .i64 0, .int .i64 0, .int .i64 0, .int .i64 0, .int .i64 (n : Int)] 38)).alloc (.cells #[.int .i64 0, .int .i64 0, .slice Ab n cb] 47)).heap.size ((wr.alloc (.cells #[.int .i64 1, .int .i64 0, .int .i64 0, .int .i64 0, .int .i64 0, .int .i64 (n : Int)] 38)).alloc (.cells #[.int .i64 0, .int .i64 0, .slice Ab n cb] 47)) V → Calls Try.prog 16 #[.slice (some ⟨wr.heap.size, 0, none⟩) 1 1, .slice (some ⟨V.heap.size, 0, none⟩) 1 1, .slice (some ⟨wr.heap.size + 1, 0, none⟩) 1 1] (V.alloc (.cells #[.int .i64 2, .int .i64 0, .int .i64 0, .int .i64 0, .slice (some ⟨gl, 0, none⟩) ml cl] 52)) fun e w' => e = .returned (.tuple #[.int .i64 120, .int .i64 0]) ∧ Below ((wr.alloc (.cells #[.int .i64 1, .int .i64 0, .int .i64 0, .int .i64 0, .int .i64 0, .int .i64 (n : Int)] 38)).alloc (.cells #[.int .i64 0, .int .i64 0, .slice Ab n cb] 47)).heap.size ((wr.alloc (.cells #[.int .i64 1, .int .i64 0, .int .i64 0, .int .i64 0, .int .i64 0, .int .i64 (n : Int)] 38)).alloc (.cells #[.int .i64 0, .int .i64 0, .slice Ab n cb] 47)) w') := Lib.hid fun V hv => by
        have := HC.out V ⟨2, 0, 0, 0, tellLeft k n⟩ (some ⟨gl, 0, none⟩) ml cl hv ⟨t64, z64, z64, z64⟩ hrl
        rwa [tell_one (by omega) hkn] at this
      have C1' := Lib.hid (C1.out ((wr.alloc (.cells #[.int .i64 1, .int .i64 0, .int .i64 0, .int .i64 0, .int .i64 0, .int .i64 (n : Int)] 38)).alloc (.cells #[.int .i64 0, .int .i64 0, .slice Ab n cb] 47)) (Below.refl _ _))
      rw [show ((wr.alloc (.cells #[.int .i64 1, .int .i64 0, .int .i64 0, .int .i64 0, .int .i64 0, .int .i64 (n : Int)] 38)).alloc (.cells #[.int .i64 0, .int .i64 0, .slice Ab n cb] 47)).heap.size = wr.heap.size + 1 + 1 by simp] at C1'
      have C2 : Hid (∀ V : World, Below ((wr.alloc (.cells #[.int .i64 1, .int .i64 0, .int .i64 0, .int .i64 0, .int .i64 0, .int .i64 (n : Int)] 38)).alloc (.cells #[.int .i64 0, .int .i64 0, .slice Ab n cb] 47)).heap.size ((wr.alloc (.cells #[.int .i64 1, .int .i64 0, .int .i64 0, .int .i64 0, .int .i64 0, .int .i64 (n : Int)] 38)).alloc (.cells #[.int .i64 0, .int .i64 0, .slice Ab n cb] 47)) V → Calls Try.prog 16 #[.slice (some ⟨wr.heap.size, 0, none⟩) 1 1, .slice (some ⟨V.heap.size, 0, none⟩) 1 1, .slice (some ⟨wr.heap.size + 1, 0, none⟩) 1 1] (V.alloc (.cells #[.int .i64 1, .int .i64 0, .int .i64 0, .int .i64 0, .slice (some ⟨gl, 0, none⟩) ml cl] 52)) fun e w' => e = .returned (.tuple #[.int .i64 0, .int .i64 0]) ∧ Below ((wr.alloc (.cells #[.int .i64 1, .int .i64 0, .int .i64 0, .int .i64 0, .int .i64 0, .int .i64 (n : Int)] 38)).alloc (.cells #[.int .i64 0, .int .i64 0, .slice Ab n cb] 47)).heap.size ((wr.alloc (.cells #[.int .i64 1, .int .i64 0, .int .i64 0, .int .i64 0, .int .i64 0, .int .i64 (n : Int)] 38)).alloc (.cells #[.int .i64 0, .int .i64 0, .slice Ab n cb] 47)) w') := Lib.hid fun V hv => by
        have := HC.out V ⟨1, 0, 0, 0, tellLeft k n⟩ (some ⟨gl, 0, none⟩) ml cl hv ⟨o64, z64, z64, z64⟩ hrl
        rwa [tell_two (by omega) hkn] at this
      have hrd := hrl.drop (show k ≤ ml by omega)
      rw [Nat.zero_add] at hrd
      have C3 : Hid (∀ V : World, Below ((wr.alloc (.cells #[.int .i64 1, .int .i64 0, .int .i64 0, .int .i64 0, .int .i64 0, .int .i64 (n : Int)] 38)).alloc (.cells #[.int .i64 0, .int .i64 0, .slice Ab n cb] 47)).heap.size ((wr.alloc (.cells #[.int .i64 1, .int .i64 0, .int .i64 0, .int .i64 0, .int .i64 0, .int .i64 (n : Int)] 38)).alloc (.cells #[.int .i64 0, .int .i64 0, .slice Ab n cb] 47)) V → Calls Try.prog 16 #[.slice (some ⟨wr.heap.size, 0, none⟩) 1 1, .slice (some ⟨V.heap.size, 0, none⟩) 1 1, .slice (some ⟨wr.heap.size + 1, 0, none⟩) 1 1] (V.alloc (.cells #[.int .i64 2, .int .i64 0, .int .i64 ((k : Int) + 1), .int .i64 0, .slice (some ⟨gl, k * 4, none⟩) (ml - k) (cl - k)] 52)) fun e w' => e = .returned (.tuple #[.int .i64 0, .int .i64 0]) ∧ Below ((wr.alloc (.cells #[.int .i64 1, .int .i64 0, .int .i64 0, .int .i64 0, .int .i64 0, .int .i64 (n : Int)] 38)).alloc (.cells #[.int .i64 0, .int .i64 0, .slice Ab n cb] 47)).heap.size ((wr.alloc (.cells #[.int .i64 1, .int .i64 0, .int .i64 0, .int .i64 0, .int .i64 0, .int .i64 (n : Int)] 38)).alloc (.cells #[.int .i64 0, .int .i64 0, .slice Ab n cb] 47)) w') := Lib.hid fun V hv => by
        have := HC.out V ⟨2, 0, (k : Int) + 1, 0, (tellLeft k n).drop k⟩ (some ⟨gl, k * 4, none⟩) (ml - k) (cl - k) hv ⟨t64, z64, WalkArith.wf_i64 ⟨by simp only; omega, by simp only; omega⟩, z64⟩ hrd
        rwa [tell_three (by omega) hkn] at this
      have hclk : ¬ cl = k := by omega
      have hclk2 : k ≤ cl := by omega
      clear HRB HRL HAP HML hrb hrl hsa hsb hk2 hd2 hrd HC
      go_wp2_with (first
        | (go_at_call 16; (with_reducible refine (C1'.out).mono ?_); rintro e W4 ⟨rfl, hW4⟩; have HW4 : Hid (Below ((wr.alloc (.cells #[.int .i64 1, .int .i64 0, .int .i64 0, .int .i64 0, .int .i64 0, .int .i64 (n : Int)] 38)).alloc (.cells #[.int .i64 0, .int .i64 0, .slice Ab n cb] 47)).heap.size ((wr.alloc (.cells #[.int .i64 1, .int .i64 0, .int .i64 0, .int .i64 0, .int .i64 0, .int .i64 (n : Int)] 38)).alloc (.cells #[.int .i64 0, .int .i64 0, .slice Ab n cb] 47)) W4) := Lib.hid (by simpa using hW4); clear hW4 C1')
        | (go_at_call 16; (with_reducible refine (C2.out _ HW4.out).mono ?_); rintro e W5 ⟨rfl, hW5⟩; have HW5 := Lib.hid hW5; clear hW5)
        | (go_at_call 16; (with_reducible refine (C3.out _ HW5.out).mono ?_); rintro e W6 ⟨rfl, hW6⟩; have HW6 := Lib.hid hW6; clear hW6)
        | (go_at_call 12; refine (awake18 _).mono ?_; rintro e W7 ⟨rfl, hW7⟩; have HW7 := Lib.hid hW7; clear hW7))
      go_ret
      exact ⟨rfl, bstep (bstep HB2.out HW6.out) HW7.out⟩
end Go.Proofs.Ytkgidfehndkhmaa
