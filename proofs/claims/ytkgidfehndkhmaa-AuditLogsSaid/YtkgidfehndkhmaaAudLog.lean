/- The plain law of AuditLogs. -/
import Derived.Test.YtkgidfehndkhmaaAudKSpec
import Derived.WalkKit
namespace Go.PostAud
open Go.RowKit
def renum (b : Nat) (l : List Rec) : List Rec := l.mapIdx fun k r => { r with off := ((b + k : Nat) : Int) }
theorem renum_get (b : Nat) (l : List Rec) (k : Nat) : (renum b l)[k]? = (l[k]?).map fun r => { r with off := ((b + k : Nat) : Int) } := by unfold renum; rw [List.getElem?_mapIdx]
theorem renum_len (b : Nat) (l : List Rec) : (renum b l).length = l.length := by unfold renum; rw [List.length_mapIdx]
/-- is a batch taken? -/
def takes (s : Sd) : Bool := decide (s.recs.length ≠ 0) && decide (s.recs.length ≤ 256)
structure Log where
  all : List Rec
  acks : List Ack
  mine : List Sd
def logStep (i : Nat) (s : Sd) (g : Log) : Log := if takes s = true then ⟨g.all ++ renum g.all.length s.recs, g.acks ++ [⟨(i : Int), ⟨1, (i : Int)⟩, 0, (g.all.length : Int), (s.recs.length : Int)⟩], g.mine ++ [⟨⟨1, (i : Int)⟩, s.recs⟩]⟩ else g
def logTo (sd : List Sd) : Nat → Log
  | 0 => ⟨[], [], []⟩
  | i + 1 => match sd[i]? with | some s => logStep i s (logTo sd i) | none => logTo sd i
theorem logTo_succ {sd : List Sd} {i : Nat} {s : Sd} (h : sd[i]? = some s) : logTo sd (i + 1) = logStep i s (logTo sd i) := by rw [logTo, h]
structure LogOk (i : Nat) (g : Log) : Prop where
  len : g.all.length ≤ i * 256
  offs : ∀ (p : Nat) (r : Rec), g.all[p]? = some r → r.off = (p : Int) ∧ saidIn g.mine r = true
  acks : ∀ (q : Nat) (a : Ack), g.acks[q]? = some a → a.err = 0 ∧ 0 ≤ a.base ∧ 1 ≤ a.count ∧ a.count ≤ 256 ∧ a.base + a.count ≤ (g.all.length : Int) ∧ a.id.prod = 1 ∧ a.id.seq < (i : Int) ∧ 0 ≤ a.id.seq ∧ a.step = a.id.seq
  apart : ∀ (q q' : Nat) (a a' : Ack), q < q' → g.acks[q]? = some a → g.acks[q']? = some a' → a.id.seq < a'.id.seq ∧ a.base + a.count ≤ a'.base
  mines : ∀ s ∈ g.mine, ∃ j : Nat, j < i ∧ s.id = ⟨1, (j : Int)⟩
  nums : g.acks.length = g.mine.length ∧ g.acks.length ≤ i
theorem saidIn_more {l : List Sd} {s : Sd} {r : Rec} (h : saidIn l r = true) : saidIn (l ++ [s]) r = true := by
  unfold saidIn at *
  rw [List.any_append, h]; rfl
theorem log_none : LogOk 0 ⟨[], [], []⟩ := ⟨Nat.le_refl 0, fun _ _ h => by simp at h, fun _ _ h => by simp at h, fun _ _ _ _ _ h => by simp at h, fun _ h => by simp at h, rfl, Nat.le_refl 0⟩
theorem LogOk.weak {i : Nat} {g : Log} (ih : LogOk i g) : LogOk (i + 1) g := ⟨Nat.le_trans ih.len (Nat.mul_le_mul_right 256 (Nat.le_succ i)), ih.offs, fun q a h => by
  obtain ⟨h1, h2, h3, h4, h5, h6, h7, h8⟩ := ih.acks q a h
  exact ⟨h1, h2, h3, h4, h5, h6, by omega, h8⟩, ih.apart, fun s hs => by
    obtain ⟨j, h1, h2⟩ := ih.mines s hs
    exact ⟨j, by omega, h2⟩, ih.nums.1, by have := ih.nums.2; omega⟩
theorem log_ok (sd : List Sd) (i : Nat) : LogOk i (logTo sd i) := by
  induction i with
  | zero => exact log_none
  | succ i ih =>
    have weak := ih.weak
    unfold logTo
    cases hs : sd[i]? with
    | none => exact weak
    | some s =>
      show LogOk (i + 1) (logStep i s (logTo sd i))
      unfold logStep
      by_cases ht : takes s = true
      · rw [if_pos ht]
        unfold takes at ht
        simp only [Bool.and_eq_true, decide_eq_true_eq] at ht
        generalize logTo sd i = g at ih weak
        refine ⟨?_, fun p r hp => ?_, fun q a hq => ?_, fun q q' a a' hqq hq hq' => ?_, fun x hx => ?_, ?_⟩
        · simp only [List.length_append, renum_len]
          have := ih.len
          rw [Nat.add_mul]; omega
        · simp only at hp ⊢
          by_cases hlt : p < g.all.length
          · rw [List.getElem?_append_left hlt] at hp
            obtain ⟨h1, h2⟩ := ih.offs p r hp
            exact ⟨h1, saidIn_more h2⟩
          · rw [List.getElem?_append_right (by omega), renum_get] at hp
            obtain ⟨r0, h0, rfl⟩ := Option.map_eq_some_iff.1 hp
            refine ⟨by simp only; omega, ?_⟩
            unfold saidIn
            rw [List.any_append]
            have : ([(⟨⟨1, (i : Int)⟩, s.recs⟩ : Sd)].any fun s => s.recs.any fun x => decide (bare x = bare { r0 with off := ((g.all.length + (p - g.all.length) : Nat) : Int) })) = true := by
              rw [List.any_cons]
              rw [any_at h0 (by simp [bare])]
              rfl
            rw [this]; simp
        · simp only at hq ⊢
          by_cases hlt : q < g.acks.length
          · rw [List.getElem?_append_left hlt] at hq
            obtain ⟨h1, h2, h3, h4, h5, h6⟩ := weak.acks q a hq
            exact ⟨h1, h2, h3, h4, by rw [List.length_append, renum_len]; omega, h6⟩
          · rw [List.getElem?_append_right (by omega)] at hq
            have hl := (List.getElem?_eq_some_iff.1 hq).1
            have e0 : q - g.acks.length = 0 := by simpa using hl
            rw [e0] at hq
            obtain rfl := (Option.some.inj hq).symm
            refine ⟨rfl, by simp only; omega, by simp only; omega, by simp only; omega, by simp only [List.length_append, renum_len]; omega, rfl, by simp only; omega, by simp only; omega, rfl⟩
        · simp only at hq hq'
          by_cases hlt' : q' < g.acks.length
          · rw [List.getElem?_append_left hlt'] at hq'
            rw [List.getElem?_append_left (by omega)] at hq
            exact ih.apart q q' a a' hqq hq hq'
          · rw [List.getElem?_append_right (by omega)] at hq'
            have hl := (List.getElem?_eq_some_iff.1 hq').1
            have e0 : q' - g.acks.length = 0 := by simpa using hl
            rw [e0] at hq'
            obtain rfl := (Option.some.inj hq').symm
            rw [List.getElem?_append_left (by omega)] at hq
            obtain ⟨_, _, _, _, h5, _, h7, _⟩ := ih.acks q a hq
            exact ⟨h7, h5⟩
        · rcases List.mem_append.1 hx with h | h
          · exact weak.mines x h
          · obtain rfl := List.mem_singleton.1 h
            exact ⟨i, by omega, rfl⟩
        · simp only [List.length_append, List.length_cons, List.length_nil]
          have := ih.nums
          omega
      · rw [if_neg ht]; exact weak
theorem log_acks {i : Nat} {g : Log} (h : LogOk i g) (hi : i ≤ 60) : acksAns g.acks = (0, 0) := acksAns_ok fun j hj => by
  have hx : g.acks[j]? = some g.acks[j] := List.getElem?_eq_getElem hj
  obtain ⟨h1, h2, h3, h4, h5, h6, h7, h8⟩ := h.acks j _ hx
  have hl := h.len
  have hg : good g.acks[j] = true := by
    unfold good; simp [h1, h2, h3, h4]; omega
  rw [badAt_of hx]
  unfold badAck
  rw [hg, take_any _ _ _ fun q y hq hy => ?_]
  · simp
  · obtain ⟨h9, h10⟩ := h.apart q j y _ hq hy hx
    unfold clash
    rw [if_neg (fun e => by rw [e] at h9; omega)]
    have : meets y g.acks[j] = false := by unfold meets; simp; omega
    rw [this]; simp
/-- a part of the log -/
def cutLog (all : List Rec) (a b : Nat) : List Rec := (all.take b).drop a
def IsCut (all : List Rec) (f : Fet) : Prop := ∃ a b : Nat, a ≤ b ∧ b ≤ all.length ∧ f.from_ = (a : Int) ∧ f.err = 0 ∧ f.recs = cutLog all a b
theorem cut_len {all : List Rec} {a b : Nat} (h2 : b ≤ all.length) : (cutLog all a b).length = b - a := by unfold cutLog; simp; omega
theorem cut_get {all : List Rec} {a b k : Nat} (h : a + k < b) : (cutLog all a b)[k]? = all[a + k]? := by
  unfold cutLog
  rw [List.getElem?_drop, List.getElem?_take, if_pos h]
theorem cut_some {all : List Rec} {a b k : Nat} {r : Rec} (h2 : b ≤ all.length) (h : (cutLog all a b)[k]? = some r) : a + k < b ∧ all[a + k]? = some r := by
  have hl := (List.getElem?_eq_some_iff.1 h).1
  rw [cut_len h2] at hl
  have : a + k < b := by omega
  rw [cut_get this] at h
  exact ⟨this, h⟩
theorem log_fets {i : Nat} {g : Log} (h : LogOk i g) {l : List Fet} (hl : ∀ (j : Nat) (f : Fet), l[j]? = some f → IsCut g.all f) : fetAns l g.mine = (0, 0) := fetAns_ok fun j hj => by
  have hx : l[j]? = some l[j] := List.getElem?_eq_getElem hj
  rw [fetAt_of hx]
  generalize l[j] = f at hx
  obtain ⟨a, b, h1, h2, h3, h4, h5⟩ := hl j f hx
  have offs : ∀ (k : Nat) (r : Rec), f.recs[k]? = some r → r.off = ((a + k : Nat) : Int) ∧ saidIn g.mine r = true ∧ a + k < b ∧ g.all[a + k]? = some r := fun k r hk => by
    rw [h5] at hk
    obtain ⟨h6, h7⟩ := cut_some h2 hk
    obtain ⟨h8, h9⟩ := h.offs _ _ h7
    exact ⟨h8, h9, h6, h7⟩
  refine fetBad_ok (parts_false fun k x hk => ?_) (any_false fun k y hk => ?_)
  · obtain ⟨h6, _, h7, h8⟩ := offs k x hk
    unfold recBad
    have e1 : ordBad f k x = false := by
      unfold ordBad
      have : decide (x.off < f.from_) = false := decide_eq_false (by rw [h6, h3]; omega)
      rw [this]
      by_cases hk0 : 0 < k
      · have hk1 : f.recs[k - 1]? = some (f.recs[k - 1]'(by have := (List.getElem?_eq_some_iff.1 hk).1; omega)) := List.getElem?_eq_getElem _
        rw [hk1]
        obtain ⟨h9, _⟩ := offs (k - 1) _ hk1
        simp only [hk0, decide_true, Bool.true_and, Bool.false_or]
        exact decide_eq_false (by rw [h6, h9]; omega)
      · simp [hk0]
    have e2 : oldBad l j x = false := by
      unfold oldBad
      refine take_any _ _ _ fun q f' hq hf' => ?_
      obtain ⟨a', b', g1, g2, g3, g4, g5⟩ := hl q f' hf'
      rw [decide_eq_true g4, any_false fun m y hm => ?_]
      · rfl
      · rw [g5] at hm
        obtain ⟨g6, g7⟩ := cut_some g2 hm
        obtain ⟨g8, _⟩ := h.offs _ _ g7
        by_cases e : y.off = x.off
        · have : a' + m = a + k := by rw [g8, h6] at e; omega
          rw [this] at g7
          obtain rfl := Option.some.inj (g7.symm.trans h8)
          simp
        · rw [decide_eq_false e]; rfl
    rw [e1, e2]; rfl
  · rw [(offs k y hk).2.1]; rfl
theorem log_keeps {i : Nat} {g : Log} (h : LogOk i g) {l : List Fet} (hl : ∀ (j : Nat) (f : Fet), l[j]? = some f → IsCut g.all f) (ks : List Ack) (sd : List Sd) : keepAns ks l sd = (0, 0) := keepAns_ok fun j hj => by
  have hx : l[j]? = some l[j] := List.getElem?_eq_getElem hj
  rw [keepAt_of hx]
  generalize l[j] = f at hx
  obtain ⟨a, b, h1, h2, h3, h4, h5⟩ := hl j f hx
  unfold keepBad
  by_cases hab : a < b
  · rw [lacksB_false ?_]
    · simp
    · rintro ⟨st, o, key, ⟨i', k', s, x, r, q1, q2, q3, q4, q5, rfl, rfl, rfl⟩, p1, p2, p3, p4, _⟩
      have hlast : lastOff f.recs = ((b - 1 : Nat) : Int) := by
        unfold lastOff
        rw [h5, cut_len h2, cut_get (by omega), show a + (b - a - 1) = b - 1 by omega, List.getElem?_eq_getElem (by omega)]
        exact (h.offs _ _ (List.getElem?_eq_getElem (by omega))).1
      rw [hlast] at p3
      rw [h3] at p2
      obtain ⟨o, ho⟩ : ∃ o : Nat, (x.base + (k' : Int)) = (o : Int) := ⟨(x.base + (k' : Int)).toNat, by omega⟩
      rw [ho] at p2 p3 p4
      have hget : f.recs[o - a]? = some (g.all[o]'(by omega)) := by
        rw [h5, cut_get (by omega), show a + (o - a) = o by omega]
        exact List.getElem?_eq_getElem _
      unfold hasOff at p4
      rw [any_at hget (decide_eq_true (h.offs _ _ (List.getElem?_eq_getElem (by omega))).1)] at p4
      exact nomatch p4
  · have : f.recs.length = 0 := by rw [h5, cut_len h2]; omega
    rw [this]; simp
theorem mines_wf {i : Nat} {g : Log} (h : LogOk i g) (hi : i ≤ 60) : ∀ s ∈ g.mine, s.wf := fun s hs => by
  obtain ⟨j, h1, h2⟩ := h.mines s hs
  unfold Sd.wf
  rw [h2]
  exact ⟨WalkArith.wf_i64 ⟨by simp only; omega, by simp only; omega⟩, WalkArith.wf_i64 ⟨by simp only; omega, by simp only; omega⟩⟩
theorem acks_wf {i : Nat} {g : Log} (h : LogOk i g) (hi : i ≤ 60) : ∀ a ∈ g.acks, a.wf := fun a ha => by
  obtain ⟨q, hq, rfl⟩ := List.getElem_of_mem ha
  obtain ⟨h1, h2, h3, h4, h5, h6, h7, h8, h9⟩ := h.acks q _ (List.getElem?_eq_getElem hq)
  have hl := h.len
  unfold Ack.wf i64
  exact ⟨WalkArith.wf_i64 ⟨by omega, by omega⟩, ⟨WalkArith.wf_i64 ⟨by omega, by omega⟩, WalkArith.wf_i64 ⟨by omega, by omega⟩⟩, WalkArith.wf_i64 ⟨by omega, by omega⟩, WalkArith.wf_i64 ⟨by omega, by omega⟩, WalkArith.wf_i64 ⟨by omega, by omega⟩⟩
end Go.PostAud
