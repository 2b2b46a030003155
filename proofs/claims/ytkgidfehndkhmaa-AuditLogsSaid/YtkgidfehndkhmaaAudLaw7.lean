/- The walk of AuditLogs. -/
import Derived.Test.YtkgidfehndkhmaaAudLaw6
import Derived.Test.YtkgidfehndkhmaaAudLaw4
import Derived.Test.YtkgidfehndkhmaaAudLog
import Derived.Test.YtkgidfehndkhmaaAudPairs
namespace Go.PostMem
open Go.RowKit
theorem own_tag {w w' : World} {base base' T T' sz sz' n k : Nat} {v u : Value} {xs ys : List Value} (h : w.ownsRow base T sz v n xs) (h' : w.ownsRow base' T' sz' u k ys) (hT : T ≠ T') (hg : w.grownBy w' v.ownBlock) : w'.ownsRow base' T' sz' u k ys := by
  refine h'.kept hg ?_
  rcases h'.2 with ⟨rfl, _⟩ | ⟨g', cap', cur', rfl, _, hg', _⟩
  · exact .inl rfl
  · refine .inr fun e => ?_
    rcases h.2 with ⟨rfl, _⟩ | ⟨g, cap, cur, rfl, _, hgg, _⟩
    · exact nomatch e
    · obtain rfl : g' = g := Option.some.inj e
      rw [hgg] at hg'
      injection hg' with hg'
      injection hg' with _ e2
      exact hT e2
theorem sl1 (w : World) (o : Obj) : Value.slice (some ⟨w.heap.size + 1, 0, none⟩) 1 1 = Value.slice (some ⟨(w.alloc o).heap.size, 0, none⟩) 1 1 := by simp
end Go.PostMem
namespace Go.PostMem
open Go.RowKit
/-- append(nil, nothing...) -/
theorem wpList_nothing {P : Program} {w : World} {ops : Array Oper} {rest : List Oper} {o : Oper} {a : Act} {Q : Exit → Act → World → Prop} (hgd : o.guard = none) (sl x : Operand) (t : TypeId)
    (ho : o.op = .call { callee := .builtin .append, args := #[sl, x], argTypes := #[t, t] }) (T : Nat) {z : Value} {sz by' : Nat} (hinfo : (P.info? T).map (fun i => (i.zero, i.size, i.bytes)) = some (some z, sz, by')) (ht : P.underlying t = some (.slice T))
    (ao : Option Addr) (c : Nat) (hs : a.eval sl = .slice none 0 0) (hx : a.eval x = .slice ao 0 c) (h : wpList P ops Q rest (a.put o.dst (.slice none 0 0)) w) : wpList P ops Q (o :: rest) a w := by
  refine wpList_plain hgd fun K hK => ?_
  obtain ⟨i0, hi, hz0, hz1, hz2⟩ := info_parts hinfo
  have hr : (Builtin.append_ #[t, t] o.type #[.slice none 0 0, .slice ao 0 c]).run P w = .ok (.slice none 0 0) w := by
    cases ao <;> simp [Builtin.append_, run_underlying ht, sizeOf, typeInfo, hi, Builtin.lenOf, Builtin.firstCells, loadCells, loadCellsFrom]
  unfold Oper.wp execOp
  simp only [ho, resolve, invoke, builtin, Sem.run_bind, Sem.run_pure, Result.andThen_ok, List.map_toArray, List.map_cons, List.map_nil, hs, hx, hr]
  exact hK _ _ h
end Go.PostMem
namespace Go.PostAud
open Go.RowKit
theorem SdsAt.strs {w : World} {base : Nat} {A : Option Addr} {n : Nat} {l : List Sd} (h : SdsAt w base A n l) : ∀ (i : Nat) (s : Sd) (r : Rec), l[i]? = some s → r ∈ s.recs → r.key.size ≤ maxLen ∧ r.value.size ≤ maxLen := by
  intro i s r hi hr
  have hin : i < n := by have := (List.getElem?_eq_some_iff.1 hi).1; rw [h.1] at this; exact this
  obtain ⟨a, x, A', m, c, _, hx, _, _, hrc⟩ := h.get hin
  obtain rfl := Option.some.inj (hx.symm.trans hi)
  obtain ⟨k, hk, rfl⟩ := List.getElem_of_mem hr
  obtain ⟨a2, y, _, hy, hwf, _⟩ := hrc.get (show k < m by rw [← hrc.1]; exact hk)
  rw [List.getElem?_eq_getElem hk] at hy
  obtain rfl := Option.some.inj hy
  exact hwf.2
theorem log_strs {sd : List Sd} (hs : ∀ (i : Nat) (s : Sd) (r : Rec), sd[i]? = some s → r ∈ s.recs → r.key.size ≤ maxLen ∧ r.value.size ≤ maxLen) (i : Nat) : ∀ r ∈ (logTo sd i).all, r.key.size ≤ maxLen ∧ r.value.size ≤ maxLen := by
  induction i with
  | zero => intro r hr; exact absurd hr (by simp [logTo])
  | succ i ih =>
    intro r hr
    unfold logTo at hr
    cases h : sd[i]? with
    | none => rw [h] at hr; exact ih r hr
    | some s =>
      rw [h] at hr
      replace hr : r ∈ (logStep i s (logTo sd i)).all := hr
      unfold logStep at hr
      split at hr
      · rcases List.mem_append.1 hr with hr | hr
        · exact ih r hr
        · obtain ⟨k, hk, e⟩ := List.getElem_of_mem hr
          have e2 := renum_get (logTo sd i).all.length s.recs k
          rw [List.getElem?_eq_getElem hk, e] at e2
          obtain ⟨r0, h0, e3⟩ := Option.map_eq_some_iff.1 e2.symm
          have := hs i s r0 h (List.mem_of_getElem? h0)
          rw [← e3]; exact this
      · exact ih r hr
theorem log_wf {sd : List Sd} {i : Nat} (hs : ∀ (i : Nat) (s : Sd) (r : Rec), sd[i]? = some s → r ∈ s.recs → r.key.size ≤ maxLen ∧ r.value.size ≤ maxLen) (h : LogOk i (logTo sd i)) (hi : i ≤ 60) : ∀ r ∈ (logTo sd i).all, r.wf := by
  intro r hr
  have h1 := log_strs hs i r hr
  generalize logTo sd i = g at h hr
  obtain ⟨k, hk, e⟩ := List.getElem_of_mem hr
  obtain ⟨h2, _⟩ := h.offs k r (by rw [List.getElem?_eq_getElem hk, e])
  have hl := h.len
  exact ⟨by rw [h2]; exact WalkArith.wf_i64 ⟨by omega, by omega⟩, h1⟩
end Go.PostAud
namespace Go.Proofs.Ytkgidfehndkhmaa
open Go.RowKit Go.PostAud Go.PostMem
def mineCells (p : Sd × Value) : List Value := p.1.cells p.2
def MineOk (w : World) (ms : List (Sd × Value)) : Prop := ∀ p ∈ ms, ∃ A m c, p.2 = .slice A m c ∧ RecsAt w w.heap.size A m p.1.recs
/-- the log's rows -/
structure U (w : World) (g : Log) (ms : List (Sd × Value)) (A5 A6 A7 : Option Addr) (n5 n6 c5 c6 c7 : Nat) (wr : World) : Prop where
  below : Below w.heap.size w wr
  l5 : g.all.length = n5
  l6 : g.acks.length = n6
  l7 : ms.length = n6
  r5 : wr.ownsRow w.heap.size 49 4 (.slice A5 n5 c5) n5 (g.all.flatMap Rec.cells)
  r6 : wr.ownsRow w.heap.size 38 6 (.slice A6 n6 c6) n6 (g.acks.flatMap Ack.cells)
  r7 : wr.ownsRow w.heap.size 47 3 (.slice A7 n6 c7) n6 (ms.flatMap mineCells)
  mine : ms.map (·.1) = g.mine
  ok : MineOk w ms
theorem U.step {w : World} {g : Log} {ms : List (Sd × Value)} {A5 A6 A7 : Option Addr} {n5 n6 c5 c6 c7 : Nat} {wr wx : World} (h : U w g ms A5 A6 A7 n5 n6 c5 c6 c7 wr) (hb : Below wr.heap.size wr wx) : U w g ms A5 A6 A7 n5 n6 c5 c6 c7 wx :=
  ⟨bstep h.below hb, h.l5, h.l6, h.l7, own_below h.r5 hb, own_below h.r6 hb, own_below h.r7 hb, h.mine, h.ok⟩
theorem sd_one (d : Pid) (A : Option Addr) (m c : Nat) : ∀ u ∈ ([.int .i64 d.prod, .int .i64 d.seq, .slice A m c] : List Value), u.oneCell' = true := by
  intro u hu
  simp only [List.mem_cons, List.not_mem_nil, or_false] at hu
  rcases hu with rfl | rfl | rfl <;> rfl
theorem U.acked {w wI w3 : World} {g : Log} {ms : List (Sd × Value)} {A5 A6 A7 : Option Addr} {n5 n6 c5 c6 c7 : Nat} {wr : World} {v3 : Value} {cs ids : List Value} (h : U w g ms A5 A6 A7 n5 n6 c5 c6 c7 wI) (hown : w3.ownsRow w.heap.size 38 6 v3 (n6 + 1) (g.acks.flatMap Ack.cells ++ cs)) (hg : wI.grownBy w3 (Value.slice A6 n6 c6).ownBlock)
    (hid : At wI ⟨wr.heap.size, 0, none⟩ ids) (hB : wr.heap.size < wI.heap.size) (ho : wr.ownsRow w.heap.size 38 6 (.slice A6 n6 c6) n6 (g.acks.flatMap Ack.cells)) :
    ∃ A6' c6', v3 = .slice A6' (n6 + 1) c6' ∧ Below w.heap.size w w3 ∧ w3.ownsRow w.heap.size 49 4 (.slice A5 n5 c5) n5 (g.all.flatMap Rec.cells) ∧ w3.ownsRow w.heap.size 38 6 (.slice A6' (n6 + 1) c6') (n6 + 1) (g.acks.flatMap Ack.cells ++ cs) ∧
      w3.ownsRow w.heap.size 47 3 (.slice A7 n6 c7) n6 (ms.flatMap mineCells) ∧ At w3 ⟨wr.heap.size, 0, none⟩ ids := by
  obtain ⟨A6', c6', rfl, _, _⟩ := own_slice hown
  refine ⟨A6', c6', rfl, h.below.trans (below_grown hg (fun j hj => own_ge h.r6 j hj) h.below.size), own_tag h.r6 h.r5 (by decide) hg, hown, own_tag h.r6 h.r7 (by decide) hg, hid.of_block (hg.block _ hB (fun e => ?_))⟩
  have := (World.ownsRow.lt ho _ e.symm).2
  simp only at this
  omega
theorem U.mined {w wI w3 w4 : World} {g : Log} {ms : List (Sd × Value)} {A5 A6 A6' A7 : Option Addr} {n5 n6 c5 c6 c6' c7 : Nat} {s : Sd} {x : Ack} {A' : Option Addr} {m c : Nat} {v4 : Value} (h : U w g ms A5 A6 A7 n5 n6 c5 c6 c7 wI) (hr : RecsAt w w.heap.size A' m s.recs) (hb : Below w.heap.size w w3)
    (h5 : w3.ownsRow w.heap.size 49 4 (.slice A5 n5 c5) n5 (g.all.flatMap Rec.cells)) (h6 : w3.ownsRow w.heap.size 38 6 (.slice A6' (n6 + 1) c6') (n6 + 1) (g.acks.flatMap Ack.cells ++ x.cells)) (h7 : w3.ownsRow w.heap.size 47 3 (.slice A7 n6 c7) n6 (ms.flatMap mineCells))
    (hown : w4.ownsRow w.heap.size 47 3 v4 (n6 + 1) (ms.flatMap mineCells ++ s.cells (.slice A' m c))) (hg : w3.grownBy w4 (Value.slice A7 n6 c7).ownBlock) :
    ∃ A7' c7', v4 = .slice A7' (n6 + 1) c7' ∧ U w ⟨g.all, g.acks ++ [x], g.mine ++ [s]⟩ (ms ++ [(s, .slice A' m c)]) A5 A6' A7' n5 (n6 + 1) c5 c6' c7' w4 := by
  obtain ⟨A7', c7', rfl, _, _⟩ := own_slice hown
  refine ⟨A7', c7', rfl, hb.trans (below_grown hg (fun j hj => own_ge h7 j hj) hb.size), h.l5, ?_, ?_, own_tag h7 h5 (by decide) hg, ?_, ?_, ?_, ?_⟩
  · simp [h.l6]
  · simp [h.l7]
  · have := own_tag h7 h6 (by decide) hg
    simpa using this
  · simpa [mineCells] using hown
  · simp [h.mine]
  · intro p hp
    rcases List.mem_append.1 hp with hp | hp
    · exact h.ok p hp
    · obtain rfl := List.mem_singleton.1 hp
      exact ⟨A', m, c, rfl, hr⟩
theorem U.alled {w wI w4 : World} {g : Log} {ms : List (Sd × Value)} {A5 A6 A7 : Option Addr} {n5 n6 c5 c6 c7 : Nat} {r : Rec} {v4 : Value} (h : U w g ms A5 A6 A7 n5 n6 c5 c6 c7 wI)
    (hown : w4.ownsRow w.heap.size 49 4 v4 (n5 + 1) (g.all.flatMap Rec.cells ++ r.cells)) (hg : wI.grownBy w4 (Value.slice A5 n5 c5).ownBlock) :
    ∃ A5' c5', v4 = .slice A5' (n5 + 1) c5' ∧ U w ⟨g.all ++ [r], g.acks, g.mine⟩ ms A5' A6 A7 (n5 + 1) n6 c5' c6 c7 w4 := by
  obtain ⟨A5', c5', rfl, _, _⟩ := own_slice hown
  refine ⟨A5', c5', rfl, h.below.trans (below_grown hg (fun j hj => own_ge h.r5 j hj) h.below.size), ?_, h.l6, h.l7, ?_, own_tag h.r5 h.r6 (by decide) hg, own_tag h.r5 h.r7 (by decide) hg, h.mine, h.ok⟩
  · simp [h.l5]
  · simpa using hown
def LR1 (w : World) (n : Nat) (sd : List Sd) (v5 v6 v7 v8 : Value) (wr : World) : Prop := ∃ (i n5 n6 c5 c6 c7 : Nat) (A5 A6 A7 : Option Addr), i ≤ n ∧ i ≤ 60 ∧ n5 ≤ 15360 ∧ n6 ≤ 60 ∧ v5 = .slice A5 n5 c5 ∧ v6 = .slice A6 n6 c6 ∧ v7 = .slice A7 n6 c7 ∧ v8 = .int .i64 (i : Int) ∧ Hid (∃ ms, U w (logTo sd i) ms A5 A6 A7 n5 n6 c5 c6 c7 wr)
def LR2 (w : World) (m : Nat) (g : Log) (s : Sd) (ms : List (Sd × Value)) (A6 A7 : Option Addr) (n5 n6 c6 c7 : Nat) (v5 v11 : Value) (wr : World) : Prop := ∃ (k c5 : Nat) (A5 : Option Addr), k ≤ m ∧ v5 = .slice A5 (n5 + k) c5 ∧ v11 = .int .i64 (k : Int) ∧
  Hid (U w ⟨g.all ++ (renum n5 s.recs).take k, g.acks, g.mine⟩ ms A5 A6 A7 (n5 + k) n6 c5 c6 c7 wr)
theorem cut_cells {w wr : World} {T g5 n5 c5 a b : Nat} {all : List Rec} (hl : all.length = n5) (h : wr.ownsRow w.heap.size T 4 (.slice (some ⟨g5, 0, none⟩) n5 c5) n5 (all.flatMap Rec.cells)) (hb : b ≤ n5) :
    ∀ j u, ((cutLog all a b).flatMap Rec.cells)[j]? = some u → wr.cell? ((⟨g5, a * 4, none⟩ : Addr).add j) = some u := by
  intro j u hj
  have hlen := flatl_len Rec.cells_len (cutLog all a b)
  rw [cut_len (by omega)] at hlen
  have hj2 : j < (b - a) * 4 := by rw [← hlen]; exact (List.getElem?_eq_some_iff.1 hj).1
  have hq : j / 4 < b - a := by omega
  have hx : (cutLog all a b)[j / 4]? = all[a + j / 4]? := cut_get (by omega)
  have hy : all[a + j / 4]? = some (all[a + j / 4]'(by omega)) := List.getElem?_eq_getElem (by omega)
  rw [hy] at hx
  have e1 := flatl_get Rec.cells_len (cutLog all a b) (j / 4) (j % 4) _ hx (by omega)
  rw [show j / 4 * 4 + j % 4 = j by omega] at e1
  have e2 := flatl_get Rec.cells_len all (a + j / 4) (j % 4) _ hy (by omega)
  rw [hj] at e1
  have := World.ownsRow.cells h rfl ((a + j / 4) * 4 + j % 4) u (by rw [e2, ← e1])
  rw [Addr.add_lit] at this ⊢
  rw [show a * 4 + j = 0 + ((a + j / 4) * 4 + j % 4) by omega]
  exact this
theorem flat_one (l : List Rec) : ∀ u ∈ l.flatMap Rec.cells, u.oneCell' = true := by
  intro u hu
  obtain ⟨r, _, h⟩ := List.mem_flatMap.1 hu
  exact rec_one r u h
def fetCells (p : Fet × Value) : List Value := p.1.cells p.2
def FOk (w wr : World) (g : Log) (p : Fet × Value) : Prop := IsCut g.all p.1 ∧ p.1.wf ∧ ∃ A m c, p.2 = .slice A m c ∧ p.1.recs.length = m ∧ wr.ownsRow w.heap.size 49 4 (.slice A m c) m (p.1.recs.flatMap Rec.cells)
theorem FOk.step {w wr wx : World} {g : Log} {p : Fet × Value} (h : FOk w wr g p) (hb : Below wr.heap.size wr wx) : FOk w wx g p := by
  obtain ⟨h1, h2, A, m, c, h3, h4, h5⟩ := h
  exact ⟨h1, h2, A, m, c, h3, h4, own_below h5 hb⟩
theorem cut_none (all : List Rec) (a : Nat) : cutLog all a a = [] := by unfold cutLog; simp
theorem infoFet : (Try.prog.info? 52).map (fun i => (i.zero, i.size, i.bytes)) = some (some (.agg #[.int .i64 0, .int .i64 0, .int .i64 0, .int .i64 0, .slice none 0 0]), 5, 56) := by kernel_rfl
theorem fet_one (f : Fet) (A : Option Addr) (m c : Nat) : ∀ u ∈ f.cells (.slice A m c), u.oneCell' = true := by
  intro u hu
  unfold Fet.cells at hu
  simp only [List.mem_cons, List.not_mem_nil, or_false] at hu
  rcases hu with rfl | rfl | rfl | rfl | rfl <;> rfl
theorem fet_add {w w3 w4 : World} {g : Log} {ms : List (Sd × Value)} {A5 A6 A7 A13 : Option Addr} {n5 n6 c5 c6 c7 i c13 : Nat} {fs : List (Fet × Value)} {v4 : Value} (hu : U w g ms A5 A6 A7 n5 n6 c5 c6 c7 w3)
    (hrow : w3.ownsRow w.heap.size 52 5 (.slice A13 i c13) i (fs.flatMap fetCells)) (hl : fs.length = i) (hfk : ∀ p ∈ fs, FOk w w3 g p) (p : Fet × Value) (hp : FOk w w3 g p)
    (hown : w4.ownsRow w.heap.size 52 5 v4 (i + 1) (fs.flatMap fetCells ++ fetCells p)) (hg : w3.grownBy w4 (Value.slice A13 i c13).ownBlock) :
    ∃ A' c', v4 = .slice A' (i + 1) c' ∧ U w g ms A5 A6 A7 n5 n6 c5 c6 c7 w4 ∧ ∃ fs' : List (Fet × Value), fs'.length = i + 1 ∧ w4.ownsRow w.heap.size 52 5 (.slice A' (i + 1) c') (i + 1) (fs'.flatMap fetCells) ∧ ∀ p ∈ fs', FOk w w4 g p := by
  obtain ⟨A', c', rfl, _, _⟩ := own_slice hown
  have keep : ∀ q, FOk w w3 g q → FOk w w4 g q := fun q h => by
    obtain ⟨h1, h2, A, m, c, h3, h4, h5⟩ := h
    exact ⟨h1, h2, A, m, c, h3, h4, own_tag hrow h5 (by decide) hg⟩
  refine ⟨A', c', rfl, ⟨hu.below.trans (below_grown hg (fun j hj => own_ge hrow j hj) hu.below.size), hu.l5, hu.l6, hu.l7, own_tag hrow hu.r5 (by decide) hg, own_tag hrow hu.r6 (by decide) hg, own_tag hrow hu.r7 (by decide) hg, hu.mine, hu.ok⟩, fs ++ [p], by simp [hl], by simpa using hown, fun q hq => ?_⟩
  rcases List.mem_append.1 hq with h | h
  · exact keep q (hfk q h)
  · obtain rfl := List.mem_singleton.1 h
    exact keep _ hp
theorem fets_at {w wr : World} {g : Log} {A13 : Option Addr} {i c13 n5 : Nat} {fs : List (Fet × Value)} (hwf : ∀ x ∈ g.all, x.wf) (hl : fs.length = i) (hi : i ≤ maxLen) (h5 : g.all.length = n5) (hn5 : n5 ≤ 15360) (hrow : wr.ownsRow w.heap.size 52 5 (.slice A13 i c13) i (fs.flatMap fetCells)) (hfk : ∀ p ∈ fs, FOk w wr g p) : FetsAt wr wr.heap.size A13 i (fs.map (·.1)) := by
  refine ⟨by simp [hl], hi, ?_⟩
  rcases hrow.2 with ⟨_, hn⟩ | ⟨g0, cap, cur, he, hb', hgg, hc, rest⟩
  · exact .inl hn
  · simp only [Value.slice.injEq] at he
    obtain ⟨rfl, _, rfl⟩ := he
    refine .inr ⟨_, rfl, (Array.getElem?_eq_some_iff.1 hgg).1, fun j f hj => ?_⟩
    rw [List.getElem?_map] at hj
    obtain ⟨p, hp, rfl⟩ := Option.map_eq_some_iff.1 hj
    obtain ⟨⟨a, b, q1, q2, _, _, q5⟩, h2, A, m, c, h3, h4, h6⟩ := hfk p (List.mem_of_getElem? hp)
    refine ⟨h2, A, m, c, ?_, own_recs h4 ?_ ?_ h6⟩
    · have := at_flatl (k := 5) (f := fetCells) (fun _ => rfl) (World.ownsRow.cells hrow rfl) j p hp
      unfold fetCells at this
      rwa [h3] at this
    · rw [← h4, q5, cut_len q2]; unfold maxLen; omega
    · rw [q5]
      exact fun x hx => hwf x (List.mem_of_mem_take (List.mem_of_mem_drop hx))
theorem sds_at {w wr : World} {g : Log} {ms : List (Sd × Value)} {A5 A6 A7 : Option Addr} {n5 n6 c5 c6 c7 : Nat} (h : U w g ms A5 A6 A7 n5 n6 c5 c6 c7 wr) (hn : n6 ≤ maxLen) (hw : ∀ s ∈ g.mine, s.wf) : SdsAt wr wr.heap.size A7 n6 g.mine := by
  refine ⟨by rw [← h.mine, List.length_map, h.l7], hn, ?_⟩
  rcases h.r7.2 with ⟨_, hn⟩ | ⟨g0, cap, cur, he, hb', hgg, hc, rest⟩
  · exact .inl hn
  · simp only [Value.slice.injEq] at he
    obtain ⟨rfl, _, rfl⟩ := he
    refine .inr ⟨_, rfl, (Array.getElem?_eq_some_iff.1 hgg).1, fun j s hj => ?_⟩
    have hs := hw s (List.mem_of_getElem? hj)
    rw [← h.mine, List.getElem?_map] at hj
    obtain ⟨p, hp, rfl⟩ := Option.map_eq_some_iff.1 hj
    obtain ⟨A, m, c, h3, h4⟩ := h.ok p (List.mem_of_getElem? hp)
    refine ⟨hs, A, m, c, ?_, (h4.later h.below).base h.below.size⟩
    have := at_flatl (k := 3) (f := mineCells) (fun _ => rfl) (World.ownsRow.cells h.r7 rfl) j p hp
    unfold mineCells at this
    rwa [h3] at this
def LR3 (w : World) (n1 : Nat) (g : Log) (ms : List (Sd × Value)) (A5 A6 A7 : Option Addr) (n5 n6 c5 c6 c7 : Nat) (v13 v14 : Value) (wr : World) : Prop := ∃ (i : Nat) (A13 : Option Addr) (c13 : Nat), i ≤ n1 ∧ i ≤ 60 ∧ v13 = .slice A13 i c13 ∧ v14 = .int .i64 (i : Int) ∧
  Hid (U w g ms A5 A6 A7 n5 n6 c5 c6 c7 wr ∧ ∃ fs : List (Fet × Value), fs.length = i ∧ wr.ownsRow w.heap.size 52 5 (.slice A13 i c13) i (fs.flatMap fetCells) ∧ ∀ p ∈ fs, FOk w wr g p)
set_option maxRecDepth 100000 in
set_option maxHeartbeats 12800000 in
theorem AuditLogs_walk (A0 : Option Addr) (n0 cap0 : Nat) (sd : List Sd) (A1 : Option Addr) (n1 cap1 : Nat) (ps : List (Int × Int)) (w : World)
    (hD : SdsAt w w.heap.size A0 n0 sd) (hby : n0 * 40 ≤ 140737488351232) (hP : PairsAt w w.heap.size A1 n1 ps) (hpy : n1 * 16 ≤ 140737488351232) :
    Calls Try.prog 8 #[.slice A0 n0 cap0, .slice A1 n1 cap1] w fun e w' => e = .returned (.bool true) ∧ Below w.heap.size w w' := by
  have hn0 := hD.2.1
  have hn1 := hP.2.1
  unfold maxLen at hn0 hn1
  have HD := Lib.hid hD
  have HP := Lib.hid hP
  clear hD hP
  go_enter Try.func8, Try.ntmps8
  go_wp2_with (fail)
  go_loopw [5, 6, 7, 8] (fun v5 v6 v7 v8 w9 => LR1 w n0 sd v5 v6 v7 v8 w9) (fun _ _ _ v8 _ => n0 - (intOf v8).toNat)
  case atStart => exact ⟨0, 0, 0, 0, 0, 0, none, none, none, by omega, by omega, by omega, by omega, rfl, rfl, rfl, rfl, Lib.hid ⟨[], Below.refl _ _, rfl, rfl, rfl, World.ownsRow_nil _ _ _ _, World.ownsRow_nil _ _ _ _, World.ownsRow_nil _ _ _ _, rfl, fun p hp => by simp at hp⟩⟩
  case round =>
    obtain ⟨i, n5, n6, c5, c6, c7, A5, A6, A7, hi, hi60, hn5, hn6, rfl, rfl, rfl, rfl, Hr⟩ := hrel
    obtain ⟨ms, hu⟩ := Hr.out
    have HU := Lib.hid hu
    clear Hr hu
    by_cases hlt : i < n0 ∧ i < 60
    · obtain ⟨hlt1, hlt2⟩ := hlt
      obtain ⟨a, s, A', m, c, rfl, hx, hwf, hat, hrc⟩ := HD.out.get hlt1
      have HX := Lib.hid hx
      have HRC := Lib.hid hrc
      have hm := hrc.2.1
      unfold maxLen at hm
      have hlenr : Hid (s.recs.length = m) := Lib.hid hrc.1
      obtain ⟨q0, q1, q2⟩ := At.three (hat.later HU.out.below)
      have HLO := Lib.hid (log_ok sd (i + 1))
      have hle := (log_ok sd i).len
      rw [HU.out.l5] at hle
      have HLE := Lib.hid hle
      clear hx hwf hat hrc hle
      by_cases hm0 : m = 0
      · subst hm0
        have HTK : Hid (logTo sd (i + 1) = logTo sd i) := Lib.hid (by rw [logTo_succ HX.out]; unfold logStep takes; rw [hlenr.out]; rfl)
        go_wp2_with (fail)
        refine ⟨⟨i + 1, n5, n6, c5, c6, c7, A5, A6, A7, by omega, by omega, hn5, hn6, rfl, rfl, rfl, by go_num, Lib.hid ⟨ms, by rw [HTK.out]; exact HU.out⟩⟩, by simp [intOf]; omega⟩
      · have hmd : ((m : Int) == 0) = false := beq_eq_false_iff_ne.2 (by omega)
        by_cases hm256 : 256 < m
        · have HTK : Hid (logTo sd (i + 1) = logTo sd i) := Lib.hid (by
            rw [logTo_succ HX.out]; unfold logStep takes; rw [hlenr.out]
            have : decide (m ≤ 256) = false := decide_eq_false (by omega)
            rw [this]; simp)
          go_wp2_with (fail)
          refine ⟨⟨i + 1, n5, n6, c5, c6, c7, A5, A6, A7, by omega, by omega, hn5, hn6, rfl, rfl, rfl, by go_num, Lib.hid ⟨ms, by rw [HTK.out]; exact HU.out⟩⟩, by simp [intOf]; omega⟩
        · have hm256d : decide ((256 : Int) < (m : Int)) = false := decide_eq_false (by omega)
          have HTK : Hid (logTo sd (i + 1) = ⟨(logTo sd i).all ++ renum n5 s.recs, (logTo sd i).acks ++ [⟨(i : Int), ⟨1, (i : Int)⟩, 0, (n5 : Int), (m : Int)⟩], (logTo sd i).mine ++ [⟨⟨1, (i : Int)⟩, s.recs⟩]⟩) := Lib.hid (by
            rw [logTo_succ HX.out]; unfold logStep takes; rw [hlenr.out, HU.out.l5]
            have h1 : decide (m ≤ 256) = true := decide_eq_true (by omega)
            have h2 : decide (m ≠ 0) = true := decide_eq_true hm0
            rw [h1, h2]; rfl)
          generalize hgl : logTo sd i = g at HU HTK
          clear hgl
          have HSI := Lib.hid ((Below.refl wr.heap.size wr).alloc (Nat.le_refl _) (.cells #[.int .i64 1, .int .i64 (i : Int)] 36))
          have HUI := Lib.hid (HU.out.step HSI.out)
          have HIA := Lib.hid (at_alloc wr [.int .i64 1, .int .i64 (i : Int)] 36)
          go_wp2_with (first
            | (at_builtin; refine wpList_row rfl (.tmp 49) (.tmp 57) 22 rfl w.heap.size 38 _ 6 48 infoAck rfl (by decide) Try.underlying22 (.slice A6 n6 c6) n6 (g.acks.flatMap Ack.cells) rfl HUI.out.r6 [.int .i64 (i : Int), .int .i64 1, .int .i64 (i : Int), .int .i64 0, .int .i64 (n5 : Int), .int .i64 (m : Int)] (sl1 wr _) rfl (ack_one ⟨(i : Int), ⟨1, (i : Int)⟩, 0, (n5 : Int), (m : Int)⟩) (by unfold maxLen; omega) (by omega) HUI.out.below.size ?_; intro v3 w3 hown hold hg; obtain ⟨A6', c6', rfl, ha⟩ := HUI.out.acked hown hg HIA.out (by simp) HU.out.r6; have HA := Lib.hid ha; obtain ⟨x0, x1⟩ := At.two0 ha.2.2.2.2; clear hown hold hg ha)
            | (at_builtin; refine wpList_row rfl (.tmp 59) (.tmp 63) 31 rfl w.heap.size 47 _ 3 40 infoSaid rfl (by decide) Try.underlying31 (.slice A7 n6 c7) n6 (ms.flatMap mineCells) rfl HA.out.2.2.2.1 [.int .i64 1, .int .i64 (i : Int), .slice A' m c] rfl rfl (sd_one ⟨1, (i : Int)⟩ A' m c) (by unfold maxLen; omega) (by omega) HA.out.1.size ?_; intro v4 w4 hown hold hg; obtain ⟨A7', c7', rfl, hu4⟩ := U.mined (s := ⟨⟨1, (i : Int)⟩, s.recs⟩) (x := ⟨(i : Int), ⟨1, (i : Int)⟩, 0, (n5 : Int), (m : Int)⟩) (g := g) HUI.out HRC.out HA.out.1 HA.out.2.1 HA.out.2.2.1 HA.out.2.2.2.1 hown hg; have HU4 := Lib.hid hu4; clear hown hold hg hu4))
          clear q0 q1 q2 x0 x1 HA HUI HIA HSI
          go_loopw [5, 11] (fun v5 v11 w9 => LR2 w m ⟨g.all, g.acks ++ [⟨(i : Int), ⟨1, (i : Int)⟩, 0, (n5 : Int), (m : Int)⟩], g.mine ++ [⟨⟨1, (i : Int)⟩, s.recs⟩]⟩ s (ms ++ [(⟨⟨1, (i : Int)⟩, s.recs⟩, .slice A' m c)]) A6' A7' n5 (n6 + 1) c6' c7' v5 v11 w9) (fun _ v11 _ => m - (intOf v11).toNat)
          case atStart => exact ⟨0, c5, A5, by omega, rfl, rfl, Lib.hid (by rw [List.take_zero, List.append_nil]; exact HU4.out)⟩
          case round =>
            clear HU4
            obtain ⟨k, c5', A5', hk, rfl, rfl, Hr2⟩ := hrel
            by_cases hlt3 : k < m
            · obtain ⟨a2, r, rfl, hr, _, hat⟩ := (HRC.out.later Hr2.out.below).get hlt3
              have HRR := Lib.hid hr
              obtain ⟨q0, q1, q2, q3⟩ := At.four hat
              have HUW := Lib.hid (Hr2.out.step ((Below.refl wr.heap.size wr).alloc (Nat.le_refl _) (.cells #[.int .i64 ((n5 : Int) + (k : Int)), .string r.key, .string r.value, .bool r.gone] 49)))
              clear hr hat
              go_wp2_with (at_builtin; refine wpList_row rfl (.tmp 78) (.tmp 80) 44 rfl w.heap.size 49 _ 4 48 infoRec rfl (by decide) Try.underlying44 (.slice A5' (n5 + k) c5') (n5 + k) _ rfl HUW.out.r5 [.int .i64 ((n5 : Int) + (k : Int)), .string r.key, .string r.value, .bool r.gone] (sl1 wr _) rfl (rec_one ⟨(n5 : Int) + (k : Int), r.key, r.value, r.gone⟩) (by unfold maxLen; omega) (by omega) HUW.out.below.size ?_; intro v3 w3 hown hold hg)
              obtain ⟨A5'', c5'', rfl, hu6⟩ := U.alled (r := ⟨(n5 : Int) + (k : Int), r.key, r.value, r.gone⟩) HUW.out hown hg
              have HU6 := Lib.hid hu6
              clear hown hold hg hu6
              refine ⟨⟨k + 1, c5'', A5'', by omega, rfl, by go_num, Lib.hid ?_⟩, by simp [intOf]; omega⟩
              have e : (renum n5 s.recs).take (k + 1) = (renum n5 s.recs).take k ++ [⟨(n5 : Int) + (k : Int), r.key, r.value, r.gone⟩] := by
                rw [List.take_add_one, renum_get, HRR.out]; simp
              rw [e, ← List.append_assoc]
              exact HU6.out
            · obtain rfl : k = m := by omega
              go_wp2_with (fail)
              have hu5 := Hr2.out
              rw [List.take_of_length_le (by rw [renum_len, hlenr.out]; exact Nat.le_refl _)] at hu5
              have hlo := HLO.out
              rw [HTK.out] at hlo
              have h15 := hlo.len
              have h60 := hlo.nums.2
              simp only at h15 h60
              rw [hu5.l5] at h15
              rw [hu5.l6] at h60
              refine ⟨⟨i + 1, n5 + k, n6 + 1, c5', c6', c7', A5', A6', A7', by omega, by omega, by omega, by omega, rfl, rfl, rfl, by go_num, Lib.hid ⟨_, by rw [HTK.out]; exact hu5⟩⟩, by simp [intOf]; omega⟩
    · have hg60 : i ≤ 60 := hi60
      have HLO := Lib.hid (log_ok sd i)
      have HWF : Hid (∀ x ∈ (logTo sd i).all, x.wf) := Lib.hid (log_wf HD.out.strs (log_ok sd i) hi60)
      generalize hgl : logTo sd i = g at HU HLO HWF
      clear hgl
      have HL5 := Lib.hid HU.out.l5
      have hcase : (i < n0 ∧ ¬ i < 60) ∨ ¬ i < n0 := by omega
      have hib2 : ¬ i < n0 ∨ (i < n0 ∧ decide ((i : Int) < 60) = false) := by
        rcases hcase with h | h
        · exact .inr ⟨h.1, decide_eq_false (by omega)⟩
        · exact .inl h
      clear hcase
      rcases hib2 with hia | ⟨hia, hib⟩
      all_goals
        clear hlt
        go_wp2_with (fail)
        obtain ⟨w0, hw0⟩ : ∃ w0, w0 = wr := ⟨_, rfl⟩
        rw [← hw0] at HU ⊢
        clear hw0
        go_loopw [13, 14] (fun v13 v14 w9 => LR3 w n1 g ms A5 A6 A7 n5 n6 c5 c6 c7 v13 v14 w9) (fun _ v14 _ => n1 - (intOf v14).toNat)
        case atStart => exact ⟨0, none, 0, by omega, by omega, rfl, rfl, Lib.hid ⟨HU.out, [], rfl, World.ownsRow_nil _ _ _ _, fun p hp => by simp at hp⟩⟩
        case round =>
          clear HU
          obtain ⟨i2, A13, c13, hi2, hi260, rfl, rfl, Hr⟩ := hrel
          obtain ⟨hu, fs, hfl, hrow, hfk⟩ := Hr.out
          have HU := Lib.hid hu
          have HFL := Lib.hid hfl
          have HRW := Lib.hid hrow
          have HFK := Lib.hid hfk
          clear Hr hu hfl hrow hfk
          by_cases hlt2 : i2 < n1 ∧ i2 < 60
          · obtain ⟨hlt1, hlt2⟩ := hlt2
            obtain ⟨a, x, rfl, hx, hat⟩ := (HP.out.below HU.out.below).get hlt1
            obtain ⟨q0, q1⟩ := At.pair hat
            clear hx hat
            obtain ⟨X, hX, eX⟩ : ∃ n : Nat, n < 256 ∧ bits .and .i64 x.1 255 = (n : Int) := and_pow' x.1 8 (by decide)
            obtain ⟨Y, hY, eY⟩ : ∃ n : Nat, n < 256 ∧ bits .and .i64 x.2 255 = (n : Int) := and_pow' x.2 8 (by decide)
            obtain ⟨fr, hfr⟩ : ∃ k : Nat, k = X % (n5 + 1) := ⟨_, rfl⟩
            have hfr1 : fr ≤ n5 := by have := Nat.mod_lt X (show 0 < n5 + 1 by omega); omega
            have e1 : (X : Int) % ((n5 : Int) + 1) = (fr : Int) := by rw [hfr, show ((n5 : Int) + 1) = ((n5 + 1 : Nat) : Int) by omega]; simp
            obtain ⟨t, ht⟩ : ∃ k : Nat, k = Y % (n5 - fr + 1) := ⟨_, rfl⟩
            have ht1 : t ≤ n5 - fr := by have := Nat.mod_lt Y (show 0 < n5 - fr + 1 by omega); omega
            have e2 : (Y : Int) % ((n5 : Int) - (fr : Int) + 1) = (t : Int) := by rw [ht, show ((n5 : Int) - (fr : Int) + 1) = ((n5 - fr + 1 : Nat) : Int) by omega]; simp
            obtain ⟨tu, hto⟩ : ∃ k : Nat, k = fr + t := ⟨_, rfl⟩
            have e3 : (fr : Int) + (t : Int) = (tu : Int) := by omega
            have hto1 : tu ≤ n5 := by omega
            have hto2 : fr ≤ tu := by omega
            clear hfr ht hto
            by_cases hft : fr = tu
            · subst hft
              have hsub : (A5 = none ∧ n5 = 0 ∧ c5 = 0) ∨ (∃ g5, A5 = some ⟨g5, 0, none⟩ ∧ n5 ≤ c5 ∧ c5 = fr) ∨ (∃ g5, A5 = some ⟨g5, 0, none⟩ ∧ n5 ≤ c5 ∧ ¬ c5 = fr) := by
                rcases HU.out.r5.2 with ⟨e, h0⟩ | ⟨g5, cap, cur, e, _, _, h1, _⟩
                · cases e; exact .inl ⟨rfl, rfl, rfl⟩
                · cases e
                  by_cases h : c5 = fr
                  · exact .inr (.inl ⟨g5, rfl, h1, h⟩)
                  · exact .inr (.inr ⟨g5, rfl, h1, h⟩)
              rcases hsub with ⟨rfl, rfl, rfl⟩ | ⟨g5, rfl, hc5, hcf⟩ | ⟨g5, rfl, hc5, hcf⟩
              · obtain rfl : fr = 0 := by omega
                go_wp2_with (first
                  | (at_builtin; refine wpList_nothing rfl (.tmp 116) (.tmp 120) 44 rfl 49 infoRec Try.underlying44 _ _ rfl rfl ?_)
                  | (at_builtin; refine wpList_row rfl (.tmp 122) (.tmp 128) 28 rfl w.heap.size 52 _ 5 56 infoFet rfl (by decide) Try.underlying28 (.slice A13 i2 c13) i2 (fs.flatMap fetCells) rfl HRW.out [.int .i64 (1000 + (i2 : Int)), .int .i64 0, .int .i64 0, .int .i64 0, .slice none 0 0] rfl rfl (fet_one ⟨1000 + (i2 : Int), 0, 0, 0, []⟩ _ _ _) (by unfold maxLen; omega) (by omega) HU.out.below.size ?_; intro v4 w4 hown4 hold4 hg4))
                obtain ⟨A', c', rfl, hfin⟩ := fet_add HU.out HRW.out HFL.out HFK.out (⟨1000 + (i2 : Int), 0, 0, 0, []⟩, .slice none 0 0)
                  ⟨⟨0, 0, Nat.le_refl _, Nat.zero_le _, rfl, rfl, (cut_none _ _).symm⟩, ⟨WalkArith.wf_i64 ⟨by simp only; omega, by simp only; omega⟩, z64, z64, z64⟩, none, 0, 0, rfl, rfl, World.ownsRow_nil _ _ _ _⟩ hown4 hg4
                exact ⟨⟨i2 + 1, A', c', by omega, by omega, rfl, by go_num, Lib.hid hfin⟩, by simp [intOf]; omega⟩
              · obtain rfl : fr = c5 := hcf.symm
                go_wp2_with (first
                  | (at_builtin; refine wpList_nothing rfl (.tmp 116) (.tmp 120) 44 rfl 49 infoRec Try.underlying44 _ _ rfl rfl ?_)
                  | (at_builtin; refine wpList_row rfl (.tmp 122) (.tmp 128) 28 rfl w.heap.size 52 _ 5 56 infoFet rfl (by decide) Try.underlying28 (.slice A13 i2 c13) i2 (fs.flatMap fetCells) rfl HRW.out [.int .i64 (1000 + (i2 : Int)), .int .i64 0, .int .i64 (fr : Int), .int .i64 0, .slice none 0 0] rfl rfl (fet_one ⟨1000 + (i2 : Int), 0, (fr : Int), 0, []⟩ _ _ _) (by unfold maxLen; omega) (by omega) HU.out.below.size ?_; intro v4 w4 hown4 hold4 hg4))
                obtain ⟨A', c', rfl, hfin⟩ := fet_add HU.out HRW.out HFL.out HFK.out (⟨1000 + (i2 : Int), 0, (fr : Int), 0, []⟩, .slice none 0 0)
                  ⟨⟨fr, fr, Nat.le_refl _, by rw [HL5.out]; exact hfr1, rfl, rfl, (cut_none _ _).symm⟩, ⟨WalkArith.wf_i64 ⟨by simp only; omega, by simp only; omega⟩, z64, WalkArith.wf_i64 ⟨by simp only; omega, by simp only; omega⟩, z64⟩, none, 0, 0, rfl, rfl, World.ownsRow_nil _ _ _ _⟩ hown4 hg4
                exact ⟨⟨i2 + 1, A', c', by omega, by omega, rfl, by go_num, Lib.hid hfin⟩, by simp [intOf]; omega⟩
              · skip
                go_wp2_with (first
                  | (at_builtin; refine wpList_nothing rfl (.tmp 116) (.tmp 120) 44 rfl 49 infoRec Try.underlying44 _ _ rfl rfl ?_)
                  | (at_builtin; refine wpList_row rfl (.tmp 122) (.tmp 128) 28 rfl w.heap.size 52 _ 5 56 infoFet rfl (by decide) Try.underlying28 (.slice A13 i2 c13) i2 (fs.flatMap fetCells) rfl HRW.out [.int .i64 (1000 + (i2 : Int)), .int .i64 0, .int .i64 (fr : Int), .int .i64 0, .slice none 0 0] rfl rfl (fet_one ⟨1000 + (i2 : Int), 0, (fr : Int), 0, []⟩ _ _ _) (by unfold maxLen; omega) (by omega) HU.out.below.size ?_; intro v4 w4 hown4 hold4 hg4))
                obtain ⟨A', c', rfl, hfin⟩ := fet_add HU.out HRW.out HFL.out HFK.out (⟨1000 + (i2 : Int), 0, (fr : Int), 0, []⟩, .slice none 0 0)
                  ⟨⟨fr, fr, Nat.le_refl _, by rw [HL5.out]; exact hfr1, rfl, rfl, (cut_none _ _).symm⟩, ⟨WalkArith.wf_i64 ⟨by simp only; omega, by simp only; omega⟩, z64, WalkArith.wf_i64 ⟨by simp only; omega, by simp only; omega⟩, z64⟩, none, 0, 0, rfl, rfl, World.ownsRow_nil _ _ _ _⟩ hown4 hg4
                exact ⟨⟨i2 + 1, A', c', by omega, by omega, rfl, by go_num, Lib.hid hfin⟩, by simp [intOf]; omega⟩
            · obtain ⟨g5, hg5⟩ : ∃ g5, A5 = some ⟨g5, 0, none⟩ := by
                obtain ⟨_, _, e, _, h0 | ⟨g, h1, _⟩⟩ := own_slice HU.out.r5
                · omega
                · cases e; exact ⟨g, h1⟩
              subst hg5
              have hc5 : n5 ≤ c5 := by
                obtain ⟨_, _, e, h, _⟩ := own_slice HU.out.r5
                cases e; exact h
              have hcf : ¬ c5 = fr := by omega
              have hcell : ∀ j u, ((cutLog g.all fr tu).flatMap Rec.cells)[j]? = some u → wr.cell? ((⟨g5, fr * 4, none⟩ : Addr).add j) = some u := cut_cells HU.out.l5 HU.out.r5 hto1
              have HCE := Lib.hid hcell
              have HCL : Hid (((cutLog g.all fr tu).flatMap Rec.cells).length = (tu - fr) * 4) := Lib.hid (by rw [flatl_len Rec.cells_len, cut_len (by rw [HU.out.l5]; exact hto1)])
              clear hcell
              go_wp2_with (first
                | (at_builtin; refine wpList_rows rfl (.tmp 116) (.tmp 120) 44 rfl w.heap.size 49 _ 4 48 infoRec rfl (by decide) Try.underlying44 (.slice none 0 0) 0 [] rfl (World.ownsRow_nil _ _ _ _) ⟨g5, fr * 4, none⟩ (tu - fr) _ ((cutLog g.all fr tu).flatMap Rec.cells) rfl HCL.out HCE.out (flat_one _) (by unfold maxLen; omega) (by omega) HU.out.below.size ?_; intro v3 w3 hown hold hg; have hb3 := below_grown (n := wr.heap.size) hg (fun j hj => nomatch hj) (Nat.le_refl _); rw [Nat.zero_add, List.nil_append] at hown; obtain ⟨A3, c3, rfl, _, _⟩ := own_slice hown; have HO3 := Lib.hid hown; have HB3 := Lib.hid hb3; have HU3 := Lib.hid (HU.out.step hb3); have HR3 := Lib.hid (own_below HRW.out hb3); clear hown hold hg hb3)
                | (at_builtin; refine wpList_row rfl (.tmp 122) (.tmp 128) 28 rfl w.heap.size 52 _ 5 56 infoFet rfl (by decide) Try.underlying28 (.slice A13 i2 c13) i2 (fs.flatMap fetCells) rfl HR3.out [.int .i64 (1000 + (i2 : Int)), .int .i64 0, .int .i64 (fr : Int), .int .i64 0, .slice A3 (tu - fr) c3] rfl rfl (fet_one ⟨1000 + (i2 : Int), 0, (fr : Int), 0, []⟩ _ _ _) (by unfold maxLen; omega) (by omega) HU3.out.below.size ?_; intro v4 w4 hown4 hold4 hg4))
              obtain ⟨A', c', rfl, hfin⟩ := fet_add HU3.out HR3.out HFL.out (fun p hp => (HFK.out p hp).step HB3.out) (⟨1000 + (i2 : Int), 0, (fr : Int), 0, cutLog g.all fr tu⟩, .slice A3 (tu - fr) c3)
                ⟨⟨fr, tu, hto2, by rw [HL5.out]; exact hto1, rfl, rfl, rfl⟩, ⟨WalkArith.wf_i64 ⟨by simp only; omega, by simp only; omega⟩, z64, WalkArith.wf_i64 ⟨by simp only; omega, by simp only; omega⟩, z64⟩, A3, tu - fr, c3, rfl, cut_len (by rw [HL5.out]; exact hto1), HO3.out⟩ hown4 hg4
              exact ⟨⟨i2 + 1, A', c', by omega, by omega, rfl, by go_num, Lib.hid hfin⟩, by simp [intOf]; omega⟩
          · have hcase2 : ¬ i2 < n1 ∨ (i2 < n1 ∧ decide ((i2 : Int) < 60) = false) := by
              by_cases h : i2 < n1
              · exact .inr ⟨h, decide_eq_false (by omega)⟩
              · exact .inl h
            clear hlt2
            have HK1 := Lib.hid (own_acks HU.out.l6 (acks_wf HLO.out hg60) HU.out.r6)
            have HF1 := Lib.hid (fets_at HWF.out HFL.out (by unfold maxLen; omega) HL5.out hn5 HRW.out HFK.out)
            have HS1 := Lib.hid (sds_at HU.out (by unfold maxLen; omega) (mines_wf HLO.out hg60))
            have HCUT : Hid (∀ (j : Nat) (f : Fet), (fs.map (·.1))[j]? = some f → IsCut g.all f) := Lib.hid (fun j f hj => by
              rw [List.getElem?_map] at hj
              obtain ⟨p, hp, rfl⟩ := Option.map_eq_some_iff.1 hj
              exact (HFK.out p (List.mem_of_getElem? hp)).1)
            have C1 : Hid (Calls Try.prog 10 #[.slice A6 n6 c6] wr fun e w' => e = .returned (.tuple #[.int .i64 0, .int .i64 0]) ∧ Below wr.heap.size wr w') := Lib.hid (by
              have := Acks_any A6 n6 c6 wr.heap.size g.acks wr HK1.out (Nat.le_refl _) (by unfold maxLen; omega)
              rwa [log_acks HLO.out hg60] at this)
            have C2 : Hid (∀ V, Below wr.heap.size wr V → Calls Try.prog 13 #[.slice A13 i2 c13, .slice A7 n6 c7] V fun e w' => e = .returned (.tuple #[.int .i64 0, .int .i64 0]) ∧ Below V.heap.size V w') := Lib.hid (fun V hV => by
              have := Fetches_any A13 A7 i2 c13 n6 c7 wr.heap.size (fs.map (·.1)) g.mine V (HF1.out.later hV) (HS1.out.later hV)
              rwa [log_fets HLO.out HCUT.out] at this)
            have C3 : Hid (∀ V, Below wr.heap.size wr V → Calls Try.prog 16 #[.slice A6 n6 c6, .slice A13 i2 c13, .slice A7 n6 c7] V fun e w' => e = .returned (.tuple #[.int .i64 0, .int .i64 0]) ∧ Below V.heap.size V w') := Lib.hid (fun V hV => by
              have := Keeps_any A6 A13 A7 n6 c6 i2 c13 n6 c7 wr.heap.size g.acks (fs.map (·.1)) g.mine V (HK1.out.later hV) (by omega) (HF1.out.later hV) (HS1.out.later hV)
              rwa [log_keeps HLO.out HCUT.out] at this)
            rcases hcase2 with hib2 | ⟨hib2, hib3⟩
            all_goals
              go_wp2_with (first
                | (go_at_call 10; with_reducible refine (C1.out).mono ?_; rintro e W1 ⟨rfl, hW1⟩; have HW1 := Lib.hid hW1; clear hW1)
                | (go_at_call 13; with_reducible refine (C2.out _ HW1.out).mono ?_; rintro e W2 ⟨rfl, hW2⟩; have HW2 := Lib.hid (bstep HW1.out hW2); clear hW2)
                | (go_at_call 16; with_reducible refine (C3.out _ HW2.out).mono ?_; rintro e W3 ⟨rfl, hW3⟩; have HW3 := Lib.hid (bstep HW2.out hW3); clear hW3)
                | (go_at_call 12; refine (awake18 _).mono ?_; rintro e W4 ⟨rfl, hW4⟩; have HW4 := Lib.hid hW4; clear hW4))
              go_ret
              exact ⟨rfl, bstep (bstep HU.out.below HW3.out) HW4.out⟩
end Go.Proofs.Ytkgidfehndkhmaa
