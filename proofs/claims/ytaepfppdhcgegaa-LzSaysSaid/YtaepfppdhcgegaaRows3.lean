/- Slices of structs that the call makes by append, one element at a time. Over any program. -/
import Derived.Test.YtaepfppdhcgegaaMem
namespace Go.PostMem
open Go.RowKit
theorem own_heap {w w' : World} {base T sz : Nat} {v : Value} {k : Nat} {xs : List Value} (h : w.ownsRow base T sz v k xs) (hh : w'.heap = w.heap) : w'.ownsRow base T sz v k xs := by
  unfold World.ownsRow at *; rw [hh]; exact h
theorem own_below {w w' : World} {base T sz : Nat} {v : Value} {k : Nat} {xs : List Value} (h : w.ownsRow base T sz v k xs) (hb : Below w.heap.size w w') : w'.ownsRow base T sz v k xs := by
  refine ⟨h.1, ?_⟩
  rcases h.2 with hn | ⟨g, cap, cur, rfl, hb', hgg, rest⟩
  · exact .inl hn
  · exact .inr ⟨g, cap, cur, rfl, hb', (hb.block g (Array.getElem?_eq_some_iff.1 hgg).1).trans hgg, rest⟩
theorem own_ge {w : World} {base T sz : Nat} {v : Value} {k : Nat} {xs : List Value} (h : w.ownsRow base T sz v k xs) : ∀ j, v.ownBlock = some j → base ≤ j := fun j hj => (World.ownsRow.lt h j hj).1
theorem own_slice {w : World} {base T sz : Nat} {v : Value} {k : Nat} {xs : List Value} (h : w.ownsRow base T sz v k xs) : ∃ a c, v = .slice a k c ∧ k ≤ c ∧ (k = 0 ∨ ∃ g, a = some ⟨g, 0, none⟩ ∧ g < w.heap.size ∧ base ≤ g) := by
  rcases h.2 with ⟨rfl, hn⟩ | ⟨g, cap, cur, rfl, hb', hgg, hc, rest⟩
  · exact ⟨none, 0, by rw [hn], by omega, .inl hn⟩
  · exact ⟨_, cap, rfl, hc, .inr ⟨g, rfl, (Array.getElem?_eq_some_iff.1 hgg).1, hb'⟩⟩
theorem own_cells {w : World} {base T sz : Nat} {g k c : Nat} {xs : List Value} (h : w.ownsRow base T sz (.slice (some ⟨g, 0, none⟩) k c) k xs) : ∀ j u, xs[j]? = some u → w.cell? ((⟨g, 0, none⟩ : Addr).add j) = some u := World.ownsRow.cells h rfl
theorem own_old {w : World} {base T sz g n cap : Nat} {cur : Array Value} {xs : List Value} (hb : base ≤ g) (hg : w.heap[g]? = some (.cells cur T (0, 0))) (hn : n ≤ cap) (hcm : cap ≤ maxLen) (hcs : cur.size = cap * sz) (hl : xs.length = n * sz) (ht : cur.toList.take (n * sz) = xs)
    (news : List Value) (m : Nat) (hm : n * sz + news.length = m) (hmc : m ≤ cap * sz) : (w.setRow g (cur.toList.take (n * sz) ++ news ++ cur.toList.drop m).toArray).ownsRow base T sz (.slice (some ⟨g, 0, none⟩) n cap) n xs := by
  have hle : n * sz ≤ cap * sz := Nat.mul_le_mul_right sz hn
  refine ⟨hl, .inr ⟨g, cap, _, rfl, hb, setRow_heap w g cur _ T _ hg, hn, hcm, ?_, ?_⟩⟩
  · simp only [List.size_toArray, List.length_append, List.length_take, List.length_drop, Array.length_toList]; omega
  · rw [take_head cur _ news (by omega), ht]
theorem run_rows {P : Program} (w : World) (ty t : TypeId) (base T : Nat) (z : Value) (sz by' : Nat) (hinfo : (P.info? T).map (fun i => (i.zero, i.size, i.bytes)) = some (some z, sz, by')) (hzs : z.cells.size = sz) (hsz : 0 < sz) (ht : P.underlying t = some (.slice T))
    (v : Value) (n : Nat) (xs : List Value) (hown : w.ownsRow base T sz v n xs) (a : Addr) (m c : Nat) (news : List Value) (hl : news.length = m * sz) (hcells : ∀ j u, news[j]? = some u → w.cell? (a.add j) = some u) (hone : ∀ u ∈ news, u.oneCell' = true)
    (h63 : n + m ≤ maxLen) (hbytes : (n + m) * by' ≤ 140737488355328) (hbase : base ≤ w.heap.size) :
    ∃ v' w', (Builtin.append_ #[t, t] ty #[v, .slice (some a) m c]).run P w = .ok v' w' ∧ w'.ownsRow base T sz v' (n + m) (xs ++ news) ∧ w'.ownsRow base T sz v n xs ∧ w.grownBy w' v.ownBlock := by
  obtain ⟨i0, hi, hz0, hz1, hz2⟩ := info_parts hinfo
  obtain ⟨v', w', hr, h2, h3, _⟩ := run_append_own (P := P) w base t ty T i0 z sz by' ht hi hz0 hz1 hz2 hzs hsz v n xs hown a m c news hl hcells hone h63 hbytes hbase
  refine ⟨v', w', hr, h2, ?_, h3⟩
  have h63' : n + m ≤ 2 ^ 63 - 1 := h63
  rcases hown.2 with ⟨rfl, rfl⟩ | ⟨g, cap, cur, rfl, hb', hgg, hc, hcm, hs, htk⟩
  · rw [List.eq_nil_of_length_eq_zero (show xs.length = 0 by simpa using hown.1)]; exact World.ownsRow_nil w' base T sz
  · by_cases hroom : n + m ≤ cap
    · have hfit : n * sz + news.length ≤ cap * sz := by rw [hl, ← Nat.add_mul]; exact Nat.mul_le_mul_right _ hroom
      have hr2 := run_append_room (P := P) w t ty T i0 ht hi g n cap cur hgg a m c news (by rw [hz1]; exact hl) hcells hone hroom (by rw [hz1, hs]; exact hfit)
      rw [hr, hz1] at hr2
      injection hr2 with _ e
      rw [e]
      exact own_old hb' hgg hc hcm hs hown.1 htk _ _ rfl hfit
    · have hr2 := run_append_grow (P := P) w t ty T i0 z ht hi hz0 ⟨g, 0, none⟩ n cap xs (by rw [hz1]; exact hown.1) (World.ownsRow.cells hown (g := g) rfl) a m c news (by rw [hz1]; exact hl) hcells (by omega) (by omega) (by rw [hz2]; exact growslice_fits (by omega) hbytes)
      rw [hr] at hr2
      injection hr2 with _ e
      rw [e]
      exact hown.kept (grown_new w _) (.inr (by simp [Value.ownBlock]))
/-- append(v, x) of one element (or of several that lie at a) at the operation. -/
theorem wpList_rows {P : Program} {w : World} {ops : Array Oper} {rest : List Oper} {o : Oper} {a : Act} {Q : Exit → Act → World → Prop} (hgd : o.guard = none) (sl x : Operand) (t : TypeId)
    (ho : o.op = .call { callee := .builtin .append, args := #[sl, x], argTypes := #[t, t] })
    (base T : Nat) (z : Value) (sz by' : Nat) (hinfo : (P.info? T).map (fun i => (i.zero, i.size, i.bytes)) = some (some z, sz, by')) (hzs : z.cells.size = sz) (hsz : 0 < sz) (ht : P.underlying t = some (.slice T))
    (v : Value) (n : Nat) (xs : List Value) (hs : a.eval sl = v) (hown : w.ownsRow base T sz v n xs) (ad : Addr) (m c : Nat) (news : List Value) (hx : a.eval x = .slice (some ad) m c) (hl : news.length = m * sz)
    (hcells : ∀ j u, news[j]? = some u → w.cell? (ad.add j) = some u) (hone : ∀ u ∈ news, u.oneCell' = true)
    (h63 : n + m ≤ maxLen) (hbytes : (n + m) * by' ≤ 140737488355328) (hbase : base ≤ w.heap.size)
    (h : ∀ v' w', w'.ownsRow base T sz v' (n + m) (xs ++ news) → w'.ownsRow base T sz v n xs → w.grownBy w' v.ownBlock → wpList P ops Q rest (a.put o.dst v') w') : wpList P ops Q (o :: rest) a w := by
  refine wpList_plain hgd fun K hK => ?_
  obtain ⟨v', w', hr, h2, h3, h4⟩ := run_rows (P := P) w o.type t base T z sz by' hinfo hzs hsz ht v n xs hown ad m c news hl hcells hone h63 hbytes hbase
  unfold Oper.wp execOp
  simp only [ho, resolve, invoke, builtin, Sem.run_bind, Sem.run_pure, Result.andThen_ok, List.map_toArray, List.map_cons, List.map_nil, hs, hx, hr]
  exact hK _ _ (h v' w' h2 h3 h4)
theorem cells_new (W : World) (l : List Value) (T : TypeId) : ∀ j u, l[j]? = some u → (W.alloc (.cells l.toArray T)).cell? ((⟨W.heap.size, 0, none⟩ : Addr).add j) = some u := fun j u hj => by
  have hadd : (⟨W.heap.size, 0, none⟩ : Addr).add j = ⟨W.heap.size, j, none⟩ := by unfold Addr.add; split <;> simp_all
  rw [hadd, cell_of_row _ _ j _ _ _ (heap_alloc_new W _)]
  simpa using hj
/-- the same of one element, laid in a block of its own just ahead. -/
theorem wpList_row {P : Program} {W : World} {ops : Array Oper} {rest : List Oper} {o : Oper} {a : Act} {Q : Exit → Act → World → Prop} (hgd : o.guard = none) (sl x : Operand) (t : TypeId)
    (ho : o.op = .call { callee := .builtin .append, args := #[sl, x], argTypes := #[t, t] })
    (base T : Nat) (z : Value) (sz by' : Nat) (hinfo : (P.info? T).map (fun i => (i.zero, i.size, i.bytes)) = some (some z, sz, by')) (hzs : z.cells.size = sz) (hsz : 0 < sz) (ht : P.underlying t = some (.slice T))
    (v : Value) (n : Nat) (xs : List Value) (hs : a.eval sl = v) (hown : W.ownsRow base T sz v n xs) (news : List Value) (hx : a.eval x = .slice (some ⟨W.heap.size, 0, none⟩) 1 1) (hl : news.length = sz)
    (hone : ∀ u ∈ news, u.oneCell' = true)
    (h63 : n + 1 ≤ maxLen) (hbytes : (n + 1) * by' ≤ 140737488355328) (hbase : base ≤ W.heap.size)
    (h : ∀ v' w', w'.ownsRow base T sz v' (n + 1) (xs ++ news) → w'.ownsRow base T sz v n xs → W.grownBy w' v.ownBlock → wpList P ops Q rest (a.put o.dst v') w') : wpList P ops Q (o :: rest) a (W.alloc (.cells news.toArray T)) := by
  have hg1 := World.grownBy_alloc W (.cells news.toArray T) none
  exact wpList_rows hgd sl x t ho base T z sz by' hinfo hzs hsz ht v n xs hs (hown.alloc _) ⟨W.heap.size, 0, none⟩ 1 1 news hx (by omega) (cells_new W news T) hone h63 hbytes (Nat.le_trans hbase hg1.size)
    fun v' w' h1 h2 h3 => h v' w' h1 h2 (grown_trans (grown_none hg1 _) h3)
theorem bl_drew (w : World) (B : Nat) : Below B w w.drew := ⟨rfl, rfl, rfl, Nat.le_refl _, fun _ _ => rfl⟩
/-- below block n nothing has turned, and v owns its row as it did -/
def Keeps (n T sz : Nat) (v : Value) (k : Nat) (xs : List Value) (u w : World) : Prop := Below n u w ∧ (u.ownsRow n T sz v k xs → w.ownsRow n T sz v k xs)
theorem Keeps.refl {n T sz : Nat} {v : Value} {k : Nat} {xs : List Value} (a : World) : Keeps n T sz v k xs a a := ⟨Below.refl _ _, id⟩
theorem Keeps.trans {n T sz : Nat} {v : Value} {k : Nat} {xs : List Value} (a b c : World) (h : Keeps n T sz v k xs a b) (h2 : Keeps n T sz v k xs b c) : Keeps n T sz v k xs a c := ⟨h.1.trans h2.1, fun x => h2.2 (h.2 x)⟩
theorem Keeps.drewN {n T sz : Nat} {v : Value} {k : Nat} {xs : List Value} (w : World) (m : Nat) : Keeps n T sz v k xs w (w.drewN m) := ⟨⟨rfl, rfl, rfl, Nat.le_refl _, fun _ _ => rfl⟩, id⟩
end Go.PostMem
