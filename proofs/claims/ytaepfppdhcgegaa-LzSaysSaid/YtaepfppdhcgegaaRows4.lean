/- Several slices of structs that the call makes side by side. Over any program. -/
import Derived.Test.YtaepfppdhcgegaaRows3
namespace Go.PostMem
open Go.RowKit
/-- the new slice lies where the old one lay, or in a new block -/
def Moved (w : World) (v v' : Value) : Prop := v'.ownBlock = v.ownBlock ∨ ∀ b, v'.ownBlock = some b → w.heap.size ≤ b
theorem run_rows4 {P : Program} (w : World) (ty t : TypeId) (base T : Nat) (z : Value) (sz by' : Nat) (hinfo : (P.info? T).map (fun i => (i.zero, i.size, i.bytes)) = some (some z, sz, by')) (hzs : z.cells.size = sz) (hsz : 0 < sz) (ht : P.underlying t = some (.slice T))
    (v : Value) (n : Nat) (xs : List Value) (hown : w.ownsRow base T sz v n xs) (a : Addr) (m c : Nat) (news : List Value) (hl : news.length = m * sz) (hcells : ∀ j u, news[j]? = some u → w.cell? (a.add j) = some u) (hone : ∀ u ∈ news, u.oneCell' = true)
    (h63 : n + m ≤ maxLen) (hbytes : (n + m) * by' ≤ 140737488355328) (hbase : base ≤ w.heap.size) :
    ∃ v' w', (Builtin.append_ #[t, t] ty #[v, .slice (some a) m c]).run P w = .ok v' w' ∧ w'.ownsRow base T sz v' (n + m) (xs ++ news) ∧ w.grownBy w' v.ownBlock ∧ Moved w v v' := by
  obtain ⟨i0, hi, hz0, hz1, hz2⟩ := info_parts hinfo
  have h63' : n + m ≤ 2 ^ 63 - 1 := h63
  rcases hown.2 with ⟨rfl, rfl⟩ | ⟨g, cap, cur, rfl, hb', hgg, hc, hcm, hs, htk⟩
  · obtain ⟨v', w', hr, h2, h3, _⟩ := run_append_own (P := P) w w.heap.size t ty T i0 z sz by' ht hi hz0 hz1 hz2 hzs hsz (.slice none 0 0) 0 [] (World.ownsRow_nil w _ T sz) a m c news hl hcells hone h63 hbytes (Nat.le_refl _)
    have hx : xs = [] := List.eq_nil_of_length_eq_zero (by simpa using hown.1)
    subst hx
    refine ⟨v', w', hr, ?_, h3, .inr fun b hb => own_ge h2 b hb⟩
    refine ⟨h2.1, ?_⟩
    rcases h2.2 with hn | ⟨g, cap, cur, rfl, hb', rest⟩
    · exact .inl hn
    · exact .inr ⟨g, cap, cur, rfl, Nat.le_trans hbase hb', rest⟩
  · obtain ⟨v', w', hr, h2, h3, _⟩ := run_append_own (P := P) w base t ty T i0 z sz by' ht hi hz0 hz1 hz2 hzs hsz _ n xs hown a m c news hl hcells hone h63 hbytes hbase
    refine ⟨v', w', hr, h2, h3, ?_⟩
    by_cases hroom : n + m ≤ cap
    · have hfit : n * sz + news.length ≤ cap * sz := by rw [hl, ← Nat.add_mul]; exact Nat.mul_le_mul_right _ hroom
      have hr2 := run_append_room (P := P) w t ty T i0 ht hi g n cap cur hgg a m c news (by rw [hz1]; exact hl) hcells hone hroom (by rw [hz1, hs]; exact hfit)
      rw [hr] at hr2
      injection hr2 with e _
      rw [e]
      exact .inl rfl
    · have hr2 := run_append_grow (P := P) w t ty T i0 z ht hi hz0 ⟨g, 0, none⟩ n cap xs (by rw [hz1]; exact hown.1) (World.ownsRow.cells hown (g := g) rfl) a m c news (by rw [hz1]; exact hl) hcells (by omega) (by omega) (by rw [hz2]; exact growslice_fits (by omega) hbytes)
      rw [hr] at hr2
      injection hr2 with e _
      rw [e]
      refine .inr fun b hb => ?_
      obtain rfl := Option.some.inj hb
      exact Nat.le_refl _
/-- append(v, ys...) at the operation, ys at ad. -/
theorem wpList_rows4 {P : Program} {w : World} {ops : Array Oper} {rest : List Oper} {o : Oper} {a : Act} {Q : Exit → Act → World → Prop} (hgd : o.guard = none) (sl x : Operand) (t : TypeId)
    (ho : o.op = .call { callee := .builtin .append, args := #[sl, x], argTypes := #[t, t] })
    (base T : Nat) (z : Value) (sz by' : Nat) (hinfo : (P.info? T).map (fun i => (i.zero, i.size, i.bytes)) = some (some z, sz, by')) (hzs : z.cells.size = sz) (hsz : 0 < sz) (ht : P.underlying t = some (.slice T))
    (v : Value) (n : Nat) (xs : List Value) (hs : a.eval sl = v) (hown : w.ownsRow base T sz v n xs) (ad : Addr) (m c : Nat) (news : List Value) (hx : a.eval x = .slice (some ad) m c) (hl : news.length = m * sz)
    (hcells : ∀ j u, news[j]? = some u → w.cell? (ad.add j) = some u) (hone : ∀ u ∈ news, u.oneCell' = true)
    (h63 : n + m ≤ maxLen) (hbytes : (n + m) * by' ≤ 140737488355328) (hbase : base ≤ w.heap.size)
    (h : ∀ v' w', w'.ownsRow base T sz v' (n + m) (xs ++ news) → w.grownBy w' v.ownBlock → Moved w v v' → wpList P ops Q rest (a.put o.dst v') w') : wpList P ops Q (o :: rest) a w := by
  refine wpList_plain hgd fun K hK => ?_
  obtain ⟨v', w', hr, h2, h3, h4⟩ := run_rows4 (P := P) w o.type t base T z sz by' hinfo hzs hsz ht v n xs hown ad m c news hl hcells hone h63 hbytes hbase
  unfold Oper.wp execOp
  simp only [ho, resolve, invoke, builtin, Sem.run_bind, Sem.run_pure, Result.andThen_ok, List.map_toArray, List.map_cons, List.map_nil, hs, hx, hr]
  exact hK _ _ (h v' w' h2 h3 h4)
/-- the same of one element, laid in a block of its own just ahead. -/
theorem wpList_row4 {P : Program} {W : World} {ops : Array Oper} {rest : List Oper} {o : Oper} {a : Act} {Q : Exit → Act → World → Prop} (hgd : o.guard = none) (sl x : Operand) (t : TypeId)
    (ho : o.op = .call { callee := .builtin .append, args := #[sl, x], argTypes := #[t, t] })
    (base T : Nat) (z : Value) (sz by' : Nat) (hinfo : (P.info? T).map (fun i => (i.zero, i.size, i.bytes)) = some (some z, sz, by')) (hzs : z.cells.size = sz) (hsz : 0 < sz) (ht : P.underlying t = some (.slice T))
    (v : Value) (n : Nat) (xs : List Value) (hs : a.eval sl = v) (hown : W.ownsRow base T sz v n xs) (news : List Value) (hx : a.eval x = .slice (some ⟨W.heap.size, 0, none⟩) 1 1) (hl : news.length = sz)
    (hone : ∀ u ∈ news, u.oneCell' = true)
    (h63 : n + 1 ≤ maxLen) (hbytes : (n + 1) * by' ≤ 140737488355328) (hbase : base ≤ W.heap.size)
    (h : ∀ v' w', w'.ownsRow base T sz v' (n + 1) (xs ++ news) → W.grownBy w' v.ownBlock → Moved W v v' → wpList P ops Q rest (a.put o.dst v') w') : wpList P ops Q (o :: rest) a (W.alloc (.cells news.toArray T)) := by
  have hg1 := World.grownBy_alloc W (.cells news.toArray T) none
  refine wpList_rows4 hgd sl x t ho base T z sz by' hinfo hzs hsz ht v n xs hs (hown.alloc _) ⟨W.heap.size, 0, none⟩ 1 1 news hx (by omega) (cells_new W news T) hone h63 hbytes (Nat.le_trans hbase hg1.size)
    fun v' w' h1 h2 h3 => h v' w' h1 (grown_trans (grown_none hg1 _) h2) ?_
  rcases h3 with h3 | h3
  · exact .inl h3
  · exact .inr fun b hb => Nat.le_trans hg1.size (h3 b hb)
/-- two slices lie in blocks of their own -/
def Apart (v u : Value) : Prop := ∀ b, v.ownBlock = some b → u.ownBlock ≠ some b
theorem Apart.symm {v u : Value} (h : Apart v u) : Apart u v := fun b hb hv => h b hv hb
theorem apart_nil (v : Value) : Apart (.slice none 0 0) v := fun _ h => nomatch h
theorem Apart.moved {w : World} {v v' u : Value} {base T sz k : Nat} {xs : List Value} (h : Apart v u) (hm : Moved w v v') (hu : w.ownsRow base T sz u k xs) : Apart v' u := fun b hb hub => by
  rcases hm with hm | hm
  · rw [hm] at hb; exact h b hb hub
  · have h1 := hm b hb
    have h2 := (World.ownsRow.lt hu b hub).2
    omega
theorem Apart.kept {w w' : World} {v u : Value} {base T sz k : Nat} {xs : List Value} (h : Apart v u) (hu : w.ownsRow base T sz u k xs) (hg : w.grownBy w' v.ownBlock) : w'.ownsRow base T sz u k xs := by
  refine hu.kept hg ?_
  cases hv : v.ownBlock with
  | none =>
    cases hub : u.ownBlock with
    | none => exact .inl rfl
    | some b => exact .inr (by simp)
  | some b => exact .inr (fun e => h b hv e)
end Go.PostMem
