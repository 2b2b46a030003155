/- Several slices of bytes that the call makes side by side. Over any program. -/
import Derived.Test.YtaepfppdhcgegaaRows4
namespace Go.PostMem
open Go.RowKit
theorem byteCells_one (l : List UInt8) : ∀ u ∈ byteCells l, u.oneCell' = true := fun u hu => by
  obtain ⟨x, _, rfl⟩ := List.mem_map.1 hu
  rfl
/-- append(v, x) of one byte, laid in a block of its own just ahead -/
theorem wpList_byte4 {P : Program} {W : World} {ops : Array Oper} {rest : List Oper} {o : Oper} {a : Act} {Q : Exit → Act → World → Prop} (hgd : o.guard = none) (sl x : Operand) (t : TypeId)
    (ho : o.op = .call { callee := .builtin .append, args := #[sl, x], argTypes := #[t, t] })
    (base T : Nat) (hinfo : (P.info? T).map (fun i => (i.zero, i.size, i.bytes)) = some (some (.int .u8 0), 1, 1)) (ht : P.underlying t = some (.slice T))
    (v : Value) (n : Nat) (l : List UInt8) (hs : a.eval sl = v) (hown : W.ownsRow base T 1 v n (byteCells l)) (hx : a.eval x = .slice (some ⟨W.heap.size, 0, none⟩) 1 1) (y : Int) (b : UInt8) (hy : y = (b.toNat : Int))
    (hbytes : n + 1 ≤ 140737488355328) (hbase : base ≤ W.heap.size)
    (h : ∀ v' w', w'.ownsRow base T 1 v' (n + 1) (byteCells (l ++ [b])) → W.grownBy w' v.ownBlock → Moved W v v' → wpList P ops Q rest (a.put o.dst v') w') : wpList P ops Q (o :: rest) a (W.alloc (.cells #[.int .u8 y] T)) := by
  subst hy
  refine wpList_row4 hgd sl x t ho base T (.int .u8 0) 1 1 hinfo rfl (by decide) ht v n (byteCells l) hs hown [.int .u8 (b.toNat : Int)] hx rfl (byteCells_one [b]) (by unfold maxLen; omega) (by omega) hbase fun v' w' h1 h2 h3 => h v' w' ?_ h2 h3
  rw [byteCells_append]; exact h1
/-- the same of two -/
theorem wpList_two4 {P : Program} {W : World} {ops : Array Oper} {rest : List Oper} {o : Oper} {a : Act} {Q : Exit → Act → World → Prop} (hgd : o.guard = none) (sl x : Operand) (t : TypeId)
    (ho : o.op = .call { callee := .builtin .append, args := #[sl, x], argTypes := #[t, t] })
    (base T : Nat) (hinfo : (P.info? T).map (fun i => (i.zero, i.size, i.bytes)) = some (some (.int .u8 0), 1, 1)) (ht : P.underlying t = some (.slice T))
    (v : Value) (n : Nat) (l : List UInt8) (hs : a.eval sl = v) (hown : W.ownsRow base T 1 v n (byteCells l)) (hx : a.eval x = .slice (some ⟨W.heap.size, 0, none⟩) 2 2) (y z : Int) (b c : UInt8) (hy : y = (b.toNat : Int)) (hz : z = (c.toNat : Int))
    (hbytes : n + 2 ≤ 140737488355328) (hbase : base ≤ W.heap.size)
    (h : ∀ v' w', w'.ownsRow base T 1 v' (n + 2) (byteCells (l ++ [b, c])) → W.grownBy w' v.ownBlock → Moved W v v' → wpList P ops Q rest (a.put o.dst v') w') : wpList P ops Q (o :: rest) a (W.alloc (.cells #[.int .u8 y, .int .u8 z] T)) := by
  subst hy
  subst hz
  have hg1 := World.grownBy_alloc W (.cells #[.int .u8 (b.toNat : Int), .int .u8 (c.toNat : Int)] T) none
  refine wpList_rows4 hgd sl x t ho base T (.int .u8 0) 1 1 hinfo rfl (by decide) ht v n (byteCells l) hs (hown.alloc _) ⟨W.heap.size, 0, none⟩ 2 2 [.int .u8 (b.toNat : Int), .int .u8 (c.toNat : Int)] hx rfl (cells_new W _ T) (byteCells_one [b, c]) (by unfold maxLen; omega) (by omega) (Nat.le_trans hbase hg1.size)
    fun v' w' h1 h2 h3 => h v' w' (by rw [byteCells_append]; exact h1) (grown_trans (grown_none hg1 _) h2) ?_
  rcases h3 with h3 | h3
  · exact .inl h3
  · exact .inr fun b hb => Nat.le_trans hg1.size (h3 b hb)
/-- two slices of bytes of the call's own -/
structure Two (w : World) (T : Nat) (z y : List UInt8) (A B : Option Addr) (n m c d : Nat) (wr : World) : Prop where
  below : Below w.heap.size w wr
  ln : z.length = n
  lm : y.length = m
  rz : wr.ownsRow w.heap.size T 1 (.slice A n c) n (byteCells z)
  ry : wr.ownsRow w.heap.size T 1 (.slice B m d) m (byteCells y)
  ap : Apart (.slice A n c) (.slice B m d)
theorem Two.step {w : World} {T : Nat} {z y : List UInt8} {A B : Option Addr} {n m c d : Nat} {wr wx : World} (h : Two w T z y A B n m c d wr) (hb : Below wr.heap.size wr wx) : Two w T z y A B n m c d wx :=
  ⟨h.below.trans (hb.mono h.below.size), h.ln, h.lm, own_below h.rz hb, own_below h.ry hb, h.ap⟩
theorem Two.zadd {w : World} {T : Nat} {z y x : List UInt8} {A B : Option Addr} {n m c d : Nat} {wr wx : World} {v : Value} (h : Two w T z y A B n m c d wr) (ho : wx.ownsRow w.heap.size T 1 v (n + x.length) (byteCells (z ++ x))) (hg : wr.grownBy wx (Value.slice A n c).ownBlock) (hm : Moved wr (.slice A n c) v) :
    ∃ A' c', v = .slice A' (n + x.length) c' ∧ Two w T (z ++ x) y A' B (n + x.length) m c' d wx := by
  obtain ⟨A', c', rfl, _, _⟩ := own_slice ho
  exact ⟨A', c', rfl, h.below.trans (below_grown hg (fun j hj => own_ge h.rz j hj) h.below.size), by simp [h.ln], h.lm, ho, h.ap.kept h.ry hg, h.ap.moved hm h.ry⟩
theorem Two.yadd {w : World} {T : Nat} {z y x : List UInt8} {A B : Option Addr} {n m c d : Nat} {wr wx : World} {v : Value} (h : Two w T z y A B n m c d wr) (ho : wx.ownsRow w.heap.size T 1 v (m + x.length) (byteCells (y ++ x))) (hg : wr.grownBy wx (Value.slice B m d).ownBlock) (hm : Moved wr (.slice B m d) v) :
    ∃ B' d', v = .slice B' (m + x.length) d' ∧ Two w T z (y ++ x) A B' n (m + x.length) c d' wx := by
  obtain ⟨B', d', rfl, _, _⟩ := own_slice ho
  exact ⟨B', d', rfl, h.below.trans (below_grown hg (fun j hj => own_ge h.ry j hj) h.below.size), h.ln, by simp [h.lm], h.ap.symm.kept h.rz hg, ho, (h.ap.symm.moved hm h.rz).symm⟩
/-- a byte of the second -/
theorem Two.yat {w : World} {T : Nat} {z y : List UInt8} {A B : Option Addr} {n m c d : Nat} {wr : World} (h : Two w T z y A B n m c d wr) {i : Nat} (hi : i < m) : ∃ g, B = some ⟨g, 0, none⟩ ∧ wr.cell? ⟨g, i, none⟩ = some (.int .u8 ((y.getD i 0).toNat : Int)) := by
  rcases h.ry.2 with ⟨e, h0⟩ | ⟨g, cap, cur, e, _⟩
  · omega
  · cases e
    refine ⟨g, rfl, ?_⟩
    have hx : (byteCells y)[i]? = some (.int .u8 ((y.getD i 0).toNat : Int)) := by
      unfold byteCells
      have hl : i < y.length := by rw [h.lm]; exact hi
      rw [List.getElem?_map, List.getElem?_eq_getElem hl, List.getD_eq_getElem?_getD, List.getElem?_eq_getElem hl]
      rfl
    have := World.ownsRow.cells h.ry rfl i _ hx
    rwa [Addr.add_lit, Nat.zero_add] at this
end Go.PostMem
