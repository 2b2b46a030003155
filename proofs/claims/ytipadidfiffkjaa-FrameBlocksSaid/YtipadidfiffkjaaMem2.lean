/- Words on memory: a slice of bytes that is made whole, and written. Over any program. -/
import Derived.Test.YtipadidfiffkjaaMem
namespace Go.PostMem
open Go.PostSums Go.RowKit
theorem made_zeros (n : Nat) : (madeCells (Value.int .u8 0).cells (n * 1)).toList = byteCells (List.replicate n 0) := by
  have e : ∀ j, (Value.int .u8 0).cells[j % (Value.int .u8 0).cells.size]! = Value.int .u8 0 := fun j => by
    show (#[Value.int .u8 0] : Array Value)[j % 1]! = _
    rw [Nat.mod_one]; rfl
  unfold madeCells byteCells
  simp only [e, Nat.mul_one]
  apply List.ext_getElem?
  intro i
  by_cases h : i < n
  · simp [h]
  · simp [h]
/-- make([]byte, n) at the operation. -/
theorem wpList_zeros {P : Program} {w : World} {ops : Array Oper} {rest : List Oper} {o : Oper} {a : Act} {Q : Exit → Act → World → Prop} (hgd : o.guard = none) (x y : Operand) (t : TypeId) (ho : o.op = Op.makeSlice t x y)
    (base T : Nat) (hinfo : (P.info? T).map (fun i => (i.zero, i.size, i.bytes)) = some (some (.int .u8 0), 1, 1)) (ht : P.underlying t = some (.slice T)) (k1 k2 : IntKind) (X Y : Int) (n : Nat) (hx : a.eval x = .int k1 X) (hy : a.eval y = .int k2 Y) (hX : X = (n : Int)) (hY : Y = (n : Int))
    (hn : n ≤ 140737488355328) (hbase : base ≤ w.heap.size)
    (h : ∀ w', Buf w' base T (.slice (some ⟨w.heap.size, 0, none⟩) n n) (List.replicate n 0) → w.grownBy w' none → wpList P ops Q rest (a.put o.dst (.slice (some ⟨w.heap.size, 0, none⟩) n n)) w') : wpList P ops Q (o :: rest) a w := by
  obtain ⟨i0, hi, hz0, hz1, hz2⟩ := info_parts hinfo
  refine wpList_make_full w hgd x y t ho base T i0 (.int .u8 0) 1 ht hi hz0 hz1 k1 k2 X Y n hx hy hX hY (by rw [hz2]; omega) (by unfold maxLen; omega) hbase fun w' h1 h2 => h w' ?_ h2
  rw [made_zeros] at h1
  unfold Buf
  rw [List.length_replicate]; exact h1
theorem Buf.set {w : World} {base T g n c : Nat} {l : List UInt8} (h : Buf w base T (.slice (some ⟨g, 0, none⟩) n c) l) (k : Nat) (x : UInt8) (y : Int) (hy : y = (x.toNat : Int)) :
    Buf (w.setCell ⟨g, k, none⟩ (.int .u8 y)) base T (.slice (some ⟨g, 0, none⟩) n c) (l.set k x) := by
  subst hy
  rcases h.2 with ⟨hv, _⟩ | ⟨g', cap, cur, hv, hb', hgg, hc, hm, hs, ht⟩
  · cases hv
  · cases hv
    refine ⟨by simp [byteCells], .inr ⟨g, c, cur.setIfInBounds k (.int .u8 (x.toNat : Int)), by rw [List.length_set], hb', heap_setCell_same w g k cur T _ hgg, by rw [List.length_set]; exact hc, hm, by simpa using hs, ?_⟩⟩
    rw [List.length_set, Array.toList_setIfInBounds, List.take_set, ht]
    unfold byteCells
    rw [List.map_set]
theorem Buf.free {w : World} {base T g n c : Nat} {l : List UInt8} (h : Buf w base T (.slice (some ⟨g, 0, none⟩) n c) l) (k : Nat) : w.frozen? ⟨g, k, none⟩ = false := by
  rcases h.2 with ⟨hv, _⟩ | ⟨g', cap, cur, hv, hb', hgg, _⟩
  · cases hv
  · cases hv
    exact frozen_of_row w g k _ _ hgg
end Go.PostMem
