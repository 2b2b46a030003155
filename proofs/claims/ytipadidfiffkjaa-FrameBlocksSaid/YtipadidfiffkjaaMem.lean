/- Words on memory: what a step leaves alone; a slice of bytes of the call's own; a text made of it. Over any program. -/
import Derived.Test.YtipadidfiffkjaaXxhPlain
import Derived.WalkKit
import Derived.OwnWalk
import Derived.Laws.Rows
import Derived.Laws.BytesArg
import Derived.Lib.AppendStr
import Derived.Lib.ConvBytes
import Derived.Below
import Derived.Lib.Hide
import Derived.Deep.QuietTactic
import Derived.BigQuiet
namespace Go.PostMem
open Go.PostSums Go.RowKit
theorem ret_intN {k : IntKind} {a b : Int} (h : a = b) : Ending.returned (.int k a) = .returned (.int k b) := by rw [h]
theorem grown_refl (w : World) (row : Option Nat) : w.grownBy w row := ⟨rfl, rfl, rfl, Nat.le_refl _, fun _ _ _ => rfl⟩
theorem grown_trans {a b c : World} {row : Option Nat} (h : a.grownBy b row) (k : b.grownBy c row) : a.grownBy c row :=
  ⟨k.os.trans h.os, k.tape.trans h.tape, k.output.trans h.output, Nat.le_trans h.size k.size, fun i hi hn => (k.block i (Nat.lt_of_lt_of_le hi h.size) hn).trans (h.block i hi hn)⟩
theorem grown_drewN (w : World) (m : Nat) (row : Option Nat) : w.grownBy (w.drewN m) row := ⟨rfl, rfl, rfl, Nat.le_refl _, fun _ _ _ => rfl⟩
theorem grown_set (w : World) (b j : Nat) (x : Value) : w.grownBy (w.setCell ⟨b, j, none⟩ x) (some b) :=
  ⟨rfl, rfl, rfl, by simp, fun i _ hn => heap_setCell_other w _ i x (by simpa using hn)⟩
theorem grown_setN (w : World) (m b j : Nat) (x : Value) : w.grownBy ((w.drewN m).setCell ⟨b, j, none⟩ x) (some b) := grown_trans (grown_drewN w m _) (grown_set _ b j x)
theorem grown_none {w w' : World} (h : w.grownBy w' none) (row : Option Nat) : w.grownBy w' row := ⟨h.os, h.tape, h.output, h.size, fun i hi _ => h.block i hi (by simp)⟩
theorem bstep {w a b : World} (h : Below w.heap.size w a) (k : Below a.heap.size a b) : Below w.heap.size w b := h.trans (k.mono h.size)
theorem bl_drewN (w : World) (m : Nat) (B : Nat) : Below B w (w.drewN m) := ⟨rfl, rfl, rfl, Nat.le_refl _, fun _ _ => rfl⟩
theorem drewN_two (w : World) (a b : Nat) : ∃ m, ((w.drewN a).drewN b).drew = w.drewN m := ⟨a + b + 1, by simp [World.drewN, World.drew]; omega⟩
theorem drewN_one (w : World) (a : Nat) : ∃ m, (w.drewN a).drew = w.drewN m := ⟨a + 1, by simp [World.drewN, World.drew]; omega⟩
theorem drewN_none (w : World) : ∃ m, w.drew = w.drewN m := ⟨1, rfl⟩
/-- what stands above block n has turned alone -/
theorem below_grown {w w' : World} {row : Option Nat} {n : Nat} (h : w.grownBy w' row) (hr : ∀ k, row = some k → n ≤ k) (hn : n ≤ w.heap.size) : Below n w w' :=
  ⟨h.os, h.tape, h.output, h.size, fun k hk => h.block k (by omega) (fun e => by have := hr k e.symm; omega)⟩
def strOf (l : List UInt8) : ByteArray := ⟨l.toArray⟩
theorem strOf_list (l : List UInt8) : (strOf l).data.toList = l := by simp [strOf]
theorem strOf_size (l : List UInt8) : (strOf l).size = l.length := by simp [strOf, ByteArray.size]
theorem strOf_self (s : ByteArray) : strOf s.data.toList = s := by cases s; simp [strOf]
theorem strOf_inj {l m : List UInt8} (h : strOf l = strOf m) : l = m := by rw [← strOf_list l, h, strOf_list]
def byteCells (l : List UInt8) : List Value := l.map fun x => Value.int .u8 (x.toNat : Int)
theorem byteCells_len (l : List UInt8) : (byteCells l).length = l.length := by simp [byteCells]
theorem byteCells_append (l m : List UInt8) : byteCells (l ++ m) = byteCells l ++ byteCells m := by simp [byteCells]
theorem strCells_eq (s : ByteArray) : Lib.strCells s = byteCells s.data.toList := rfl
theorem byteCells_get (l : List UInt8) (i : Nat) (h : i < l.length) : (byteCells l)[i]? = some (.int .u8 (at8 l i : Nat)) := by
  unfold byteCells at8
  rw [List.getElem?_map, List.getElem?_eq_getElem h, List.getD_eq_getElem?_getD, List.getElem?_eq_getElem h]
  rfl
/-- the slice v of elements of type T owns these bytes, in a block from base on -/
def Buf (w : World) (base T : Nat) (v : Value) (l : List UInt8) : Prop := w.ownsRow base T 1 v l.length (byteCells l)
theorem Buf.nil (w : World) (base T : Nat) : Buf w base T (.slice none 0 0) [] := World.ownsRow_nil w base T 1
theorem Buf.kept {w w' : World} {base T : Nat} {v : Value} {l : List UInt8} {row : Option Nat} (h : Buf w base T v l) (hg : w.grownBy w' row) (hne : ∀ k, row = some k → k < base) : Buf w' base T v l := by
  refine World.ownsRow.kept h hg ?_
  cases hv : v.ownBlock with
  | none => exact .inl rfl
  | some k =>
    refine .inr fun e => ?_
    have := (World.ownsRow.lt h k hv).1
    have := hne k e.symm
    omega
theorem Buf.heap {w w' : World} {base T : Nat} {v : Value} {l : List UInt8} (h : Buf w base T v l) (hh : w'.heap = w.heap) : Buf w' base T v l := by
  unfold Buf World.ownsRow at *; rw [hh]; exact h
theorem Buf.below {w w' : World} {base T : Nat} {v : Value} {l : List UInt8} (h : Buf w base T v l) (hb : Below w.heap.size w w') : Buf w' base T v l := by
  refine ⟨h.1, ?_⟩
  rcases h.2 with hn | ⟨g, cap, cur, rfl, hb', hgg, rest⟩
  · exact .inl hn
  · exact .inr ⟨g, cap, cur, rfl, hb', (hb.block g (Array.getElem?_eq_some_iff.1 hgg).1).trans hgg, rest⟩
theorem Buf.len {w : World} {base T : Nat} {v : Value} {l : List UInt8} (h : Buf w base T v l) : ∃ a c, v = .slice a l.length c ∧ l.length ≤ c ∧ (a = none → l = []) := by
  rcases h.2 with ⟨rfl, hn⟩ | ⟨g, cap, cur, rfl, hb', hgg, hc, rest⟩
  · exact ⟨none, 0, by rw [hn], by omega, fun _ => List.eq_nil_of_length_eq_zero hn⟩
  · exact ⟨_, cap, rfl, hc, fun h => nomatch h⟩
theorem Buf.cell {w : World} {base T : Nat} {a : Option Addr} {n c : Nat} {l : List UInt8} (h : Buf w base T (.slice a n c) l) : ∃ g, (l ≠ [] → a = some ⟨g, 0, none⟩) ∧ ∀ i, i < l.length → w.cell? ⟨g, i, none⟩ = some (.int .u8 (at8 l i : Nat)) := by
  rcases h.2 with ⟨hv, hn⟩ | ⟨g, cap, cur, hv, hb', hgg, hc, hm, hs, ht⟩
  · exact ⟨0, fun h => (h (List.eq_nil_of_length_eq_zero hn)).elim, fun i hi => by omega⟩
  · refine ⟨g, fun _ => by simp only [Value.slice.injEq] at hv; exact hv.1, fun i hi => ?_⟩
    rw [cell_of_row w g i cur T (0, 0) hgg, ← byteCells_get l i hi, ← ht, List.getElem?_take, if_pos (by omega)]
    simp
theorem Buf.cellAt {w : World} {base T g n c : Nat} {l : List UInt8} (h : Buf w base T (.slice (some ⟨g, 0, none⟩) n c) l) (i : Nat) (hi : i < l.length) : w.cell? ⟨g, i, none⟩ = some (.int .u8 (at8 l i : Nat)) := by
  obtain ⟨g', h1, h2⟩ := h.cell
  have := h1 (by intro e; rw [e] at hi; simp at hi)
  simp only [Option.some.injEq, Addr.mk.injEq, and_true] at this
  rw [this]; exact h2 i hi
theorem Buf.addr {w : World} {base T : Nat} {a : Option Addr} {n c : Nat} {l : List UInt8} (h : Buf w base T (.slice a n c) l) (hl : 0 < l.length) : ∃ g, a = some ⟨g, 0, none⟩ := by
  obtain ⟨g, h1, _⟩ := h.cell
  exact ⟨g, h1 (by intro e; rw [e] at hl; simp at hl)⟩
theorem strOfNums_bytes (l : List UInt8) : strOfNums (l.map fun b => (b.toNat : Int)) = strOf l := by
  have hd := strOfNums_data (l.map fun b => (b.toNat : Int))
  rw [List.map_map] at hd
  have e : (l.map ((fun n : Int => UInt8.ofNat n.toNat) ∘ fun b : UInt8 => (b.toNat : Int))) = l := by
    conv => rhs; rw [← List.map_id l]
    apply List.map_congr_left
    intro x _
    simp
  rw [e] at hd
  rw [← strOf_self (strOfNums _), hd]
theorem run_back {P : Program} {w : World} {TS T S : TypeId} (hTS : P.underlying TS = some (.slice T)) (hT : P.underlying T = some (.int .u8)) (hS : P.underlying S = some .string)
    (B o n c : Nat) (l : List UInt8) (h : ∀ i, i < l.length → w.cell? ⟨B, o + i, none⟩ = some (.int .u8 (at8 l i : Nat))) (hn : l.length = n) :
    (convert TS S (.slice (some ⟨B, o, none⟩) n c)).run P w = .ok (.string (strOf l)) w := by
  have hr := run_convert_bytes_arg (P := P) w TS T hTS hT B o n c (l.map fun b => (b.toNat : Int)) (by rw [List.length_map]; exact hn)
    (fun i hi => by
      rw [h i (by omega)]
      have : (l.map fun b => (b.toNat : Int)).getD i 0 = ((at8 l i : Nat) : Int) := by
        unfold at8
        rw [List.getD_eq_getElem?_getD, List.getD_eq_getElem?_getD, List.getElem?_map, List.getElem?_eq_getElem (show i < l.length by omega)]
        rfl
      rw [this]) S hS
  rw [hr, strOfNums_bytes]
theorem run_back_nil {P : Program} {w : World} {TS T S : TypeId} (hTS : P.underlying TS = some (.slice T)) (hT : P.underlying T = some (.int .u8)) (hS : P.underlying S = some .string) :
    (convert TS S (.slice none 0 0)).run P w = .ok (.string (strOf [])) w := by
  simp [convert, run_underlying hTS, run_underlying hT, run_underlying hS, Sem.run_bind, strOf, Conv.bytesToString, loadCells, Result.andThen]
  rfl
theorem Buf.back {P : Program} {w : World} {base T : Nat} {v : Value} {l : List UInt8} (h : Buf w base T v l) {TS S : TypeId} (hTS : P.underlying TS = some (.slice T)) (hT : P.underlying T = some (.int .u8)) (hS : P.underlying S = some .string) :
    (convert TS S v).run P w = .ok (.string (strOf l)) w := by
  rcases h.2 with ⟨rfl, hn⟩ | ⟨g, cap, cur, rfl, hb', hgg, hc, hm, hs, ht⟩
  · rw [List.eq_nil_of_length_eq_zero hn]; exact run_back_nil hTS hT hS
  · refine run_back hTS hT hS g 0 _ cap l (fun i hi => ?_) rfl
    rw [Nat.zero_add, cell_of_row w g i cur T (0, 0) hgg, ← byteCells_get l i hi, ← ht, List.getElem?_take, if_pos (by omega)]
    simp
/-- A conversion, at the operation. -/
theorem wpList_conv {P : Program} {w : World} {ops : Array Oper} {rest : List Oper} {o : Oper} {a : Act} {Q : Exit → Act → World → Prop} (hgd : o.guard = none) (src dst : TypeId) (x : Operand) (ho : o.op = .convert src dst x)
    (v v' : Value) (w' : World) (hx : a.eval x = v) (hr : (convert src dst v).run P w = .ok v' w') (h : wpList P ops Q rest (a.put o.dst v') w') : wpList P ops Q (o :: rest) a w := by
  refine wpList_plain hgd fun K hK => ?_
  unfold Oper.wp execOp
  simp only [ho, Sem.run_bind, Sem.run_pure, Result.andThen_ok, hx, hr]
  exact hK _ _ h
theorem Buf.kept_none {w w' : World} {base T : Nat} {v : Value} {l : List UInt8} (h : Buf w base T v l) (hg : w.grownBy w' none) : Buf w' base T v l := h.kept hg (fun _ hk => nomatch hk)
theorem grown_new (w : World) (o : Obj) : w.grownBy (w.drew.alloc o) none := ⟨rfl, rfl, rfl, by simp, fun k hk _ => Below.heap_alloc w.drew o k hk⟩
/-- the head of a row that is written behind its first n cells -/
theorem take_head (cur : Array Value) (n : Nat) (news : List Value) (hn : n ≤ cur.size) (m : Nat) : ((cur.toList.take n ++ news ++ cur.toList.drop m).toArray).toList.take n = cur.toList.take n := by
  rw [List.append_assoc, List.toList_toArray, List.take_append_of_le_length (by simp; omega), List.take_take, Nat.min_self]
theorem Buf.old_room {w : World} {base T g n cap : Nat} {cur : Array Value} {l : List UInt8} (hb : base ≤ g) (hg : w.heap[g]? = some (.cells cur T (0, 0))) (hn : n ≤ cap) (hcm : cap ≤ maxLen) (hcs : cur.size = cap * 1) (hl : l.length = n) (ht : cur.toList.take (n * 1) = byteCells l)
    (news : List Value) (m : Nat) (hm : n + news.length = m) (hmc : m ≤ cap) : Buf (w.setRow g (cur.toList.take n ++ news ++ cur.toList.drop m).toArray) base T (.slice (some ⟨g, 0, none⟩) n cap) l := by
  subst hl
  refine ⟨by simp [byteCells], .inr ⟨g, cap, _, rfl, hb, setRow_heap w g cur _ T _ hg, hn, hcm, ?_, ?_⟩⟩
  · simp only [List.size_toArray, List.length_append, List.length_take, List.length_drop, Array.length_toList]; omega
  · rw [Nat.mul_one] at ht ⊢
    rw [take_head cur _ news (by omega), ht]
theorem run_text {P : Program} (w : World) (ty t u : TypeId) (base T : Nat) (hinfo : (P.info? T).map (fun i => (i.zero, i.size, i.bytes)) = some (some (.int .u8 0), 1, 1)) (ht : P.underlying t = some (.slice T)) (hu : P.underlying u = some .string)
    (v : Value) (l : List UInt8) (hown : Buf w base T v l) (s : ByteArray) (hbytes : l.length + s.size ≤ 140737488355328) (hbase : base ≤ w.heap.size) :
    ∃ v' w', (Builtin.append_ #[t, u] ty #[v, .string s]).run P w = .ok v' w' ∧ Buf w' base T v' (l ++ s.data.toList) ∧ Buf w' base T v l ∧ w.grownBy w' v.ownBlock := by
  obtain ⟨i0, hi, hz0, hz1, hz2⟩ := info_parts hinfo
  obtain ⟨v', w', hr, h2, h3, _⟩ := Lib.run_append_own_string (P := P) w base t u ty T i0 ht hu hi hz0 hz1 hz2 v l.length (byteCells l) hown s (by unfold maxLen; omega) hbytes hbase
  refine ⟨v', w', hr, ?_, ?_, h3⟩
  · unfold Buf
    rw [byteCells_append, ← strCells_eq, List.length_append, show s.data.toList.length = s.size from by simp]
    exact h2
  · rcases hown.2 with ⟨rfl, hn⟩ | ⟨g, cap, cur, rfl, hb', hgg, hc, hm, hs, htk⟩
    · rw [List.eq_nil_of_length_eq_zero hn]; exact Buf.nil w' base T
    · by_cases hroom : l.length + s.size ≤ cap
      · have hr2 := Lib.run_append_room_string (P := P) w t u ty T i0 ht hu hi hz1 g l.length cap cur hgg s hroom (by omega)
        rw [hr] at hr2
        injection hr2 with _ e
        rw [e]
        exact Buf.old_room hb' hgg hc hm hs rfl htk _ _ (by rw [Lib.strCells_length]) hroom
      · have hr2 := Lib.run_append_grow_string (P := P) w t u ty T i0 (.int .u8 0) ht hu hi hz0 ⟨g, 0, none⟩ l.length cap (byteCells l) (by rw [hz1]; simp [byteCells]) (World.ownsRow.cells hown (g := g) rfl) s (by omega) (by omega) (by rw [hz2]; exact growslice_fits (by omega) (by omega))
        rw [hr] at hr2
        injection hr2 with _ e
        rw [e]
        exact hown.kept_none (grown_new w _)
theorem run_bytes {P : Program} (w : World) (ty t : TypeId) (base T : Nat) (hinfo : (P.info? T).map (fun i => (i.zero, i.size, i.bytes)) = some (some (.int .u8 0), 1, 1)) (ht : P.underlying t = some (.slice T))
    (v : Value) (l : List UInt8) (hown : Buf w base T v l) (B m c : Nat) (m2 : List UInt8) (hm : m2.length = m) (hcells : ∀ j u, (byteCells m2)[j]? = some u → w.cell? ⟨B, j, none⟩ = some u)
    (hbytes : l.length + m ≤ 140737488355328) (hbase : base ≤ w.heap.size) :
    ∃ v' w', (Builtin.append_ #[t, t] ty #[v, .slice (some ⟨B, 0, none⟩) m c]).run P w = .ok v' w' ∧ Buf w' base T v' (l ++ m2) ∧ Buf w' base T v l ∧ w.grownBy w' v.ownBlock := by
  obtain ⟨i0, hi, hz0, hz1, hz2⟩ := info_parts hinfo
  have hcells' : ∀ j u, (byteCells m2)[j]? = some u → w.cell? ((⟨B, 0, none⟩ : Addr).add j) = some u := fun j u hj => by
    have hadd : (⟨B, 0, none⟩ : Addr).add j = ⟨B, j, none⟩ := by unfold Addr.add; split <;> simp_all
    rw [hadd]; exact hcells j u hj
  have hone : ∀ u ∈ byteCells m2, u.oneCell' = true := fun u hu => by
    obtain ⟨x, _, rfl⟩ := List.mem_map.1 hu
    rfl
  obtain ⟨v', w', hr, h2, h3, _⟩ := run_append_own (P := P) w base t ty T i0 (.int .u8 0) 1 1 ht hi hz0 hz1 hz2 rfl (by decide) v l.length (byteCells l) hown ⟨B, 0, none⟩ m c (byteCells m2) (by rw [byteCells_len, hm, Nat.mul_one]) hcells' hone
    (by unfold maxLen; omega) (by omega) hbase
  refine ⟨v', w', hr, ?_, ?_, h3⟩
  · unfold Buf
    rw [byteCells_append, List.length_append, hm]
    exact h2
  · rcases hown.2 with ⟨rfl, hn⟩ | ⟨g, cap, cur, rfl, hb', hgg, hc, hcm, hs, htk⟩
    · rw [List.eq_nil_of_length_eq_zero hn]; exact Buf.nil w' base T
    · by_cases hroom : l.length + m ≤ cap
      · have hr2 := run_append_room (P := P) w t ty T i0 ht hi g l.length cap cur hgg ⟨B, 0, none⟩ m c (byteCells m2) (by rw [hz1, byteCells_len, hm, Nat.mul_one]) hcells' hone hroom (by rw [hz1, byteCells_len, hm]; omega)
        rw [hr, hz1, Nat.mul_one] at hr2
        injection hr2 with _ e
        rw [e]
        exact Buf.old_room hb' hgg hc hcm hs rfl htk _ _ rfl (by rw [byteCells_len, hm]; exact hroom)
      · have hr2 := run_append_grow (P := P) w t ty T i0 (.int .u8 0) ht hi hz0 ⟨g, 0, none⟩ l.length cap (byteCells l) (by rw [hz1]; simp [byteCells]) (World.ownsRow.cells hown (g := g) rfl) ⟨B, 0, none⟩ m c (byteCells m2) (by rw [hz1, byteCells_len, hm, Nat.mul_one]) hcells' (by omega) (by omega) (by rw [hz2]; exact growslice_fits (by omega) (by omega))
        rw [hr] at hr2
        injection hr2 with _ e
        rw [e]
        exact hown.kept_none (grown_new w _)
/-- append(v, s...) at the operation. -/
theorem wpList_text {P : Program} {w : World} {ops : Array Oper} {rest : List Oper} {o : Oper} {a : Act} {Q : Exit → Act → World → Prop} (hgd : o.guard = none) (sl x : Operand) (t u : TypeId)
    (ho : o.op = .call { callee := .builtin .append, args := #[sl, x], argTypes := #[t, u] })
    (base T : Nat) (hinfo : (P.info? T).map (fun i => (i.zero, i.size, i.bytes)) = some (some (.int .u8 0), 1, 1)) (ht : P.underlying t = some (.slice T)) (hu : P.underlying u = some .string)
    (v : Value) (l : List UInt8) (hs : a.eval sl = v) (hown : Buf w base T v l) (s : ByteArray) (hx : a.eval x = .string s)
    (hbytes : l.length + s.size ≤ 140737488355328) (hbase : base ≤ w.heap.size)
    (h : ∀ v' w', Buf w' base T v' (l ++ s.data.toList) → Buf w' base T v l → w.grownBy w' v.ownBlock → wpList P ops Q rest (a.put o.dst v') w') : wpList P ops Q (o :: rest) a w := by
  refine wpList_plain hgd fun K hK => ?_
  obtain ⟨v', w', hr, h2, h3, h4⟩ := run_text (P := P) w o.type t u base T hinfo ht hu v l hown s hbytes hbase
  unfold Oper.wp execOp
  simp only [ho, resolve, invoke, builtin, Sem.run_bind, Sem.run_pure, Result.andThen_ok, List.map_toArray, List.map_cons, List.map_nil, hs, hx, hr]
  exact hK _ _ (h v' w' h2 h3 h4)
/-- append(v, l2...) at the operation: bytes that lie somewhere. -/
theorem wpList_bytes {P : Program} {w : World} {ops : Array Oper} {rest : List Oper} {o : Oper} {a : Act} {Q : Exit → Act → World → Prop} (hgd : o.guard = none) (sl x : Operand) (t : TypeId)
    (ho : o.op = .call { callee := .builtin .append, args := #[sl, x], argTypes := #[t, t] })
    (base T : Nat) (hinfo : (P.info? T).map (fun i => (i.zero, i.size, i.bytes)) = some (some (.int .u8 0), 1, 1)) (ht : P.underlying t = some (.slice T))
    (v : Value) (l : List UInt8) (hs : a.eval sl = v) (hown : Buf w base T v l) (B m c : Nat) (m2 : List UInt8) (hx : a.eval x = .slice (some ⟨B, 0, none⟩) m c) (hm : m2.length = m)
    (hcells : ∀ j u, (byteCells m2)[j]? = some u → w.cell? ⟨B, j, none⟩ = some u)
    (hbytes : l.length + m ≤ 140737488355328) (hbase : base ≤ w.heap.size)
    (h : ∀ v' w', Buf w' base T v' (l ++ m2) → Buf w' base T v l → w.grownBy w' v.ownBlock → wpList P ops Q rest (a.put o.dst v') w') : wpList P ops Q (o :: rest) a w := by
  refine wpList_plain hgd fun K hK => ?_
  obtain ⟨v', w', hr, h2, h3, h4⟩ := run_bytes (P := P) w o.type t base T hinfo ht v l hown B m c m2 hm hcells hbytes hbase
  unfold Oper.wp execOp
  simp only [ho, resolve, invoke, builtin, Sem.run_bind, Sem.run_pure, Result.andThen_ok, List.map_toArray, List.map_cons, List.map_nil, hs, hx, hr]
  exact hK _ _ (h v' w' h2 h3 h4)
/-- append(v, x) of one byte at the operation, behind the laying of its one cell. -/
theorem wpList_byte {P : Program} {W : World} {ops : Array Oper} {rest : List Oper} {o : Oper} {a : Act} {Q : Exit → Act → World → Prop} (hgd : o.guard = none) (sl x : Operand) (t : TypeId)
    (ho : o.op = .call { callee := .builtin .append, args := #[sl, x], argTypes := #[t, t] })
    (base T : Nat) (hinfo : (P.info? T).map (fun i => (i.zero, i.size, i.bytes)) = some (some (.int .u8 0), 1, 1)) (ht : P.underlying t = some (.slice T))
    (v : Value) (l : List UInt8) (hs : a.eval sl = v) (hown : Buf W base T v l) (hx : a.eval x = .slice (some ⟨W.heap.size, 0, none⟩) 1 1) (y : Int) (b : UInt8) (hy : y = (b.toNat : Int))
    (hbytes : l.length + 1 ≤ 140737488355328) (hbase : base ≤ W.heap.size)
    (h : ∀ v' w', Buf w' base T v' (l ++ [b]) → Buf w' base T v l → W.grownBy w' v.ownBlock → wpList P ops Q rest (a.put o.dst v') w') : wpList P ops Q (o :: rest) a (W.alloc (.cells #[.int .u8 y] T)) := by
  have hg1 := World.grownBy_alloc W (.cells #[.int .u8 y] T) none
  refine wpList_bytes hgd sl x t ho base T hinfo ht v l hs (hown.kept_none hg1) W.heap.size 1 1 [b] hx rfl (fun j u hj => ?_) hbytes (Nat.le_trans hbase hg1.size) fun v' w' h1 h2 h3 => h v' w' h1 h2 (grown_trans (grown_none hg1 _) h3)
  match j, hj with
  | 0, hj =>
    obtain rfl : Value.int .u8 (b.toNat : Int) = u := Option.some.inj hj
    rw [cell_of_row _ _ 0 _ _ _ (heap_alloc_new W _), hy]; rfl
theorem wpList_two {P : Program} {W : World} {ops : Array Oper} {rest : List Oper} {o : Oper} {a : Act} {Q : Exit → Act → World → Prop} (hgd : o.guard = none) (sl x : Operand) (t : TypeId)
    (ho : o.op = .call { callee := .builtin .append, args := #[sl, x], argTypes := #[t, t] })
    (base T : Nat) (hinfo : (P.info? T).map (fun i => (i.zero, i.size, i.bytes)) = some (some (.int .u8 0), 1, 1)) (ht : P.underlying t = some (.slice T))
    (v : Value) (l : List UInt8) (hs : a.eval sl = v) (hown : Buf W base T v l) (hx : a.eval x = .slice (some ⟨W.heap.size, 0, none⟩) 2 2) (y z : Int) (b c : UInt8) (hy : y = (b.toNat : Int)) (hz : z = (c.toNat : Int))
    (hbytes : l.length + 2 ≤ 140737488355328) (hbase : base ≤ W.heap.size)
    (h : ∀ v' w', Buf w' base T v' (l ++ [b, c]) → Buf w' base T v l → W.grownBy w' v.ownBlock → wpList P ops Q rest (a.put o.dst v') w') : wpList P ops Q (o :: rest) a (W.alloc (.cells #[.int .u8 y, .int .u8 z] T)) := by
  have hg1 := World.grownBy_alloc W (.cells #[.int .u8 y, .int .u8 z] T) none
  refine wpList_bytes hgd sl x t ho base T hinfo ht v l hs (hown.kept_none hg1) W.heap.size 2 2 [b, c] hx rfl (fun j u hj => ?_) hbytes (Nat.le_trans hbase hg1.size) fun v' w' h1 h2 h3 => h v' w' h1 h2 (grown_trans (grown_none hg1 _) h3)
  match j, hj with
  | 0, hj =>
    obtain rfl : Value.int .u8 (b.toNat : Int) = u := Option.some.inj hj
    rw [cell_of_row _ _ 0 _ _ _ (heap_alloc_new W _), hy]; rfl
  | 1, hj =>
    obtain rfl : Value.int .u8 (c.toNat : Int) = u := Option.some.inj hj
    rw [cell_of_row _ _ 1 _ _ _ (heap_alloc_new W _), hz]; rfl
theorem Buf.own_ge {w : World} {base T : Nat} {v : Value} {l : List UInt8} (h : Buf w base T v l) : ∀ k, v.ownBlock = some k → base ≤ k := fun k hk => (World.ownsRow.lt h k hk).1
theorem Buf.base {w : World} {base base' T : Nat} {v : Value} {l : List UInt8} (h : Buf w base T v l) (hb : base' ≤ base) : Buf w base' T v l := by
  refine ⟨h.1, ?_⟩
  rcases h.2 with hn | ⟨g, cap, cur, rfl, hb', rest⟩
  · exact .inl hn
  · exact .inr ⟨g, cap, cur, rfl, by omega, rest⟩
/-- below block n nothing has turned, and v owns l as it did -/
def Later (n T : Nat) (v : Value) (l : List UInt8) (u w : World) : Prop := Below n u w ∧ (Buf u n T v l → Buf w n T v l)
theorem Later.refl {n T : Nat} {v : Value} {l : List UInt8} (w : World) : Later n T v l w w := ⟨Below.refl _ _, id⟩
theorem Later.trans {n T : Nat} {v : Value} {l : List UInt8} (a b c : World) (h : Later n T v l a b) (k : Later n T v l b c) : Later n T v l a c := ⟨h.1.trans k.1, fun x => k.2 (h.2 x)⟩
theorem Later.drewN {n T : Nat} {v : Value} {l : List UInt8} (w : World) (m : Nat) : Later n T v l w (w.drewN m) := ⟨⟨rfl, rfl, rfl, Nat.le_refl _, fun _ _ => rfl⟩, id⟩
end Go.PostMem
