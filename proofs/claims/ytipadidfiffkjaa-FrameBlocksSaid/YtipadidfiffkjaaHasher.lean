/- A hasher's memory, and what appending a text to its tail does. -/
import Derived.Test.YtipadidfiffkjaaFour
import Derived.Lib.AppendStr
import Derived.Laws.Rows
namespace Go.Proofs.Ytipadidfiffkjaa
open Go.RowKit Go.PostSums
/-- the cells of a hasher that NewHasher gave -/
def hcells (seed : Nat) (v : Lanes) (n : Nat) (T : Value) : Array Value :=
  #[.bool true, .int .u32 (seed : Int), .int .u32 (v.a : Int), .int .u32 (v.b : Int), .int .u32 (v.c : Int), .int .u32 (v.d : Int), .int .i64 (n : Int), T]
/-- bytes that do not lie in block b -/
def Tail (w : World) (b : Nat) (A : Option Addr) (l : List UInt8) : Prop := l = [] ∨ ∃ B o, A = some ⟨B, o, none⟩ ∧ B ≠ b ∧ B < w.heap.size ∧ bytesAt w B o l
def IsHasher (w : World) (b seed : Nat) (v : Lanes) (n : Nat) (l : List UInt8) : Prop :=
  ∃ A c, w.heap[b]? = some (.cells (hcells seed v n (.slice A l.length c)) 89 (0, 0)) ∧ l.length ≤ c ∧ v.ok ∧ Tail w b A l
theorem Tail.grown {w w' : World} {b : Nat} {A : Option Addr} {l : List UInt8} (h : Tail w b A l) (hg : w.grownBy w' (some b)) : Tail w' b A l := by
  rcases h with h | ⟨B, o, h1, h2, h3, h4⟩
  · exact .inl h
  · exact .inr ⟨B, o, h1, h2, Nat.lt_of_lt_of_le h3 hg.size, h4.of_block (hg.block B h3 (by simpa using h2))⟩
theorem hcell {w : World} {b seed n : Nat} {v : Lanes} {T : Value} (h : w.heap[b]? = some (.cells (hcells seed v n T) 89 (0, 0))) (j : Nat) : w.cell? ⟨b, j, none⟩ = (hcells seed v n T)[j]? :=
  cell_of_row w b j _ _ _ h
theorem hfree {w : World} {b seed n : Nat} {v : Lanes} {T : Value} (h : w.heap[b]? = some (.cells (hcells seed v n T) 89 (0, 0))) (j : Nat) : w.frozen? ⟨b, j, none⟩ = false :=
  frozen_of_row w b j _ _ h
theorem hset {w : World} {b seed n : Nat} {v : Lanes} {T : Value} (h : w.heap[b]? = some (.cells (hcells seed v n T) 89 (0, 0))) (j : Nat) (x : Value) :
    (w.setCell ⟨b, j, none⟩ x).heap[b]? = some (.cells ((hcells seed v n T).setIfInBounds j x) 89 (0, 0)) := heap_setCell_same w b j _ _ x h
theorem grown_refl (w : World) (row : Option Nat) : w.grownBy w row := ⟨rfl, rfl, rfl, Nat.le_refl _, fun _ _ _ => rfl⟩
theorem grown_trans {a b c : World} {row : Option Nat} (h : a.grownBy b row) (k : b.grownBy c row) : a.grownBy c row :=
  ⟨k.os.trans h.os, k.tape.trans h.tape, k.output.trans h.output, Nat.le_trans h.size k.size, fun i hi hn => (k.block i (Nat.lt_of_lt_of_le hi h.size) hn).trans (h.block i hi hn)⟩
theorem grown_drewN (w : World) (m : Nat) (row : Option Nat) : w.grownBy (w.drewN m) row := ⟨rfl, rfl, rfl, Nat.le_refl _, fun _ _ _ => rfl⟩
theorem grown_set (w : World) (b j : Nat) (x : Value) : w.grownBy (w.setCell ⟨b, j, none⟩ x) (some b) :=
  ⟨rfl, rfl, rfl, by simp, fun i _ hn => heap_setCell_other w _ i x (by simpa using hn)⟩
theorem grown_none {w w' : World} (h : w.grownBy w' none) (row : Option Nat) : w.grownBy w' row := ⟨h.os, h.tape, h.output, h.size, fun i hi _ => h.block i hi (by simp)⟩
theorem infoByte : (Try.prog.info? 5).map (fun i => (i.zero, i.size, i.bytes)) = some (some (.int .u8 0), 1, 1) := by kernel_rfl
theorem strCells_get (s : ByteArray) (i : Nat) (h : i < s.size) : (Lib.strCells s)[i]? = some (.int .u8 (at8 s.data.toList i : Nat)) := by
  unfold Lib.strCells at8
  rw [List.getElem?_map, List.getElem?_eq_getElem (by simpa using h), List.getD_eq_getElem?_getD, List.getElem?_eq_getElem (by simpa using h)]
  rfl
def byteCells' (l : List UInt8) : List Value := l.map fun x => Value.int .u8 (x.toNat : Int)
theorem byteCells'_get (l : List UInt8) (i : Nat) (h : i < l.length) : (byteCells' l)[i]? = some (.int .u8 (at8 l i : Nat)) := by
  unfold byteCells' at8
  rw [List.getElem?_map, List.getElem?_eq_getElem h, List.getD_eq_getElem?_getD, List.getElem?_eq_getElem h]
  rfl
theorem byteCells'_append (l m : List UInt8) : byteCells' (l ++ m) = byteCells' l ++ byteCells' m := by simp [byteCells']
theorem strCells_eq (s : ByteArray) : Lib.strCells s = byteCells' s.data.toList := rfl
/-- bytes that lie at the head of a block -/
theorem bytesAt_block {w : World} {B : Nat} {l : List UInt8} {cs : Array Value} {t : TypeId} {fr : Nat × Nat} (hb : w.heap[B]? = some (.cells cs t fr)) (hc : ∀ i, i < l.length → cs[i]? = some (.int .u8 (at8 l i : Nat))) : bytesAt w B 0 l := fun i hi => by
  rw [Nat.zero_add, cell_of_row w B i cs t fr hb]; exact hc i hi
/-- append(h.tail[:len:len], s...): the bytes behind the tail, in new memory if there are any. -/
theorem run_append_tail (ty : TypeId) (w : World) (b : Nat) (A : Option Addr) (l : List UInt8) (s : ByteArray) (hT : Tail w b A l) (hb : b < w.heap.size) (hs : l.length + s.size ≤ 140737488355328) :
    ∃ A' c' w', (Builtin.append_ #[30, 9] ty #[.slice A l.length l.length, .string s]).run Try.prog w = .ok (.slice A' (l.length + s.size) c') w' ∧
      Tail w' b A' (l ++ s.data.toList) ∧ l.length + s.size ≤ c' ∧ w.grownBy w' none := by
  obtain ⟨i0, hi, hz0, hz1, hz2⟩ := info_parts infoByte
  by_cases h0 : s.size = 0
  · have hsl : s.data.toList = [] := List.eq_nil_of_length_eq_zero (by simpa using h0)
    refine ⟨A, l.length, w, ?_, by rw [hsl, List.append_nil]; exact hT, by omega, grown_refl w none⟩
    have hf := Lib.run_firstCells_string (P := Try.prog) w 1 s
    have hnil : Lib.strCells s = [] := List.eq_nil_of_length_eq_zero (by rw [Lib.strCells_length]; exact h0)
    rw [h0, hnil] at hf
    cases A with
    | none => simp [Builtin.append_, run_underlying Try.underlying30, run_underlying Try.underlying9, sizeOf, typeInfo, hi, hz1, Builtin.lenOf, h0, hf]
    | some a => simp [Builtin.append_, run_underlying Try.underlying30, run_underlying Try.underlying9, sizeOf, typeInfo, hi, hz1, Builtin.lenOf, h0, hf, storeCells]
  · have key : ∀ (zs : Array Value), bytesAt (w.drew.alloc (.cells ((byteCells' l).toArray ++ (Lib.strCells s).toArray ++ zs) 5)) w.heap.size 0 (l ++ s.data.toList) := fun zs => by
      refine bytesAt_block (heap_alloc_new w.drew _) (fun i hi => ?_)
      rw [strCells_eq, Array.getElem?_append_left (by simpa [byteCells'] using hi), List.append_toArray, ← byteCells'_append, List.getElem?_toArray]
      exact byteCells'_get _ i hi
    have grown : ∀ o : Obj, w.grownBy (w.drew.alloc o) none := fun o => ⟨rfl, rfl, rfl, by simp, fun k hk _ => Below.heap_alloc w.drew o k hk⟩
    have tail : ∀ zs : Array Value, Tail (w.drew.alloc (.cells ((byteCells' l).toArray ++ (Lib.strCells s).toArray ++ zs) 5)) b (some ⟨w.heap.size, 0, none⟩) (l ++ s.data.toList) := fun zs =>
      .inr ⟨w.heap.size, 0, rfl, by omega, by show w.heap.size < (w.drew.heap.push _).size; rw [Array.size_push]; exact Nat.lt_succ_self _, key zs⟩
    cases A with
    | none =>
      have hl : l = [] := by rcases hT with h | ⟨B, o, h, _⟩; exact h; exact absurd h (by simp)
      subst hl
      have hr := run_append_nil_string (P := Try.prog) w 30 9 ty 5 i0 (.int .u8 0) Try.underlying30 Try.underlying9 hi hz0 s (by omega) (by simp at hs; omega) (by rw [hz2]; simp at hs; omega)
      have e1 : (s.data.map fun b => Value.int .u8 b.toNat) = (Lib.strCells s).toArray := by
        apply Array.ext'
        simp [Lib.strCells]
      rw [e1] at hr
      have ht := tail (Builtin.zeroCells (Value.int .u8 0).cells (grownCap w s.size 0 5 - s.size))
      simp only [byteCells', List.map_nil, List.nil_append, Array.empty_append, List.length_nil, Nat.zero_add] at ht ⊢
      exact ⟨_, _, _, hr, ht, grownCap_ge _ _ _ _, grown _⟩
    | some a =>
      have holds : ∀ j v, (byteCells' l)[j]? = some v → w.cell? (a.add j) = some v := by
        intro j v hv
        have hj : j < l.length := by
          have := (List.getElem?_eq_some_iff.1 hv).1
          simpa [byteCells'] using this
        rcases hT with h | ⟨B, o, h, _, _, hb'⟩
        · rw [h] at hj; simp at hj
        · obtain rfl := Option.some.inj h
          have hadd : (⟨B, o, none⟩ : Addr).add j = ⟨B, o + j, none⟩ := by unfold Addr.add; split <;> simp_all
          rw [hadd, hb' j hj, ← byteCells'_get l j hj, hv]
      have hr := Lib.run_append_grow_string (P := Try.prog) w 30 9 ty 5 i0 (.int .u8 0) Try.underlying30 Try.underlying9 hi hz0 a l.length l.length (byteCells' l) (by rw [hz1]; simp [byteCells']) holds s (by omega) (by omega) (by rw [hz2]; exact growslice_fits (by omega) (by omega))
      exact ⟨_, _, _, hr, tail _, grownCap_ge _ _ _ _, grown _⟩
theorem wpList_append_tail {w : World} {ops : Array Oper} {rest : List Oper} {o : Oper} {a : Act} {Q : Exit → Act → World → Prop} (hgd : o.guard = none) (sl x : Operand)
    (ho : o.op = .call { callee := .builtin .append, args := #[sl, x], argTypes := #[30, 9] })
    (b : Nat) (A : Option Addr) (l : List UInt8) (s : ByteArray) (hs : a.eval sl = .slice A l.length l.length) (hx : a.eval x = .string s)
    (hT : Tail w b A l) (hb : b < w.heap.size) (hsz : l.length + s.size ≤ 140737488355328)
    (h : ∀ A' c' w', Tail w' b A' (l ++ s.data.toList) → l.length + s.size ≤ c' → w.grownBy w' none → wpList Try.prog ops Q rest (a.put o.dst (.slice A' (l.length + s.size) c')) w') : wpList Try.prog ops Q (o :: rest) a w := by
  refine wpList_plain hgd fun K hK => ?_
  obtain ⟨A', c', w', hr, h2, h3, h4⟩ := run_append_tail o.type w b A l s hT hb hsz
  unfold Oper.wp execOp
  simp only [ho, resolve, invoke, builtin, Sem.run_bind, Sem.run_pure, Result.andThen_ok, List.map_toArray, List.map_cons, List.map_nil, hs, hx, hr]
  exact hK _ _ (h A' c' w' h2 h3 h4)
theorem hcells_n (seed n m : Nat) (v : Lanes) (T : Value) : (hcells seed v n T).setIfInBounds 6 (.int .i64 ((n : Int) + (m : Int))) = hcells seed v (n + m) T := by simp [hcells]
theorem hcells_t (seed n : Nat) (v : Lanes) (T T' : Value) : (hcells seed v n T).setIfInBounds 7 T' = hcells seed v n T' := by simp [hcells]
theorem round_int (v x : Nat) : (((rotN ((v + x * 2246822519) % 4294967296) 13 : Nat) : Int) * 2654435761 % 4294967296) = ((roundN v x : Nat) : Int) := by
  unfold roundN
  rw [Nat.add_mod_mod, cast_mod, cast_mul]
  rfl
def slen : Value → Nat
  | .slice _ n _ => n
  | _ => 0
/-- the lanes, the first k of which took their four bytes -/
def upTo (v : Lanes) (r : List UInt8) (k : Nat) : Lanes :=
  ⟨if 0 < k then roundN v.a (word r 0) else v.a, if 1 < k then roundN v.b (word r 4) else v.b, if 2 < k then roundN v.c (word r 8) else v.c, if 3 < k then roundN v.d (word r 12) else v.d⟩
def lane (v : Lanes) (k : Nat) : Nat := if k = 0 then v.a else if k = 1 then v.b else if k = 2 then v.c else v.d
theorem upTo_zero (v : Lanes) (r : List UInt8) : upTo v r 0 = v := by simp [upTo]
theorem upTo_four (v : Lanes) (r : List UInt8) : upTo v r 4 = v.block r := by simp [upTo, Lanes.block]
theorem lane_lt (v : Lanes) (k : Nat) (h : v.ok) : lane v k < 4294967296 := by
  obtain ⟨h1, h2, h3, h4⟩ := h
  unfold lane
  split
  · exact h1
  · split
    · exact h2
    · split
      · exact h3
      · exact h4
theorem upTo_cell (seed n : Nat) (v : Lanes) (r : List UInt8) (T : Value) (k : Nat) (hk : k < 4) : (hcells seed (upTo v r k) n T)[2 + k]? = some (.int .u32 (lane v k : Nat)) := by
  match k, hk with
  | 0, _ => simp [hcells, upTo, lane]
  | 1, _ => simp [hcells, upTo, lane]
  | 2, _ => simp [hcells, upTo, lane]
  | 3, _ => simp [hcells, upTo, lane]
theorem upTo_set (seed n : Nat) (v : Lanes) (r : List UInt8) (T : Value) (k : Nat) (hk : k < 4) :
    (hcells seed (upTo v r k) n T).setIfInBounds (2 + k) (.int .u32 (roundN (lane v k) (word r (4 * k)) : Nat)) = hcells seed (upTo v r (k + 1)) n T := by
  match k, hk with
  | 0, _ => simp [hcells, upTo, lane]
  | 1, _ => simp [hcells, upTo, lane]
  | 2, _ => simp [hcells, upTo, lane]
  | 3, _ => simp [hcells, upTo, lane]
end Go.Proofs.Ytipadidfiffkjaa
