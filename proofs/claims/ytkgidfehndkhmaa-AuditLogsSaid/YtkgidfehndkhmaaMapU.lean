/- A map of whatever size, known by what stands at each key. Over any program. -/
import Derived.Maps.OwnSet
import Derived.DeepKeys4
import Derived.Below
import Derived.WalkKit
namespace Go.MapU
open Go.Maps (Keyed)
open Go.MapKept Go.ChangeMaps
def IsKey (P : Program) (k : TypeId) (v : Value) : Prop := ∃ l, keyOf P k v = some l
/-- block b is a map; at the key x stands get x -/
def IsMap (w : World) (P : Program) (k : TypeId) (b : Nat) (get : Value → Option Value) : Prop :=
  ∃ (es : Array MapEntry) (clock : Nat), w.heap[b]? = some (.map es clock) ∧ (∀ e ∈ es.toList, IsKey P k e.key) ∧
    (∀ (i j : Nat) (x y : MapEntry), es.toList[i]? = some x → es.toList[j]? = some y → x.key = y.key → i = j) ∧
    (∀ e ∈ es.toList, get e.key = some e.val) ∧ ∀ key, IsKey P k key → (∀ e ∈ es.toList, e.key ≠ key) → get key = none
variable {P : Program} {k : TypeId} {w : World} {b : Nat} {get : Value → Option Value}
theorem single {α : Type} {a x : α} {i : Nat} (h : [a][i]? = some x) : i = 0 ∧ a = x := by
  match i, h with
  | 0, h => exact ⟨rfl, Option.some.inj h⟩
theorem made (w : World) (P : Program) (k : TypeId) : IsMap (w.alloc (.map #[] 0)) P k w.heap.size (fun _ => none) :=
  ⟨#[], 0, (MapKept.heap_alloc w _).1, by simp, by simp, by simp, fun _ _ _ => rfl⟩
theorem IsMap.lt (h : IsMap w P k b get) : b < w.heap.size := by
  obtain ⟨es, clock, h1, _⟩ := h; exact (Array.getElem?_eq_some_iff.1 h1).1
theorem IsMap.of_block {w' : World} (h : IsMap w P k b get) (hb : w'.heap[b]? = w.heap[b]?) : IsMap w' P k b get := by
  obtain ⟨es, clock, h1, h2⟩ := h
  exact ⟨es, clock, hb.trans h1, h2⟩
theorem IsMap.kept {w' : World} {row : Option Nat} (h : IsMap w P k b get) (hg : w.grownBy w' row) (hne : some b ≠ row) : IsMap w' P k b get :=
  h.of_block (hg.block b h.lt hne)
/-- what a look-up comes to -/
def seen (c : Bool) (z : Value) : Option Value → Value
  | none => if c then .tuple #[z, .bool false] else z
  | some v => if c then .tuple #[v, .bool true] else v
theorem IsMap.look {t e : TypeId} (c : Bool) (h : IsMap w P k b get) (K : Keyed P k) (ht : P.underlying t = some (.map k e)) {z : Value} (hz : (zeroValue e).run P w = .ok z w) {key : Value} (hkey : IsKey P k key) :
    (Instr.lookup t (.map (some b)) key c).run P w = .ok (seen c z (get key)) w := by
  obtain ⟨es, clock, hb, hk, _, hv, hn⟩ := h
  obtain ⟨kl, hkl⟩ := id hkey
  rcases K.find w hkl es.toList hk with ⟨h1, h2⟩ | ⟨j, e0, h1, h2, h3⟩
  · rw [hn key hkey h2]
    simp [Instr.lookup, run_underlying ht, MapKept.run_getObj_map hb, K.check w _ hkl, h1, hz, Result.andThen, seen]
  · have := hv e0 (List.mem_of_getElem? h2)
    rw [h3] at this
    rw [this]
    simp [Instr.lookup, run_underlying ht, MapKept.run_getObj_map hb, K.check w _ hkl, h1, Result.andThen, seen]
/-- the map when v is put at x -/
noncomputable def put (get : Value → Option Value) (x v : Value) : Value → Option Value := by
  classical
  exact fun y => if y = x then some v else get y
theorem put_same (get : Value → Option Value) (x v : Value) : put get x v x = some v := by simp [put]
theorem put_other (get : Value → Option Value) (x v : Value) {y : Value} (h : y ≠ x) : put get x v y = get y := by simp [put, h]
theorem IsMap.update {t e : TypeId} (h : IsMap w P k b get) (K : Keyed P k) (ht : P.underlying t = some (.map k e)) {key val : Value} (hkey : IsKey P k key) :
    ∃ w', (Instr.mapUpdate t (.map (some b)) key val).run P w = .ok () w' ∧ IsMap w' P k b (put get key val) ∧ w.grownBy w' (some b) := by
  obtain ⟨es, clock, hb, hk, hd, hv, hn⟩ := h
  obtain ⟨kl, hkl⟩ := id hkey
  have grown : ∀ es' clock', w.grownBy (setBlock w b (.map es' clock')) (some b) := fun es' clock' =>
    ⟨rfl, rfl, rfl, by simp [setBlock], fun i _ hi => heap_setBlock_other hb _ (fun e => hi (by rw [e]))⟩
  rcases K.find w hkl es.toList hk with ⟨h1, h2⟩ | ⟨j, e0, h1, h2, h3⟩
  · refine ⟨setBlock w b (.map (es.push ⟨key, val, clock⟩) (clock + 1)), ?_, ⟨_, _, heap_setBlock_same hb _, ?_, ?_, ?_, ?_⟩, grown _ _⟩
    · simp [Instr.mapUpdate, run_underlying ht, MapKept.run_getObj_map hb, K.check w false hkl, h1, MapKept.run_setObj_map _ hb, Result.andThen, setBlock]
    · intro x hx
      simp only [Array.toList_push, List.mem_append, List.mem_singleton] at hx
      rcases hx with hx | rfl
      · exact hk x hx
      · exact hkey
    · intro i j x y hi hj e
      simp only [Array.toList_push, List.getElem?_append] at hi hj
      split at hi <;> split at hj
      · exact hd i j x y hi hj e
      · obtain ⟨hj1, rfl⟩ := single hj
        exact absurd e (h2 x (List.mem_of_getElem? hi))
      · obtain ⟨hj1, rfl⟩ := single hi
        exact absurd e.symm (h2 y (List.mem_of_getElem? hj))
      · obtain ⟨a1, _⟩ := single hi
        obtain ⟨a2, _⟩ := single hj
        omega
    · intro x hx
      simp only [Array.toList_push, List.mem_append, List.mem_singleton] at hx
      rcases hx with hx | rfl
      · rw [put_other _ _ _ (h2 x hx)]; exact hv x hx
      · exact put_same _ _ _
    · intro key' hk' hne
      have hne' : key' ≠ key := fun e => hne ⟨key, val, clock⟩ (by simp) e.symm
      rw [put_other _ _ _ hne']
      exact hn key' hk' fun x hx => hne x (by simp [hx])
  · have hj : es[j]? = some e0 := by simpa using h2
    have hlist : (es.modify j (fun e' => { e' with key := key, val := val })).toList = es.toList.set j { e0 with key := key, val := val } := by rw [Array.toList_modify, modify_eq_set _ _ _ _ h2]
    have who : ∀ x ∈ es.toList.set j { e0 with key := key, val := val }, x = { e0 with key := key, val := val } ∨ (x ∈ es.toList ∧ x.key ≠ key) := by
      intro x hx
      obtain ⟨i, hi, ex⟩ := List.getElem_of_mem hx
      rw [List.getElem_set] at ex
      split at ex
      · exact Or.inl ex.symm
      · rename_i hne
        have hi' : i < es.toList.length := by simpa using hi
        refine Or.inr ⟨ex ▸ List.getElem_mem hi', ?_⟩
        intro e1
        exact hne (hd j i e0 x h2 (by rw [List.getElem?_eq_getElem hi', ex]) (h3.trans e1.symm))
    refine ⟨setBlock w b (.map (es.modify j (fun e' => { e' with key := key, val := val })) clock), ?_, ⟨_, _, heap_setBlock_same hb _, ?_, ?_, ?_, ?_⟩, grown _ _⟩
    · simp [Instr.mapUpdate, run_underlying ht, MapKept.run_getObj_map hb, K.check w false hkl, h1, hj, h3, K.stays w hkl, MapKept.run_setObj_map _ hb, Result.andThen, setBlock]
    · intro x hx
      rw [hlist] at hx
      rcases who x hx with rfl | ⟨hx', _⟩
      · exact hkey
      · exact hk x hx'
    · intro i i' x y hi hi' e
      rw [hlist, List.getElem?_set] at hi hi'
      have key_of : ∀ (i : Nat) (x : MapEntry), (if j = i then (if j < es.toList.length then some ({ e0 with key := key, val := val } : MapEntry) else none) else es.toList[i]?) = some x → ∃ x0, es.toList[i]? = some x0 ∧ x0.key = x.key := by
        intro i x hx
        split at hx
        · rename_i e1; subst e1
          split at hx
          · obtain rfl := Option.some.inj hx
            exact ⟨e0, h2, h3⟩
          · cases hx
        · exact ⟨x, hx, rfl⟩
      obtain ⟨x0, a1, a2⟩ := key_of i x hi
      obtain ⟨y0, b1, b2⟩ := key_of i' y hi'
      exact hd i i' x0 y0 a1 b1 (by rw [a2, b2, e])
    · intro x hx
      rw [hlist] at hx
      rcases who x hx with rfl | ⟨hx', hne⟩
      · exact put_same _ _ _
      · rw [put_other _ _ _ hne]; exact hv x hx'
    · intro key' hk' hne
      have hmem : ({ e0 with key := key, val := val } : MapEntry) ∈ es.toList.set j { e0 with key := key, val := val } := by
        rw [List.mem_iff_getElem?]
        refine ⟨j, ?_⟩
        rw [List.getElem?_set]
        have := (List.getElem?_eq_some_iff.1 h2).1
        simp only [Array.length_toList] at this
        simp [this]
      have hne' : key' ≠ key := fun e => hne _ (by rw [hlist]; exact hmem) e.symm
      rw [put_other _ _ _ hne']
      refine hn key' hk' fun x hx e => ?_
      obtain ⟨i, hi, ex⟩ := List.getElem_of_mem hx
      by_cases hij : j = i
      · subst hij
        rw [List.getElem?_eq_getElem hi, ex] at h2
        obtain rfl := Option.some.inj h2
        exact hne' (e.symm.trans h3)
      · refine hne x ?_ e
        rw [hlist, List.mem_iff_getElem?]
        refine ⟨i, ?_⟩
        rw [List.getElem?_set, if_neg hij, List.getElem?_eq_getElem hi, ex]
theorem wpList_look {ops : Array Oper} {rest : List Oper} {o : Oper} {a : Act} {Q : Exit → Act → World → Prop} (hg : o.guard = none) (m x : Operand) (t : TypeId) (c : Bool) (hop : o.op = Op.lookup t m x c)
    (k e : TypeId) (K : Keyed P k) (ht : P.underlying t = some (.map k e)) (z : Value) (hz : (zeroValue e).run P w = .ok z w) (b : Nat) (get : Value → Option Value)
    (hm : a.eval m = .map (some b)) (h : IsMap w P k b get) (key : Value) (hx : a.eval x = key) (hkey : IsKey P k key)
    (hK : wpList P ops Q rest (a.put o.dst (seen c z (get key))) w) : wpList P ops Q (o :: rest) a w := by
  refine wpList_plain hg fun K' hK' => ?_
  have hrun := h.look c K ht hz hkey
  unfold Oper.wp
  simp [execOp, hop, hm, hx, hrun, Result.andThen]
  exact hK' _ _ hK
theorem wpList_put {ops : Array Oper} {rest : List Oper} {o : Oper} {a : Act} {Q : Exit → Act → World → Prop} (hg : o.guard = none) (m x v : Operand) (t : TypeId) (hop : o.op = Op.mapUpdate t m x v)
    (k e : TypeId) (K : Keyed P k) (ht : P.underlying t = some (.map k e)) (b : Nat) (get : Value → Option Value)
    (hm : a.eval m = .map (some b)) (h : IsMap w P k b get) (key val : Value) (hx : a.eval x = key) (hv : a.eval v = val) (hkey : IsKey P k key)
    (hK : ∀ w', IsMap w' P k b (put get key val) → w.grownBy w' (some b) → wpList P ops Q rest (a.put o.dst undef) w') : wpList P ops Q (o :: rest) a w := by
  refine wpList_plain hg fun K' hK' => ?_
  obtain ⟨w', hrun, r1, r2⟩ := h.update K ht hkey (val := val)
  unfold Oper.wp
  simp [execOp, hop, hm, hx, hv, hrun, Result.andThen]
  exact hK' _ _ (hK w' r1 r2)
end Go.MapU
