/- A map, known by what stands at each key. Over any program. -/
import Derived.Maps.OwnSet
import Derived.DeepKeys4
import Derived.Below
import Derived.WalkKit
namespace Go.MapF
open Go.Maps (Keyed)
def Rv (v : Value) : Option (DataW Value × List MemPlace) := some (.held v, [])
def IsKey (P : Program) (k : TypeId) (v : Value) : Prop := ∃ l, keyOf P k v = some l
def told : Option Value → DataW Value
  | none => .nil
  | some v => .held v
theorem told_inj {a b : Option Value} (h : told a = told b) : a = b := by
  cases a <;> cases b <;> simp_all [told]
/-- block b is a map of at most n entries; at the key x stands get x -/
def IsMap (w : World) (P : Program) (k : TypeId) (b n : Nat) (get : Value → Option Value) : Prop :=
  ∃ D, w.ownsMap P k Rv b n D ∧ ∀ key kl, keyOf P k key = some kl → D.atKey kl .nil = told (get key)
variable {P : Program} {k : TypeId} {w : World} {b n : Nat} {get : Value → Option Value}
theorem made (w : World) (P : Program) (k : TypeId) : IsMap (w.alloc (.map #[] 0)) P k w.heap.size 0 (fun _ => none) :=
  ⟨_, World.ownsMap_made w P k Rv, fun _ _ _ => rfl⟩
theorem IsMap.lt (h : IsMap w P k b n get) : b < w.heap.size := by obtain ⟨D, hD, _⟩ := h; exact hD.lt
theorem IsMap.kept {w' : World} {row : Option Nat} (h : IsMap w P k b n get) (hg : w.grownBy w' row) (hne : some b ≠ row) : IsMap w' P k b n get := by
  obtain ⟨D, hD, hk⟩ := h; exact ⟨D, hD.kept hg hne, hk⟩
theorem IsMap.of_block {w' : World} (h : IsMap w P k b n get) (hb : w'.heap[b]? = w.heap[b]?) : IsMap w' P k b n get := by
  obtain ⟨D, ⟨es, clock, h1, h2⟩, hk⟩ := h
  exact ⟨D, ⟨es, clock, hb.trans h1, h2⟩, hk⟩
theorem IsMap.mono {n' : Nat} (h : IsMap w P k b n get) (hn : n ≤ n') : IsMap w P k b n' get := by
  obtain ⟨D, hD, hk⟩ := h; exact ⟨D, hD.mono hn, hk⟩
/-- what a look-up comes to -/
def seen (c : Bool) (z : Value) : Option Value → Value
  | none => if c then .tuple #[z, .bool false] else z
  | some v => if c then .tuple #[v, .bool true] else v
theorem IsMap.look {t e : TypeId} (c : Bool) (h : IsMap w P k b n get) (K : Keyed P k) (ht : P.underlying t = some (.map k e)) {z : Value} (hz : (zeroValue e).run P w = .ok z w) {key : Value} (hkey : IsKey P k key) :
    (Instr.lookup t (.map (some b)) key c).run P w = .ok (seen c z (get key)) w := by
  obtain ⟨D, ⟨es, clock, hb, F, _, rfl⟩, hk⟩ := h
  obtain ⟨kl, hkl⟩ := hkey
  have h1 := hk key kl hkl
  rcases Maps.fit_look c K ht hz hb F hkl with ⟨hrun, _, hat⟩ | ⟨e0, y, _, _, hrun, hRv, hat, _⟩
  · rw [hat .nil] at h1
    rw [← told_inj (a := none) h1]; exact hrun
  · rw [hat .nil] at h1
    obtain rfl : (DataW.held e0.val, []) = y := by simpa [Rv] using hRv
    rw [← told_inj (a := some e0.val) h1]; exact hrun
/-- the map when v is put at x -/
noncomputable def put (get : Value → Option Value) (x v : Value) : Value → Option Value := by
  classical
  exact fun y => if y = x then some v else get y
theorem put_same (get : Value → Option Value) (x v : Value) : put get x v x = some v := by simp [put]
theorem put_other (get : Value → Option Value) (x v : Value) {y : Value} (h : y ≠ x) : put get x v y = get y := by simp [put, h]
theorem IsMap.update {t e : TypeId} (h : IsMap w P k b n get) (K : Keyed P k) (ht : P.underlying t = some (.map k e)) (hn : n < maxLen) {key val : Value} (hkey : IsKey P k key) :
    ∃ w', (Instr.mapUpdate t (.map (some b)) key val).run P w = .ok () w' ∧ IsMap w' P k b (n + 1) (put get key val) ∧ w.grownBy w' (some b) := by
  obtain ⟨D, hD, hk⟩ := h
  obtain ⟨kl, hkl⟩ := hkey
  obtain ⟨w', hrun, h1, h2⟩ := hD.update K ht hn hkl (val := val) (d := .held val) (ps := []) rfl
  refine ⟨w', hrun, ⟨_, h1, fun key' kl' hkl' => ?_⟩, h2⟩
  by_cases e : key' = key
  · subst e
    obtain rfl : kl = kl' := by rw [hkl] at hkl'; exact Option.some.inj hkl'
    rw [put_same, Maps.atKey_put_same hD.isMap (K.key hkl)]; rfl
  · rw [put_other _ _ _ e, Maps.atKey_put_other (fun h => e (K.inj hkl' (by rw [h]; exact hkl)))]
    exact hk _ _ hkl'
theorem wpList_look {ops : Array Oper} {rest : List Oper} {o : Oper} {a : Act} {Q : Exit → Act → World → Prop} (hg : o.guard = none) (m x : Operand) (t : TypeId) (c : Bool) (hop : o.op = Op.lookup t m x c)
    (k e : TypeId) (K : Keyed P k) (ht : P.underlying t = some (.map k e)) (z : Value) (hz : (zeroValue e).run P w = .ok z w) (b n : Nat) (get : Value → Option Value)
    (hm : a.eval m = .map (some b)) (h : IsMap w P k b n get) (key : Value) (hx : a.eval x = key) (hkey : IsKey P k key)
    (hK : wpList P ops Q rest (a.put o.dst (seen c z (get key))) w) : wpList P ops Q (o :: rest) a w := by
  refine wpList_plain hg fun K' hK' => ?_
  have hrun := h.look c K ht hz hkey
  unfold Oper.wp
  simp [execOp, hop, hm, hx, hrun, Result.andThen]
  exact hK' _ _ hK
theorem wpList_put {ops : Array Oper} {rest : List Oper} {o : Oper} {a : Act} {Q : Exit → Act → World → Prop} (hg : o.guard = none) (m x v : Operand) (t : TypeId) (hop : o.op = Op.mapUpdate t m x v)
    (k e : TypeId) (K : Keyed P k) (ht : P.underlying t = some (.map k e)) (b n : Nat) (get : Value → Option Value)
    (hm : a.eval m = .map (some b)) (h : IsMap w P k b n get) (hn : n < maxLen) (key val : Value) (hx : a.eval x = key) (hv : a.eval v = val) (hkey : IsKey P k key)
    (hK : ∀ w', IsMap w' P k b (n + 1) (put get key val) → w.grownBy w' (some b) → wpList P ops Q rest (a.put o.dst undef) w') : wpList P ops Q (o :: rest) a w := by
  refine wpList_plain hg fun K' hK' => ?_
  obtain ⟨w', hrun, r1, r2⟩ := h.update K ht hn hkey (val := val)
  unfold Oper.wp
  simp [execOp, hop, hm, hx, hv, hrun, Result.andThen]
  exact hK' _ _ (hK w' r1 r2)
end Go.MapF
