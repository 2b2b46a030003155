/- Regions that draw their order, whose operations have ONE value in every world of a class: a conversion, a call, at the walk of the text's order. Over any program. -/
import Derived.Test.YtipadidfiffkjaaQuietTail
import Derived.Below
import Derived.KernelRfl
namespace Go.QuietTail
variable {P : Program} {ops : Array Oper} {C : World → Prop}
theorem conv {Q : Act → Prop} {a : Act} {o : Oper} {rest : List Oper} (hg : o.guard = none) (src dst : TypeId) (x : Operand) (ho : o.op = .convert src dst x) (v v' : Value) (hx : a.eval x = v)
    (hr : ∀ w, C w → (convert src dst v).run P w = .ok v' w) (h : wpQuiet P ops C Q rest (a.put o.dst v')) : wpQuiet P ops C Q (o :: rest) a := by
  unfold wpQuiet
  rw [if_pos (by simp [Region.wanted, hg])]
  refine ⟨v', fun w hw => ?_, h⟩
  unfold Oper.quietAt execOp
  simp only [ho, Sem.run_bind, Sem.run_pure, Result.andThen_ok, hx, hr w hw]
  exact ⟨rfl, rfl⟩
/-- A whole region of such operations. -/
theorem wp_all {id : Nat} {Q : Exit → Act → World → Prop} {a : Act} {w : World} {l : List Oper} (C : World → Prop) (hm : P.follows .mixedOrders = true) (hB : Region.lexB .any l.toArray = true) (hC : C w.drew)
    (h : wpQuiet P l.toArray C (fun a' => ∀ w', C w' → Q .normal a' w') l a) : (Code.region id l.toArray true).wp P Q a w :=
  wp_region_quiet (C := C) hm hB hC (by simpa using h)
end Go.QuietTail
