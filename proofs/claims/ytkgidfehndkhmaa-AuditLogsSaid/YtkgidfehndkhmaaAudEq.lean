/- Comparing ids and records. -/
import Derived.Test.YtkgidfehndkhmaaAudKeys
import Derived.Laws.StructEq
import Derived.Lib.Hide
namespace Go.Proofs.Ytkgidfehndkhmaa
open Go.PostAud
theorem stoodId : Try.prog.stoodInHeld 36 = false := by kernel_rfl
theorem stoodRec : Try.prog.stoodInHeld 49 = false := by kernel_rfl
theorem guardId : Try.prog.eqGuardType Try.prog.depth 36 = false := by kernel_rfl
theorem guardRec : Try.prog.eqGuardType Try.prog.depth 49 = false := by kernel_rfl
theorem fieldsId : Try.prog.underlying 36 = some (.struct (Try.prog.fieldsOf 36)) := by unfold Program.fieldsOf; rw [Try.underlying36]
theorem fieldsRec : Try.prog.underlying 49 = some (.struct (Try.prog.fieldsOf 49)) := by unfold Program.fieldsOf; rw [Try.underlying49]
theorem idStep (p q p' q' : Int) (w : World) : (Op.equalIn 10000 36 (.agg #[.int .i64 p, .int .i64 q]) (.agg #[.int .i64 p', .int .i64 q'])).run Try.prog w = .ok (decide ((⟨p, q⟩ : Pid) = ⟨p', q'⟩)) w := by
  rw [show (10000 : Nat) = 9999 + 1 from rfl, run_equalIn_agg _ _ _ _ _ fieldsId stoodId]
  simp only [Pid.mk.injEq]
  by_cases h1 : p = p' <;> by_cases h2 : q = q' <;> simp [Program.fieldsOf, Try.underlying36, go_sem, Try.underlying3, h1, h2]
theorem recStep (o o' : Int) (k v k' v' : ByteArray) (g g' : Bool) (w : World) : (Op.equalIn 10000 49 (.agg #[.int .i64 o, .string k, .string v, .bool g]) (.agg #[.int .i64 o', .string k', .string v', .bool g'])).run Try.prog w = .ok (decide ((⟨o, k, v, g⟩ : Rec) = ⟨o', k', v', g'⟩)) w := by
  rw [show (10000 : Nat) = 9999 + 1 from rfl, run_equalIn_agg _ _ _ _ _ fieldsRec stoodRec]
  have lst : ∀ a b : ByteArray, (a.toList == b.toList) = decide (a = b) := fun a b => by
    rw [ByteArray.toList_eq, ByteArray.toList_eq]
    obtain ⟨⟨x⟩⟩ := a
    obtain ⟨⟨y⟩⟩ := b
    by_cases h : x = y <;> simp [h]
  simp only [Rec.mk.injEq]
  by_cases h1 : o = o' <;> by_cases h2 : k = k' <;> by_cases h3 : v = v' <;> by_cases h4 : g = g' <;> simp [Program.fieldsOf, Try.underlying49, go_sem, Try.underlying3, Try.underlying9, Try.underlying4, lst, h1, h2, h3, h4]
theorem eqlId (p q p' q' : Int) (w : World) : (binOp .eql 36 (.agg #[.int .i64 p, .int .i64 q]) (.agg #[.int .i64 p', .int .i64 q'])).run Try.prog w = .ok (.bool (decide ((⟨p, q⟩ : Pid) = ⟨p', q'⟩))) w := by
  rw [run_eql_struct, idStep]; rfl
theorem neqId (p q p' q' : Int) (w : World) : (binOp .neq 36 (.agg #[.int .i64 p, .int .i64 q]) (.agg #[.int .i64 p', .int .i64 q'])).run Try.prog w = .ok (.bool (!decide ((⟨p, q⟩ : Pid) = ⟨p', q'⟩))) w := by
  rw [run_neq_struct, idStep]; rfl
theorem eqlRec (o o' : Int) (k v k' v' : ByteArray) (g g' : Bool) (w : World) : (binOp .eql 49 (.agg #[.int .i64 o, .string k, .string v, .bool g]) (.agg #[.int .i64 o', .string k', .string v', .bool g'])).run Try.prog w = .ok (.bool (decide ((⟨o, k, v, g⟩ : Rec) = ⟨o', k', v', g'⟩))) w := by
  rw [run_eql_struct, recStep]; rfl
theorem neqRec (o o' : Int) (k v k' v' : ByteArray) (g g' : Bool) (w : World) : (binOp .neq 49 (.agg #[.int .i64 o, .string k, .string v, .bool g]) (.agg #[.int .i64 o', .string k', .string v', .bool g'])).run Try.prog w = .ok (.bool (!decide ((⟨o, k, v, g⟩ : Rec) = ⟨o', k', v', g'⟩))) w := by
  rw [run_neq_struct, recStep]; rfl
end Go.Proofs.Ytkgidfehndkhmaa
