/- Four bytes as a map's key. -/
import Derived.Test.YtipadidfiffkjaaRows
import Derived.Test.YtipadidfiffkjaaMapF
import Derived.KernelRfl
namespace Go.Proofs.Ytipadidfiffkjaa
open Go.Maps (Keyed)
theorem laidOutK : laidOutB Try.prog = true := by kernel_rfl
theorem row4 : (69 : TypeId) < Try.prog.types.size := of_decide_eq_true (by kernel_rfl)
theorem wide4 : (match Try.prog.underlying 69 with | some (.array _ _) | some (.struct _) => true | _ => false) = true := by rw [Try.underlying69]
theorem law4 : Keyed Try.prog 69 := Keyed.of_law (deep_law_laid laidOutK (m := 2) (by omega) row4 (by kernel_rfl) wide4)
theorem keyType4 : Try.prog.keyType 69 = true := by kernel_rfl
theorem cells4 : Try.prog.cellsOf 69 = 4 := by kernel_rfl
theorem cells1 : Try.prog.cellsOf 5 = 1 := by kernel_rfl
theorem zeroInt (w : World) : (zeroValue 3).run Try.prog w = .ok (.int .i64 0) w := by kernel_rfl
/-- four bytes as the map has them -/
def key4V (l : List UInt8) : Value := .agg (l.map fun x => Value.int .u8 (x.toNat : Int)).toArray
theorem byte_wf (x : UInt8) : (Lit.int .u8 (x.toNat : Int)).wf = true := by
  have := x.toNat_lt
  exact WalkArith.wf_u8 (by omega)
theorem lit1 (n : Nat) (x : UInt8) : Try.prog.keyLits (n + 1) 5 [.int .u8 (x.toNat : Int)] = some [.int .u8 (x.toNat : Int)] := by
  simp [Program.keyLits, Try.underlying5, byte_wf]
theorem key4_is (a b c d : UInt8) : MapF.IsKey Try.prog 69 (key4V [a, b, c, d]) := by
  unfold MapF.IsKey keyOf
  rw [Try.underlying69]
  have hsz : ∃ n, Try.prog.types.size + 1 = n + 2 := ⟨Try.prog.types.size - 1, by have h : 69 < Try.prog.types.size := row4; omega⟩
  obtain ⟨n, hn⟩ := hsz
  have hk : Try.prog.keyLits (n + 2) 69 [.int .u8 (a.toNat : Int), .int .u8 (b.toNat : Int), .int .u8 (c.toNat : Int), .int .u8 (d.toNat : Int)] = some [.int .u8 (a.toNat : Int), .int .u8 (b.toNat : Int), .int .u8 (c.toNat : Int), .int .u8 (d.toNat : Int)] := by
    unfold Program.keyLits
    rw [Try.underlying69]
    simp only [cells4, cells1, List.length_cons, List.length_nil, show List.range 4 = [0, 1, 2, 3] from rfl, if_true]
    simp [lit1]
  rw [hn]
  simp [keyType4, key4V, Value.formed, Try.underlying69, cells4, Value.cells, hk]
theorem key4V_inj {l m : List UInt8} (h : key4V l = key4V m) : l = m := by
  unfold key4V at h
  injection h with h
  have h2 := congrArg Array.toList h
  simp only at h2
  refine List.map_inj_right (f := fun x : UInt8 => Value.int .u8 (x.toNat : Int)) ?_ |>.1 h2
  intro x y hxy
  injection hxy with _ e
  exact UInt8.toNat_inj.1 (by omega)
end Go.Proofs.Ytipadidfiffkjaa
