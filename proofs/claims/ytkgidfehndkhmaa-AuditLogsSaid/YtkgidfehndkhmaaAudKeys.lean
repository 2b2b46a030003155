/- Ids, records, numbers and strings as maps' keys; the zero elements. -/
import Derived.Test.YtkgidfehndkhmaaRows
import Derived.Test.YtkgidfehndkhmaaMapU
import Derived.Test.YtkgidfehndkhmaaAudPlain
import Derived.KernelRfl
namespace Go.Proofs.Ytkgidfehndkhmaa
open Go.Maps (Keyed)
open Go.PostAud Go.MapU
theorem laidOutK : laidOutB Try.prog = true := by kernel_rfl
theorem rowId : (36 : TypeId) < Try.prog.types.size := of_decide_eq_true (by kernel_rfl)
theorem rowRec : (49 : TypeId) < Try.prog.types.size := of_decide_eq_true (by kernel_rfl)
theorem wideId : (match Try.prog.underlying 36 with | some (.array _ _) | some (.struct _) => true | _ => false) = true := by rw [Try.underlying36]
theorem wideRec : (match Try.prog.underlying 49 with | some (.array _ _) | some (.struct _) => true | _ => false) = true := by rw [Try.underlying49]
theorem lawId : Keyed Try.prog 36 := Keyed.of_law (deep_law_laid laidOutK (m := 2) (by omega) rowId (by kernel_rfl) wideId)
theorem lawRec : Keyed Try.prog 49 := Keyed.of_law (deep_law_laid laidOutK (m := 2) (by omega) rowRec (by kernel_rfl) wideRec)
theorem lawInt : Keyed Try.prog 3 := Maps.int_keyed Try.underlying3
theorem lawStr : Keyed Try.prog 9 := Maps.string_keyed Try.underlying9
theorem keyTypeId : Try.prog.keyType 36 = true := by kernel_rfl
theorem keyTypeRec : Try.prog.keyType 49 = true := by kernel_rfl
theorem cellsId : Try.prog.cellsOf 36 = 2 := by kernel_rfl
theorem cellsRec : Try.prog.cellsOf 49 = 4 := by kernel_rfl
theorem cellsAck : Try.prog.cellsOf 38 = 6 := by kernel_rfl
theorem cellsFet : Try.prog.cellsOf 52 = 5 := by kernel_rfl
theorem cellsInt : Try.prog.cellsOf 3 = 1 := by kernel_rfl
theorem cellsStr : Try.prog.cellsOf 9 = 1 := by kernel_rfl
theorem cellsBool : Try.prog.cellsOf 4 = 1 := by kernel_rfl
theorem zeroInt (w : World) : (zeroValue 3).run Try.prog w = .ok (.int .i64 0) w := by kernel_rfl
theorem zeroBool (w : World) : (zeroValue 4).run Try.prog w = .ok (.bool false) w := by kernel_rfl
theorem zeroId (w : World) : (zeroValue 36).run Try.prog w = .ok (Pid.v ⟨0, 0⟩) w := by kernel_rfl
theorem zeroAck (w : World) : (zeroValue 38).run Try.prog w = .ok (Ack.v ⟨0, ⟨0, 0⟩, 0, 0, 0⟩) w := by kernel_rfl
theorem zeroRec (w : World) : (zeroValue 49).run Try.prog w = .ok (Rec.v ⟨0, ⟨#[]⟩, ⟨#[]⟩, false⟩) w := by kernel_rfl
theorem zeroRecs (w : World) : (zeroValue 44).run Try.prog w = .ok (.slice none 0 0) w := by kernel_rfl
theorem size2 : ∃ n, Try.prog.types.size + 1 = n + 2 := ⟨Try.prog.types.size - 1, by have h : 36 < Try.prog.types.size := rowId; omega⟩
theorem int_key {x : Int} (h : i64 x) : IsKey Try.prog 3 (.int .i64 x) := by
  unfold i64 at h
  exact ⟨_, Maps.keyOf_int_mk Try.underlying3 h⟩
theorem str_key {s : ByteArray} (h : s.size ≤ maxLen) : IsKey Try.prog 9 (.string s) := ⟨_, WideMaps.keyOf_string_mk Try.underlying9 h⟩
theorem id_key {a : Pid} (h1 : i64 a.prod) (h2 : i64 a.seq) : IsKey Try.prog 36 a.v := by
  unfold i64 at h1 h2
  unfold IsKey keyOf
  rw [Try.underlying36]
  obtain ⟨n, hn⟩ := size2
  have hk : Try.prog.keyLits (n + 2) 36 [.int .i64 a.prod, .int .i64 a.seq] = some [.int .i64 a.prod, .int .i64 a.seq] := by
    unfold Program.keyLits
    rw [Try.underlying36]
    simp [cellsId, cellsInt, Program.keyLits, Try.underlying3, h1, h2]
  rw [hn]
  simp [keyTypeId, Pid.v, Value.formed, Try.underlying36, cellsId, Value.cells, hk]
theorem rec_key {r : Rec} (h1 : i64 r.off) (h2 : r.key.size ≤ maxLen) (h3 : r.value.size ≤ maxLen) : IsKey Try.prog 49 r.v := by
  unfold i64 at h1
  unfold IsKey keyOf
  rw [Try.underlying49]
  obtain ⟨n, hn⟩ := size2
  have hk : Try.prog.keyLits (n + 2) 49 [.int .i64 r.off, .string r.key, .string r.value, .bool r.gone] = some [.int .i64 r.off, .string r.key.data.toList, .string r.value.data.toList, .bool r.gone] := by
    unfold Program.keyLits
    rw [Try.underlying49]
    simp [cellsRec, cellsInt, cellsStr, cellsBool, Program.keyLits, Try.underlying3, Try.underlying9, Try.underlying4, h1, h2, h3]
  rw [hn]
  simp [keyTypeRec, Rec.v, Value.formed, Try.underlying49, cellsRec, Value.cells, hk]
theorem id_v_inj {a b : Pid} (h : a.v = b.v) : a = b := by
  obtain ⟨p, q⟩ := a
  obtain ⟨p', q'⟩ := b
  simpa [Pid.v] using h
theorem rec_v_inj {a b : Rec} (h : a.v = b.v) : a = b := by
  obtain ⟨p, q, r, s⟩ := a
  obtain ⟨p', q', r', s'⟩ := b
  simpa [Rec.v] using h
end Go.Proofs.Ytkgidfehndkhmaa
