/- A hasher that nobody made: Write and Sum of a nil one, and of an empty one; the walk of SumsNobody. -/
import Derived.Test.YtghiobmobihgpaaHashWalks
namespace Go.Proofs.Ytghiobmobihgpaa
open Go.RowKit Go.PostSums
set_option maxHeartbeats 400000 in
theorem Write_nil (s : ByteArray) (w : World) :
    Calls Try.prog 16 #[.pointer none, .string s] w fun e w' => e = .returned (.int .i64 1) ∧ w = w' := by
  go_enter Try.func16, Try.ntmps16
  go_wp2
  go_ret
  exact ⟨rfl, rfl⟩
set_option maxHeartbeats 400000 in
theorem Write_none (s : ByteArray) (b : Nat) (w : World) (h : w.cell? ⟨b, 0, none⟩ = some (.bool false)) :
    Calls Try.prog 16 #[.pointer (some ⟨b, 0, none⟩), .string s] w fun e w' => e = .returned (.int .i64 1) ∧ w = w' := by
  go_enter Try.func16, Try.ntmps16
  go_wp2
  go_ret
  exact ⟨rfl, rfl⟩
set_option maxHeartbeats 400000 in
theorem Sum_nil (w : World) :
    Calls Try.prog 17 #[.pointer none] w fun e w' => e = .returned (.int .i64 0) ∧ w = w' := by
  go_enter Try.func17, Try.ntmps17
  go_wp2
  go_ret
  exact ⟨rfl, rfl⟩
set_option maxHeartbeats 400000 in
theorem Sum_none (b : Nat) (w : World) (h : w.cell? ⟨b, 0, none⟩ = some (.bool false)) :
    Calls Try.prog 17 #[.pointer (some ⟨b, 0, none⟩)] w fun e w' => e = .returned (.int .i64 0) ∧ w = w' := by
  go_enter Try.func17, Try.ntmps17
  go_wp2
  go_ret
  exact ⟨rfl, rfl⟩
set_option maxHeartbeats 400000 in
theorem SumsNobody_walk (s : ByteArray) (w : World) (_ : s.size ≤ 140737488351232) :
    Calls Try.prog 5 #[.string s] w fun e w' => e = .returned (.bool true) ∧ Below w.heap.size w w' := by
  go_enter Try.func5, Try.ntmps5
  go_wp2_with fail
  generalize hW : ((w.alloc (Obj.cells #[Value.bool false, Value.int .u32 0, Value.int .u32 0, Value.int .u32 0, Value.int .u32 0, Value.int .u32 0, Value.int .i64 0, Value.slice none 0 0] 32)).alloc
    (Obj.cells #[Value.pointer none, Value.pointer (some ⟨w.heap.size, 0, none⟩)] 27)) = W
  have h1 := heap_alloc2_new w (Obj.cells #[Value.bool false, Value.int .u32 0, Value.int .u32 0, Value.int .u32 0, Value.int .u32 0, Value.int .u32 0, Value.int .i64 0, Value.slice none 0 0] 32) (Obj.cells #[Value.pointer none, Value.pointer (some ⟨w.heap.size, 0, none⟩)] 27)
  have h0 := heap_alloc2_old w (Obj.cells #[Value.bool false, Value.int .u32 0, Value.int .u32 0, Value.int .u32 0, Value.int .u32 0, Value.int .u32 0, Value.int .i64 0, Value.slice none 0 0] 32) (Obj.cells #[Value.pointer none, Value.pointer (some ⟨w.heap.size, 0, none⟩)] 27)
  have HB : Hid (Below w.heap.size w W) := Lib.hid (by rw [← hW]; exact ((Below.refl _ _).alloc (Nat.le_refl _) _).alloc (by simp) _)
  rw [hW] at h0 h1
  have c0 : W.cell? ⟨w.heap.size + 1, 0, none⟩ = some (.pointer none) := (cell_of_row W _ 0 _ _ _ h1).trans rfl
  have c1 : W.cell? ⟨w.heap.size + 1, 1, none⟩ = some (.pointer (some ⟨w.heap.size, 0, none⟩)) := (cell_of_row W _ 1 _ _ _ h1).trans rfl
  have c2 : W.cell? ⟨w.heap.size, 0, none⟩ = some (.bool false) := (cell_of_row W _ 0 _ _ _ h0).trans rfl
  clear h0 h1 hW
  go_loop [4] (fun v4 => ∃ k : Nat, k ≤ 2 ∧ v4 = .int .i64 k) (fun v4 => 2 - (intOf v4).toNat)
  case atStart => exact ⟨0, by omega, rfl⟩
  case round =>
    obtain ⟨k, hk, rfl⟩ := hrel
    by_cases hk0 : k = 0
    · subst hk0
      go_wp2_with (first
        | (go_at_call 16; refine (Write_nil s _).mono ?_; rintro e w' ⟨rfl, rfl⟩)
        | (go_at_call 17; refine (Sum_nil _).mono ?_; rintro e w' ⟨rfl, rfl⟩))
      go_round
      case rel => exact ⟨1, by omega, rfl⟩
      case measure => simp [intOf]
    · by_cases hk1 : k = 1
      · subst hk1
        go_wp2_with (first
          | (go_at_call 16; refine (Write_none s _ _ c2).mono ?_; rintro e w' ⟨rfl, rfl⟩)
          | (go_at_call 17; refine (Sum_none _ _ c2).mono ?_; rintro e w' ⟨rfl, rfl⟩))
        go_round
        case rel => exact ⟨2, by omega, rfl⟩
        case measure => simp [intOf]
      · obtain rfl : k = 2 := by omega
        go_wp2_with (first
          | (go_at_call 13; refine (awake02 _).mono ?_; rintro e W3 ⟨rfl, hB3⟩))
        go_ret
        exact ⟨rfl, HB.out.trans (hB3.mono HB.out.size)⟩
end Go.Proofs.Ytghiobmobihgpaa
