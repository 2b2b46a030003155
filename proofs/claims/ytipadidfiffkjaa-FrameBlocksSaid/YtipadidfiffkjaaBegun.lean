/- sums.begun, sums.NewHasher. -/
import Derived.Test.YtipadidfiffkjaaWrite
namespace Go.Proofs.Ytipadidfiffkjaa
open Go.RowKit Go.PostSums
theorem hcells_begun (seed : Nat) (hs : seed < 4294967296) :
    (#[.bool true, .int .u32 (seed : Int), .int .u32 (((seed : Int) + 2654435761 + 2246822519) % 4294967296), .int .u32 (((seed : Int) + 2246822519) % 4294967296), .int .u32 (seed : Int),
      .int .u32 (((seed : Int) - 2654435761) % 4294967296), .int .i64 0, .slice none 0 0] : Array Value) = hcells seed (.of seed) 0 (.slice none 0 0) := by
  have e1 : ((seed : Int) + 2654435761 + 2246822519) % 4294967296 = (((seed + q1 + q2) % 4294967296 : Nat) : Int) := by unfold q1 q2; omega
  have e2 : ((seed : Int) + 2246822519) % 4294967296 = (((seed + q2) % 4294967296 : Nat) : Int) := by unfold q2; omega
  have e3 : (seed : Int) = ((seed % 4294967296 : Nat) : Int) := by omega
  have e4 : ((seed : Int) - 2654435761) % 4294967296 = (((seed + 4294967296 - q1) % 4294967296 : Nat) : Int) := by unfold q1; omega
  rw [e1, e2, e4]
  unfold hcells Lanes.of
  rw [← e3]; rfl
set_option maxHeartbeats 400000 in
theorem begun_any (seed : Nat) (w : World) (hs : seed < 4294967296) :
    Calls Try.prog 48 #[.int .u32 (seed : Int)] w fun e w' => e = .returned (.pointer (some ⟨w.heap.size, 0, none⟩)) ∧
      w' = w.alloc (.cells (hcells seed (.of seed) 0 (.slice none 0 0)) 89) := by
  have HC := Lib.hid (hcells_begun seed hs)
  go_enter Try.func48, Try.ntmps48
  go_wp2
  go_ret
  exact ⟨rfl, by rw [HC.out]⟩
theorem hasher_new (seed : Nat) (w : World) : IsHasher (w.alloc (.cells (hcells seed (.of seed) 0 (.slice none 0 0)) 89)) w.heap.size seed (.of seed) 0 [] :=
  ⟨none, 0, heap_alloc_new w _, Nat.le_refl _, of_ok _, .inl rfl⟩
end Go.Proofs.Ytipadidfiffkjaa
