/- sums.table: each byte's share of a CRC-32C; sums.crc, sums.Crc, sums.CrcMore. -/
import Derived.Test.YtghiobmobihgpaaRows
import Derived.Test.YtghiobmobihgpaaBits
import Derived.Test.YtghiobmobihgpaaCrcPlain
import Derived.WalkKit
import Derived.WalkSpells
import Derived.WalkLawsBesides
import Derived.Deep.WholeRow
import Derived.Lib.Hide
namespace Go.Proofs.Ytghiobmobihgpaa
open Go.RowKit Go.PostSums
def u32s (l : List Nat) : Array Value := (l.map fun n : Nat => Value.int .u32 (n : Int)).toArray
def tab0 : List Nat := List.replicate 256 0
theorem zeroTab (w : World) : (zeroValue 53).run Try.prog w = .ok (.agg (u32s tab0)) w := by kernel_rfl
def tabTo (k : Nat) : List Nat := (List.range k).map entN ++ List.replicate (256 - k) 0
theorem u32s_get (l : List Nat) (i : Nat) : (u32s l)[i]? = (l[i]?).map (fun n : Nat => Value.int .u32 (n : Int)) := by
  simp [u32s]
theorem tab_get (k : Nat) (h : k < 256) : (u32s (tabTo k))[k]? = some (.int .u32 0) := by
  rw [u32s_get]
  unfold tabTo
  rw [List.getElem?_append_right (by simp)]
  simp [List.getElem?_replicate]; omega
theorem tab_set (k : Nat) (h : k < 256) : (u32s (tabTo k)).setIfInBounds k (.int .u32 (entN k : Nat)) = u32s (tabTo (k + 1)) := by
  apply Array.ext_getElem?
  intro i
  rw [Array.getElem?_setIfInBounds, u32s_get, u32s_get]
  have hs : (u32s (tabTo k)).size = 256 := by simp [u32s, tabTo]; omega
  rw [hs]
  unfold tabTo
  by_cases hik : k = i
  · subst hik
    simp [h, List.getElem?_append]
  · simp only [hik, if_false]
    congr 1
    simp only [List.getElem?_append, List.length_map, List.length_range, List.getElem?_replicate, List.getElem?_map]
    by_cases h1 : i < k
    · simp [h1, show i < k + 1 by omega]
    · simp [h1, show ¬ i < k + 1 by omega, show (i - k < 256 - k) = (i - (k + 1) < 256 - (k + 1)) by simp; omega]
theorem u32s_size (l : List Nat) : (u32s l).size = l.length := by simp [u32s]
theorem u32s_one (l : List Nat) : (u32s l).all (·.oneCell') = true := by
  rw [Array.all_eq_true_iff_forall_mem]
  intro v hv
  simp [u32s] at hv
  obtain ⟨n, _, rfl⟩ := hv
  rfl
theorem tab_size : (u32s (tabTo 256)).size = 256 := by rw [u32s_size]; unfold tabTo; rw [List.length_append, List.length_map, List.length_range, List.length_replicate]
theorem tab0_size : (u32s tab0).size = 256 := by rw [u32s_size]; unfold tab0; rw [List.length_replicate]
theorem tabTo_zero : tabTo 0 = tab0 := by unfold tabTo tab0; rw [List.range_zero, List.map_nil, List.nil_append, Nat.sub_zero]
theorem sizeTab : (Try.prog.info? 53).map (·.size) = some 256 := by kernel_rfl
theorem bit_int (c : Nat) (hc : c < 4294967296) :
    Go.bits .xor .u32 ((c : Int) / 2) ((2197175160 * Go.bits .and .u32 (c : Int) 1) % 4294967296) = ((bitN c : Nat) : Int) := by
  have h1 := and32 c 1 hc (by decide)
  rw [show ((1 : Nat) : Int) = 1 from rfl, Nat.and_one_is_mod] at h1
  rw [h1]
  have h2 := xor32 (c / 2) ((2197175160 * (c % 2)) % 4294967296) (by omega) (by omega)
  have e : ((2197175160 : Int) * ((c % 2 : Nat) : Int)) % 4294967296 = (((2197175160 * (c % 2)) % 4294967296 : Nat) : Int) := by omega
  rw [e, show ((c : Int) / 2) = ((c / 2 : Nat) : Int) by omega, h2]
  unfold bitN poly
  rw [Nat.shiftRight_eq_div_pow]
  rcases Nat.mod_two_eq_zero_or_one c with h | h <;> simp [h]
set_option maxHeartbeats 400000 in
set_option maxRecDepth 100000 in
theorem table_any (w : World) :
    Calls Try.prog 29 #[] w fun e w' => e = .returned (.agg (u32s (tabTo 256))) ∧ w' = w.alloc (.cells (u32s (tabTo 256)) 53) := by
  have hz := zeroTab
  go_enter Try.func29, Try.ntmps29
  go_wp2
  go_loopw [3] (fun v3 wr => ∃ k : Nat, k ≤ 256 ∧ v3 = .int .i64 k ∧ wr = w.alloc (.cells (u32s (tabTo k)) 53)) (fun v3 _ => 256 - (intOf v3).toNat)
  case atStart => exact ⟨0, by omega, rfl, by rw [tabTo_zero]⟩
  case round =>
    obtain ⟨k, hk, rfl, rfl⟩ := hrel
    by_cases hlt : k < 256
    · have hcell := tab_get k hlt
      go_wp2
      go_loop [2, 8] (fun v2 v8 => ∃ j : Nat, j ≤ 8 ∧ v8 = .int .i64 j ∧ v2 = .int .u32 (bitsN k j : Nat)) (fun _ v8 => 8 - (intOf v8).toNat)
      case atStart => exact ⟨0, by omega, rfl, rfl⟩
      case round =>
        obtain ⟨j, hj, rfl, rfl⟩ := hrel
        have hb := bitsN_lt k j (by omega)
        by_cases hlj : j < 8
        · have hbit := Lib.hid (bit_int (bitsN k j) hb)
          go_wp2
          go_round
          case rel => exact ⟨j+1, by omega, by go_num, by rw [hbit.out]; rfl⟩
          case measure => simp [intOf]; omega
        · obtain rfl : j = 8 := by omega
          go_wp2
          go_roundw
          case rel => exact ⟨k+1, by omega, by go_num, by rw [← tab_set k hlt]; rfl⟩
          case measure => simp [intOf]; omega
    · obtain rfl : k = 256 := by omega
      have hs := run_storeCells_new (P := Try.prog) w 53 (u32s (tabTo 256)) (u32s (tabTo 256)) (by rw [tab_size]; exact sizeTab) rfl (u32s_one _)
      go_wp2_with (refine wpList_load_row rfl 53 (.tmp 0) rfl w.heap.size rfl 53 (u32s (tabTo 256)) (0,0) _ (heap_alloc_last w _) Try.underlying53 rfl (by rw [tab_size]; exact sizeTab) ?_)
      all_goals exact bodyPost_ret (v := .agg (u32s (tabTo 256))) (results_cell_row (p := 0) (ty := 53) (by kernel_rfl) _ _ w.heap.size 53 _ (0,0) _ rfl (heap_alloc_last w _) Try.underlying53 rfl (by rw [tab_size]; exact sizeTab)) rfl ⟨rfl, rfl⟩
end Go.Proofs.Ytghiobmobihgpaa
