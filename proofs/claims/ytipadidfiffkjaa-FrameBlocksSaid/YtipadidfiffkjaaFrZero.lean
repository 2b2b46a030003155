/- The plain law: a text of zeros is packed into little. -/
import Derived.Test.YtipadidfiffkjaaFrLaw
namespace Go.Proofs.Ytipadidfiffkjaa
open Go.RowKit Go.PostSums Go.PostMem
def zeros (n : Nat) : List UInt8 := List.replicate n 0
theorem zeros_len (n : Nat) : (zeros n).length = n := List.length_replicate
theorem zeros_getD (n i : Nat) : (zeros n).getD i 0 = 0 := by
  unfold zeros
  rw [List.getD_eq_getElem?_getD, List.getElem?_replicate]
  split <;> rfl
theorem zeros_ml (N p a : Nat) (k : Nat) : ∀ n, N - (a + n) = k → a + n + 5 ≤ N → PostLz.ml (zeros N) p a n = N - a - 5 := by
  induction k with
  | zero => intro n h1 h2; omega
  | succ k ih =>
    intro n h1 h2
    rw [PostLz.ml, zeros_len, zeros_getD, zeros_getD]
    by_cases h : a + n + 5 < N
    · rw [if_pos ⟨h, rfl⟩]
      exact ih (n + 1) (by omega) (by omega)
    · rw [if_neg (fun c => h c.1)]
      omega
theorem zeros_key (N a : Nat) (h : a + 4 ≤ N) : PostLz.key4 (zeros N) a = [0, 0, 0, 0] := by
  unfold PostLz.key4 zeros
  rw [List.drop_replicate, List.take_replicate, show min 4 (N - a) = 4 by omega]
  rfl
theorem zeros_pack (N : Nat) (h : 13 ≤ N) : PostLz.pack (zeros N) = PostLz.seqB [0] 1 (N - 6) ++ PostLz.lastB [0, 0, 0, 0, 0] := by
  unfold PostLz.pack
  rw [PostLz.packFrom, zeros_len, if_pos (by omega), zeros_key N 0 (by omega)]
  simp only
  rw [PostLz.packFrom, zeros_len, if_pos (by omega), zeros_key N 1 (by omega)]
  have e : PostLz.upd (fun _ => none) [0, 0, 0, 0] 0 [0, 0, 0, 0] = some 0 := by unfold PostLz.upd; rw [if_pos rfl]
  rw [show 0 + 1 = 1 from rfl, e]
  simp only
  rw [if_neg (by decide), zeros_ml N 0 1 (N - (1 + 4)) 4 rfl (by omega), show N - 1 - 5 = N - 6 by omega]
  rw [PostLz.packFrom, zeros_len, if_neg (by omega)]
  have d1 : ((zeros N).drop 0).take (1 - 0) = [0] := by
    unfold zeros
    rw [List.drop_zero, List.take_replicate, show min (1 - 0) N = 1 by omega]
    rfl
  have d2 : (zeros N).drop (1 + (N - 6)) = [0, 0, 0, 0, 0] := by
    unfold zeros
    rw [List.drop_replicate, show N - (1 + (N - 6)) = 5 by omega]
    rfl
  rw [d1, d2]
theorem zeros_sizeN (N : Nat) (h : 13 ≤ N) (h2 : ¬ N - 6 - 4 < 15) : (PostLz.pack (zeros N)).length = (N - 6 - 4 - 15) / 255 + 11 := by
  rw [zeros_pack N h, List.length_append]
  unfold PostLz.seqB PostLz.lastB PostLz.headB
  rw [List.length_append, PostLz.tailB_len, PostLz.numB_len, if_neg h2]
  generalize (N - 6 - 4 - 15) / 255 = q
  show 2 + (2 + (q + 1)) + 6 = _
  omega
theorem zeros_size : ∀ N, N = 65536 → (PostLz.pack (zeros N)).length = 267 := by
  intro N h
  rw [zeros_sizeN N (by omega) (by omega)]
  omega
theorem zeros_block : ∀ N, N = 65536 → (blockB (zeros N)).length = 275 := by
  intro N h
  have hz := zeros_size N h
  unfold blockB
  rw [zeros_len, hz, if_neg (by omega)]
  simp only [List.length_append, le4_length, hz]
theorem zeros_parts (k : Nat) : (partsB (zeros (k * 65536))).length = 275 * k := by
  induction k with
  | zero => rw [Nat.zero_mul]; show (partsB []).length = _; rw [partsB_nil]; rfl
  | succ k ih =>
    have hne : zeros ((k + 1) * 65536) ≠ [] := by
      intro h
      have := congrArg List.length h
      rw [zeros_len, List.length_nil] at this
      omega
    have e1 : (zeros ((k + 1) * 65536)).take 65536 = zeros 65536 := by
      unfold zeros
      rw [List.take_replicate, show min 65536 ((k + 1) * 65536) = 65536 by omega]
    have e2 : (zeros ((k + 1) * 65536)).drop 65536 = zeros (k * 65536) := by
      unfold zeros
      rw [List.drop_replicate, show (k + 1) * 65536 - 65536 = k * 65536 by omega]
    rw [partsB_cons _ hne, e1, e2, List.length_append, zeros_block 65536 rfl, ih]
    omega
theorem zeros_frame : (frPack (zeros 1048576)).length = 4415 := by
  rw [frPack_len]
  have := zeros_parts 16
  rw [show 16 * 65536 = 1048576 from rfl] at this
  rw [this]
end Go.Proofs.Ytipadidfiffkjaa
