/- Texts as bytes in memory, and back: the conversions between a string and a slice of bytes. -/
import Derived.Test.YtipadidfiffkjaaHash
import Derived.Test.YtipadidfiffkjaaMem
import Derived.Lib.ConvBytes
import Derived.Laws.BytesArg
namespace Go.Proofs.Ytipadidfiffkjaa
open Go.RowKit Go.PostSums Go.PostMem
/-- block B begins with these bytes, and they may be written -/
def Bytes (w : World) (B : Nat) (l : List UInt8) : Prop := ∃ cs t fr, w.heap[B]? = some (.cells cs t fr) ∧ ∀ i, i < l.length → cs[i]? = some (.int .u8 (at8 l i : Nat)) ∧ ¬ (fr.1 ≤ i ∧ i < fr.2)
theorem Bytes.cell {w : World} {B : Nat} {l : List UInt8} (h : Bytes w B l) (i : Nat) (hi : i < l.length) : w.cell? ⟨B, i, none⟩ = some (.int .u8 (at8 l i : Nat)) := by
  obtain ⟨cs, t, fr, hb, hc⟩ := h
  rw [cell_of_row w B i cs t fr hb]; exact (hc i hi).1
theorem Bytes.free {w : World} {B : Nat} {l : List UInt8} (h : Bytes w B l) (i : Nat) (hi : i < l.length) : w.frozen? ⟨B, i, none⟩ = false := by
  obtain ⟨cs, t, fr, hb, hc⟩ := h
  have := (hc i hi).2
  simp only [World.frozen?, hb]
  simpa using this
theorem Bytes.at_ {w : World} {B : Nat} {l : List UInt8} (h : Bytes w B l) : bytesAt w B 0 l := fun i hi => by rw [Nat.zero_add]; exact h.cell i hi
theorem Bytes.of_block {w w' : World} {B : Nat} {l : List UInt8} (h : Bytes w B l) (hb : w'.heap[B]? = w.heap[B]?) : Bytes w' B l := by
  obtain ⟨cs, t, fr, h1, h2⟩ := h
  exact ⟨cs, t, fr, hb.trans h1, h2⟩
theorem at8_set (l : List UInt8) (k i : Nat) (x : UInt8) (hk : k < l.length) : at8 (l.set k x) i = if i = k then x.toNat else at8 l i := by
  unfold at8
  simp only [List.getD_eq_getElem?_getD, List.getElem?_set]
  by_cases h : k = i
  · subst h; simp [hk]
  · simp [h, Ne.symm h]
theorem Bytes.set {w : World} {B : Nat} {l : List UInt8} (h : Bytes w B l) (k : Nat) (hk : k < l.length) (x : UInt8) : Bytes (w.setCell ⟨B, k, none⟩ (.int .u8 (x.toNat : Int))) B (l.set k x) := by
  obtain ⟨cs, t, fr, hb, hc⟩ := h
  refine ⟨cs.setIfInBounds k (.int .u8 (x.toNat : Int)), t, fr, ?_, fun i hi => ?_⟩
  · simp [World.setCell, Array.getElem?_modify, hb]
  · rw [List.length_set] at hi
    refine ⟨?_, (hc i hi).2⟩
    rw [at8_set l k i x hk, Array.getElem?_setIfInBounds]
    have hks : k < cs.size := (Array.getElem?_eq_some_iff.1 (hc k hk).1).1
    by_cases e : k = i
    · subst e; simp [hks]
    · simp [e, Ne.symm e, (hc i hi).1]
theorem bytes_made (w : World) (s : ByteArray) : Bytes (Lib.bytesWorld w 5 s) w.heap.size s.data.toList := by
  refine ⟨_, _, _, Lib.bytesWorld_at_new w 5 s, fun i hi => ?_⟩
  have hi' : i < s.size := by simpa using hi
  have hc := Lib.bytesWorld_cell w 5 s i hi'
  rw [cell_of_row _ _ i _ _ _ (Lib.bytesWorld_at_new w 5 s)] at hc
  refine ⟨hc, ?_⟩
  have : i < (Lib.bytesCells w 5 s).size := (Array.getElem?_eq_some_iff.1 hc).1
  simp only; omega
theorem below_made (w : World) (s : ByteArray) : Below w.heap.size w (Lib.bytesWorld w 5 s) :=
  ⟨rfl, rfl, rfl, by rw [Lib.bytesWorld_size]; omega, fun k hk => Lib.bytesWorld_at_old w _ s k hk⟩
theorem run_bytes_back (w : World) (B o n c : Nat) (l : List UInt8) (h : bytesAt w B o l) (hn : l.length = n) :
    (convert 30 9 (.slice (some ⟨B, o, none⟩) n c)).run Try.prog w = .ok (.string (strOf l)) w := by
  have hr := run_convert_bytes_arg (P := Try.prog) w 30 5 Try.underlying30 Try.underlying5 B o n c (l.map fun b => (b.toNat : Int)) (by rw [List.length_map]; exact hn)
    (fun i hi => by
      rw [h i (by omega)]
      have : (l.map fun b => (b.toNat : Int)).getD i 0 = ((at8 l i : Nat) : Int) := by
        unfold at8
        rw [List.getD_eq_getElem?_getD, List.getD_eq_getElem?_getD, List.getElem?_map, List.getElem?_eq_getElem (show i < l.length by omega)]
        rfl
      rw [this]) 9 Try.underlying9
  rw [hr]
  have : strOfNums (l.map fun b => (b.toNat : Int)) = strOf l := by
    have hd := strOfNums_data (l.map fun b => (b.toNat : Int))
    rw [List.map_map] at hd
    have e : (l.map ((fun n : Int => UInt8.ofNat n.toNat) ∘ fun b : UInt8 => (b.toNat : Int))) = l := by
      conv => rhs; rw [← List.map_id l]
      apply List.map_congr_left
      intro x _
      simp
    rw [e] at hd
    rw [← strOf_self (strOfNums _), hd]
  rw [this]
end Go.Proofs.Ytipadidfiffkjaa
