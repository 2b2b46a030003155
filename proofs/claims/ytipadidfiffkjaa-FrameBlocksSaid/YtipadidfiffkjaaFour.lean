/- sums.four: the first four bytes of a slice, as a number. It only reads. -/
import Derived.Test.YtipadidfiffkjaaLeaf
import Derived.Test.YtipadidfiffkjaaQuietTail
namespace Go.Proofs.Ytipadidfiffkjaa
open Go.RowKit Go.PostSums
/-- from offset o of block B on lie these bytes -/
def bytesAt (w : World) (B o : Nat) (l : List UInt8) : Prop := ∀ i, i < l.length → w.cell? ⟨B, o + i, none⟩ = some (.int .u8 (at8 l i : Nat))
theorem bytesAt.drop {w : World} {B o : Nat} {l : List UInt8} (h : bytesAt w B o l) (n : Nat) : bytesAt w B (o + n) (l.drop n) := fun i hi => by
  rw [at8_drop, Nat.add_assoc]
  exact h (n + i) (by simp at hi; omega)
theorem bytesAt.of_block {w w' : World} {B o : Nat} {l : List UInt8} (h : bytesAt w B o l) (hb : w'.heap[B]? = w.heap[B]?) : bytesAt w' B o l := fun i hi => by
  rw [World.cell?_of_block (w := w) hb]; exact h i hi
theorem word_drop (l : List UInt8) (n : Nat) : word (l.drop n) 0 = word l n := by
  unfold word; simp only [at8_drop, Nat.zero_add, Nat.add_zero]
theorem or_four (a b c d : Nat) (ha : a < 256) (hb : b < 256) (hc : c < 256) (hd : d < 256) :
    Go.bits .or .u32 (Go.bits .or .u32 (Go.bits .or .u32 (a : Int) ((b : Int) * 256)) ((c : Int) * 65536)) ((d : Int) * 16777216) = ((a + 256 * b + 65536 * c + 16777216 * d : Nat) : Int) := by
  have join : ∀ (i : Nat) (x y : Int), 0 ≤ x → x % 2 ^ i = 0 → x < 2 ^ 32 → 0 ≤ y → y < 2 ^ i → y < 2 ^ 32 → Go.bits .or .u32 x y = x + y := fun i x y h1 h2 h3 h4 h5 h6 => bits_join .u32 32 (by decide) wrap_u32_in i x y h1 h2 h3 h4 h5 h6
  have comm : ∀ x y : Int, Go.bits .or .u32 x y = Go.bits .or .u32 y x := fun x y => by simp [Go.bits, BitVec.or_comm]
  have e1 : Go.bits .or .u32 (a : Int) ((b : Int) * 256) = (b : Int) * 256 + a := by
    rw [comm, join 8 _ _ (by omega) (by omega) (by omega) (by omega) (by omega) (by omega)]
  have e2 : Go.bits .or .u32 ((b : Int) * 256 + a) ((c : Int) * 65536) = (c : Int) * 65536 + ((b : Int) * 256 + a) := by
    rw [comm, join 16 _ _ (by omega) (by omega) (by omega) (by omega) (by omega) (by omega)]
  have e3 : Go.bits .or .u32 ((c : Int) * 65536 + ((b : Int) * 256 + a)) ((d : Int) * 16777216) = (d : Int) * 16777216 + ((c : Int) * 65536 + ((b : Int) * 256 + a)) := by
    rw [comm, join 24 _ _ (by omega) (by omega) (by omega) (by omega) (by omega) (by omega)]
  rw [e1, e2, e3]
  omega
set_option maxHeartbeats 400000 in
theorem four_any (B o n c : Nat) (l : List UInt8) (w : World) (hb : bytesAt w B o l) (hl : 4 ≤ l.length) (hn : 4 ≤ n) :
    Calls Try.prog 55 #[.slice (some ⟨B, o, none⟩) n c] w fun e w' => e = .returned (.int .u32 (word l 0 : Nat)) ∧ ∃ m, w' = w.drewN m := by
  have c0 := hb 0 (by omega)
  have c1 := hb 1 (by omega)
  have c2 := hb 2 (by omega)
  have c3 := hb 3 (by omega)
  rw [Nat.add_zero] at c0
  have l0 := at8_lt l 0; have l1 := at8_lt l 1; have l2 := at8_lt l 2; have l3 := at8_lt l 3
  have HW : Hid (word l 0 = at8 l 0 + 256 * at8 l 1 + 65536 * at8 l 2 + 16777216 * at8 l 3) := Lib.hid rfl
  generalize at8 l 0 = x0 at *
  generalize at8 l 1 = x1 at *
  generalize at8 l 2 = x2 at *
  generalize at8 l 3 = x3 at *
  have HR := Lib.hid (or_four x0 x1 x2 x3 l0 l1 l2 l3)
  clear hb
  have n0 : (0 : Int) < n := by omega
  have n1 : (1 : Int) < n := by omega
  have n2 : (2 : Int) < n := by omega
  have n3 : (3 : Int) < n := by omega
  have m0 : 0 < n := by omega
  have m1 : 1 < n := by omega
  have m2 : 2 < n := by omega
  have m3 : 3 < n := by omega
  go_enter Try.func55, Try.ntmps55
  go_wp2
  go_quiet (fail)
  go_wp2
  go_ret
  refine ⟨ret_intN ?_, _, rfl⟩
  rw [HW.out]
  exact HR.out
end Go.Proofs.Ytipadidfiffkjaa
