/- The walk of SumsMore. -/
import Derived.Test.YtghiobmobihgpaaAwake02
import Derived.Test.YtghiobmobihgpaaBytes
namespace Go.Proofs.Ytghiobmobihgpaa
open Go.RowKit Go.PostSums
/-- the slice's strings, where they lie in memory -/
def Strings (w : World) (A : Option Addr) (n : Nat) (ss : List ByteArray) : Prop :=
  n = 0 ∨ ∃ a, A = some a ∧ ∀ i, i < n → w.cell? (a.add i) = some (.string (ss.getD i ByteArray.empty)) ∧ (ss.getD i ByteArray.empty).size ≤ 140737488351232
theorem Strings.below {w w' : World} {A : Option Addr} {n : Nat} {ss : List ByteArray} (h : Strings w A n ss) (hb : Below w.heap.size w w') : Strings w' A n ss := by
  rcases h with h | ⟨a, h1, h2⟩
  · exact .inl h
  · exact .inr ⟨a, h1, fun i hi => ⟨by rw [hb.cell (block_lt_of_cell (h2 i hi).1)]; exact (h2 i hi).1, (h2 i hi).2⟩⟩
theorem append_list (a b : ByteArray) : (a ++ b).data.toList = a.data.toList ++ b.data.toList := by simp
theorem append_size (a b : ByteArray) : (a ++ b).size = a.size + b.size := by simp
def MoreRel (w : World) (n : Nat) (v9 v10 v11 : Value) (wr : World) : Prop := ∃ (i : Nat) (S : ByteArray), i ≤ n ∧ v11 = .int .i64 (i : Int) ∧ v9 = .string S ∧ v10 = .int .i64 (crcN 0 S.data.toList : Nat) ∧ S.size ≤ 16384 ∧ Hid (Below w.heap.size w wr)
set_option maxHeartbeats 800000 in
theorem SumsMore_walk (A : Option Addr) (n cap : Nat) (ss : List ByteArray) (c : Int) (w : World) (hA : Strings w A n ss) (hn : n ≤ maxLen) (_ : (Lit.int .i64 c).wf = true) :
    Calls Try.prog 9 #[.slice A n cap, .int .i64 c] w fun e w' => e = .returned (.bool true) ∧ Below w.heap.size w w' := by
  unfold maxLen at hn
  have HA := Lib.hid hA
  clear hA
  have first : ∃ (x : Int) (y : Int), Hid (∀ w' : World, Calls Try.prog 18 #[.int .i64 c, .string ⟨#[109, 111, 114, 101]⟩] w' fun e w'' => e = .returned (.tuple #[.int .i64 x, .int .i64 y]) ∧ Below w'.heap.size w' w'') ∧
      Hid (∀ w' : World, Calls Try.prog 19 #[.int .i64 c, .string ⟨#[109, 111, 114, 101]⟩] w' fun e w'' => e = .returned (.tuple #[.int .i64 x, .int .i64 y]) ∧ w' = w'') := by
    by_cases hc : c < 0 ∨ 4294967295 < c
    · exact ⟨0, 1, Lib.hid (fun w' => CrcMore_bad c _ w' hc), Lib.hid (fun w' => RCrcMore_bad c _ w' hc)⟩
    · obtain ⟨q, rfl⟩ := Int.eq_ofNat_of_zero_le (show 0 ≤ c by omega)
      exact ⟨_, _, Lib.hid (fun w' => CrcMore_any q _ w' (by omega) (by decide)), Lib.hid (fun w' => RCrcMore_any q _ w' (by omega) (by decide))⟩
  obtain ⟨x, y, F1, F2⟩ := first
  have F3 : Hid (∀ w' : World, Calls Try.prog 11 #[.string ⟨#[]⟩] w' fun e w'' => e = .returned (.int .i64 (crcN 0 [] : Nat)) ∧ Below w'.heap.size w' w'') := Lib.hid (fun w' => Crc_any ⟨#[]⟩ w' (by decide))
  go_enter Try.func9, Try.ntmps9
  go_wp2_with (first
    | (go_at_call 18; with_reducible refine (F1.out _).mono ?_; rintro e W1 ⟨rfl, hW1⟩)
    | (go_at_call 19; with_reducible refine (F2.out _).mono ?_; rintro e W2 ⟨rfl, rfl⟩)
    | (go_at_call 11; with_reducible refine (F3.out _).mono ?_; rintro e W3 ⟨rfl, hW3⟩))
  have HB := Lib.hid (bstep hW1 hW3)
  clear hW1 hW3 F1 F2 F3
  go_loopw [9, 10, 11] (fun v9 v10 v11 wr => MoreRel w n v9 v10 v11 wr) (fun _ _ v11 _ => n - (intOf v11).toNat)
  case atStart => exact ⟨0, ⟨#[]⟩, by omega, rfl, rfl, rfl, by decide, HB⟩
  case round =>
    obtain ⟨i, S, hi, rfl, rfl, rfl, hS, HBr⟩ := hrel
    have hcl := crcN_lt 0 S.data.toList (by decide)
    by_cases hlt : i < n
    · rcases HA.out.below HBr.out with h0 | ⟨a, ha, hc⟩
      · omega
      subst ha
      obtain ⟨ci, szi⟩ := hc i hlt
      clear hc
      generalize ss.getD i ByteArray.empty = p at ci szi
      by_cases hbig : 16384 < S.size + p.size
      · go_wp2_with (first
          | (go_at_call 13; refine (awake02 _).mono ?_; rintro e V3 ⟨rfl, hV3⟩))
        go_ret
        exact ⟨rfl, bstep HBr.out hV3⟩
      · have HP := Lib.hid (crcN_append 0 S.data.toList p.data.toList)
        have HL := Lib.hid (append_list S p)
        have HZ := Lib.hid (append_size S p)
        have hpm : p.size ≤ maxLen := by unfold maxLen; omega
        generalize crcN 0 S.data.toList = q at hcl HP
        have C1 := Lib.hid (fun w' => CrcMore_any q p w' hcl hpm)
        go_wp2_with (first
          | (go_at_call 18; with_reducible refine (C1.out _).mono ?_; rintro e V1 ⟨rfl, hV1⟩))
        go_roundw
        case rel => exact ⟨i + 1, S ++ p, by omega, by go_num, rfl, by rw [HL.out, HP.out], by rw [HZ.out]; omega, Lib.hid (bstep HBr.out hV1)⟩
        case measure => simp [intOf]; omega
    · obtain rfl : i = n := by omega
      have hSm : S.size ≤ maxLen := by unfold maxLen; omega
      have C2 := Lib.hid (fun w' => Crc_any S w' hSm)
      generalize crcN 0 S.data.toList = q at hcl C2
      go_wp2_with (first
        | (go_at_call 11; with_reducible refine (C2.out _).mono ?_; rintro e V2 ⟨rfl, hV2⟩)
        | (go_at_call 13; refine (awake02 _).mono ?_; rintro e V3 ⟨rfl, hV3⟩))
      go_ret
      exact ⟨rfl, bstep (bstep HBr.out hV2) hV3⟩
end Go.Proofs.Ytghiobmobihgpaa
