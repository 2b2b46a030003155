/- The walks of FrameBack and FrameTwo. -/
import Derived.Test.YtipadidfiffkjaaFrAwake
namespace Go.Proofs.Ytipadidfiffkjaa
open Go.RowKit Go.PostSums Go.PostMem
/-- the frame of a text, as a string, and how long it is at most -/
theorem framed (s : ByteArray) : ∃ z : ByteArray, z.data.toList = frPack s.data.toList ∧ z.size = (frPack s.data.toList).length ∧ 15 ≤ z.size ∧ z.size ≤ 15 + 9 * s.size := by
  refine ⟨strOf (frPack s.data.toList), strOf_list _, strOf_size _, ?_, ?_⟩
  · rw [strOf_size, frPack_len]; omega
  · rw [strOf_size, frPack_len]
    have := partsB_len s.size s.data.toList (by rw [list_size]; exact Nat.le_refl _)
    rw [list_size] at this
    omega
set_option maxRecDepth 100000 in
set_option maxHeartbeats 1600000 in
theorem FrameBack_walk (s tail : ByteArray) (w : World) (hs : s.size ≤ 140737488351232) (ht : tail.size ≤ 140737488351232) :
    Calls Try.prog 4 #[.string s, .string tail] w fun e w' => e = .returned (.bool true) ∧ Below w.heap.size w w' := by
  by_cases h1 : 16384 < s.size
  · have h1' : (16384 : Int) < (s.size : Int) := by omega
    go_enter Try.func4, Try.ntmps4
    go_wp2_with (go_at_call 12; (with_reducible refine (awake07 _).mono ?_); rintro e W3 ⟨rfl, hB3⟩)
    go_ret
    exact ⟨rfl, hB3⟩
  · have h1' : ¬ (16384 : Int) < (s.size : Int) := by omega
    by_cases h2 : 16384 < tail.size
    · have h2' : (16384 : Int) < (tail.size : Int) := by omega
      go_enter Try.func4, Try.ntmps4
      go_wp2_with (go_at_call 12; (with_reducible refine (awake07 _).mono ?_); rintro e W3 ⟨rfl, hB3⟩)
      go_ret
      exact ⟨rfl, hB3⟩
    · have h2' : ¬ (16384 : Int) < (tail.size : Int) := by omega
      obtain ⟨z, hz, hzl, hz15, hzs⟩ := framed s
      obtain ⟨y, hy⟩ : ∃ y, y = z ++ tail := ⟨_, rfl⟩
      have hyl : y.data.toList = frPack s.data.toList ++ tail.data.toList := by rw [hy, ← hz]; simp
      have hys : y.size ≤ 140737488351232 := by rw [hy, ByteArray.size_append]; omega
      have HU : Hid (frUnpack y.data.toList (s.size : Int) = (s.data.toList, z.size, 0)) := Lib.hid (by
        rw [hyl, hzl]; exact frUnpack_back _ _ _ (by rw [list_size]; exact Nat.le_refl _) (by omega))
      have HZ := Lib.hid hz
      have HY := Lib.hid hy.symm
      clear hz hy hyl hzl
      have hsum : ¬ 9223372036854775807 < z.size + tail.size := by omega
      go_enter Try.func4, Try.ntmps4
      go_wp2_with (first
        | (go_at_call 13; (with_reducible refine (FPack_is s z _ HZ.out (by omega)).mono ?_); rintro e W0 ⟨rfl, hB0⟩)
        | (go_at_call 11; rw [HY.out]; (with_reducible refine (RFUnpack_is y (s.size : Int) s z.size 0 _ hys HU.out).mono ?_); rintro e W2 ⟨rfl, hB2⟩)
        | (go_at_call 10; (try rw [HY.out]); (with_reducible refine (FUnpack_is y (s.size : Int) s z.size 0 _ hys HU.out).mono ?_); rintro e W1 ⟨rfl, hB1⟩)
        | (go_at_call 12; (with_reducible refine (awake07 _).mono ?_); rintro e W3 ⟨rfl, hB3⟩))
      go_ret
      exact ⟨rfl, bstep (bstep (bstep hB0 hB2) hB1) hB3⟩
set_option maxRecDepth 100000 in
set_option maxHeartbeats 1600000 in
theorem FrameTwo_walk (s t : ByteArray) (w : World) (hs : s.size ≤ 140737488351232) (ht : t.size ≤ 140737488351232) :
    Calls Try.prog 9 #[.string s, .string t] w fun e w' => e = .returned (.bool true) ∧ Below w.heap.size w w' := by
  by_cases h1 : 4096 < s.size
  · have h1' : (4096 : Int) < (s.size : Int) := by omega
    go_enter Try.func9, Try.ntmps9
    go_wp2_with (go_at_call 12; (with_reducible refine (awake07 _).mono ?_); rintro e W3 ⟨rfl, hB3⟩)
    go_ret
    exact ⟨rfl, hB3⟩
  · have h1' : ¬ (4096 : Int) < (s.size : Int) := by omega
    by_cases h2 : 4096 < t.size
    · have h2' : (4096 : Int) < (t.size : Int) := by omega
      go_enter Try.func9, Try.ntmps9
      go_wp2_with (go_at_call 12; (with_reducible refine (awake07 _).mono ?_); rintro e W3 ⟨rfl, hB3⟩)
      go_ret
      exact ⟨rfl, hB3⟩
    · have h2' : ¬ (4096 : Int) < (t.size : Int) := by omega
      obtain ⟨z, hz, hzl, hz15, hzs⟩ := framed s
      obtain ⟨v, hv, hvl, hv15, hvs⟩ := framed t
      obtain ⟨y, hy⟩ : ∃ y, y = z ++ v := ⟨_, rfl⟩
      have hyl : y.data.toList = frPack s.data.toList ++ frPack t.data.toList := by rw [hy, ← hz, ← hv]; simp
      have hyz : y.size = z.size + v.size := by rw [hy, ByteArray.size_append]
      have hys : y.size ≤ 140737488351232 := by omega
      have HU : Hid (frUnpack y.data.toList (s.size : Int) = (s.data.toList, z.size, 0)) := Lib.hid (by
        rw [hyl, hzl]; exact frUnpack_back _ _ _ (by rw [list_size]; exact Nat.le_refl _) (by omega))
      have HU2 : Hid (frUnpack v.data.toList (t.size : Int) = (t.data.toList, v.size, 0)) := Lib.hid (by
        rw [hv, hvl]
        have := frUnpack_back t.data.toList [] t.size (by rw [list_size]; exact Nat.le_refl _) (by omega)
        rwa [List.append_nil] at this)
      have HE : Hid ((z ++ v).extract z.size (z.size + v.size) = v) := Lib.hid (by
        rw [← hyz, ← hy]
        rw [← strOf_self (y.extract z.size y.size), ← strOf_self v]
        congr 1
        have : (y.extract z.size y.size).data.toList = y.data.toList.drop z.size := by simp [List.take_of_length_le]
        rw [this, hyl, hzl, List.drop_left, hv])
      have hvb : v.size ≤ 140737488351232 := by omega
      have k1 : (z.size : Int) ≤ (y.size : Int) := by omega
      have HZ := Lib.hid hz
      have HV := Lib.hid hv
      have HY := Lib.hid hy.symm
      clear hz hv hy hyl hzl hvl hyz
      have hsum : ¬ 9223372036854775807 < z.size + v.size := by omega
      go_enter Try.func9, Try.ntmps9
      go_wp2_with (first
        | (go_at_call 13; (with_reducible refine (FPack_is s z _ HZ.out (by omega)).mono ?_); rintro e W0 ⟨rfl, hB0⟩)
        | (go_at_call 13; (with_reducible refine (FPack_is t v _ HV.out (by omega)).mono ?_); rintro e W4 ⟨rfl, hB4⟩)
        | (go_at_call 10; rw [HY.out]; (with_reducible refine (FUnpack_is y (s.size : Int) s z.size 0 _ hys HU.out).mono ?_); rintro e W1 ⟨rfl, hB1⟩)
        | (go_at_call 10; rw [HE.out]; (with_reducible refine (FUnpack_is v (t.size : Int) t v.size 0 _ hvb HU2.out).mono ?_); rintro e W2 ⟨rfl, hB2⟩)
        | (go_at_call 12; (with_reducible refine (awake07 _).mono ?_); rintro e W3 ⟨rfl, hB3⟩))
      go_ret
      exact ⟨rfl, bstep (bstep (bstep (bstep hB0 hB4) hB1) hB2) hB3⟩
end Go.Proofs.Ytipadidfiffkjaa
