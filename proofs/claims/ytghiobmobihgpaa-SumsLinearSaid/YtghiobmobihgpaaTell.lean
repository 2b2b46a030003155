/- The walk of SumsTell. -/
import Derived.Test.YtghiobmobihgpaaAwake02
import Derived.Test.YtghiobmobihgpaaBytes
import Derived.Deep.DeepCutAuto
namespace Go.Proofs.Ytghiobmobihgpaa
open Go.RowKit Go.PostSums
theorem and255 (x : Int) : bits .and .i64 x 255 = x % 256 := by
  have h : (BitVec.ofInt 64 x &&& BitVec.ofInt 64 255).toNat = (x % 256).toNat := by
    rw [BitVec.toNat_and]
    have e2 : (BitVec.ofInt 64 255).toNat = 2 ^ 8 - 1 := by decide
    rw [e2, Nat.and_two_pow_sub_one_eq_mod, BitVec.toNat_ofInt]
    have h3 : ((2 ^ 64 : Nat) : Int) = 18446744073709551616 := by decide
    rw [h3]
    have h4 : (2 : Nat) ^ 8 = 256 := by decide
    rw [h4]
    omega
  have hb : 0 ≤ x % 256 ∧ x % 256 < 256 := ⟨Int.emod_nonneg _ (by decide), Int.emod_lt_of_pos _ (by decide)⟩
  show IntKind.i64.wrap ((BitVec.ofInt 64 x &&& BitVec.ofInt 64 255).toNat : Int) = _
  rw [h, IntKind.wrap_i64]
  omega
/-- the byte that stands there then -/
def told (l : List UInt8) (k d : Nat) : UInt8 := UInt8.ofNat (at8 l k ^^^ d)
theorem told_nat (l : List UInt8) (k d : Nat) (hd : d < 256) : (told l k d).toNat = at8 l k ^^^ d := by
  unfold told
  have : at8 l k ^^^ d < 2 ^ 8 := Nat.xor_lt_two_pow (at8_lt l k) hd
  rw [UInt8.toNat_ofNat', Nat.mod_eq_of_lt this]
theorem told_unlike (l : List UInt8) (k d : Nat) (hk : k < l.length) (hd : d < 256) (h0 : d ≠ 0) : Unlike l (l.set k (told l k d)) k where
  len := by simp
  lt := hk
  at_ := by
    rw [at8_set l k k _ hk, if_pos rfl, told_nat l k d hd]
    intro e
    have := congrArg (at8 l k ^^^ ·) e
    simp only [Nat.xor_self, ← Nat.xor_assoc, Nat.zero_xor] at this
    exact h0 this.symm
  else_ := fun i hi => by rw [at8_set l k i _ hk, if_neg hi]
theorem crc_unlike (l : List UInt8) (k : Nat) (x : UInt8) (hk : k < l.length) (h : x ≠ l[k]) : crcN 0 l ≠ crcN 0 (l.set k x) := by
  intro e
  have h1 : l = l.take k ++ l[k] :: l.drop (k + 1) := by rw [← List.drop_eq_getElem_cons hk, List.take_append_drop]
  have h2 : l.set k x = l.take k ++ x :: l.drop (k + 1) := by rw [List.set_eq_take_append_cons_drop, if_pos hk]
  rw [h2] at e
  conv at e => lhs; rw [h1]
  exact h (crcN_tell _ _ _ _ e).symm
/-- a place in a text, of whatever number -/
theorem place_lt (x : Int) (n : Nat) (hn : 0 < n) : -(n : Int) < x.tmod n ∧ x.tmod n < n := by
  have h1 := Int.tmod_lt_of_pos x (show (0 : Int) < n by omega)
  have h2 := Int.lt_tmod_of_pos x (show (0 : Int) < n by omega)
  exact ⟨h2, h1⟩
theorem xor_told (l : List UInt8) (k d : Nat) (hd : d < 256) : Go.bits .xor .u8 ((at8 l k : Nat) : Int) (d : Int) = (((told l k d).toNat : Nat) : Int) := by
  rw [told_nat l k d hd]; exact xor8 _ _ (at8_lt l k) hd
theorem crc_tell_unlike (l m : List UInt8) (k : Nat) (h : Unlike l m k) : crcN 0 l ≠ crcN 0 m := by
  have hk := h.lt
  have hk2 : k < m.length := by rw [← h.len]; exact hk
  have hm : m = l.set k m[k] := by
    apply List.ext_getElem?
    intro i
    rw [List.getElem?_set]
    by_cases e : k = i
    · subst e; simp [hk, hk2]
    · rw [if_neg e]
      have h1 := h.else_ i (Ne.symm e)
      by_cases hi : i < l.length
      · have hi2 : i < m.length := by rw [← h.len]; exact hi
        rw [at8_elem l i hi, at8_elem m i hi2] at h1
        rw [List.getElem?_eq_getElem hi, List.getElem?_eq_getElem hi2, UInt8.toNat_inj.1 h1]
      · have hlen := h.len
        rw [List.getElem?_eq_none (show m.length ≤ i by omega), List.getElem?_eq_none (show l.length ≤ i by omega)]
  rw [hm]
  refine crc_unlike l k _ hk (fun e => h.at_ ?_)
  rw [at8_elem l k hk, at8_elem m k hk2, e]
set_option maxHeartbeats 800000 in
theorem SumsTell_walk (s : ByteArray) (at_ by_ : Int) (w : World) (hs : s.size ≤ 140737488351232) (_ : (Lit.int .i64 at_).wf = true) (_ : (Lit.int .i64 by_).wf = true) :
    Calls Try.prog 6 #[.string s, .int .i64 at_, .int .i64 by_] w fun e w' => e = .returned (.bool true) ∧ Below w.heap.size w w' := by
  have hand := and255 by_
  have hml : s.size ≤ maxLen := by unfold maxLen; omega
  by_cases h0 : s.size = 0
  · have b0 : ((s.size : Int) == 0) = true := beq_iff_eq.2 (by omega)
    go_enter Try.func6, Try.ntmps6
    go_wp2_with (first
      | (go_at_call 13; refine (awake02 _).mono ?_; rintro e W3 ⟨rfl, hB3⟩))
    go_ret
    exact ⟨rfl, hB3⟩
  · have b0 : ((s.size : Int) == 0) = false := beq_eq_false_iff_ne.2 (by omega)
    by_cases h1 : 4096 < s.size
    · go_enter Try.func6, Try.ntmps6
      go_wp2_with (first
        | (go_at_call 13; refine (awake02 _).mono ?_; rintro e W3 ⟨rfl, hB3⟩))
      go_ret
      exact ⟨rfl, hB3⟩
    · by_cases h2 : by_ % 256 = 0
      · have b2 : (by_ % 256 == 0) = true := beq_iff_eq.2 h2
        clear h2
        go_enter Try.func6, Try.ntmps6
        go_wp2_with (first
          | (go_at_call 13; refine (awake02 _).mono ?_; rintro e W3 ⟨rfl, hB3⟩))
        go_ret
        exact ⟨rfl, hB3⟩
      · have b2 : (by_ % 256 == 0) = false := beq_eq_false_iff_ne.2 h2
        obtain ⟨d, hd⟩ : ∃ d : Nat, by_ % 256 = d := ⟨(by_ % 256).toNat, by omega⟩
        have hd1 : d < 256 := by omega
        have HD0 := Lib.hid (show d ≠ 0 by omega)
        rw [hd] at hand b2
        clear hd h2
        go_enter Try.func6, Try.ntmps6
        go_upto_if 29 with (fail)
        obtain ⟨p0, p1⟩ := place_lt at_ s.size (by omega)
        generalize at_.tmod (s.size : Int) = r at p0 p1
        go_cut [7] (fun v7 wx => v7 = .int .i64 (r.natAbs : Nat) ∧ wx = w)
        case first =>
          by_cases hr : r < 0
          · go_wp2_with fail
            go_meet
            exact ⟨congrArg _ (by omega), rfl⟩
          · go_wp2_with fail
            go_meet
            exact ⟨congrArg _ (by omega), rfl⟩
        case rest =>
          obtain ⟨rfl, rfl⟩ := hcut
          have hk : r.natAbs < s.size := by omega
          generalize r.natAbs = k at hk
          clear p0 p1
          have hkl : k < s.data.toList.length := by simpa using hk
          go_upto_region 7 with (refine wpList_conv rfl 9 30 (.tmp 32) rfl _ _ _ rfl (Lib.run_convert_string_bytes wc 9 30 5 s Try.underlying9 Try.underlying30 Try.underlying5) ?_)
          have HY := Lib.hid (bytes_made wc s)
          have HB1 := Lib.hid (below_made wc s)
          generalize Lib.bytesWorld wc 5 s = W1 at HY HB1
          generalize grownCap wc s.size 0 5 = cp
          generalize hB : wc.heap.size = B at HY
          have HBB := Lib.hid hB
          clear hB
          have ck := HY.out.cell k hkl
          have fk := HY.out.free k hkl
          have hx := xor_told s.data.toList k d hd1
          have HY2 := Lib.hid (HY.out.set k hkl (told s.data.toList k d))
          have HU := Lib.hid (told_unlike s.data.toList k d hkl hd1 HD0.out)
          have HL : Hid ((s.data.toList.set k (told s.data.toList k d)).length = s.size) := Lib.hid (by simp)
          generalize told s.data.toList k d = x at hx HY2 HU HL
          generalize at8 s.data.toList k = y at ck hx
          go_upto_region 8 with (fail)
          have HB2 : Hid (Below wc.heap.size wc (W1.setCell ⟨B, k, none⟩ (.int .u8 (x.toNat : Int)))) := Lib.hid (HB1.out.setCell (by rw [HBB.out]; exact Nat.le_refl _) _)
          generalize W1.setCell ⟨B, k, none⟩ (.int .u8 (x.toNat : Int)) = W2 at HY2 HB2
          have HC : Hid (crcN 0 s.data.toList ≠ crcN 0 (s.data.toList.set k x)) := Lib.hid (crc_tell_unlike _ _ _ HU.out)
          have HH : Hid (hashN 7 s.data.toList ≠ hashN 7 (s.data.toList.set k x)) := Lib.hid (hashN_unlike 7 _ _ k HU.out)
          generalize s.data.toList.set k x = l2 at HY2 HU HL HC HH
          clear ck fk hx hand b2
          have A1 := Lib.hid (fun w' => Crc_any s w' hml)
          have A2 := Lib.hid (fun w' => Crc_any (strOf l2) w' (by rw [strOf_size, HL.out]; exact hml))
          have A3 := Lib.hid (fun w' => Hash_any s 7 w' hs)
          have A4 := Lib.hid (fun w' => Hash_any (strOf l2) 7 w' (by rw [strOf_size, HL.out]; exact hs))
          rw [strOf_list, show ((7 : Int) % 4294967296).toNat = 7 from rfl] at A4
          rw [strOf_list] at A2
          rw [show ((7 : Int) % 4294967296).toNat = 7 from rfl] at A3
          have hn1 : (((crcN 0 s.data.toList : Nat) : Int) != ((crcN 0 l2 : Nat) : Int)) = true := by rw [bne_iff_ne]; intro e; exact HC.out (Int.ofNat.inj e)
          have hn2 : (((hashN 7 s.data.toList : Nat) : Int) != ((hashN 7 l2 : Nat) : Int)) = true := by rw [bne_iff_ne]; intro e; exact HH.out (Int.ofNat.inj e)
          generalize crcN 0 s.data.toList = c1 at hn1 A1
          generalize crcN 0 l2 = c2 at hn1 A2
          generalize hashN 7 s.data.toList = h1' at hn2 A3
          generalize hashN 7 l2 = h2' at hn2 A4
          go_wp2_with (first
            | (refine wpList_conv rfl 30 9 (.tmp 45) rfl _ _ _ rfl (run_bytes_back W2 B 0 s.size cp l2 HY2.out.at_ HL.out) ?_)
            | (go_at_call 11; with_reducible refine (A1.out _).mono ?_; rintro e V1 ⟨rfl, hV1⟩)
            | (go_at_call 11; with_reducible refine (A2.out _).mono ?_; rintro e V2 ⟨rfl, hV2⟩)
            | (go_at_call 14; with_reducible refine (A3.out _).mono ?_; rintro e V3 ⟨rfl, hV3⟩)
            | (go_at_call 14; with_reducible refine (A4.out _).mono ?_; rintro e V4 ⟨rfl, hV4⟩)
            | (go_at_call 13; refine (awake02 _).mono ?_; rintro e V5 ⟨rfl, hV5⟩))
          go_ret
          exact ⟨rfl, bstep (bstep (bstep (bstep (bstep HB2.out hV1) hV2) hV3) hV4) hV5⟩
end Go.Proofs.Ytghiobmobihgpaa
