/- Numbers as bytes, the lowest first: bits.PutFixed, bits.Fixed, postroadref01.Fixed. -/
import Derived.Test.YtipadidfiffkjaaRows
import Derived.Test.YtipadidfiffkjaaMem2
import Derived.Test.YtipadidfiffkjaaRot
import Derived.WalkSpells
import Derived.WalkLawsBesides
import Derived.Deep.DeepCutAuto
namespace Go.Proofs.Ytipadidfiffkjaa
open Go.RowKit Go.PostSums Go.PostMem
/-- the number of the first k bytes -/
def leN (l : List UInt8) : Nat → Nat
  | 0 => 0
  | k + 1 => leN l k + at8 l k * 256 ^ k
theorem leN_lt (l : List UInt8) (k : Nat) : leN l k < 256 ^ k := by
  induction k with
  | zero => simp [leN]
  | succ k ih =>
    have := at8_lt l k
    rw [leN, Nat.pow_succ]
    have h2 : at8 l k * 256 ^ k ≤ 255 * 256 ^ k := Nat.mul_le_mul_right _ (by omega)
    omega
def fixedN (l : List UInt8) (k : Nat) : Nat × Nat := if l.length < k then (0, 5) else if 9223372036854775808 ≤ leN l k then (0, 10) else (leN l k, 0)
theorem pow256 (k : Nat) : (256 : Nat) ^ k = 2 ^ (8 * k) := by rw [Nat.pow_mul]
theorem at8_byte (s : ByteArray) (k : Nat) (h : k < s.size) : at8 s.data.toList k = s[k].toNat := by
  unfold at8; rw [List.getD_eq_getElem?_getD, List.getElem?_eq_getElem (by simpa using h)]; rfl
def FixPost (s : ByteArray) (n : Nat) (w : World) (e : Ending) (w' : World) : Prop :=
  e = .returned (.tuple #[.int .i64 ((fixedN s.data.toList n).1 : Int), .int .i64 ((fixedN s.data.toList n).2 : Int)]) ∧ w = w'
theorem or_at (x y : Nat) (k : Nat) (hk : k < 8) (hx : x < 256 ^ k) (hy : y < 256) : Go.bits .or .u64 (x : Int) (IntKind.u64.wrap ((y : Int) * 2 ^ (8 * k))) = ((x + y * 256 ^ k : Nat) : Int) := by
  rw [IntKind.wrap_u64]
  have hp : (256 : Nat) ^ k ≤ 256 ^ 7 := Nat.pow_le_pow_right (by decide) (by omega)
  have h7 : (256 : Nat) ^ 7 = 72057594037927936 := by decide
  have hyk : y * 256 ^ k ≤ 255 * 256 ^ k := Nat.mul_le_mul_right _ (by omega)
  have e1 : ((y : Int) * 2 ^ (8 * k) % 18446744073709551616) = ((y * 256 ^ k : Nat) : Int) := by
    rw [Int.emod_eq_of_lt]
    · rw [pow256]; simp
    · exact Int.mul_nonneg (by omega) (Int.pow_nonneg (by decide))
    · have : ((y : Int) * 2 ^ (8 * k)) = ((y * 256 ^ k : Nat) : Int) := by rw [pow256]; simp
      rw [this]; omega
  have comm : ∀ x y : Int, Go.bits .or .u64 x y = Go.bits .or .u64 y x := fun x y => by simp [Go.bits, BitVec.or_comm]
  rw [e1, comm, bits_join .u64 64 (by decide) (fun n h0 h1 => by rw [IntKind.wrap_u64]; omega) (8 * k) _ _ (by omega) ?_ (by omega) (by omega) ?_ (by omega)]
  · omega
  · have : ((2 : Int) ^ (8 * k)) = ((256 ^ k : Nat) : Int) := by rw [pow256]; simp
    rw [this]
    have := Nat.mul_mod_left y (256 ^ k)
    omega
  · have : ((2 : Int) ^ (8 * k)) = ((256 ^ k : Nat) : Int) := by rw [pow256]; simp
    rw [this]; omega
set_option maxRecDepth 100000 in
set_option maxHeartbeats 800000 in
theorem Fixed_any (s : ByteArray) (n : Nat) (w : World) (hs : s.size ≤ 140737488351232) (h1 : 1 ≤ n) (h8 : n ≤ 8) :
    Calls Try.prog 31 #[.string s, .int .i64 (n : Int)] w (FixPost s n w) := by
  by_cases hsh : s.size < n
  · have HP : Hid (fixedN s.data.toList n = (0, 5)) := Lib.hid (by unfold fixedN; rw [if_pos (by simpa using hsh)])
    have hsh' : (s.size : Int) < (n : Int) := by omega
    go_enter Try.func31, Try.ntmps31
    go_wp2_with fail
    go_ret2
    unfold FixPost
    rw [HP.out]
    exact ⟨rfl, rfl⟩
  · have hsh' : ¬ (s.size : Int) < (n : Int) := by omega
    go_enter Try.func31, Try.ntmps31
    go_wp2_with fail
    go_loop [6, 19] (fun v6 v19 => ∃ k : Nat, k ≤ n ∧ v19 = .int .i64 (k : Int) ∧ v6 = .int .u64 (leN s.data.toList k : Int)) (fun _ v19 => n - (intOf v19).toNat)
    case atStart => exact ⟨0, Nat.zero_le _, rfl, rfl⟩
    case round =>
      obtain ⟨k, hk, rfl, rfl⟩ := hrel
      by_cases hlt : k < n
      · have tl : (k : Int) < (n : Int) := by omega
        have ik : k < s.size := by omega
        have jk : (k : Int) < (s.size : Int) := by omega
        have HO := Lib.hid (or_at (leN s.data.toList k) s[k].toNat k (by omega) (leN_lt _ _) s[k].toNat_lt)
        have HA := Lib.hid (at8_byte s k ik)
        have hb8 := s[k].toNat_lt
        go_wp2_with fail
        go_round
        case rel => exact ⟨k + 1, by omega, by go_num, by rw [HO.out, leN, HA.out]⟩
        case measure => simp [intOf]; omega
      · obtain rfl : k = n := by omega
        have hu := leN_lt s.data.toList k
        have h64 : 256 ^ k ≤ 18446744073709551616 := Nat.le_trans (Nat.pow_le_pow_right (by decide) h8) (by decide)
        have hlen : s.data.toList.length = s.size := by simp
        have HP : Hid (fixedN s.data.toList k = if 9223372036854775808 ≤ leN s.data.toList k then (0, 10) else (leN s.data.toList k, 0)) := Lib.hid (by unfold fixedN; rw [if_neg (by rw [hlen]; omega)])
        clear hlen
        generalize leN s.data.toList k = u at hu HP
        have hu2 : u < 18446744073709551616 := by omega
        generalize 256 ^ k = q at hu h64
        clear hu h64
        by_cases hb : 9223372036854775808 ≤ u
        · have b1 : ((u : Int) / 9223372036854775808 != 0) = true := bne_iff_ne.2 (by omega)
          go_wp2_with fail
          go_ret2
          unfold FixPost
          rw [HP.out, if_pos hb]
          exact ⟨rfl, rfl⟩
        · have b1 : ((u : Int) / 9223372036854775808 != 0) = false := by rw [bne_eq_false_iff_eq]; omega
          go_wp2_with fail
          go_ret2
          unfold FixPost
          rw [HP.out, if_neg hb]
          exact ⟨rfl, rfl⟩
theorem shift_at (x y : Nat) (k : Nat) (hs : x + y * 256 ^ k < 9223372036854775808) : wrap64 ((x : Int) + wrap64 ((y : Int) * 2 ^ (8 * k))) = ((x + y * 256 ^ k : Nat) : Int) := by
  have e1 : ((y : Int) * 2 ^ (8 * k)) = ((y * 256 ^ k : Nat) : Int) := by rw [pow256]; simp
  rw [e1, wrap64_in ((y * 256 ^ k : Nat) : Int) (by omega) (by omega), wrap64_in _ (by omega) (by omega)]
  omega
theorem leN_mono (l : List UInt8) (j k : Nat) (h : j ≤ k) : leN l j ≤ leN l k := by
  induction k with
  | zero => rw [Nat.le_zero.1 h]; exact Nat.le_refl _
  | succ k ih =>
    rcases Nat.lt_or_ge k j with h2 | h2
    · rw [Nat.le_antisymm h h2]; exact Nat.le_refl _
    · exact Nat.le_trans (ih h2) (by rw [leN]; omega)
set_option maxRecDepth 100000 in
set_option maxHeartbeats 800000 in
theorem RFixed_any (s : ByteArray) (n : Nat) (w : World) (hs : s.size ≤ 140737488351232) (h1 : 1 ≤ n) (h8 : n ≤ 8) :
    Calls Try.prog 14 #[.string s, .int .i64 (n : Int)] w (FixPost s n w) := by
  by_cases hsh : s.size < n
  · have HP : Hid (fixedN s.data.toList n = (0, 5)) := Lib.hid (by unfold fixedN; rw [if_pos (by simpa using hsh)])
    have hsh' : (s.size : Int) < (n : Int) := by omega
    go_enter Try.func14, Try.ntmps14
    go_wp2_with fail
    go_ret2
    unfold FixPost
    rw [HP.out]
    exact ⟨rfl, rfl⟩
  · have hsh' : ¬ (s.size : Int) < (n : Int) := by omega
    have hlen : s.data.toList.length = s.size := by simp
    have HP : Hid (fixedN s.data.toList n = if 9223372036854775808 ≤ leN s.data.toList n then (0, 10) else (leN s.data.toList n, 0)) := Lib.hid (by unfold fixedN; rw [if_neg (by rw [hlen]; omega)])
    have hlt63 : n < 8 → leN s.data.toList n < 9223372036854775808 := fun h => Nat.lt_of_lt_of_le (leN_lt _ _) (Nat.le_trans (Nat.pow_le_pow_right (by decide) (show n ≤ 7 by omega)) (by decide))
    clear hlen
    by_cases hbig : 9223372036854775808 ≤ leN s.data.toList n
    · obtain rfl : n = 8 := by
        rcases Nat.lt_or_ge n 8 with h | h
        · have := hlt63 h; omega
        · omega
      have i7 : 7 < s.size := by omega
      have j7 : (7 : Int) < (s.size : Int) := by omega
      have h7 : 127 < s[7].toNat := by
        have h2 := leN_lt s.data.toList 7
        have h3 : leN s.data.toList 8 = leN s.data.toList 7 + at8 s.data.toList 7 * 256 ^ 7 := rfl
        rw [at8_byte s 7 i7, show (256 : Nat) ^ 7 = 72057594037927936 by decide] at h3
        rw [show (256 : Nat) ^ 7 = 72057594037927936 by decide] at h2
        omega
      have h7' : (127 : Int) < (s[7].toNat : Int) := by omega
      have HB := Lib.hid hbig
      clear hbig hlt63
      go_enter Try.func14, Try.ntmps14
      go_wp2_with fail
      go_ret2
      unfold FixPost
      rw [HP.out, if_pos HB.out]
      exact ⟨rfl, rfl⟩
    · have HPP : Hid (fixedN s.data.toList n = (leN s.data.toList n, 0)) := Lib.hid (by rw [HP.out, if_neg hbig])
      have HLT : Hid (leN s.data.toList n < 9223372036854775808) := Lib.hid (by omega)
      clear HP hlt63 hbig
      by_cases e8 : n = 8
      · subst e8
        have i7 : 7 < s.size := by omega
        have j7 : (7 : Int) < (s.size : Int) := by omega
        have h7 : ¬ 127 < s[7].toNat := by
          have h1 := HLT.out
          have h3 : leN s.data.toList 8 = leN s.data.toList 7 + at8 s.data.toList 7 * 256 ^ 7 := rfl
          rw [at8_byte s 7 i7, show (256 : Nat) ^ 7 = 72057594037927936 by decide] at h3
          omega
        have h7' : ¬ (127 : Int) < (s[7].toNat : Int) := by omega
        go_enter Try.func14, Try.ntmps14
        go_wp2_with fail
        go_loop [6, 7] (fun v6 v7 => ∃ k : Nat, k ≤ 8 ∧ v7 = .int .i64 (k : Int) ∧ v6 = .int .i64 (leN s.data.toList k : Int)) (fun _ v7 => 8 - (intOf v7).toNat)
        case atStart => exact ⟨0, Nat.zero_le _, rfl, rfl⟩
        case round =>
          obtain ⟨k, hk, rfl, rfl⟩ := hrel
          by_cases hlt : k < 8
          · have tl : (k : Int) < 8 := by omega
            have ik : k < s.size := by omega
            have jk : (k : Int) < (s.size : Int) := by omega
            have HA := Lib.hid (at8_byte s k ik)
            have hs1 := leN_mono s.data.toList (k + 1) 8 (by omega)
            have HO := Lib.hid (shift_at (leN s.data.toList k) s[k].toNat k (by rw [leN, HA.out] at hs1; have := HLT.out; omega))
            have hb8 := s[k].toNat_lt
            clear hs1
            go_wp2_with fail
            go_round
            case rel => exact ⟨k + 1, by omega, by go_num, by rw [HO.out, leN, HA.out]⟩
            case measure => simp [intOf]; omega
          · obtain rfl : k = 8 := by omega
            go_wp2_with fail
            go_ret2
            unfold FixPost
            rw [HPP.out]
            exact ⟨rfl, rfl⟩
      · have b8 : ((n : Int) == 8) = false := beq_eq_false_iff_ne.2 (by omega)
        clear e8
        go_enter Try.func14, Try.ntmps14
        go_wp2_with fail
        go_loop [6, 7] (fun v6 v7 => ∃ k : Nat, k ≤ n ∧ v7 = .int .i64 (k : Int) ∧ v6 = .int .i64 (leN s.data.toList k : Int)) (fun _ v7 => n - (intOf v7).toNat)
        case atStart => exact ⟨0, Nat.zero_le _, rfl, rfl⟩
        case round =>
          obtain ⟨k, hk, rfl, rfl⟩ := hrel
          by_cases hlt : k < n
          · have tl : (k : Int) < (n : Int) := by omega
            have ik : k < s.size := by omega
            have jk : (k : Int) < (s.size : Int) := by omega
            have HA := Lib.hid (at8_byte s k ik)
            have hs1 := leN_mono s.data.toList (k + 1) n (by omega)
            have HO := Lib.hid (shift_at (leN s.data.toList k) s[k].toNat k (by rw [leN, HA.out] at hs1; have := HLT.out; omega))
            have hb8 := s[k].toNat_lt
            clear hs1
            go_wp2_with fail
            go_round
            case rel => exact ⟨k + 1, by omega, by go_num, by rw [HO.out, leN, HA.out]⟩
            case measure => simp [intOf]; omega
          · obtain rfl : k = n := by omega
            go_wp2_with fail
            go_ret2
            unfold FixPost
            rw [HPP.out]
            exact ⟨rfl, rfl⟩
theorem infoU8 : (Try.prog.info? 5).map (fun i => (i.zero, i.size, i.bytes)) = some (some (.int .u8 0), 1, 1) := by kernel_rfl
def byteAt (n i : Nat) : UInt8 := UInt8.ofNat (n / 256 ^ i)
def le4 (n : Nat) : List UInt8 := [byteAt n 0, byteAt n 1, byteAt n 2, byteAt n 3]
def put4 (n k : Nat) : List UInt8 := [if 0 < k then byteAt n 0 else 0, if 1 < k then byteAt n 1 else 0, if 2 < k then byteAt n 2 else 0, if 3 < k then byteAt n 3 else 0]
theorem put4_step (n k : Nat) (hk : k < 4) : (put4 n k).set k (byteAt n k) = put4 n (k + 1) := by
  match k, hk with
  | 0, _ => simp [put4]
  | 1, _ => simp [put4]
  | 2, _ => simp [put4]
  | 3, _ => simp [put4]
theorem byteAt_int (n k : Nat) : ((n : Int) / 2 ^ (8 * k) % 256) = ((byteAt n k).toNat : Int) := by
  unfold byteAt
  rw [UInt8.toNat_ofNat', pow256]
  have : ((2 : Int) ^ (8 * k)) = ((2 ^ (8 * k) : Nat) : Int) := by simp
  rw [this]
  omega
set_option maxRecDepth 100000 in
set_option maxHeartbeats 800000 in
theorem PutFixed_four (n : Nat) (w : World) (hn : n < 4294967296) :
    Calls Try.prog 42 #[.int .i64 (n : Int), .int .i64 4] w fun e w' => e = .returned (.tuple #[.string (strOf (le4 n)), .int .i64 0]) ∧ Below w.heap.size w w' := by
  have b1 : ((n : Int) / 2147483648 / 2 != 0) = false := by rw [bne_eq_false_iff_eq]; omega
  go_enter Try.func42, Try.ntmps42
  go_upto_region 4 with (refine wpList_zeros rfl (.tmp 28) (.tmp 28) 30 rfl w.heap.size 5 infoU8 Try.underlying30 _ _ _ _ 4 rfl rfl rfl rfl (by decide) (Nat.le_refl _) ?_; intro w1 hb1 hg1)
  have HB1 := Lib.hid (And.intro hb1 (below_grown hg1 (fun k hk => nomatch hk) (Nat.le_refl _)))
  clear hb1 hg1
  obtain ⟨g, hg⟩ : ∃ g, g = w.heap.size := ⟨_, rfl⟩
  rw [← hg] at HB1 ⊢
  have HG := Lib.hid hg
  clear hg
  go_wp2_with fail
  go_loopw [31] (fun v31 wr => ∃ k : Nat, k ≤ 4 ∧ v31 = .int .i64 (k : Int) ∧ Hid (Buf wr g 5 (.slice (some ⟨g, 0, none⟩) 4 4) (put4 n k) ∧ Below g w wr)) (fun v31 _ => 4 - (intOf v31).toNat)
  case atStart => exact ⟨0, by omega, rfl, Lib.hid HB1.out⟩
  case round =>
    obtain ⟨k, hk, rfl, HI⟩ := hrel
    by_cases hlt : k < 4
    · have hfr := HI.out.1.free k
      have hck := HI.out.1.cellAt k (by simp [put4]; omega)
      have HBy := Lib.hid (byteAt_int n k)
      go_wp2_with fail
      go_roundw
      case rel => exact ⟨k + 1, by omega, by go_num, Lib.hid ⟨by rw [← put4_step n k hlt]; exact HI.out.1.set k (byteAt n k) _ HBy.out, HI.out.2.trans (below_grown (grown_set _ _ _ _) (fun j hj => by cases hj; exact Nat.le_refl _) (by rw [HG.out]; exact HI.out.2.size))⟩⟩
      case measure => simp [intOf]; omega
    · obtain rfl : k = 4 := by omega
      go_wp2_with (refine wpList_conv rfl 30 9 (.tmp 44) rfl _ _ _ rfl (HI.out.1.back Try.underlying30 Try.underlying5 Try.underlying9) ?_)
      go_ret2
      exact ⟨rfl, by rw [← HG.out]; exact HI.out.2⟩
theorem fixed_four (n : Nat) (w : World) (hn : n < 4294967296) :
    Calls Try.prog 28 #[.int .i64 (n : Int), .int .i64 4] w fun e w' => e = .returned (.string (strOf (le4 n))) ∧ Below w.heap.size w w' := by
  go_enter Try.func28, Try.ntmps28
  go_wp2_with (go_at_call 42; refine (PutFixed_four n _ hn).mono ?_; rintro e w1 ⟨rfl, hB1⟩)
  go_ret
  exact ⟨rfl, hB1⟩
theorem le4_leN (n : Nat) (hn : n < 4294967296) (r : List UInt8) : leN (le4 n ++ r) 4 = n := by
  simp only [leN, at8, le4, List.cons_append, List.getD_eq_getElem?_getD, List.getElem?_cons_zero, List.getElem?_cons_succ, Option.getD_some, byteAt, UInt8.toNat_ofNat']
  omega
end Go.Proofs.Ytipadidfiffkjaa
