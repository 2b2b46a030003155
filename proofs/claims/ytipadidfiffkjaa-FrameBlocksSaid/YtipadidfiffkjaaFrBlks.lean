/- The walk of FrameBlocks. -/
import Derived.Test.YtipadidfiffkjaaFrCuts
import Derived.Test.YtipadidfiffkjaaFrZero
namespace Go.Proofs.Ytipadidfiffkjaa
open Go.RowKit Go.PostSums Go.PostMem
def sliceLen : Value → Nat
  | .slice _ n _ => n
  | _ => 0
theorem andI18 (x : Int) : bits .and .i64 x 262143 = x % 262144 := by
  have h : (BitVec.ofInt 64 x &&& BitVec.ofInt 64 262143).toNat = (x % 262144).toNat := by
    rw [BitVec.toNat_and]
    have e2 : (BitVec.ofInt 64 262143).toNat = 2 ^ 18 - 1 := by decide
    rw [e2, Nat.and_two_pow_sub_one_eq_mod, BitVec.toNat_ofInt]
    have h3 : ((2 ^ 64 : Nat) : Int) = 18446744073709551616 := by decide
    rw [h3]
    have h4 : (2 : Nat) ^ 18 = 262144 := by decide
    rw [h4]
    omega
  have hb : 0 ≤ x % 262144 ∧ x % 262144 < 262144 := ⟨Int.emod_nonneg _ (by decide), Int.emod_lt_of_pos _ (by decide)⟩
  show IntKind.i64.wrap ((BitVec.ofInt 64 x &&& BitVec.ofInt 64 262143).toNat : Int) = _
  rw [h, IntKind.wrap_i64]
  omega
/-- how many blocks a text has -/
def many (n : Nat) : Nat := (n + 65535) / 65536
theorem many_step (n : Nat) (h : n ≠ 0) : many n = 1 + many (n - 65536) := by unfold many; omega
/-- what stands at a block's place -/
theorem block_at (Z r D : List UInt8) (a : Nat) (h : Z.drop a = partsB r ++ D) (h0 : r ≠ []) : ∃ N m, leN (Z.drop a) 4 = N ∧ N ≠ 0 ∧ N < 4294967296 ∧ N % 2147483648 = m ∧ Z.drop (a + 8 + m) = partsB (r.drop 65536) ++ D ∧ a + 8 + m ≤ Z.length := by
  have ht0 : r.take 65536 ≠ [] := by
    intro e
    have := congrArg List.length e
    rw [List.length_take, List.length_nil] at this
    have h1 : r.length ≠ 0 := by simpa using h0
    omega
  obtain ⟨N, x, hb, hN, hN0, hlo, hx0, hxl, hans⟩ := block_is (r.take 65536) ht0 (by simp; omega)
  rw [partsB_cons r h0, hb] at h
  have h' : Z.drop a = (le4 N ++ x ++ le4 (hashN 0 x)) ++ (partsB (r.drop 65536) ++ D) := by rw [h]; simp only [List.append_assoc]
  have hl := len_drop h' (by simp [le4])
  have hal : (le4 N ++ x ++ le4 (hashN 0 x)).length = 8 + x.length := by
    simp only [List.length_append, le4_length]; omega
  refine ⟨N, x.length, ?_, hN0, hN, hlo, ?_, ?_⟩
  · rw [h]
    simp only [List.append_assoc]
    exact le4_leN N hN _
  · rw [show a + 8 + x.length = a + (8 + x.length) by omega]
    exact drop_more h' (8 + x.length) hal.symm
  · rw [List.length_append, hal] at hl
    omega
set_option maxRecDepth 100000 in
set_option maxHeartbeats 3200000 in
theorem FrameBlocks_walk (s : ByteArray) (many_ : Int) (w : World) (hs : s.size ≤ 140737488351232) (_ : (Lit.int .i64 many_).wf = true) :
    Calls Try.prog 5 #[.string s, .int .i64 many_] w fun e w' => e = .returned (.bool true) ∧ Below w.heap.size w w' := by
  have hand := andI18 many_
  by_cases h0 : s.size = 0
  · have b0 : ((s.size : Int) == 0) = true := beq_iff_eq.2 (by omega)
    go_enter Try.func5, Try.ntmps5
    go_wp2_with (go_at_call 12; (with_reducible refine (awake07 _).mono ?_); rintro e W3 ⟨rfl, hB3⟩)
    go_ret
    exact ⟨rfl, hB3⟩
  · have b0 : ((s.size : Int) == 0) = false := beq_eq_false_iff_ne.2 (by omega)
    by_cases h1 : 100 < s.size
    · have h1' : (100 : Int) < (s.size : Int) := by omega
      go_enter Try.func5, Try.ntmps5
      go_wp2_with (go_at_call 12; (with_reducible refine (awake07 _).mono ?_); rintro e W3 ⟨rfl, hB3⟩)
      go_ret
      exact ⟨rfl, hB3⟩
    · have h1' : ¬ (100 : Int) < (s.size : Int) := by omega
      obtain ⟨n, hn⟩ : ∃ n : Nat, many_ % 262144 = n := ⟨(many_ % 262144).toNat, by omega⟩
      have hn1 : n < 262144 := by omega
      rw [hn] at hand
      clear hn
      go_enter Try.func5, Try.ntmps5
      go_upto_region 4 with (fail)
      clear hand
      go_wp2_with fail
      go_loopw [6] (fun v6 wr => ∃ l : List UInt8, Hid (Buf wr w.heap.size 5 v6 l ∧ l.length ≤ n + 100 ∧ Below w.heap.size w wr ∧ (n = 0 → v6 = .slice none 0 0))) (fun v6 _ => n - sliceLen v6)
      case atStart => exact ⟨[], Lib.hid ⟨Buf.nil _ _ _, by simp, Below.refl _ _, fun _ => rfl⟩⟩
      case round =>
        obtain ⟨l, HI⟩ := hrel
        obtain ⟨hBuf, hll, hBl, hnil⟩ := HI.out
        obtain ⟨A, cp, rfl, hcp, hA⟩ := hBuf.len
        have HBf := Lib.hid hBuf; have HBl := Lib.hid hBl; have HNil := Lib.hid hnil
        clear HI hBuf hBl hnil
        by_cases hlt : l.length < n
        · have hlt' : (l.length : Int) < (n : Int) := by omega
          go_wp2_with (refine wpList_text rfl (.tmp 31) (.tmp 32) 30 9 rfl w.heap.size 5 infoU8 Try.underlying30 Try.underlying9 _ l rfl HBf.out s rfl (by omega) HBl.out.size ?_; intro v3 w3 hb3 hold hg3)
          have HX := Lib.hid (And.intro hb3 (HBl.out.trans (below_grown hg3 (fun k hk => Buf.own_ge HBf.out k hk) HBl.out.size)))
          obtain ⟨A3, c3, rfl, hc3, _⟩ := hb3.len
          clear hb3 hold hg3
          go_roundw
          case rel => exact ⟨_, Lib.hid ⟨HX.out.1, by rw [List.length_append, list_size]; omega, HX.out.2, fun e => by omega⟩⟩
          case measure => show n - sliceLen (.slice A3 _ c3) < n - sliceLen (.slice A l.length cp); simp only [sliceLen, List.length_append, list_size]; omega
        · have hlt' : ¬ (l.length : Int) < (n : Int) := by omega
          obtain ⟨S, hS⟩ : ∃ S, S = strOf (l.take n) := ⟨_, rfl⟩
          have hSn : S.size = n := by rw [hS, strOf_size, List.length_take]; omega
          have HS := Lib.hid hS; clear hS
          obtain ⟨z, hz, hzl, hz15, hzs⟩ := framed S
          have HZ := Lib.hid hz
          have HU : Hid (frUnpack z.data.toList (n : Int) = (S.data.toList, z.size, 0)) := Lib.hid (by
            rw [hz, hzl]
            have := frUnpack_back S.data.toList [] n (by rw [list_size]; omega) (by omega)
            rwa [List.append_nil] at this)
          have hzb : z.size ≤ 140737488351232 := by omega
          have HD7 : Hid (z.data.toList.drop 7 = partsB S.data.toList ++ (le4 0 ++ le4 (hashN 0 S.data.toList))) := Lib.hid (by
            rw [hz, frPack_split]; rfl)
          clear hz hzl
          have hnn : (n : Int) ≤ (cp : Int) := by omega
          by_cases hn0 : n = 0
          · have hv := HNil.out hn0
            injection hv with hA0 hl0 hc0
            subst hA0
            subst hc0
            have HCV : Hid (∀ W' : World, Below wr.heap.size wr W' → (convert 30 9 (.slice none 0 0)).run Try.prog W' = .ok (.string S) W') := Lib.hid fun W' _ => by
              rw [HS.out, hn0, List.take_zero]
              exact (Buf.nil W' 0 5).back Try.underlying30 Try.underlying5 Try.underlying9
            have hn0' : (n : Int) = 0 := by omega
            rw [hl0] at HBf ⊢
            clear hn0' hnn hA hcp hl0 HNil
            subst hn0
            have HU := Lib.hid (show frUnpack z.data.toList 0 = (S.data.toList, z.size, 0) from HU.out)
            go_upto_region 8 with (fail)
            go_upto_region 9 with (first
              | (go_at_call 13; (with_reducible refine (FPack_is S z _ HZ.out (by omega)).mono ?_); rintro e W0 ⟨rfl, hB0⟩)
              | (refine wpList_conv rfl 30 9 (.tmp 38) rfl _ _ _ rfl (HCV.out _ (Below.refl _ _)) ?_))
            go_upto_region 10 with (go_at_call 10; (with_reducible refine (FUnpack_is z 0 S z.size 0 _ hzb HU.out).mono ?_); rintro e W1 ⟨rfl, hB1⟩)
            have hcv := HCV.out W1 (bstep hB0 hB1)
            have HBW := Lib.hid (bstep (bstep HBl.out hB0) hB1)
            clear hB0 hB1
            go_upto_region 12 with (fail)
            clear hcv
            generalize hDD : le4 0 ++ le4 (hashN 0 S.data.toList) = D at HD7
            have hD8 : D.length = 8 := by rw [← hDD]; rfl
            have HD0 : Hid (∀ x : List UInt8, x = [] ++ D → leN x 4 = 0) := Lib.hid (by intro x hx; rw [hx, List.nil_append, ← hDD]; exact le4_leN 0 (by decide) _)
            have HD8 := Lib.hid hD8
            clear hDD hD8
            go_wp2_with fail
            go_loop [12, 13] (fun v12 v13 => ∃ (a b : Nat) (r : List UInt8), v12 = .int .i64 (b : Int) ∧ v13 = .int .i64 (a : Int) ∧ Hid (z.data.toList.drop a = partsB r ++ D ∧ b + many r.length = many 0 ∧ a ≤ z.size)) (fun _ v13 => z.size - (intOf v13).toNat)
            case atStart => exact ⟨7, 0, S.data.toList, rfl, rfl, Lib.hid ⟨HD7.out, by rw [list_size, hSn, Nat.zero_add], by omega⟩⟩
            case round =>
              obtain ⟨a, b, r, rfl, rfl, HI⟩ := hrel
              obtain ⟨hd, hb, ha⟩ := HI.out
              have hl := len_drop hd (by intro e; have := congrArg List.length e; rw [List.length_append, HD8.out, List.length_nil] at this; omega)
              rw [List.length_append, HD8.out, list_size] at hl
              have c1 : ¬ z.size < a + 4 := by omega
              have c2 : ¬ (z.size : Int) < (a : Int) := by omega
              have c3 : (a : Int) ≤ (z.size : Int) := by omega
              have HDa := Lib.hid hd
              have HBB := Lib.hid hb
              have HLL := Lib.hid hl
              clear HI hd hb hl
              by_cases hr : r = []
              · subst hr
                have hx : leN (z.data.toList.drop a) 4 = 0 := HD0.out _ (by rw [HDa.out, partsB_nil])
                have ha8 : (a : Int) + 8 = (z.size : Int) := by
                  have := HLL.out
                  rw [partsB_nil, List.length_nil] at this
                  omega
                have hbq : (b : Int) = 0 := by
                  have := HBB.out
                  unfold many at this
                  rw [List.length_nil] at this
                  omega
                have HX := Lib.hid hx; clear hx
                go_wp2_with (first
                  | (go_at_call 14; (with_reducible refine (rnum_any z a _ hzb ha).mono ?_); rintro e1 w1 ⟨rfl, hp⟩; rw [if_neg c1, HX.out] at hp; subst hp)
                  | (go_at_call 12; (with_reducible refine (awake07 _).mono ?_); rintro e W3 ⟨rfl, hB3⟩))
                go_ret
                exact ⟨rfl, bstep HBW.out hB3⟩
              · obtain ⟨N, m, hN, hN0, hN32, hNm, hnext, hle⟩ := block_at z.data.toList r D a HDa.out hr
                have hlo := loBits2 N hN32
                rw [hNm] at hlo
                have hN0' : ¬ (N : Int) = 0 := by omega
                have HNX := Lib.hid hN
                have HNE := Lib.hid hnext
                rw [list_size] at hle
                have hm31 : m < 2147483648 := by omega
                have hb5 : b ≤ 10 := by have := HBB.out; unfold many at this; omega
                clear hN hnext hNm
                go_wp2_with (first
                  | (go_at_call 14; (with_reducible refine (rnum_any z a _ hzb ha).mono ?_); rintro e1 w1 ⟨rfl, hp⟩; rw [if_neg c1, HNX.out] at hp; subst hp))
                go_round
                case rel => exact ⟨a + 8 + m, b + 1, r.drop 65536, congrArg (Value.int .i64) (by omega), congrArg (Value.int .i64) (by omega), Lib.hid ⟨HNE.out, by
                  have h1 := HBB.out
                  have h2 : r.length ≠ 0 := by simpa using hr
                  rw [many_step r.length h2] at h1
                  rw [List.length_drop]
                  omega, hle⟩⟩
                case measure => simp only [intOf]; show z.size - (_ : Int).toNat < z.size - (_ : Int).toNat; omega
          · obtain ⟨g, rfl⟩ : ∃ g, A = some ⟨g, 0, none⟩ := HBf.out.addr (by omega)
            have HCV : Hid (∀ W' : World, Below wr.heap.size wr W' → (convert 30 9 (.slice (some ⟨g, 0, none⟩) n cp)).run Try.prog W' = .ok (.string S) W') := Lib.hid fun W' hb => by
              rw [HS.out]
              refine run_bytes_back W' g 0 n cp (l.take n) (fun i hi => ?_) (by rw [List.length_take]; omega)
              rw [List.length_take] at hi
              rw [Nat.zero_add, (HBf.out.below hb).cellAt i (by omega)]
              congr 3
              unfold at8
              rw [List.getD_eq_getElem?_getD, List.getD_eq_getElem?_getD, List.getElem?_take, if_pos (by omega)]
            go_upto_region 8 with (fail)
            clear hnn hcp hA HNil
            go_upto_region 9 with (first
              | (go_at_call 13; (with_reducible refine (FPack_is S z _ HZ.out (by omega)).mono ?_); rintro e W0 ⟨rfl, hB0⟩)
              | (refine wpList_conv rfl 30 9 (.tmp 38) rfl _ _ _ rfl (HCV.out _ (Below.refl _ _)) ?_))
            go_upto_region 10 with (go_at_call 10; (with_reducible refine (FUnpack_is z (n : Int) S z.size 0 _ hzb HU.out).mono ?_); rintro e W1 ⟨rfl, hB1⟩)
            have hcv := HCV.out W1 (bstep hB0 hB1)
            have HBW := Lib.hid (bstep (bstep HBl.out hB0) hB1)
            clear hB0 hB1
            go_upto_region 12 with (fail)
            clear hcv
            generalize hDD : le4 0 ++ le4 (hashN 0 S.data.toList) = D at HD7
            have hD8 : D.length = 8 := by rw [← hDD]; rfl
            have HD0 : Hid (∀ x : List UInt8, x = [] ++ D → leN x 4 = 0) := Lib.hid (by intro x hx; rw [hx, List.nil_append, ← hDD]; exact le4_leN 0 (by decide) _)
            have HD8 := Lib.hid hD8
            clear hDD hD8
            go_wp2_with fail
            go_loop [12, 13] (fun v12 v13 => ∃ (a b : Nat) (r : List UInt8), v12 = .int .i64 (b : Int) ∧ v13 = .int .i64 (a : Int) ∧ Hid (z.data.toList.drop a = partsB r ++ D ∧ b + many r.length = many n ∧ a ≤ z.size)) (fun _ v13 => z.size - (intOf v13).toNat)
            case atStart => exact ⟨7, 0, S.data.toList, rfl, rfl, Lib.hid ⟨HD7.out, by rw [list_size, hSn, Nat.zero_add], by omega⟩⟩
            case round =>
              obtain ⟨a, b, r, rfl, rfl, HI⟩ := hrel
              obtain ⟨hd, hb, ha⟩ := HI.out
              have hl := len_drop hd (by intro e; have := congrArg List.length e; rw [List.length_append, HD8.out, List.length_nil] at this; omega)
              rw [List.length_append, HD8.out, list_size] at hl
              have c1 : ¬ z.size < a + 4 := by omega
              have c2 : ¬ (z.size : Int) < (a : Int) := by omega
              have c3 : (a : Int) ≤ (z.size : Int) := by omega
              have HDa := Lib.hid hd
              have HBB := Lib.hid hb
              have HLL := Lib.hid hl
              clear HI hd hb hl
              by_cases hr : r = []
              · subst hr
                have hx : leN (z.data.toList.drop a) 4 = 0 := HD0.out _ (by rw [HDa.out, partsB_nil])
                have ha8 : (a : Int) + 8 = (z.size : Int) := by
                  have := HLL.out
                  rw [partsB_nil, List.length_nil] at this
                  omega
                have hbq : (b : Int) = ((n : Int) + 65535) / 65536 := by
                  have := HBB.out
                  unfold many at this
                  rw [List.length_nil] at this
                  omega
                have HX := Lib.hid hx; clear hx
                go_wp2_with (first
                  | (go_at_call 14; (with_reducible refine (rnum_any z a _ hzb ha).mono ?_); rintro e1 w1 ⟨rfl, hp⟩; rw [if_neg c1, HX.out] at hp; subst hp)
                  | (go_at_call 12; (with_reducible refine (awake07 _).mono ?_); rintro e W3 ⟨rfl, hB3⟩))
                go_ret
                exact ⟨rfl, bstep HBW.out hB3⟩
              · obtain ⟨N, m, hN, hN0, hN32, hNm, hnext, hle⟩ := block_at z.data.toList r D a HDa.out hr
                have hlo := loBits2 N hN32
                rw [hNm] at hlo
                have hN0' : ¬ (N : Int) = 0 := by omega
                have HNX := Lib.hid hN
                have HNE := Lib.hid hnext
                rw [list_size] at hle
                have hm31 : m < 2147483648 := by omega
                have hb5 : b ≤ 10 := by have := HBB.out; unfold many at this; omega
                clear hN hnext hNm
                go_wp2_with (first
                  | (go_at_call 14; (with_reducible refine (rnum_any z a _ hzb ha).mono ?_); rintro e1 w1 ⟨rfl, hp⟩; rw [if_neg c1, HNX.out] at hp; subst hp))
                go_round
                case rel => exact ⟨a + 8 + m, b + 1, r.drop 65536, congrArg (Value.int .i64) (by omega), congrArg (Value.int .i64) (by omega), Lib.hid ⟨HNE.out, by
                  have h1 := HBB.out
                  have h2 : r.length ≠ 0 := by simpa using hr
                  rw [many_step r.length h2] at h1
                  rw [List.length_drop]
                  omega, hle⟩⟩
                case measure => simp only [intOf]; show z.size - (_ : Int).toNat < z.size - (_ : Int).toNat; omega
end Go.Proofs.Ytipadidfiffkjaa
