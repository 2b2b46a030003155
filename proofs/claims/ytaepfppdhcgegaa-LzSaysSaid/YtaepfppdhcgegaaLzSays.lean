/- The walk of LzSays. -/
import Derived.Test.YtaepfppdhcgegaaLzLaws
import Derived.Test.YtaepfppdhcgegaaLzSaysP
import Derived.Test.YtaepfppdhcgegaaBytes4
import Derived.Test.YtaepfppdhcgegaaLzTriples
import Derived.Deep.CutBlock
import Derived.Deep.DeepCutAuto
namespace Go.PostMem
theorem Two.zbuf {w : World} {T : Nat} {z y : List UInt8} {A B : Option Addr} {n m c d : Nat} {wr : World} (h : Two w T z y A B n m c d wr) : Buf wr w.heap.size T (.slice A n c) z := by
  unfold Buf; rw [h.ln]; exact h.rz
theorem Two.ybuf {w : World} {T : Nat} {z y : List UInt8} {A B : Option Addr} {n m c d : Nat} {wr : World} (h : Two w T z y A B n m c d wr) : Buf wr w.heap.size T (.slice B m d) y := by
  unfold Buf; rw [h.lm]; exact h.ry
end Go.PostMem
namespace Go.Proofs.Ytaepfppdhcgegaa
open Go.RowKit Go.PostSums Go.PostMem Go.PostAud
theorem and_pow' (x : Int) (j : Nat) (hj : j < 63) : ∃ n : Nat, n < 2 ^ j ∧ bits .and .i64 x ((2 ^ j - 1 : Nat) : Int) = (n : Int) := by
  have hp : 2 ^ j < 2 ^ 63 := Nat.pow_lt_pow_right (by decide) hj
  have hp' : 1 ≤ 2 ^ j := Nat.one_le_two_pow
  have e2 : (BitVec.ofInt 64 ((2 ^ j - 1 : Nat) : Int)).toNat = 2 ^ j - 1 := by
    rw [BitVec.toNat_ofInt]
    have h3 : ((2 ^ 64 : Nat) : Int) = 18446744073709551616 := by decide
    rw [h3]
    have : (2 : Nat) ^ 63 = 9223372036854775808 := by decide
    omega
  refine ⟨(BitVec.ofInt 64 x).toNat % 2 ^ j, Nat.mod_lt _ (by omega), ?_⟩
  have h : (BitVec.ofInt 64 x &&& BitVec.ofInt 64 ((2 ^ j - 1 : Nat) : Int)).toNat = (BitVec.ofInt 64 x).toNat % 2 ^ j := by
    rw [BitVec.toNat_and, e2, Nat.and_two_pow_sub_one_eq_mod]
  have hl : (BitVec.ofInt 64 x).toNat % 2 ^ j < 2 ^ j := Nat.mod_lt _ (by omega)
  show IntKind.i64.wrap ((BitVec.ofInt 64 x &&& BitVec.ofInt 64 ((2 ^ j - 1 : Nat) : Int)).toNat : Int) = _
  rw [h, IntKind.wrap_i64]
  have : (2 : Nat) ^ 63 = 9223372036854775808 := by decide
  omega
theorem tok_y (a b : Nat) (y : Int) (hy : y = (min a 15 : Nat) * 16 + (min b 15 : Nat)) : y = ((PostLz.token a b).toNat : Int) := by
  unfold PostLz.token
  rw [UInt8.toNat_ofNat', hy]
  omega
theorem num_y (k : Nat) (y : Int) (hk : k < 256) (hy : y = (k : Int)) : y = ((UInt8.ofNat k).toNat : Int) := by
  rw [UInt8.toNat_ofNat', hy]; omega
def CutZ (w : World) (z y : List UInt8) (B : Option Addr) (lim m d : Nat) (v3 : Value) (wx : World) : Prop := ∃ (A : Option Addr) (n c : Nat), v3 = .slice A n c ∧ n ≤ lim ∧ Hid (Two w 5 z y A B n m c d wx)
theorem lit_y (i k : Nat) (y : Int) (hy : y = ((i : Int) * 7 + (k : Int)) % 256) : y = ((UInt8.ofNat (i * 7 + k)).toNat : Int) := by
  rw [UInt8.toNat_ofNat', hy]; omega
theorem and_255 (x : Nat) (h : x < 65536) : bits .and .i64 (x : Int) 255 = (x : Int) % 256 := by
  have e := and64 x 255 (by omega) (by omega)
  rw [show (255 : Nat) = 2 ^ 8 - 1 from rfl, Nat.and_two_pow_sub_one_eq_mod] at e
  exact e.trans (by omega)
theorem far_lo (far : Nat) (y : Int) (hy : y = (far : Int) % 256) : y = ((UInt8.ofNat far).toNat : Int) := by rw [UInt8.toNat_ofNat', hy]; omega
theorem far_hi (far : Nat) (y : Int) (hf : far < 65536) (hy : y = (far : Int) / 256) : y = ((UInt8.ofNat (far / 256)).toNat : Int) := by rw [UInt8.toNat_ofNat', hy]; omega
def LitR (w : World) (z4 y : List UInt8) (i a1 n4 m : Nat) (v3 v4 v9 : Value) (wr : World) : Prop := ∃ (k n5 m5 : Nat) (A B : Option Addr) (c d : Nat), k ≤ a1 ∧ v3 = .slice A n5 c ∧ v4 = .slice B m5 d ∧ v9 = .int .i64 (k : Int) ∧ n5 ≤ n4 + k ∧ m5 ≤ m + k ∧ m + k ≤ m5 ∧ Hid (Two w 5 (z4 ++ PostLz.saysLit i k) (y ++ PostLz.saysLit i k) A B n5 m5 c d wr)
def CopR (w : World) (z wl : List UInt8) (far : Nat) (A : Option Addr) (n c nn m5 : Nat) (v4 v12 : Value) (wr : World) : Prop := ∃ (k m8 : Nat) (B : Option Addr) (d : Nat), k ≤ nn ∧ v4 = .slice B m8 d ∧ v12 = .int .i64 (k : Int) ∧ m8 ≤ m5 + k ∧ m5 + k ≤ m8 ∧ Hid (Two w 5 z (PostLz.copyN wl far k) A B n m8 c d wr)
def SR (w : World) (n0 : Nat) (v3 v4 v5 : Value) (wr : World) : Prop := ∃ (i n m c d : Nat) (A B : Option Addr) (z y : List UInt8), i ≤ n0 ∧ v3 = .slice A n c ∧ v4 = .slice B m d ∧ v5 = .int .i64 (i : Int) ∧ n ≤ 2 * m ∧ m ≤ 4500 ∧ 4 * i ≤ m ∧ Hid (Two w 5 z y A B n m c d wr ∧ PostLz.Says z y)
set_option maxRecDepth 100000 in
set_option maxHeartbeats 12800000 in
theorem LzSays_walk (A0 : Option Addr) (n0 cap0 : Nat) (l : List (Int × Int × Int)) (w : World) (hT : TriplesAt w w.heap.size A0 n0 l) :
    Calls Try.prog 7 #[.slice A0 n0 cap0] w fun e w' => e = .returned (.bool true) ∧ Below w.heap.size w w' := by
  have hn0 := hT.2.1
  unfold maxLen at hn0
  have HT := Lib.hid hT
  clear hT
  go_enter Try.func7, Try.ntmps7
  go_wp2_with (fail)
  go_loopw [3, 4, 5] (fun v3 v4 v5 w9 => SR w n0 v3 v4 v5 w9) (fun _ _ v5 _ => n0 - (intOf v5).toNat)
  case atStart => exact ⟨0, 0, 0, 0, 0, none, none, [], [], by omega, rfl, rfl, rfl, by omega, by omega, by omega, Lib.hid ⟨⟨Below.refl _ _, rfl, rfl, World.ownsRow_nil _ _ _ _, World.ownsRow_nil _ _ _ _, apart_nil _⟩, PostLz.says_nil⟩⟩
  case round =>
    obtain ⟨i, n, m, c, d, A, B, z, y, hi, rfl, rfl, rfl, hn, hm, him, Hr⟩ := hrel
    have HU := Lib.hid Hr.out.1
    have HS := Lib.hid Hr.out.2
    clear Hr
    by_cases hlt : i < n0 ∧ m < 4096
    · obtain ⟨hlt1, hlt2⟩ := hlt
      obtain ⟨a, x, rfl, hx, hat⟩ := (HT.out.below HU.out.below).get hlt1
      have CX := Lib.hid (At.three_lat hat)
      clear hx hat
      obtain ⟨a0, ha0, e1⟩ : ∃ n : Nat, n < 32 ∧ bits .and .i64 x.1 31 = (n : Int) := and_pow' x.1 5 (by decide)
      obtain ⟨f0, hf0, e2⟩ : ∃ n : Nat, n < 4096 ∧ bits .and .i64 x.2.1 4095 = (n : Int) := and_pow' x.2.1 12 (by decide)
      obtain ⟨b, hb, e3⟩ : ∃ n : Nat, n < 256 ∧ bits .and .i64 x.2.2 255 = (n : Int) := and_pow' x.2.2 8 (by decide)
      go_wp2_with (fail)
      obtain ⟨c0, c1, c2⟩ := CX.out
      have w1 : IntKind.i64.wrap (4 + (b : Int)) = 4 + (b : Int) := by rw [IntKind.wrap_i64]; omega
      refine QuietTail.wp_all (fun w' => ∃ z : Lat wr, w' = z.val) (by kernel_rfl) (by kernel_rfl) (LatOf.refl wr).drew ?_
      iterate 22 (go_big_quiet_step (fail))
      refine wpQuiet_nil ?_
      rintro _ ⟨zz, rfl⟩
      have HU1 := Lib.hid (HU.out.step zz.below)
      clear CX c0 c1 c2 w1 e1 e2 e3 HU
      generalize zz.val = W1 at HU1 ⊢
      obtain ⟨nn, hnn⟩ : ∃ nn : Nat, nn = 4 + b := ⟨_, rfl⟩
      have hn4 : 4 ≤ nn := by omega
      have hn259 : nn ≤ 259 := by omega
      rw [show 4 + (b : Int) = (nn : Int) by omega]
      clear hnn hb
      obtain ⟨a1, ha1, ha2⟩ : ∃ a1 : Nat, (m + a0 = 0 → a1 = 1) ∧ (¬ m + a0 = 0 → a1 = a0) := by
        by_cases h : m + a0 = 0
        · exact ⟨1, fun _ => rfl, fun h' => absurd h h'⟩
        · exact ⟨a0, fun h' => absurd h' h, fun _ => rfl⟩
      have hpos : 0 < m + a1 := by
        by_cases h : m + a0 = 0
        · rw [ha1 h]; omega
        · rw [ha2 h]; omega
      have ha32 : a1 < 32 := by
        by_cases h : m + a0 = 0
        · rw [ha1 h]; omega
        · rw [ha2 h]; omega
      have HA1 := Lib.hid ha1
      have HA2 := Lib.hid ha2
      clear ha1 ha2
      go_upto_if 49 with (fail)
      go_cut [6] (fun v6 wx => v6 = .int .i64 (a1 : Int) ∧ Hid (Below W1.heap.size W1 wx))
      case first =>
        by_cases h : m + a0 = 0
        · have h0 : ((m : Int) + (a0 : Int) == 0) = true := by simp; omega
          have H1 := Lib.hid (HA1.out h)
          clear h
          go_wp2_with (fail)
          go_meet
          exact ⟨by rw [H1.out]; rfl, Lib.hid (Below.refl _ _)⟩
        · have h0 : ((m : Int) + (a0 : Int) == 0) = false := by simp; omega
          have H1 := Lib.hid (HA2.out h)
          clear h
          go_wp2_with (fail)
          go_meet
          exact ⟨by rw [H1.out], Lib.hid (Below.refl _ _)⟩
      case rest =>
        obtain ⟨rfl, hb6⟩ := hcut
        have HU2 := Lib.hid (HU1.out.step hb6.out)
        clear hb6 HU1 HA1 HA2
        go_upto_if 62 with (at_builtin; refine wpList_byte4 rfl (.tmp 50) (.tmp 59) 30 rfl w.heap.size 5 infoU8 Try.underlying30 (.slice A n c) n z rfl HU2.out.rz rfl _ (PostLz.token a1 (nn - 4)) (tok_y a1 (nn - 4) _ (by omega)) (by omega) HU2.out.below.size ?_; intro v3 w3 hown hg hmv)
        obtain ⟨A3, c3, rfl, hu3⟩ := HU2.out.zadd (x := [PostLz.token a1 (nn - 4)]) hown hg hmv
        have HU3 := Lib.hid hu3
        clear hown hg hmv hu3 HU2
        generalize (if (15 : Int) < (a1 : Int) then (15 : Int) else (a1 : Int)) = za
        generalize (if (15 : Int) < (nn : Int) - 4 then (15 : Int) else (nn : Int) - 4) = zb
        go_cut [3] (fun v3 wx => CutZ w (z ++ [PostLz.token a1 (nn - 4)] ++ PostLz.numB a1) y B (n + 2) m d v3 wx)
        case first =>
          by_cases ha : a1 < 15
          · go_wp2_with (fail)
            go_meet
            exact ⟨A3, n + 1, c3, rfl, by omega, Lib.hid (by unfold PostLz.numB; rw [if_pos ha, List.append_nil]; exact HU3.out)⟩
          · go_wp2_with (at_builtin; refine wpList_byte4 rfl (.tmp 63) (.tmp 67) 30 rfl w.heap.size 5 infoU8 Try.underlying30 (.slice A3 (n + 1) c3) (n + 1) (z ++ [PostLz.token a1 (nn - 4)]) rfl HU3.out.rz rfl _ (UInt8.ofNat (a1 - 15)) (num_y (a1 - 15) _ (by omega) (by omega)) (by omega) HU3.out.below.size ?_; intro v4 w4 hown hg hmv)
            obtain ⟨A4, c4, rfl, hu4⟩ := HU3.out.zadd (x := [UInt8.ofNat (a1 - 15)]) hown hg hmv
            go_meet
            exact ⟨A4, n + 2, c4, rfl, by omega, Lib.hid (by unfold PostLz.numB; rw [if_neg ha, extB_short _ (by omega)]; exact hu4)⟩
        case rest =>
          obtain ⟨A4, n4, c4, rfl, hn4', HU4⟩ := hcut
          clear HU3
          generalize hz4 : z ++ [PostLz.token a1 (nn - 4)] ++ PostLz.numB a1 = z4 at HU4
          have HZ4 := Lib.hid hz4
          clear hz4
          go_wp2_with (fail)
          go_loopw [3, 4, 9] (fun v3 v4 v9 w9 => LitR w z4 y i a1 n4 m v3 v4 v9 w9) (fun _ _ v9 _ => a1 - (intOf v9).toNat)
          case atStart => exact ⟨0, n4, m, A4, B, c4, d, by omega, rfl, rfl, rfl, by omega, by omega, by omega, Lib.hid (by unfold PostLz.saysLit; simpa using HU4.out)⟩
          case round =>
            clear HU4
            obtain ⟨k, n5, m5, A5, B5, c5, d5, hk, rfl, rfl, rfl, hn5, hm5, hm5', HU5⟩ := hrel
            by_cases hk1 : k < a1
            · go_wp2_with (first
                | (at_builtin; refine wpList_byte4 rfl (.tmp 79) (.tmp 81) 30 rfl w.heap.size 5 infoU8 Try.underlying30 (.slice A5 n5 c5) n5 _ rfl HU5.out.rz rfl _ (UInt8.ofNat (i * 7 + k)) (lit_y i k _ (by omega)) (by omega) HU5.out.below.size ?_; intro v6 w6 hown hg hmv; obtain ⟨A6, c6, rfl, hu6⟩ := HU5.out.zadd (x := [UInt8.ofNat (i * 7 + k)]) hown hg hmv; have HU6 := Lib.hid hu6; clear hown hg hmv hu6)
                | (at_builtin; refine wpList_byte4 rfl (.tmp 83) (.tmp 85) 30 rfl w.heap.size 5 infoU8 Try.underlying30 (.slice B5 m5 d5) m5 _ rfl HU6.out.ry rfl _ (UInt8.ofNat (i * 7 + k)) (lit_y i k _ (by omega)) (by omega) HU6.out.below.size ?_; intro v7 w7 hown hg hmv; obtain ⟨B7, d7, rfl, hu7⟩ := HU6.out.yadd (x := [UInt8.ofNat (i * 7 + k)]) hown hg hmv; have HU7 := Lib.hid hu7; clear hown hg hmv hu7))
              refine ⟨⟨k + 1, n5 + 1, m5 + 1, A6, B7, c6, d7, by omega, rfl, rfl, by go_num, by omega, by omega, by omega, Lib.hid ?_⟩, by simp [intOf]; omega⟩
              have := HU7.out
              rw [List.append_assoc, List.append_assoc, ← PostLz.saysLit_succ] at this
              exact this
            · obtain rfl : a1 = k := by omega
              have hm5p : 0 < m5 := by omega
              have hm5q : m5 ≤ 4130 := by omega
              obtain ⟨fr, hfr⟩ : ∃ fr : Nat, fr = f0 % m5 := ⟨_, rfl⟩
              have hfr1 : fr < m5 := by rw [hfr]; exact Nat.mod_lt _ hm5p
              have e4 : (f0 : Int) % (m5 : Int) = (fr : Int) := by rw [hfr]; simp
              obtain ⟨far, hfar⟩ : ∃ far : Nat, far = 1 + fr := ⟨_, rfl⟩
              have e5 : 1 + (fr : Int) = (far : Int) := by omega
              have hf1 : 1 ≤ far := by omega
              have hf2 : far ≤ m5 := by omega
              have e6 := and_255 far (by omega)
              clear hfr hfar
              go_upto_if 103 with (at_builtin; refine wpList_two4 rfl (.tmp 92) (.tmp 99) 30 rfl w.heap.size 5 infoU8 Try.underlying30 (.slice A5 n5 c5) n5 _ rfl HU5.out.rz rfl _ _ (UInt8.ofNat far) (UInt8.ofNat (far / 256)) (far_lo far _ (by omega)) (far_hi far _ (by omega) (by omega)) (by omega) HU5.out.below.size ?_; intro v6 w6 hown hg hmv)
              obtain ⟨A6, c6, rfl, hu6⟩ := HU5.out.zadd (x := [UInt8.ofNat far, UInt8.ofNat (far / 256)]) hown hg hmv
              have HU6 := Lib.hid hu6
              clear hown hg hmv hu6 HU5 e4 e5 e6
              go_cut [3] (fun v3 wx => CutZ w (z4 ++ PostLz.saysLit i a1 ++ [UInt8.ofNat far, UInt8.ofNat (far / 256)] ++ PostLz.numB (nn - 4)) (y ++ PostLz.saysLit i a1) B5 (n5 + 3) m5 d5 v3 wx)
              case first =>
                by_cases hb : nn < 19
                · go_wp2_with (fail)
                  go_meet
                  exact ⟨A6, n5 + 2, c6, rfl, by omega, Lib.hid (by unfold PostLz.numB; rw [if_pos (by omega), List.append_nil]; exact HU6.out)⟩
                · go_wp2_with (at_builtin; refine wpList_byte4 rfl (.tmp 114) (.tmp 117) 30 rfl w.heap.size 5 infoU8 Try.underlying30 (.slice A6 (n5 + 2) c6) (n5 + 2) _ rfl HU6.out.rz rfl _ (UInt8.ofNat (nn - 4 - 15)) (num_y (nn - 4 - 15) _ (by omega) (by omega)) (by omega) HU6.out.below.size ?_; intro v7 w7 hown hg hmv)
                  obtain ⟨A7, c7, rfl, hu7⟩ := HU6.out.zadd (x := [UInt8.ofNat (nn - 4 - 15)]) hown hg hmv
                  go_meet
                  exact ⟨A7, n5 + 3, c7, rfl, by omega, Lib.hid (by unfold PostLz.numB; rw [if_neg (by omega), extB_short _ (by omega)]; exact hu7)⟩
              case rest =>
                obtain ⟨A7, n7, c7, rfl, hn7, HU7⟩ := hcut
                clear HU6
                have HSZ : Hid (z4 ++ PostLz.saysLit i a1 ++ [UInt8.ofNat far, UInt8.ofNat (far / 256)] ++ PostLz.numB (nn - 4) = z ++ PostLz.seqB (PostLz.saysLit i a1) far nn) := Lib.hid (by
                  rw [← HZ4.out]
                  unfold PostLz.seqB PostLz.headB PostLz.tailB
                  rw [PostLz.saysLit_len]
                  simp)
                have HSY := Lib.hid (PostLz.says_step (lit := PostLz.saysLit i a1) (far := far) (n := nn) HS.out hn4 (by omega) (by rw [← List.length_append, HU7.out.lm]; exact hf2) (by omega))
                go_wp2_with (fail)
                go_loopw [4, 12] (fun v4 v12 w9 => CopR w (z ++ PostLz.seqB (PostLz.saysLit i a1) far nn) (y ++ PostLz.saysLit i a1) far A7 n7 c7 nn m5 v4 v12 w9) (fun _ v12 _ => nn - (intOf v12).toNat)
                case atStart => exact ⟨0, m5, B5, d5, by omega, rfl, rfl, by omega, by omega, Lib.hid (by rw [← HSZ.out]; exact HU7.out)⟩
                case round =>
                  clear HU7
                  obtain ⟨k, m8, B8, d8, hk, rfl, rfl, hm8, hm8', HU8⟩ := hrel
                  by_cases hk1 : k < nn
                  · obtain ⟨g8, rfl, hcell⟩ := HU8.out.yat (show m8 - far < m8 by omega)
                    go_wp2_with (at_builtin; refine wpList_byte4 rfl (.tmp 124) (.tmp 132) 30 rfl w.heap.size 5 infoU8 Try.underlying30 (.slice (some ⟨g8, 0, none⟩) m8 d8) m8 _ rfl HU8.out.ry rfl _ ((PostLz.copyN (y ++ PostLz.saysLit i a1) far k).getD (m8 - far) 0) rfl (by omega) HU8.out.below.size ?_; intro v9 w9 hown hg hmv)
                    obtain ⟨B9, d9, rfl, hu9⟩ := HU8.out.yadd (x := [(PostLz.copyN (y ++ PostLz.saysLit i a1) far k).getD (m8 - far) 0]) hown hg hmv
                    have HU9 := Lib.hid hu9
                    clear hown hg hmv hu9
                    refine ⟨⟨k + 1, m8 + 1, B9, d9, by omega, rfl, by go_num, by omega, by omega, Lib.hid ?_⟩, by simp [intOf]; omega⟩
                    rw [PostLz.copyN_snoc, HU8.out.lm]
                    exact HU9.out
                  · obtain rfl : nn = k := by omega
                    go_wp2_with (fail)
                    refine ⟨⟨i + 1, n7, m8, c7, d8, A7, B8, _, _, by omega, rfl, rfl, by go_num, by omega, by omega, by omega, Lib.hid ⟨HU8.out, HSY.out⟩⟩, by simp [intOf]; omega⟩
    · have hcase : ¬ i < n0 ∨ (i < n0 ∧ decide ((m : Int) < 4096) = false) := by
        by_cases h : i < n0
        · exact .inr ⟨h, decide_eq_false (by omega)⟩
        · exact .inl h
      clear hlt
      have hsz : (z ++ [16, 101]).length ≤ 140737488351232 := by rw [List.length_append, HU.out.ln]; simp; omega
      have hun := PostLz.says_end HS.out 101 (by rw [HU.out.lm]; omega)
      rw [HU.out.lm] at hun
      have HUN : Hid (∀ V : World, Calls Try.prog 9 #[.string (strOf (z ++ [16, 101])), .int .i64 ((m : Int) + 1)] V fun e w' => e = .returned (.tuple #[.string (strOf (y ++ [101])), .int .i64 0]) ∧ Below V.heap.size V w') := Lib.hid fun V =>
        Unpack_is (strOf (z ++ [16, 101])) ((m : Int) + 1) (strOf (y ++ [101])) 0 V (by rw [strOf_size]; exact hsz) (by rw [strOf_list, strOf_list]; exact hun)
      clear hsz hun
      rcases hcase with hia | ⟨hia, hib⟩
      all_goals
        go_wp2_with (first
          | (at_builtin; refine wpList_two4 rfl (.tmp 134) (.tmp 135) 30 rfl w.heap.size 5 infoU8 Try.underlying30 (.slice A n c) n z rfl HU.out.rz rfl _ _ 16 101 rfl rfl (by omega) HU.out.below.size ?_; intro v6 w6 hown hg hmv; obtain ⟨A6, c6, rfl, hu6⟩ := HU.out.zadd (x := [16, 101]) hown hg hmv; have HU6 := Lib.hid hu6; clear hown hg hmv hu6)
          | (at_builtin; refine wpList_byte4 rfl (.tmp 137) (.tmp 138) 30 rfl w.heap.size 5 infoU8 Try.underlying30 (.slice B m d) m y rfl HU6.out.ry rfl _ 101 rfl (by omega) HU6.out.below.size ?_; intro v7 w7 hown hg hmv; obtain ⟨B7, d7, rfl, hu7⟩ := HU6.out.yadd (x := [101]) hown hg hmv; have HU7 := Lib.hid hu7; clear hown hg hmv hu7)
          | (refine wpList_conv rfl 30 9 (.tmp 141) rfl _ _ _ rfl (Buf.back (l := z ++ [16, 101]) (HU7.out.zbuf) Try.underlying30 Try.underlying5 Try.underlying9) ?_)
          | (go_at_call 9; refine (HUN.out _).mono ?_; rintro e W8 ⟨rfl, hW8⟩; have HW8 := Lib.hid (HU7.out.below.trans (hW8.mono HU7.out.below.size)); have hcv : (convert 30 9 (.slice B7 (m + 1) d7)).run Try.prog W8 = .ok (.string (strOf (y ++ [101]))) W8 := Buf.back (P := Try.prog) (l := y ++ [101]) ((HU7.out.step hW8).ybuf) Try.underlying30 Try.underlying5 Try.underlying9; clear hW8)
          | (go_at_call 11; refine (awake06 _).mono ?_; rintro e W9 ⟨rfl, hW9⟩; have HW9 := Lib.hid hW9; clear hW9))
        go_ret
        exact ⟨rfl, bstep HW8.out HW9.out⟩
end Go.Proofs.Ytaepfppdhcgegaa
