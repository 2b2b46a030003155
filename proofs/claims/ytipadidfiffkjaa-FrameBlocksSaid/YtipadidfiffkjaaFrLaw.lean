/- The plain law: what was packed is told as it was, whatever stands behind. -/
import Derived.Test.YtipadidfiffkjaaFrRPl
import Derived.Test.YtipadidfiffkjaaFrPack
namespace Go.Proofs.Ytipadidfiffkjaa
open Go.RowKit Go.PostSums Go.PostMem
theorem drop_more {S A D : List UInt8} {a : Nat} (h : S.drop a = A ++ D) (n : Nat) (hn : n = A.length) : S.drop (a + n) = D := by
  subst hn
  rw [← List.drop_drop, h, List.drop_left]
theorem len_drop {S A : List UInt8} {a : Nat} (h : S.drop a = A) (h0 : A ≠ []) : S.length = a + A.length := by
  have := congrArg List.length h
  rw [List.length_drop] at this
  have h1 : A.length ≠ 0 := by simpa using h0
  omega
theorem le4_length (n : Nat) : (le4 n).length = 4 := rfl
theorem blocks_step (S : List UInt8) (most a N : Nat) (out x D t : List UInt8) (hd : S.drop a = le4 N ++ (x ++ (le4 (hashN 0 x) ++ D))) (hN : N < 4294967296) (hN0 : N ≠ 0) (hlo : lo31 N = x.length) (h0 : 0 < x.length) (h64 : x.length ≤ 65536)
    (ht : (if hi31 N = 1 then (x, 0) else unpackedR 65536 x) = (t, 0)) (hm : out.length + t.length ≤ most) :
    blocksR S 65536 most true a out = blocksR S 65536 most true (a + (4 + x.length + 4)) (out ++ t) ∧ S.drop (a + (4 + x.length + 4)) = D := by
  have hl := len_drop hd (by simp [le4])
  simp only [List.length_append, le4_length] at hl
  have d1 : S.drop (a + 4) = x ++ (le4 (hashN 0 x) ++ D) := drop_more hd 4 rfl
  have d2 : S.drop (a + 4 + x.length) = le4 (hashN 0 x) ++ D := drop_more d1 x.length rfl
  have d3 : S.drop (a + 4 + x.length + 4) = D := drop_more d2 4 rfl
  have e1 : leN (S.drop a) 4 = N := by rw [hd]; exact le4_leN N hN _
  have e2 : (S.drop (a + 4)).take x.length = x := by rw [d1, List.take_left]
  have e3 : sumE S true x (a + 4 + x.length) = 0 := by
    unfold sumE
    rw [if_pos rfl, if_neg (by omega), d2, le4_leN _ (hashN_lt 0 x), if_pos rfl]
  refine ⟨?_, by rw [show a + (4 + x.length + 4) = a + 4 + x.length + 4 by omega]; exact d3⟩
  rw [blocksR_eq, e1, hlo, e2, e3, ht, if_neg (by omega), if_neg hN0, if_neg (by omega), if_neg (by omega), if_neg (by decide), if_neg (fun h => h rfl), if_neg (show ¬ most < out.length + t.length by omega)]
  unfold after
  rw [if_pos rfl, show a + (4 + x.length + 4) = a + 4 + x.length + 4 by omega]
theorem block_end (S : List UInt8) (most a : Nat) (on : Bool) (room : Nat) (out D : List UInt8) (hd : S.drop a = le4 0 ++ D) : blocksR S room most on a out = .ok (a + 4, out) := by
  have hl := len_drop hd (by simp [le4])
  simp only [List.length_append, le4_length] at hl
  rw [blocksR_eq, if_neg (by omega), hd, le4_leN 0 (by decide), if_pos rfl]
theorem hiN_lo (n : Nat) (h : n ≤ 65536) : lo31 (hiN n) = n ∧ hi31 (hiN n) = 1 ∧ hiN n < 4294967296 ∧ hiN n ≠ 0 := by
  unfold lo31 hi31 hiN
  omega
theorem lo_lo (n : Nat) (h : n ≤ 65536) : lo31 n = n ∧ hi31 n ≠ 1 ∧ n < 4294967296 := by
  unfold lo31 hi31
  omega
theorem unpackedR_pack (p : List UInt8) (h : p.length ≤ 65536) : unpackedR 65536 (PostLz.pack p) = (p, 0) := by
  unfold unpackedR PostLz.unpack
  have : (min 65536 1048576 : Nat) = 65536 := rfl
  rw [this]
  simp only
  rw [if_neg (by decide), show ((65536 : Nat) : Int).toNat = 65536 from rfl, PostLz.pack_tells p 65536 h]
  rfl
/-- a block: its number, its bytes, how many plain ones -/
theorem block_is (p : List UInt8) (h0 : p ≠ []) (h : p.length ≤ 65536) : ∃ N x, blockB p = le4 N ++ x ++ le4 (hashN 0 x) ∧ N < 4294967296 ∧ N ≠ 0 ∧ lo31 N = x.length ∧ 0 < x.length ∧ x.length ≤ p.length ∧ (if hi31 N = 1 then (x, 0) else unpackedR 65536 x) = (p, 0) := by
  have hp : 0 < p.length := by have : p.length ≠ 0 := by simpa using h0
                               omega
  unfold blockB
  by_cases hc : p.length ≤ (PostLz.pack p).length
  · obtain ⟨a, b, c, d⟩ := hiN_lo p.length h
    exact ⟨hiN p.length, p, if_pos hc, c, d, a, hp, Nat.le_refl _, by rw [if_pos b]⟩
  · have hz : 0 < (PostLz.pack p).length := by
      have := PostLz.Blk.ne (PostLz.pack_is p)
      have : (PostLz.pack p).length ≠ 0 := by simpa using this
      omega
    obtain ⟨a, b, c⟩ := lo_lo (PostLz.pack p).length (by omega)
    exact ⟨(PostLz.pack p).length, PostLz.pack p, if_neg hc, c, by omega, a, hz, by omega, by rw [if_neg b, unpackedR_pack p h]⟩
theorem blocks_parts (most : Nat) (n : Nat) : ∀ (r : List UInt8), r.length ≤ n → ∀ (S : List UInt8) (a : Nat) (out D : List UInt8), S.drop a = partsB r ++ D → out.length + r.length ≤ most →
    blocksR S 65536 most true a out = blocksR S 65536 most true (a + (partsB r).length) (out ++ r) ∧ S.drop (a + (partsB r).length) = D := by
  induction n with
  | zero =>
    intro r hr S a out D hd hm
    obtain rfl : r = [] := List.eq_nil_of_length_eq_zero (by omega)
    rw [partsB_nil] at hd ⊢
    exact ⟨by simp, by simpa using hd⟩
  | succ n ih =>
    intro r hr S a out D hd hm
    by_cases h0 : r = []
    · subst h0
      rw [partsB_nil] at hd ⊢
      exact ⟨by simp, by simpa using hd⟩
    · have hr0 : r.length ≠ 0 := by simpa using h0
      have ht0 : r.take 65536 ≠ [] := by
        intro h
        have := congrArg List.length h
        rw [List.length_take, List.length_nil] at this
        omega
      obtain ⟨N, x, hb, hN, hN0, hlo, hx0, hxl, hans⟩ := block_is (r.take 65536) ht0 (by simp; omega)
      have hx64 : x.length ≤ 65536 := Nat.le_trans hxl (by simp; omega)
      have htl : (r.take 65536).length ≤ r.length := by simp; omega
      rw [partsB_cons r h0, hb] at hd
      obtain ⟨s1, s2⟩ := blocks_step S most a N out x (partsB (r.drop 65536) ++ D) (r.take 65536) (by rw [hd]; simp [List.append_assoc]) hN hN0 hlo hx0 hx64 hans (by omega)
      obtain ⟨i1, i2⟩ := ih (r.drop 65536) (by simp; omega) S (a + (4 + x.length + 4)) (out ++ r.take 65536) D s2 (by
        have : (r.take 65536).length + (r.drop 65536).length = r.length := by rw [← List.length_append, List.take_append_drop]
        rw [List.length_append]; omega)
      have hlen : (partsB r).length = 4 + x.length + 4 + (partsB (r.drop 65536)).length := by
        rw [partsB_cons r h0, hb]
        simp only [List.length_append, le4_length]
      rw [hlen, show a + (4 + x.length + 4 + (partsB (r.drop 65536)).length) = a + (4 + x.length + 4) + (partsB (r.drop 65536)).length by omega]
      exact ⟨by rw [s1, i1, List.append_assoc, List.take_append_drop], i2⟩
/-- the state behind the head that Pack writes -/
def stF (most : Nat) : FSt := ⟨7, most, 116, 65536, 0⟩
theorem head_frame (D : List UInt8) (most : Nat) : headR (frHead ++ D) most = .ok (stF most) := by
  have hq := hashN_lt 0 [116, 64]
  have hl : (frHead ++ D).length = 7 + D.length := by rw [List.length_append]; rfl
  unfold headR
  rw [hl, if_neg (by omega), if_neg (by intro h; exact h rfl), if_neg (by omega), show at8 (frHead ++ D) 4 = 116 from rfl, if_neg (by decide), if_neg (by omega), show at8 (frHead ++ D) 5 = 64 from rfl, if_neg (by decide), if_pos (by decide)]
  unfold finR
  rw [hl, if_neg (by omega), show at8 (frHead ++ D) 4 = 116 from rfl, show at8 (frHead ++ D) 5 = 64 from rfl, show ((frHead ++ D).take 6).drop 4 = [116, 64] from rfl]
  have h6 : at8 (frHead ++ D) 6 = hashN 0 [116, 64] / 256 % 256 := by
    show (byteAt (hashN 0 [116, 64]) 1).toNat = _
    unfold byteAt
    rw [UInt8.toNat_ofNat', Nat.pow_one]
  rw [if_pos h6]
  rfl
theorem frame_back (l tail : List UInt8) (most : Nat) (h : l.length ≤ most) : frameR (frPack l ++ tail) most = .ok (l, (frPack l).length) := by
  have hS : frPack l ++ tail = frHead ++ (partsB l ++ (le4 0 ++ (le4 (hashN 0 l) ++ tail))) := by
    unfold frPack
    simp only [List.append_assoc]
  have d7 : (frPack l ++ tail).drop 7 = partsB l ++ (le4 0 ++ (le4 (hashN 0 l) ++ tail)) := by rw [hS]; rfl
  obtain ⟨b1, b2⟩ := blocks_parts most l.length l (Nat.le_refl _) (frPack l ++ tail) 7 [] _ d7 (by simpa using h)
  have b3 := block_end (frPack l ++ tail) most _ true 65536 ([] ++ l) _ b2
  have b4 : (frPack l ++ tail).drop (7 + (partsB l).length + 4) = le4 (hashN 0 l) ++ tail := drop_more b2 4 rfl
  have hlen := len_drop b4 (by simp [le4])
  have hl4 : (le4 (hashN 0 l) ++ tail).length = 4 + tail.length := by rw [List.length_append]; rfl
  rw [hl4] at hlen
  have hfl : (frPack l).length = 7 + (partsB l).length + 4 + 4 := by
    unfold frPack
    simp only [List.length_append, le4_length]
    show 7 + _ + _ = _
    omega
  rw [frameR_head]
  have hh : headR (frPack l ++ tail) most = .ok (stF most) := by rw [hS]; exact head_frame _ most
  rw [hh]
  simp only
  have on16 : onOf (stF most) 16 = true := by simp [onOf, stF]
  have on8 : onOf (stF most) 8 = false := by simp [onOf, stF]
  have on4 : onOf (stF most) 4 = true := by simp [onOf, stF]
  rw [on16, show (stF most).room = 65536 from rfl, show (stF most).most = most from rfl, show (stF most).a = 7 from rfl, b1, b3, restR_ok, on8, on4, if_neg (by simp)]
  have hs : sumE (frPack l ++ tail) true ([] ++ l) (7 + (partsB l).length + 4) = 0 := by
    unfold sumE
    rw [if_pos rfl, if_neg (by omega), b4, List.nil_append, le4_leN _ (hashN_lt 0 l), if_pos rfl]
  rw [if_pos hs, hfl]
  rfl
theorem frUnpack_back (l tail : List UInt8) (most : Nat) (h : l.length ≤ most) (hm : most ≤ 1048576) : frUnpack (frPack l ++ tail) (most : Int) = (l, (frPack l).length, 0) := by
  unfold frUnpack
  rw [if_neg (by omega), Int.toNat_natCast, frame_back l tail most h]
  rfl
theorem frPack_len (l : List UInt8) : (frPack l).length = 15 + (partsB l).length := by
  unfold frPack
  simp only [List.length_append, le4_length]
  show 7 + _ + _ = _
  omega
theorem blockB_len (p : List UInt8) : (blockB p).length ≤ p.length + 8 := by
  unfold blockB
  split
  · simp only [List.length_append, le4_length]; omega
  · simp only [List.length_append, le4_length]; omega
theorem partsB_len (n : Nat) : ∀ r : List UInt8, r.length ≤ n → (partsB r).length ≤ 9 * r.length := by
  induction n with
  | zero =>
    intro r hr
    obtain rfl : r = [] := List.eq_nil_of_length_eq_zero (by omega)
    rw [partsB_nil]; simp
  | succ n ih =>
    intro r hr
    by_cases h0 : r = []
    · subst h0; rw [partsB_nil]; simp
    · have hr0 : r.length ≠ 0 := by simpa using h0
      have h1 := ih (r.drop 65536) (by simp; omega)
      have h2 := blockB_len (r.take 65536)
      rw [partsB_cons r h0, List.length_append]
      simp only [List.length_take, List.length_drop] at h1 h2
      omega
end Go.Proofs.Ytipadidfiffkjaa
