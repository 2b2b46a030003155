/- lz.Unpack: what a block tells, or why it tells nothing. -/
import Derived.Test.YtipadidfiffkjaaLzCopies
namespace Go.Proofs.Ytipadidfiffkjaa
open Go.RowKit Go.PostSums Go.PostMem
theorem and15 (a : Nat) (ha : a < 256) : Go.bits .and .i64 (a : Int) 15 = ((a % 16 : Nat) : Int) := by
  have := and64 a 15 (by omega) (by decide)
  rw [show a &&& 15 = a % 16 from Nat.and_two_pow_sub_one_eq_mod a 4] at this
  exact this
theorem lits_at (b : Nat) (s : ByteArray) (at_ most : Nat) (v : Value) (out : List UInt8) (n : Nat) (x : Int) (w : World) (hx : x = (n : Int)) (hL : Lz w b s at_ most v out) (hs : s.size ≤ 140737488351232) (hat : at_ ≤ s.size) (hn : n ≤ 15) (hm : most ≤ 1048576) (ho : out.length ≤ most) :
    Calls Try.prog 52 #[.pointer (some ⟨b, 0, none⟩), .int .i64 x] w (LitsPost b s at_ most out n w) := by
  subst hx; exact lits_walk b s at_ most v out n w hL hs hat hn hm ho
theorem copies_at (b : Nat) (s : ByteArray) (at_ most : Nat) (v : Value) (out : List UInt8) (n : Nat) (x : Int) (w : World) (hx : x = (n : Int)) (hL : Lz w b s at_ most v out) (hs : s.size ≤ 140737488351232) (hat : at_ ≤ s.size) (hn : n ≤ 15) (hm : most ≤ 1048576) (ho : out.length ≤ most) :
    Calls Try.prog 53 #[.pointer (some ⟨b, 0, none⟩), .int .i64 x] w (CopiesPost b s at_ most out n w) := by
  subst hx; exact copies_walk b s at_ most v out n w hL hs hat hn hm ho
def UnpackPost (s : ByteArray) (most : Int) (w : World) (e : Ending) (w' : World) : Prop :=
  e = .returned (.tuple #[.string (strOf (PostLz.unpack s.data.toList most).1), .int .i64 ((PostLz.unpack s.data.toList most).2 : Int)]) ∧ Below w.heap.size w w'
set_option maxRecDepth 100000 in
set_option maxHeartbeats 1600000 in
theorem Unpack_any (s : ByteArray) (most : Int) (w : World) (hs : s.size ≤ 140737488351232) :
    Calls Try.prog 43 #[.string s, .int .i64 most] w (UnpackPost s most w) := by
  by_cases h1 : most < 0
  · have HP : Hid (PostLz.unpack s.data.toList most = ([], 1)) := Lib.hid (by unfold PostLz.unpack; rw [if_pos (.inl h1)])
    go_enter Try.func43, Try.ntmps43
    go_wp2_with fail
    go_ret2
    unfold UnpackPost
    rw [HP.out]
    exact ⟨rfl, Below.refl _ _⟩
  · by_cases h2 : 1048576 < most
    · have HP : Hid (PostLz.unpack s.data.toList most = ([], 1)) := Lib.hid (by unfold PostLz.unpack; rw [if_pos (.inr h2)])
      go_enter Try.func43, Try.ntmps43
      go_wp2_with fail
      go_ret2
      unfold UnpackPost
      rw [HP.out]
      exact ⟨rfl, Below.refl _ _⟩
    · obtain ⟨m, rfl⟩ : ∃ m : Nat, most = (m : Int) := ⟨most.toNat, by omega⟩
      have hm : m ≤ 1048576 := by omega
      have HP : Hid (PostLz.unpack s.data.toList (m : Int) = PostLz.answer (PostLz.unpackFrom m s.data.toList [])) := Lib.hid (by
        unfold PostLz.unpack; rw [if_neg (by omega), Int.toNat_natCast])
      go_enter Try.func43, Try.ntmps43
      go_wp2_with fail
      obtain ⟨b, hb⟩ : ∃ b, b = w.heap.size := ⟨_, rfl⟩
      have hblk : LzB (w.alloc (.cells #[.string s, .int .i64 0, .int .i64 (m : Int), .slice none 0 0] 85)) w.heap.size s 0 m (.slice none 0 0) := heap_alloc_new w _
      have hL0 : Hid (Lz (w.alloc (.cells #[.string s, .int .i64 0, .int .i64 (m : Int), .slice none 0 0] 85)) b s 0 m (.slice none 0 0) [] ∧ Below w.heap.size w (w.alloc (.cells #[.string s, .int .i64 0, .int .i64 (m : Int), .slice none 0 0] 85))) :=
        Lib.hid (by rw [hb]; exact ⟨⟨hblk, Buf.nil _ _ _⟩, (Below.refl _ _).alloc (Nat.le_refl _) _⟩)
      generalize w.alloc (.cells #[.string s, .int .i64 0, .int .i64 (m : Int), .slice none 0 0] 85) = W0 at hblk hL0
      clear hblk
      rw [← hb]
      have HB := Lib.hid hb; clear hb
      go_loopw [7] (fun _ wr => ∃ k v' out, Hid (k ≤ s.size ∧ Lz wr b s k m v' out ∧ out.length ≤ m ∧ Below w.heap.size w wr ∧ PostLz.unpackFrom m (s.data.toList.drop k) out = PostLz.unpackFrom m s.data.toList [])) (fun _ wr => s.size - atOf wr b)
      case atStart => exact ⟨0, _, [], Lib.hid ⟨Nat.zero_le _, hL0.out.1, Nat.zero_le _, hL0.out.2, rfl⟩⟩
      case round =>
        obtain ⟨k, v', out, HI⟩ := hrel
        obtain ⟨hk, hL, ho, hBl, hE⟩ := HI.out
        clear HI hL0
        have c0 : wr.cell? ⟨b, 0, none⟩ = some (.string s) := hL.blk.cell 0
        have c1 : wr.cell? ⟨b, 1, none⟩ = some (.int .i64 (k : Int)) := hL.blk.cell 1
        have f1 := hL.blk.free 1
        have HL := Lib.hid hL; have HBl := Lib.hid hBl; have HE := Lib.hid hE
        clear hL hBl hE
        by_cases hlt : k < s.size
        · have b1 : ((k : Int) == (s.size : Int)) = false := beq_eq_false_iff_ne.2 (by omega)
          have ik : (k : Int) < (s.size : Int) := by omega
          have HD := Lib.hid (drop_at s k hlt)
          have hb8 := s[k].toNat_lt
          go_upto_region 8 with (fail)
          have HL1 : Hid (Lz (wr.setCell ⟨b, 1, none⟩ (.int .i64 ((k : Int) + 1))) b s (k + 1) m v' out) := Lib.hid (HL.out.row (HL.out.blk.setI _ (k + 1) (by omega)) (grown_set wr b 1 _))
          have HB1 : Hid (Below w.heap.size w (wr.setCell ⟨b, 1, none⟩ (.int .i64 ((k : Int) + 1)))) := Lib.hid (HBl.out.trans (below_grown (grown_set wr b 1 _) (fun j hj => by cases hj; exact Nat.le_of_eq HB.out.symm) (by have := HL.out.blk.lt; have := HB.out; omega)))
          generalize wr.setCell ⟨b, 1, none⟩ (.int .i64 ((k : Int) + 1)) = W1 at HL1 HB1
          obtain ⟨y, Hy⟩ : ∃ y, Hid (s[k].toNat = y) := ⟨_, Lib.hid rfl⟩
          have hy : s[k].toNat = y := Hy.out
          rw [hy] at hb8 ⊢
          clear hy
          have hy15 : y / 16 ≤ 15 := by omega
          have hk1 : k + 1 ≤ s.size := hlt
          have h64 := and15 y hb8
          have hne : ∀ W2, Below b W1 W2 → Below w.heap.size w W2 := fun W2 h => HB1.out.trans (h.mono (Nat.le_of_eq HB.out.symm))
          have HNE := Lib.hid hne
          clear c0 c1 f1 b1 ik hne
          cases hl : PostLz.lits m (y / 16) (s.data.toList.drop (k + 1)) out with
          | error e =>
            have he := PostLz.lits_error hl
            have HP' : Hid (PostLz.unpack s.data.toList (m : Int) = ([], e)) := Lib.hid (by rw [HP.out, ← HE.out, HD.out, PostLz.unpackFrom_cons, Hy.out, hl]; rfl)
            have Hl := Lib.hid hl
            have be : ((e : Int) != 0) = true := bne_iff_ne.2 (by omega)
            clear hl he
            go_wp2_with (go_at_call 52; with_reducible refine (lits_at b s (k + 1) m _ out (y / 16) _ _ (by omega) HL1.out hs hk1 hy15 hm ho).mono ?_; intro e1 w1 hp1; unfold LitsPost at hp1; rw [Hl.out] at hp1; obtain ⟨rfl, hp2⟩ := hp1; have HW1 := Lib.hid (HNE.out _ hp2); clear hp2)
            go_ret2
            unfold UnpackPost
            rw [HP'.out]
            exact ⟨rfl, HW1.out⟩
          | ok x =>
            obtain ⟨r3, o2⟩ := x
            have Hl := Lib.hid hl
            have ho2 := PostLz.lits_most hl
            clear hl
            go_upto_region 11 with (go_at_call 52; with_reducible refine (lits_at b s (k + 1) m _ out (y / 16) _ _ (by omega) HL1.out hs hk1 hy15 hm ho).mono ?_; intro e1 w1 hp1; unfold LitsPost at hp1; rw [Hl.out] at hp1; obtain ⟨k3, v3, hr3, hk3, hks3, rfl, hL3, hB3⟩ := hp1)
            have HL3 := Lib.hid hL3
            have HB3 := Lib.hid (HNE.out _ hB3)
            have HN3 : Hid (∀ W2, Below b w1 W2 → Below w.heap.size w W2) := Lib.hid fun W2 h => HB3.out.trans (h.mono (Nat.le_of_eq HB.out.symm))
            have HR3 := Lib.hid hr3
            obtain ⟨A3, c3, rfl, hc3, _⟩ := hL3.buf.len
            have d1 : w1.cell? ⟨b, 1, none⟩ = some (.int .i64 (k3 : Int)) := hL3.blk.cell 1
            have d3 : w1.cell? ⟨b, 3, none⟩ = some (.slice A3 o2.length c3) := hL3.blk.cell 3
            clear hL3 hB3 hr3
            by_cases hend : k3 = s.size
            · have b3 : ((k3 : Int) == (s.size : Int)) = true := beq_iff_eq.2 (by omega)
              have HP' : Hid (PostLz.unpack s.data.toList (m : Int) = (o2, 0)) := Lib.hid (by
                rw [HP.out, ← HE.out, HD.out, PostLz.unpackFrom_cons, Hy.out, Hl.out]
                simp only
                rw [if_pos (by rw [HR3.out, hend, List.drop_of_length_le (by simp)])]; rfl)
              clear hend
              go_wp2_with (refine wpList_conv rfl 30 9 (.tmp 58) rfl _ _ _ rfl (HL3.out.buf.back Try.underlying30 Try.underlying5 Try.underlying9) ?_)
              go_ret2
              unfold UnpackPost
              rw [HP'.out]
              exact ⟨rfl, HB3.out⟩
            · have b3 : ((k3 : Int) == (s.size : Int)) = false := beq_eq_false_iff_ne.2 (by omega)
              have HEE : Hid (PostLz.unpackFrom m s.data.toList [] = match PostLz.copies m (y % 16) (s.data.toList.drop k3) o2 with
                | .error e => .error e
                | .ok (r5, out3) => PostLz.unpackFrom m r5 out3) := Lib.hid (by
                rw [← HE.out, HD.out, PostLz.unpackFrom_cons, Hy.out, Hl.out]
                simp only
                rw [if_neg (by rw [HR3.out]; intro h; have := congrArg List.length h; simp at this; omega), HR3.out]
                cases PostLz.copies m (y % 16) (s.data.toList.drop k3) o2 <;> rfl)
              have hy16 : y % 16 ≤ 15 := by omega
              clear hend
              cases hcp : PostLz.copies m (y % 16) (s.data.toList.drop k3) o2 with
              | error e =>
                have he := PostLz.copies_error hcp
                have HP' : Hid (PostLz.unpack s.data.toList (m : Int) = ([], e)) := Lib.hid (by rw [HP.out, HEE.out, hcp]; rfl)
                have Hc := Lib.hid hcp
                have be : ((e : Int) != 0) = true := bne_iff_ne.2 (by omega)
                clear hcp he
                go_wp2_with (go_at_call 53; with_reducible refine (copies_at b s k3 m _ o2 (y % 16) _ _ (by first | rfl | omega) HL3.out hs hks3 hy16 hm ho2).mono ?_; intro e1 w2 hp1; unfold CopiesPost at hp1; rw [Hc.out] at hp1; obtain ⟨rfl, hp2⟩ := hp1; have HW1 := Lib.hid (HN3.out _ hp2); clear hp2)
                go_ret2
                unfold UnpackPost
                rw [HP'.out]
                exact ⟨rfl, HW1.out⟩
              | ok x =>
                obtain ⟨r5, o4⟩ := x
                have Hc := Lib.hid hcp
                have ho4 := PostLz.copies_most hcp
                have HE4 : Hid (PostLz.unpackFrom m r5 o4 = PostLz.unpackFrom m s.data.toList []) := Lib.hid (by rw [HEE.out, hcp])
                have hlt5 := PostLz.copies_len hcp
                clear hcp
                go_wp2_with (go_at_call 53; with_reducible refine (copies_at b s k3 m _ o2 (y % 16) _ _ (by first | rfl | omega) HL3.out hs hks3 hy16 hm ho2).mono ?_; intro e1 w2 hp1; unfold CopiesPost at hp1; rw [Hc.out] at hp1; obtain ⟨k5, v5, hr5, hk5, hks5, rfl, hL5, hB5⟩ := hp1; have HL5 := Lib.hid hL5; have HB5 := Lib.hid (HN3.out _ hB5); have HR5 := Lib.hid hr5; clear hL5 hB5 hr5)
                go_roundw
                case rel => exact ⟨k5, v5, o4, Lib.hid ⟨hks5, HL5.out, ho4, HB5.out, by rw [← HR5.out]; exact HE4.out⟩⟩
                case measure => rw [HL5.out.blk.at_, HL.out.blk.at_]; omega
        · obtain rfl : k = s.size := by omega
          have b1 : ((s.size : Int) == (s.size : Int)) = true := beq_self_eq_true _
          have HP' : Hid (PostLz.unpack s.data.toList (m : Int) = ([], 5)) := Lib.hid (by rw [HP.out, ← HE.out, List.drop_of_length_le (by simp), PostLz.unpackFrom_nil]; rfl)
          go_wp2_with fail
          go_ret2
          unfold UnpackPost
          rw [HP'.out]
          exact ⟨rfl, HBl.out⟩
end Go.Proofs.Ytipadidfiffkjaa
