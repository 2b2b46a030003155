/- (*lz.block).number: a number that begins with four bits. -/
import Derived.Test.YtipadidfiffkjaaRows
import Derived.Test.YtipadidfiffkjaaMem
import Derived.Test.YtipadidfiffkjaaLzPlain
import Derived.WalkSpells
import Derived.WalkLawsBesides
import Derived.Deep.DeepCutAuto
namespace Go.Proofs.Ytipadidfiffkjaa
open Go.RowKit Go.PostSums Go.PostMem
/-- the cells of a block that is being read -/
def lzc (s : ByteArray) (at_ most : Nat) (v : Value) : Array Value := #[.string s, .int .i64 (at_ : Int), .int .i64 (most : Int), v]
def LzB (w : World) (b : Nat) (s : ByteArray) (at_ most : Nat) (v : Value) : Prop := w.heap[b]? = some (.cells (lzc s at_ most v) 85 (0, 0))
theorem LzB.cell {w : World} {b : Nat} {s : ByteArray} {at_ most : Nat} {v : Value} (h : LzB w b s at_ most v) (j : Nat) : w.cell? ⟨b, j, none⟩ = (lzc s at_ most v)[j]? := cell_of_row w b j _ _ _ h
theorem LzB.free {w : World} {b : Nat} {s : ByteArray} {at_ most : Nat} {v : Value} (h : LzB w b s at_ most v) (j : Nat) : w.frozen? ⟨b, j, none⟩ = false := frozen_of_row w b j _ _ h
theorem LzB.set {w : World} {b : Nat} {s : ByteArray} {at_ most : Nat} {v : Value} (h : LzB w b s at_ most v) (k : Nat) : LzB (w.setCell ⟨b, 1, none⟩ (.int .i64 (k : Int))) b s k most v := heap_setCell_same w b 1 _ _ _ h
theorem LzB.put {w : World} {b : Nat} {s : ByteArray} {at_ most : Nat} {v : Value} (h : LzB w b s at_ most v) (u : Value) : LzB (w.setCell ⟨b, 3, none⟩ u) b s at_ most u := heap_setCell_same w b 3 _ _ _ h
theorem LzB.lt {w : World} {b : Nat} {s : ByteArray} {at_ most : Nat} {v : Value} (h : LzB w b s at_ most v) : b < w.heap.size := (Array.getElem?_eq_some_iff.1 h).1
theorem LzB.later {w w' : World} {b : Nat} {s : ByteArray} {at_ most : Nat} {v : Value} (h : LzB w b s at_ most v) (hb : Below (b + 1) w w') : LzB w' b s at_ most v := (hb.block b (Nat.lt_succ_self b)).trans h
def atOf (w : World) (b : Nat) : Nat := match w.cell? ⟨b, 1, none⟩ with | some (.int _ k) => k.toNat | _ => 0
theorem LzB.at_ {w : World} {b : Nat} {s : ByteArray} {at_ most : Nat} {v : Value} (h : LzB w b s at_ most v) : atOf w b = at_ := by unfold atOf; rw [h.cell 1]; rfl
theorem LzB.setI {w : World} {b : Nat} {s : ByteArray} {at_ most : Nat} {v : Value} (h : LzB w b s at_ most v) (x : Int) (k : Nat) (e : x = (k : Int)) : LzB (w.setCell ⟨b, 1, none⟩ (.int .i64 x)) b s k most v := by
  subst e; exact LzB.set h k
theorem LzB.setN {w : World} {b : Nat} {s : ByteArray} {at_ most : Nat} {v : Value} (h : LzB w b s at_ most v) (m : Nat) (x : Int) (k : Nat) (e : x = (k : Int)) : LzB ((w.drewN m).setCell ⟨b, 1, none⟩ (.int .i64 x)) b s k most v := by
  subst e; exact LzB.set (w := w.drewN m) h k
theorem drop_at (s : ByteArray) (k : Nat) (h : k < s.size) : s.data.toList.drop k = s[k] :: s.data.toList.drop (k + 1) := by
  rw [List.drop_eq_getElem_cons (by simpa using h)]; rfl
def NumPost (b : Nat) (s : ByteArray) (at_ most : Nat) (v : Value) (n : Nat) (w : World) (e : Ending) (w' : World) : Prop :=
  match PostLz.num n (s.data.toList.drop at_) with
  | none => e = .returned (.tuple #[.int .i64 0, .bool false]) ∧ (∃ k, LzB w' b s k most v) ∧ w.grownBy w' (some b)
  | some (a, r) => ∃ k, r = s.data.toList.drop k ∧ at_ ≤ k ∧ k ≤ s.size ∧ a ≤ 15 + 255 * s.size ∧ e = .returned (.tuple #[.int .i64 (a : Int), .bool true]) ∧ LzB w' b s k most v ∧ w.grownBy w' (some b)
set_option maxRecDepth 100000 in
set_option maxHeartbeats 800000 in
theorem number_walk (b : Nat) (s : ByteArray) (at_ most : Nat) (v : Value) (n : Nat) (w : World) (hH : LzB w b s at_ most v) (hs : s.size ≤ 140737488351232) (hat : at_ ≤ s.size) (hn : n ≤ 15) :
    Calls Try.prog 56 #[.pointer (some ⟨b, 0, none⟩), .int .i64 (n : Int)] w (NumPost b s at_ most v n w) := by
  by_cases h15 : n < 15
  · have HN := Lib.hid (show PostLz.num n (s.data.toList.drop at_) = some (n, s.data.toList.drop at_) by unfold PostLz.num; rw [if_pos h15])
    have HH := Lib.hid hH; clear hH
    go_enter Try.func56, Try.ntmps56
    go_wp2_with fail
    go_ret2
    unfold NumPost
    rw [HN.out]
    exact ⟨at_, rfl, Nat.le_refl _, hat, by omega, rfl, HH.out, grown_refl _ _⟩
  · obtain rfl : n = 15 := by omega
    have HN : Hid (PostLz.num 15 (s.data.toList.drop at_) = PostLz.ext (s.data.toList.drop at_) 15) := Lib.hid (by unfold PostLz.num; rw [if_neg (by omega)])
    have HH := Lib.hid hH; clear hH
    go_enter Try.func56, Try.ntmps56
    go_wp2_with fail
    go_loopw [1] (fun v1 wr => ∃ k m : Nat, k ≤ s.size ∧ at_ ≤ k ∧ v1 = .int .i64 (m : Int) ∧ m ≤ 15 + 255 * k ∧
      Hid (LzB wr b s k most v ∧ w.grownBy wr (some b) ∧ PostLz.ext (s.data.toList.drop k) m = PostLz.ext (s.data.toList.drop at_) 15)) (fun _ wr => s.size - atOf wr b)
    case atStart => exact ⟨at_, 15, hat, Nat.le_refl _, rfl, by omega, Lib.hid ⟨HH.out, grown_refl _ _, rfl⟩⟩
    case round =>
      obtain ⟨k, m, hk, hak, rfl, hm, HR⟩ := hrel
      have c0 : wr.cell? ⟨b, 0, none⟩ = some (.string s) := HR.out.1.cell 0
      have c1 : wr.cell? ⟨b, 1, none⟩ = some (.int .i64 (k : Int)) := HR.out.1.cell 1
      have f1 := HR.out.1.free 1
      by_cases hlt : k < s.size
      · have ik : (k : Int) < (s.size : Int) := by omega
        have HE := Lib.hid HR.out.2.2
        have HD := Lib.hid (drop_at s k hlt)
        have HG := Lib.hid HR.out.2.1
        have HB := Lib.hid HR.out.1
        have hb8 := s[k].toNat_lt
        clear HR
        by_cases hc : s[k].toNat < 255
        · go_wp2_with fail
          go_quiet (fail)
          go_wp2_with fail
          go_quiet (fail)
          go_wp2_with fail
          go_ret2
          unfold NumPost
          rw [HN.out, ← HE.out, HD.out, PostLz.ext, if_pos hc]
          exact ⟨k + 1, rfl, by omega, by omega, by omega, by first | rfl | (congr 4; omega), HB.out.setN _ _ (k + 1) (by omega), grown_trans HG.out (grown_setN _ _ b 1 _)⟩
        · go_wp2_with fail
          go_quiet (fail)
          go_wp2_with fail
          go_quiet (fail)
          go_wp2_with fail
          go_roundw
          case rel => exact ⟨k + 1, m + s[k].toNat, by omega, by omega, by go_num, by omega, Lib.hid ⟨HB.out.setN _ _ (k + 1) (by omega), grown_trans HG.out (grown_setN _ _ b 1 _), by rw [← HE.out, HD.out, PostLz.ext, if_neg hc]⟩⟩
          case measure => rw [HB.out.at_, LzB.at_ (HB.out.setN _ _ (k + 1) (by omega))]; omega
      · obtain rfl : k = s.size := by omega
        have HE := Lib.hid HR.out.2.2
        have HG := Lib.hid HR.out.2.1
        have HB := Lib.hid HR.out.1
        clear HR
        go_wp2_with fail
        go_quiet (fail)
        go_wp2_with fail
        go_ret2
        unfold NumPost
        rw [HN.out, ← HE.out, List.drop_of_length_le (by simp), PostLz.ext]
        exact ⟨rfl, ⟨_, HB.out⟩, grown_trans HG.out (grown_drewN _ _ _)⟩
theorem number_none (b : Nat) (s : ByteArray) (at_ most : Nat) (v : Value) (n : Nat) (w : World) (hH : LzB w b s at_ most v) (hs : s.size ≤ 140737488351232) (hat : at_ ≤ s.size) (hn : n ≤ 15) (h : PostLz.num n (s.data.toList.drop at_) = none) :
    Calls Try.prog 56 #[.pointer (some ⟨b, 0, none⟩), .int .i64 (n : Int)] w fun e w' => e = .returned (.tuple #[.int .i64 0, .bool false]) ∧ (∃ k, LzB w' b s k most v) ∧ w.grownBy w' (some b) :=
  (number_walk b s at_ most v n w hH hs hat hn).mono fun e w' hp => by unfold NumPost at hp; rw [h] at hp; exact hp
theorem number_some (b : Nat) (s : ByteArray) (at_ most : Nat) (v : Value) (n : Nat) (w : World) (hH : LzB w b s at_ most v) (hs : s.size ≤ 140737488351232) (hat : at_ ≤ s.size) (hn : n ≤ 15) (a : Nat) (r : List UInt8) (h : PostLz.num n (s.data.toList.drop at_) = some (a, r)) :
    Calls Try.prog 56 #[.pointer (some ⟨b, 0, none⟩), .int .i64 (n : Int)] w fun e w' => e = .returned (.tuple #[.int .i64 (a : Int), .bool true]) ∧
      ∃ k, r = s.data.toList.drop k ∧ at_ ≤ k ∧ k ≤ s.size ∧ a ≤ 15 + 255 * s.size ∧ LzB w' b s k most v ∧ w.grownBy w' (some b) :=
  (number_walk b s at_ most v n w hH hs hat hn).mono fun e w' hp => by
    unfold NumPost at hp; rw [h] at hp
    obtain ⟨k, h1, h2, h3, h4, h5, h6⟩ := hp
    exact ⟨h5, k, h1, h2, h3, h4, h6⟩
end Go.Proofs.Ytipadidfiffkjaa
