/- A frame that is being read: its memory, and take, byte, number. -/
import Derived.Test.YtipadidfiffkjaaRows
import Derived.Test.YtipadidfiffkjaaFrBuild
import Derived.Test.YtipadidfiffkjaaFixed
import Derived.Test.YtipadidfiffkjaaLzUnpack
import Derived.Test.YtipadidfiffkjaaHash
namespace Go.Proofs.Ytipadidfiffkjaa
open Go.RowKit Go.PostSums Go.PostMem
abbrev fcells (s : ByteArray) (a most flag room size : Nat) (p v : Value) : Array Value :=
  #[.string s, .int .i64 (a : Int), .int .i64 (most : Int), .int .u8 (flag : Int), .int .i64 (room : Int), .int .i64 (size : Int), p, v]
structure FSt where
  a : Nat
  most : Nat
  flag : Nat
  room : Nat
  size : Nat
def Fr (w : World) (B b : Nat) (s : ByteArray) (f : FSt) (l : List UInt8) : Prop :=
  ∃ p v, BAt w B b (fcells s f.a f.most f.flag f.room f.size p v) 40 6 l
theorem Fr.cells {w : World} {B b : Nat} {s : ByteArray} {f : FSt} {l : List UInt8} (h : Fr w B b s f l) :
    w.cell? ⟨b, 0, none⟩ = some (.string s) ∧ w.cell? ⟨b, 1, none⟩ = some (.int .i64 (f.a : Int)) ∧ w.cell? ⟨b, 2, none⟩ = some (.int .i64 (f.most : Int)) ∧ w.cell? ⟨b, 3, none⟩ = some (.int .u8 (f.flag : Int)) ∧
      w.cell? ⟨b, 4, none⟩ = some (.int .i64 (f.room : Int)) ∧ w.cell? ⟨b, 5, none⟩ = some (.int .i64 (f.size : Int)) := by
  obtain ⟨p, v, h0, _⟩ := h
  refine ⟨?_, ?_, ?_, ?_, ?_, ?_⟩ <;> exact (cell_of_row w b _ _ _ _ h0).trans rfl
theorem Fr.free {w : World} {B b : Nat} {s : ByteArray} {f : FSt} {l : List UInt8} (h : Fr w B b s f l) (k : Nat) : w.frozen? ⟨b, k, none⟩ = false := by
  obtain ⟨p, v, h0, _⟩ := h
  exact frozen_of_row w b k _ _ h0
theorem Fr.drewN {w : World} {B b : Nat} {s : ByteArray} {f : FSt} {l : List UInt8} (h : Fr w B b s f l) (m : Nat) : Fr (w.drewN m) B b s f l := h
theorem Fr.other {w w' : World} {B b : Nat} {s : ByteArray} {f : FSt} {l : List UInt8} (h : Fr w B b s f l) (hb : Below w.heap.size w w') : Fr w' B b s f l := by
  obtain ⟨p, v, h0⟩ := h
  exact ⟨p, v, h0.other hb⟩
theorem Fr.at_ {w : World} {B b : Nat} {s : ByteArray} {f : FSt} {l : List UInt8} (h : Fr w B b s f l) (x : Nat) : Fr (w.setCell ⟨b, 1, none⟩ (.int .i64 (x : Int))) B b s { f with a := x } l := by
  obtain ⟨p, v, h0⟩ := h
  exact ⟨p, v, h0.set (by decide) 1 _ (by decide) (by decide)⟩
theorem Fr.flag_ {w : World} {B b : Nat} {s : ByteArray} {f : FSt} {l : List UInt8} (h : Fr w B b s f l) (x : Nat) : Fr (w.setCell ⟨b, 3, none⟩ (.int .u8 (x : Int))) B b s { f with flag := x } l := by
  obtain ⟨p, v, h0⟩ := h
  exact ⟨p, v, h0.set (by decide) 3 _ (by decide) (by decide)⟩
theorem Fr.room_ {w : World} {B b : Nat} {s : ByteArray} {f : FSt} {l : List UInt8} (h : Fr w B b s f l) (x : Nat) : Fr (w.setCell ⟨b, 4, none⟩ (.int .i64 (x : Int))) B b s { f with room := x } l := by
  obtain ⟨p, v, h0⟩ := h
  exact ⟨p, v, h0.set (by decide) 4 _ (by decide) (by decide)⟩
theorem Fr.size_ {w : World} {B b : Nat} {s : ByteArray} {f : FSt} {l : List UInt8} (h : Fr w B b s f l) (x : Nat) : Fr (w.setCell ⟨b, 5, none⟩ (.int .i64 (x : Int))) B b s { f with size := x } l := by
  obtain ⟨p, v, h0⟩ := h
  exact ⟨p, v, h0.set (by decide) 5 _ (by decide) (by decide)⟩
theorem kept_set (w : World) (b B k : Nat) (x : Value) : Kept b B w (w.setCell ⟨b, k, none⟩ x) := Kept.of_grown (grown_set w b k x) (fun i hi => .inl (by simpa using hi.symm))
theorem kept_drewN (w : World) (b B m : Nat) : Kept b B w (w.drewN m) := ⟨rfl, rfl, rfl, Nat.le_refl _, fun _ _ _ _ => rfl⟩
def TakePost (B b : Nat) (s : ByteArray) (f : FSt) (l : List UInt8) (n : Nat) (w : World) (e : Ending) (w' : World) : Prop :=
  Kept b B w w' ∧ if s.size < f.a + n then e = .returned (.tuple #[.string (strOf []), .int .i64 5]) ∧ Fr w' B b s f l else
    e = .returned (.tuple #[.string (strOf ((s.data.toList.drop f.a).take n)), .int .i64 0]) ∧ Fr w' B b s { f with a := f.a + n } l
theorem extract_strOf (s : ByteArray) (a c n : Nat) (h : c = a + n) : s.extract a c = strOf ((s.data.toList.drop a).take n) := by
  subst h
  rw [← strOf_self (s.extract a (a + n))]
  congr 1
  simp
set_option maxRecDepth 100000 in
set_option maxHeartbeats 1600000 in
theorem take_any (B b : Nat) (s : ByteArray) (f : FSt) (l : List UInt8) (n : Nat) (w : World) (h : Fr w B b s f l) (hs : s.size ≤ 140737488351232) (ha : f.a ≤ s.size) (hn : n ≤ 4294967296) :
    Calls Try.prog 29 #[.pointer (some ⟨b, 0, none⟩), .int .i64 (n : Int)] w (TakePost B b s f l n w) := by
  obtain ⟨c0, c1, -⟩ := h.cells
  have f1 := h.free 1
  have HF := Lib.hid h
  clear h
  obtain ⟨a, most, flag, room, size⟩ := f
  simp only at c1 ha
  by_cases hc : s.size < a + n
  · have t1 : (s.size : Int) - (a : Int) < (n : Int) := by omega
    go_enter Try.func29, Try.ntmps29
    go_wp2_with fail
    go_quiet (fail)
    go_wp2_with fail
    go_ret2
    unfold TakePost
    rw [if_pos hc]
    exact ⟨kept_drewN w b B _, rfl, HF.out.drewN _⟩
  · have t1 : ¬ (s.size : Int) - (a : Int) < (n : Int) := by omega
    go_enter Try.func29, Try.ntmps29
    go_wp2_with fail
    go_quiet (fail)
    go_wp2_with fail
    have HX : Hid (Fr ((w.drewN nq).setCell ⟨b, 1, none⟩ (.int .i64 ((a : Int) + (n : Int)))) B b s ⟨a + n, most, flag, room, size⟩ l ∧ Kept b B w ((w.drewN nq).setCell ⟨b, 1, none⟩ (.int .i64 ((a : Int) + (n : Int))))) :=
      Lib.hid ⟨by have := (HF.out.drewN nq).at_ (a + n); rw [Int.natCast_add] at this; exact this, (kept_drewN w b B nq).trans (kept_set _ b B 1 _)⟩
    generalize (w.drewN nq).setCell ⟨b, 1, none⟩ (.int .i64 ((a : Int) + (n : Int))) = w2 at HX
    obtain ⟨d0, d1, -⟩ := HX.out.1.cells
    simp only at d1
    have e1 : ((a + n : Nat) : Int) - (n : Int) = (a : Int) := by omega
    have e2 : (((a + n : Nat) : Int)).toNat = a + n := by omega
    have e3 : 0 ≤ ((a + n : Nat) : Int) := by omega
    have e4 : (a : Int) ≤ ((a + n : Nat) : Int) := by omega
    have e5 : ((a + n : Nat) : Int) ≤ (s.size : Int) := by omega
    clear c0 c1 f1
    go_quiet (fail)
    go_wp2_with fail
    go_ret2
    unfold TakePost
    rw [if_neg hc]
    refine ⟨HX.out.2.trans (kept_drewN w2 b B nq), ?_, HX.out.1.drewN nq⟩
    rw [← extract_strOf s a (a + n) n rfl]
    rfl
theorem take_at (B b : Nat) (s : ByteArray) (f : FSt) (l : List UInt8) (n : Nat) (x : Int) (w : World) (hx : x = (n : Int)) (h : Fr w B b s f l) (hs : s.size ≤ 140737488351232) (ha : f.a ≤ s.size) (hn : n ≤ 4294967296) :
    Calls Try.prog 29 #[.pointer (some ⟨b, 0, none⟩), .int .i64 x] w (TakePost B b s f l n w) := by
  subst hx; exact take_any B b s f l n w h hs ha hn
theorem fixed_at (s : ByteArray) (n : Nat) (x : Int) (w : World) (hx : x = (n : Int)) (hs : s.size ≤ 140737488351232) (h1 : 1 ≤ n) (h8 : n ≤ 8) :
    Calls Try.prog 31 #[.string s, .int .i64 x] w (FixPost s n w) := by
  subst hx; exact Fixed_any s n w hs h1 h8
theorem leN_take (l : List UInt8) (n k : Nat) (h : k ≤ n) : leN (l.take n) k = leN l k := by
  induction k with
  | zero => rfl
  | succ k ih =>
    rw [leN, leN, ih (by omega)]
    have : at8 (l.take n) k = at8 l k := by
      unfold at8
      rw [List.getD_eq_getElem?_getD, List.getD_eq_getElem?_getD, List.getElem?_take, if_pos (by omega)]
    rw [this]
def BytePost (B b : Nat) (s : ByteArray) (f : FSt) (l : List UInt8) (w : World) (e : Ending) (w' : World) : Prop :=
  Kept b B w w' ∧ if s.size < f.a + 1 then e = .returned (.tuple #[.int .u8 0, .int .i64 5]) ∧ Fr w' B b s f l else
    e = .returned (.tuple #[.int .u8 (at8 s.data.toList f.a : Nat), .int .i64 0]) ∧ Fr w' B b s { f with a := f.a + 1 } l
set_option maxRecDepth 100000 in
set_option maxHeartbeats 1600000 in
theorem byte_any (B b : Nat) (s : ByteArray) (f : FSt) (l : List UInt8) (w : World) (h : Fr w B b s f l) (hs : s.size ≤ 140737488351232) (ha : f.a ≤ s.size) :
    Calls Try.prog 30 #[.pointer (some ⟨b, 0, none⟩)] w (BytePost B b s f l w) := by
  by_cases hc : s.size < f.a + 1
  · go_enter Try.func30, Try.ntmps30
    go_wp2_with (go_at_call 29; (with_reducible refine (take_at B b s f l 1 1 _ rfl h hs ha (by decide)).mono ?_); rintro e w1 ⟨hk, hp⟩; rw [if_pos hc] at hp; obtain ⟨rfl, hF⟩ := hp)
    go_ret2
    unfold BytePost
    rw [if_pos hc]
    exact ⟨hk, rfl, hF⟩
  · have hl : (strOf ((s.data.toList.drop f.a).take 1)).size = 1 := by rw [strOf_size]; simp; omega
    have hx : (strOf ((s.data.toList.drop f.a).take 1)).data.toList = [s[f.a]] := by
      rw [strOf_list, List.drop_eq_getElem_cons (by simpa using (show f.a < s.size by omega))]
      rfl
    have hb : at8 s.data.toList f.a = s[f.a].toNat := at8_byte s f.a (by omega)
    have h0 : at8 (strOf ((s.data.toList.drop f.a).take 1)).data.toList 0 = at8 s.data.toList f.a := by rw [hx, hb]; rfl
    generalize hz : strOf ((s.data.toList.drop f.a).take 1) = z at hl h0
    rw [at8_byte z 0 (by omega)] at h0
    have H0 := Lib.hid h0
    clear hx hb h0
    have i0 : 0 < z.size := by omega
    go_enter Try.func30, Try.ntmps30
    go_wp2_with (go_at_call 29; (with_reducible refine (take_at B b s f l 1 1 _ rfl h hs ha (by decide)).mono ?_); rintro e w1 ⟨hk, hp⟩; rw [if_neg hc, hz] at hp; obtain ⟨rfl, hF⟩ := hp)
    go_ret2
    unfold BytePost
    rw [if_neg hc]
    rw [← H0.out]
    exact ⟨hk, rfl, hF⟩
def FNumPost (B b : Nat) (s : ByteArray) (f : FSt) (l : List UInt8) (w : World) (e : Ending) (w' : World) : Prop :=
  Kept b B w w' ∧ if s.size < f.a + 4 then e = .returned (.tuple #[.int .i64 0, .int .i64 5]) ∧ Fr w' B b s f l else
    e = .returned (.tuple #[.int .i64 (leN (s.data.toList.drop f.a) 4 : Nat), .int .i64 0]) ∧ Fr w' B b s { f with a := f.a + 4 } l
set_option maxRecDepth 100000 in
set_option maxHeartbeats 1600000 in
theorem number_any (B b : Nat) (s : ByteArray) (f : FSt) (l : List UInt8) (w : World) (h : Fr w B b s f l) (hs : s.size ≤ 140737488351232) (ha : f.a ≤ s.size) :
    Calls Try.prog 32 #[.pointer (some ⟨b, 0, none⟩)] w (FNumPost B b s f l w) := by
  by_cases hc : s.size < f.a + 4
  · go_enter Try.func32, Try.ntmps32
    go_wp2_with (go_at_call 29; (with_reducible refine (take_at B b s f l 4 4 _ rfl h hs ha (by decide)).mono ?_); rintro e w1 ⟨hk, hp⟩; rw [if_pos hc] at hp; obtain ⟨rfl, hF⟩ := hp)
    go_ret2
    unfold FNumPost
    rw [if_pos hc]
    exact ⟨hk, rfl, hF⟩
  · have hl : (strOf ((s.data.toList.drop f.a).take 4)).size = 4 := by rw [strOf_size]; simp; omega
    have hfx : fixedN (strOf ((s.data.toList.drop f.a).take 4)).data.toList 4 = (leN (s.data.toList.drop f.a) 4, 0) := by
      have hlt := leN_lt (s.data.toList.drop f.a) 4
      have he : leN ((s.data.toList.drop f.a).take 4) 4 = leN (s.data.toList.drop f.a) 4 := leN_take _ 4 4 (Nat.le_refl _)
      unfold fixedN
      rw [if_neg (by rw [strOf_list]; simp; omega), strOf_list, he, if_neg (by have : (256 : Nat) ^ 4 = 4294967296 := by decide
                                                                               omega)]
    have HFX := Lib.hid hfx; clear hfx
    generalize hz : strOf ((s.data.toList.drop f.a).take 4) = z at hl HFX
    go_enter Try.func32, Try.ntmps32
    go_wp2_with (first
      | (go_at_call 29; (with_reducible refine (take_at B b s f l 4 4 _ rfl h hs ha (by decide)).mono ?_); rintro e w1 ⟨hk, hp⟩; rw [if_neg hc, hz] at hp; obtain ⟨rfl, hF⟩ := hp)
      | (go_at_call 31; (with_reducible refine (fixed_at z 4 4 _ rfl (by omega) (by decide) (by decide)).mono ?_); rintro e w2 ⟨rfl, rfl⟩))
    go_ret2
    unfold FNumPost
    rw [if_neg hc, HFX.out]
    exact ⟨hk, rfl, hF⟩
end Go.Proofs.Ytipadidfiffkjaa
