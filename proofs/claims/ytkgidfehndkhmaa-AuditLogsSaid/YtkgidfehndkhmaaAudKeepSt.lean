/- What holds in the world while audit.Keeps runs. -/
import Derived.Test.YtkgidfehndkhmaaAudKSees
import Derived.Test.YtkgidfehndkhmaaAudOwn
import Derived.Test.YtkgidfehndkhmaaRows3
namespace Go.PostAud
def Pid.cells (d : Pid) : List Value := [.int .i64 d.prod, .int .i64 d.seq]
theorem Pid.cells_len (d : Pid) : d.cells.length = 2 := rfl
end Go.PostAud
namespace Go.Proofs.Ytkgidfehndkhmaa
open Go.RowKit Go.PostAud Go.PostMem
theorem row_ne {w : World} {base T sz : Nat} {v : Value} {k : Nat} {xs : List Value} {P : Program} {kt b : Nat} {g : Value → Option Value} (h : w.ownsRow base T sz v k xs) (hm : MapU.IsMap w P kt b g) : v.ownBlock = none ∨ v.ownBlock ≠ some b := by
  obtain ⟨es, clock, hb, _⟩ := hm
  rcases h.2 with ⟨rfl, _⟩ | ⟨g', cap, cur, rfl, _, hg, _⟩
  · exact .inl rfl
  · refine .inr fun e => ?_
    obtain rfl : g' = b := Option.some.inj e
    rw [hb] at hg
    exact nomatch hg
theorem own_step {w w' : World} {base T sz : Nat} {v : Value} {k : Nat} {xs : List Value} (h : w.ownsRow base T sz v k xs) (hb : Below w.heap.size w w') : w'.ownsRow base T sz v k xs := own_below h hb
/-- the first two maps, and the order -/
structure K2 (w : World) (b1 b2 : Nat) (g1 g2 : Value → Option Value) (A : Option Addr) (k c : Nat) (ord : List Pid) (wr : World) : Prop where
  below : Below w.heap.size w wr
  lt1 : w.heap.size ≤ b1
  lt2 : w.heap.size ≤ b2
  n12 : b1 ≠ b2
  m1 : MapU.IsMap wr Try.prog 36 b1 g1
  m2 : MapU.IsMap wr Try.prog 36 b2 g2
  row : wr.ownsRow w.heap.size 36 2 (.slice A k c) k (ord.flatMap Pid.cells)
theorem K2.step {w : World} {b1 b2 : Nat} {g1 g2 : Value → Option Value} {A : Option Addr} {k c : Nat} {ord : List Pid} {wr wx : World} (h : K2 w b1 b2 g1 g2 A k c ord wr) (hb : Below wr.heap.size wr wx) : K2 w b1 b2 g1 g2 A k c ord wx :=
  ⟨bstep h.below hb, h.lt1, h.lt2, h.n12, h.m1.of_block (hb.block _ h.m1.lt), h.m2.of_block (hb.block _ h.m2.lt), own_below h.row hb⟩
theorem K2.put2 {w : World} {b1 b2 : Nat} {g1 g2 g2' : Value → Option Value} {A : Option Addr} {k c : Nat} {ord : List Pid} {wr wx : World} (h : K2 w b1 b2 g1 g2 A k c ord wr) (hg : wr.grownBy wx (some b2)) (hm : MapU.IsMap wx Try.prog 36 b2 g2') : K2 w b1 b2 g1 g2' A k c ord wx :=
  ⟨h.below.trans (below_grown hg (fun j hj => by cases hj; exact h.lt2) h.below.size), h.lt1, h.lt2, h.n12, h.m1.kept hg (fun e => h.n12 (Option.some.inj e)), hm, h.row.kept hg (row_ne h.row h.m2)⟩
theorem K2.more {w : World} {b1 b2 : Nat} {g1 g2 : Value → Option Value} {A A' : Option Addr} {k c c' : Nat} {ord ord' : List Pid} {wr wx : World} (h : K2 w b1 b2 g1 g2 A k c ord wr) (hg : wr.grownBy wx (Value.slice A k c).ownBlock)
    (hr : wx.ownsRow w.heap.size 36 2 (.slice A' (k + 1) c') (k + 1) (ord'.flatMap Pid.cells)) : K2 w b1 b2 g1 g2 A' (k + 1) c' ord' wx := by
  have hne : ∀ {b : Nat} {g : Value → Option Value}, MapU.IsMap wr Try.prog 36 b g → some b ≠ (Value.slice A k c).ownBlock := fun hm e => by
    rcases row_ne h.row hm with h1 | h1
    · rw [h1] at e; exact nomatch e
    · exact h1 e.symm
  exact ⟨h.below.trans (below_grown hg (fun j hj => own_ge h.row j hj) h.below.size), h.lt1, h.lt2, h.n12, h.m1.kept hg (hne h.m1), h.m2.kept hg (hne h.m2), hr⟩
/-- all three maps -/
structure K3 (w : World) (b1 b2 b3 : Nat) (g1 g2 g3 : Value → Option Value) (A : Option Addr) (k c : Nat) (ord : List Pid) (wr : World) : Prop where
  two : K2 w b1 b2 g1 g2 A k c ord wr
  lt3 : w.heap.size ≤ b3
  n13 : b1 ≠ b3
  n23 : b2 ≠ b3
  m3 : MapU.IsMap wr Try.prog 9 b3 g3
theorem K3.step {w : World} {b1 b2 b3 : Nat} {g1 g2 g3 : Value → Option Value} {A : Option Addr} {k c : Nat} {ord : List Pid} {wr wx : World} (h : K3 w b1 b2 b3 g1 g2 g3 A k c ord wr) (hb : Below wr.heap.size wr wx) : K3 w b1 b2 b3 g1 g2 g3 A k c ord wx :=
  ⟨h.two.step hb, h.lt3, h.n13, h.n23, h.m3.of_block (hb.block _ h.m3.lt)⟩
theorem K3.grow {w : World} {b1 b2 b3 : Nat} {g1 g2 g3 g3' : Value → Option Value} {A : Option Addr} {k c : Nat} {ord : List Pid} {wr wx : World} (h : K3 w b1 b2 b3 g1 g2 g3 A k c ord wr) (hg : wr.grownBy wx (some b3)) (hm : MapU.IsMap wx Try.prog 9 b3 g3') : K3 w b1 b2 b3 g1 g2 g3' A k c ord wx :=
  ⟨⟨h.two.below.trans (below_grown hg (fun j hj => by cases hj; exact h.lt3) h.two.below.size), h.two.lt1, h.two.lt2, h.two.n12, h.two.m1.kept hg (fun e => h.n13 (Option.some.inj e)), h.two.m2.kept hg (fun e => h.n23 (Option.some.inj e)),
    h.two.row.kept hg (row_ne h.two.row h.m3)⟩, h.lt3, h.n13, h.n23, hm⟩
theorem K2.id_at {w : World} {b1 b2 : Nat} {g1 g2 : Value → Option Value} {A : Option Addr} {k c : Nat} {ord : List Pid} {wr : World} (h : K2 w b1 b2 g1 g2 A k c ord wr) (hl : ord.length = k) {q : Nat} (hq : q < k) :
    ∃ g d, A = some ⟨g, 0, none⟩ ∧ ord[q]? = some d ∧ At wr ⟨g, q * 2, none⟩ d.cells := by
  obtain ⟨_, _, e, _, h0 | ⟨g, rfl, _⟩⟩ := own_slice h.row
  · omega
  · cases e
    have hx : ord[q]? = some (ord[q]'(by omega)) := List.getElem?_eq_getElem (by omega)
    refine ⟨g, _, rfl, hx, ?_⟩
    have := at_flatl Pid.cells_len (World.ownsRow.cells h.row rfl) q _ hx
    rwa [Addr.add_lit, Nat.zero_add] at this
theorem At.two0 {w : World} {b o : Nat} {v0 v1 : Value} (h : At w ⟨b, o, none⟩ [v0, v1]) : w.cell? ⟨b, o, none⟩ = some v0 ∧ w.cell? ⟨b, o + 1, none⟩ = some v1 := by
  have h0 := h 0 _ rfl
  have h1 := h 1 _ rfl
  rw [Addr.add_lit] at h0 h1
  exact ⟨h0, h1⟩
theorem At.grown {w w' : World} {b : Nat} {vs : List Value} {r : Nat} (h : At w ⟨b, 0, none⟩ vs) (hl : b < w.heap.size) (hg : w.grownBy w' (some r)) (hne : b ≠ r) : At w' ⟨b, 0, none⟩ vs :=
  h.of_block (hg.block b hl (fun e => hne (Option.some.inj e)))
end Go.Proofs.Ytkgidfehndkhmaa
