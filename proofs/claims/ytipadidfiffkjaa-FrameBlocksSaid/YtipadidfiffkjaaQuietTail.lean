/- A region that draws its order: first operations that only read (or call what leaves a world of one class), then a few that come one behind the other. One walk in the text's order serves every order. Over any program. -/
import Derived.Deep.Quiet
import Derived.StillTail
namespace Go.QuietTail
variable {P : Program} {ops : Array Oper} {md : Region.Mode} {C : World → Prop}

/-- f operations come up, each of the head (below n), each quiet in the class; then L. -/
def HeadRuns (P : Program) (md : Region.Mode) (ops : Array Oper) (C : World → Prop) (n : Nat) (L : Array Bool → Act → Prop) : Nat → Array Bool → Act → Prop
  | 0, up, a => L up a
  | f + 1, up, a => Region.ready md ops up ≠ [] ∧ ∀ i, i ∈ Region.ready md ops up → i < n ∧ qOp P ops C i (HeadRuns P md ops C n L f (up.setIfInBounds i true)) a

theorem any_of_headRuns {n g : Nat} {L : Array Bool → Act → Prop} {Q : Exit → Act → World → Prop} (hL : ∀ up a w, C w → L up a → wpAny P md ops Q g up a w) (f : Nat) :
    ∀ (up : Array Bool) (a : Act) (w : World), C w → HeadRuns P md ops C n L f up a → wpAny P md ops Q (f + g) up a w := by
  induction f with
  | zero => intro up a w hw h; simpa using hL up a w hw h
  | succ f ih =>
    intro up a w hw h
    rw [Nat.add_right_comm]
    refine ⟨fun hz => (h.1 hz).elim, fun i hi => ?_⟩
    exact wpOp_of_qOp hw (fun a' w' hw' hh => ih _ a' w' hw' hh) (h.2 i hi).2

/-- what is ready and not yet up is of the head, as long as one of the head is not up -/
theorem ready_head {n i j : Nat} {up : Array Bool} (hs : Region.sinkB md ops n = true) (hc : Region.chainB md ops n = true) (hn : n < ops.size) (inv : HeadInv md ops n up)
    (hi : i < n) (hu : up.getD i true = false) (hj : j ∈ Region.ready md ops up) : j < n :=
  Nat.lt_of_not_le fun hle => tail_waits hs hc hn inv _ i rfl hi hu j hle hj

theorem headRuns_first {n i : Nat} {o : Oper} {v : Value} {L : Array Bool → Act → Prop} (ho : ops[i]? = some o) (hsel : ∀ (j : Nat) (p : Oper) cs b, ops[j]? = some p → p.op ≠ .select cs b)
    (hs : Region.sinkB md ops n = true) (hc : Region.chainB md ops n = true) (hn : n < ops.size) (hin : i < n)
    (hend : ∀ up a, L up a → ∀ j, j ∈ Region.ready md ops up → n ≤ j) (f : Nat) :
    ∀ (up : Array Bool) (a : Act), HeadInv md ops n up →
      (∀ j p, ops[j]? = some p → j ≠ i → up.getD j true = false → (∀ e ∈ p.after, Region.binds md e = true → e.on ≠ i) → o.apart ops p = true) →
      i ∈ Region.ready md ops up → YieldsIn P ops C o v a →
      HeadRuns P md ops C n L f (up.setIfInBounds i true) (a.put o.dst v) → HeadRuns P md ops C n L (f + 1) up a := by
  induction f with
  | zero =>
    intro up a inv _ hr hy H
    have hu := (mem_ready.1 hr).1
    refine ⟨List.ne_nil_of_mem hr, fun j hj => ?_⟩
    have hjn := ready_head hs hc hn inv hin hu hj
    refine ⟨hjn, ?_⟩
    rcases Decidable.em (j = i) with e | e
    · rw [e]; exact hy.qOp ho H
    · exact absurd (hend _ _ H j (ready_mono hj e)) (by omega)
  | succ f ih =>
    intro up a inv hfree hr hy H
    have hu := (mem_ready.1 hr).1
    refine ⟨List.ne_nil_of_mem hr, fun j hj => ?_⟩
    have hjn := ready_head hs hc hn inv hin hu hj
    refine ⟨hjn, ?_⟩
    rcases Decidable.em (j = i) with e | e
    · rw [e]; exact hy.qOp ho H
    · obtain ⟨hju, p, hp, hall⟩ := mem_ready.1 hj
      have hnot : ∀ q ∈ p.after, Region.binds md q = true → q.on ≠ i := fun q hq hb hon => by
        have h1 := hall q hq hb
        rw [hon, getD_both hu] at h1
        exact Bool.noConfusion h1
      have hstep := qOp_put hp (hfree j p hp e hju hnot) (fun cs b => hsel i o cs b ho) (fun cs b => hsel j p cs b hp) hy (H.2 j (ready_mono hj e)).2
      refine qOp_mono (fun a' h3 => ih _ a' (inv.set hj hjn) (fun k q hk hki hun hno => hfree k q hk hki ?_ hno) (ready_mono hr (Ne.symm e)) h3.1 ?_) hstep
      · rcases Decidable.em (j = k) with hjk | hjk
        · rw [← hjk]; exact hju
        · rwa [getD_set_ne true hjk] at hun
      · rw [Array.setIfInBounds_comm _ _ e]; exact h3.2

theorem headRuns_lex {n g : Nat} {Lq : Act → Prop} (hsel : Region.noSelect ops = true) (hs : Region.sinkB md ops n = true) (hc : Region.chainB md ops n = true) (hn : n < ops.size) (l : List Oper) :
    ∀ (k : Nat) (up : Array Bool) (a : Act), (∀ j, j < l.length → l[j]? = ops[k + j]?) → k + l.length = n → HeadInv md ops n up →
    Region.lexHead md ops g l.length k up = true → wpQuiet P ops C Lq l a →
    HeadRuns P md ops C n (fun up' a' => Region.seqB md ops g n up' = true ∧ Lq a') l.length up a := by
  induction l with
  | nil =>
    intro k up a _ hk _ hB h
    obtain rfl : k = n := by simpa using hk
    exact ⟨by simpa [Region.lexHead] using hB, h⟩
  | cons o l ih =>
    intro k up a hl hk inv hB h
    have ho : ops[k]? = some o := by simpa using (hl 0 (by simp)).symm
    simp only [List.length_cons, Region.lexHead, Bool.and_eq_true] at hB
    simp only [List.length_cons] at hk
    have hr : k ∈ Region.ready md ops up := by simpa using hB.1.1
    have hq : qOp P ops C k (wpQuiet P ops C Lq l) a := by unfold qOp; simp only [ho]; exact h
    obtain ⟨v, hy, hK⟩ := yieldsIn_of_qOp ho hq
    refine headRuns_first ho (Region.noSelect_spec hsel) hs hc hn (by omega) (fun up' a' hL => seqB_ready hL.1) l.length up a inv (Region.free_spec ho hB.1.2) hr hy ?_
    exact ih (k + 1) _ _ (fun j hj => by have := hl (j + 1) (by simp; omega); simpa [Nat.add_assoc, Nat.add_comm 1 j] using this) (by omega) (inv.set hr (by omega)) hB.2 hK

/-- THE LAW: the head (the first n operations) is quiet in the class C; the tail is walked in every world of C. -/
theorem wp_region {id : Nat} {Q : Exit → Act → World → Prop} {a : Act} {w : World} {l : List Oper} (C : World → Prop) (n : Nat) (hm : P.follows .mixedOrders = true) (hB : Region.lexTailB .any l.toArray n = true)
    (hC : C w.drew) (h : wpQuiet P l.toArray C (fun a' => ∀ w', C w' → wpList P l.toArray Q (l.drop n) a' w') (l.take n) a) : (Code.region id l.toArray true).wp P Q a w := by
  simp only [Region.lexTailB, Bool.and_eq_true, decide_eq_true_eq] at hB
  obtain ⟨⟨⟨⟨hsel, hn⟩, hs⟩, hc⟩, hlex⟩ := hB
  have hn' : n < l.length := by simpa using hn
  have htl : (l.take n).length = n := by simp; omega
  have hdl : (l.drop n).length = l.toArray.size - n := by simp
  have none : ∀ j, (Array.replicate l.toArray.size false).getD j false = false := getD_replicate_false _
  have inv0 : HeadInv .any l.toArray n (Array.replicate l.toArray.size false) := {
    size := by simp
    closed := fun j _ _ hl => by rw [none] at hl; exact Bool.noConfusion hl
    tail := fun t _ ht => getD_in (by simpa using ht) (none t) }
  have H := headRuns_lex (md := .any) (g := l.toArray.size - n) hsel hs hc hn (l.take n) 0 _ a
    (fun j hj => by rw [htl] at hj; simp [hj]) (by simpa using htl) inv0 (by rw [htl]; exact hlex) h
  refine wp_region_any hm ?_
  have key := any_of_headRuns (Q := Q) (g := l.toArray.size - n) (fun up a' w' hw' hL => by
    have := wpAny_of_seq (md := .any) (Q' := Q) (l.drop n) n up a' w' (fun j => by simp [List.getElem?_drop]) (by rw [hdl]; exact hL.1) (hL.2 w' hw')
    rwa [hdl] at this) _ _ _ _ hC H
  rw [htl, show n + (l.toArray.size - n) = l.toArray.size by omega] at key
  exact key
end Go.QuietTail
