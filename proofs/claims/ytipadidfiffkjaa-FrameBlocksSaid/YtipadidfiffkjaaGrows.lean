/- A region that draws its order, in a world that only grows by a relation G (a preorder): operations that have one value in every later world, and, where one alone is ready, one that makes memory. Over any program. -/
import Derived.Test.YtipadidfiffkjaaQuietArms
namespace Go.Grows
variable {P : Program} {ops : Array Oper} {md : Region.Mode} {G : World → World → Prop} {Q : Exit → Act → World → Prop}

def wpAnyD (P : Program) (md : Region.Mode) (ops : Array Oper) (G : World → World → Prop) (Q : Exit → Act → World → Prop) : Nat → Array Bool → Act → World → Prop
  | 0, up, a, w => ∀ w', G w w' → Region.ready md ops up = [] ∧ Q .normal a w'
  | f + 1, up, a, w => ∀ w', G w w' → (Region.ready md ops up = [] → Q .normal a w') ∧ ∀ i ∈ Region.ready md ops up, wpOp P ops Q i (fun a' w'' => G w' w'' ∧ wpAnyD P md ops G Q f (up.setIfInBounds i true) a' w'') a w'

theorem any_of_D (hr : ∀ w, G w w) : ∀ (f : Nat) (up : Array Bool) (a : Act) (w : World), wpAnyD P md ops G Q f up a w → wpAny P md ops Q f up a w
  | 0, _, _, w, h => h w (hr w)
  | f + 1, _, _, w, h => ⟨(h w (hr w)).1, fun i hi => wpOp_mono (fun a' w' h' => any_of_D hr f _ a' w' h'.2) ((h w (hr w)).2 i hi)⟩

theorem D_later (ht : ∀ u v w, G u v → G v w → G u w) {f : Nat} {up : Array Bool} {a : Act} {w w1 : World} (h1 : G w w1) (h : wpAnyD P md ops G Q f up a w) : wpAnyD P md ops G Q f up a w1 := by
  cases f with
  | zero => exact fun w' hw' => h w' (ht _ _ _ h1 hw')
  | succ f => exact fun w' hw' => h w' (ht _ _ _ h1 hw')

/-- one value in every later world -/
def Yields (P : Program) (ops : Array Oper) (G : World → World → Prop) (o : Oper) (v : Value) (a : Act) (w : World) : Prop := ∀ w1, G w w1 → YieldsIn P ops (G w1) o v a

theorem Yields.later (ht : ∀ u v w, G u v → G v w → G u w) {o : Oper} {v : Value} {a : Act} {w w1 : World} (h : Yields P ops G o v a w) (h1 : G w w1) : Yields P ops G o v a w1 := fun w2 h2 => h w2 (ht _ _ _ h1 h2)
theorem Yields.of_same {o : Oper} {v : Value} {a a' : Act} {w : World} (hy : Yields P ops G o v a w) (he : execOp a'.eval o = execOp a.eval o)
    (hw : Region.wanted o (yielded ops a'.tmps) = Region.wanted o (yielded ops a.tmps)) : Yields P ops G o v a' w := fun w1 h1 => (hy w1 h1).of_same he hw
theorem Yields.wpOp (hr : ∀ w, G w w) {i : Nat} {o : Oper} {v : Value} {a : Act} {w w1 : World} {K : Act → World → Prop} (hi : ops[i]? = some o) (hy : Yields P ops G o v a w) (h1 : G w w1)
    (h : ∀ w2, G w1 w2 → K (a.put o.dst v) w2) : wpOp P ops Q i K a w1 :=
  wpOp_of_qOp (C := G w1) (K := fun a' => a' = a.put o.dst v) (hr w1) (fun a' w' hw' e => by rw [e]; exact h w' hw') ((hy w1 h1).qOp hi rfl)

theorem wpOp_put {j : Nat} {oi oj : Oper} {v : Value} {Y : Act → Prop} (hj : ops[j]? = some oj) (hap : oi.apart ops oj = true)
    (hsi : ∀ cs b, oi.op ≠ .select cs b) (hsj : ∀ cs b, oj.op ≠ .select cs b)
    (hQ : ∀ c a w, Q (.panic c) (a.put oi.dst v) w → Q (.panic c) a w)
    (hY : ∀ a a', Y a → execOp a'.eval oi = execOp a.eval oi → Region.wanted oi (yielded ops a'.tmps) = Region.wanted oi (yielded ops a.tmps) → Y a')
    {K : Act → World → Prop} {a : Act} {w : World} (hy : Y a) (h : wpOp P ops Q j K (a.put oi.dst v) w) :
    wpOp P ops Q j (fun a' w' => Y a' ∧ K (a'.put oi.dst v) w') a w := by
  obtain ⟨h1, h2, h3⟩ := Oper.apart_spec hap
  have keep : ∀ (a : Act), Y a → ∀ u, Y (a.put oj.dst u) := fun a hy u => hY _ _ hy (execOp_put oi hsi a oj.dst u h3) (wanted_put oi a oj.dst u h3)
  unfold wpOp at *
  simp only [hj] at *
  rw [wanted_put oj a oi.dst v h1] at h
  split
  · rename_i hw
    simp only [hw, if_true] at h
    rcases h with h | ⟨hasks, hlets⟩
    case inr => exact .inr ⟨by unfold Oper.asks at *; rw [execOp_put oj hsj a oi.dst v h1] at hasks; exact hasks, hlets⟩
    refine .inl ?_
    unfold Oper.wp at *
    rw [execOp_put oj hsj a oi.dst v h1] at h
    generalize (execOp a.eval oj).run P w = r at *
    cases r with
    | ok n w' =>
      cases n <;> simp only [Oper.upon] at h ⊢
      case value u => exact ⟨keep a hy u, by rw [← Act.put_comm a v u h2]; exact h⟩
      case skip => exact ⟨keep a hy _, by rw [← Act.put_comm a v undef h2]; exact h⟩
      case defer d =>
        refine ⟨keep { a with defers := d :: a.defers } (hY a _ hy rfl rfl) _, ?_⟩
        rw [← Act.put_comm _ v undef h2, ← Act.put_defers]
        exact h
      case enter f args =>
        refine Calls.mono h fun e w'' he => ?_
        cases e with
        | returned u => exact ⟨keep a hy u, by rw [← Act.put_comm a v u h2]; exact he⟩
        | panicked c => exact hQ _ _ _ he
        | outgrown => exact he
      case row row args => exact Rows.mono h fun u w'' he => ⟨keep a hy u, by rw [← Act.put_comm a v u h2]; exact he⟩
    | halt x w' =>
      cases x <;> simp only [Oper.upon] at h ⊢
      case panic u => exact hQ _ _ _ h
  · rename_i hw
    simp only [hw] at h
    exact ⟨keep a hy _, by rw [← Act.put_comm a v undef h2]; exact h⟩

theorem D_first (hrf : ∀ w, G w w) (ht : ∀ u v w, G u v → G v w → G u w) {i : Nat} {oi : Oper} {v : Value} (hi : ops[i]? = some oi) (hsel : ∀ (j : Nat) (o : Oper) cs b, ops[j]? = some o → o.op ≠ .select cs b)
    (hQ : ∀ c a w, Q (.panic c) (a.put oi.dst v) w → Q (.panic c) a w) :
    ∀ (f : Nat) (up : Array Bool) (a : Act) (w : World),
      (∀ j oj, ops[j]? = some oj → j ≠ i → up.getD j true = false → (∀ e ∈ oj.after, Region.binds md e = true → e.on ≠ i) → oi.apart ops oj = true) →
      i ∈ Region.ready md ops up → Yields P ops G oi v a w →
      wpAnyD P md ops G Q f (up.setIfInBounds i true) (a.put oi.dst v) w → wpAnyD P md ops G Q (f + 1) up a w := by
  intro f
  induction f with
  | zero =>
    intro up a w hfree hr hy H w' hw'
    refine ⟨fun h => (by rw [h] at hr; cases hr), fun j hj => ?_⟩
    by_cases hji : j = i
    · subst hji; exact hy.wpOp hrf hi hw' fun w2 h2 => ⟨h2, D_later ht (ht _ _ _ hw' h2) H⟩
    · have := ready_mono hj hji
      rw [(H w' hw').1] at this
      cases this
  | succ f ih =>
    intro up a w hfree hr hy H w' hw'
    refine ⟨fun h => (by rw [h] at hr; cases hr), fun j hj => ?_⟩
    by_cases hji : j = i
    · subst hji; exact hy.wpOp hrf hi hw' fun w2 h2 => ⟨h2, D_later ht (ht _ _ _ hw' h2) H⟩
    · have h1 := (H w' hw').2 j (ready_mono hj hji)
      obtain ⟨hjun, oj, hoj, hall⟩ := mem_ready.1 hj
      have hnot : ∀ e ∈ oj.after, Region.binds md e = true → e.on ≠ i := fun e he hb heq => by
        have h1 := hall e he hb
        have h0 := (mem_ready.1 hr).1
        rw [heq, getD_both h0] at h1
        exact Bool.noConfusion h1
      have h2 := wpOp_put (Y := fun a' => Yields P ops G oi v a' w') hoj (hfree j oj hoj hji hjun hnot) (fun cs b => hsel i oi cs b hi) (fun cs b => hsel j oj cs b hoj) hQ
        (fun _ _ h he hw => h.of_same he hw) (hy.later ht hw') h1
      have hfree' : ∀ k ok, ops[k]? = some ok → k ≠ i → (up.setIfInBounds j true).getD k true = false →
          (∀ e ∈ ok.after, Region.binds md e = true → e.on ≠ i) → oi.apart ops ok = true := fun k ok hk hki hun hno => by
        refine hfree k ok hk hki ?_ hno
        by_cases hjk : j = k
        · subst hjk; exact hjun
        · rw [getD_set_ne true hjk] at hun; exact hun
      refine wpOp_mono (fun a' w2 h3 => ⟨h3.2.1, ih (up.setIfInBounds j true) a' w2 hfree' (ready_mono hr (Ne.symm hji)) (h3.1.later ht h3.2.1) ?_⟩) h2
      rw [Array.setIfInBounds_comm _ _ hji]
      exact h3.2.2

/-- each operation writes a slot of its own, within the frame -/
def ownSlots (n : Nat) : List Oper → Bool
  | [] => true
  | o :: l => (match o.dst with | some d => decide (d < n) && l.all (fun p => p.dst != some d) | none => false) && ownSlots n l

theorem put_size (a : Act) (d : Option Tmp) (v : Value) : (a.put d v).tmps.size = a.tmps.size := by
  cases d <;> simp [Act.put]
theorem put_other (a : Act) (d : Option Tmp) (e : Tmp) (v : Value) (h : d ≠ some e) : (a.put d v).tmps[e]? = a.tmps[e]? := by
  cases d with
  | none => rfl
  | some d => simp only [Act.put]; rw [Array.getElem?_setIfInBounds_ne]; intro h2; exact h (by rw [h2])
theorem put_here (a : Act) (d : Tmp) (v : Value) (h : d < a.tmps.size) : (a.put (some d) v).tmps[d]? = some v := by
  simp [Act.put, h]
theorem quiet_kept {C : World → Prop} {A : Act} (d : Tmp) (l : List Oper) : ∀ (a : Act), l.all (fun p => p.dst != some d) = true → wpQuiet P ops C (fun a' => a' = A) l a → A.tmps[d]? = a.tmps[d]? := by
  induction l with
  | nil => intro a _ h; have h : a = A := h; rw [h]
  | cons o l ih =>
    intro a hl h
    simp only [List.all_cons, Bool.and_eq_true, bne_iff_ne, ne_eq] at hl
    unfold wpQuiet at h
    split at h
    · obtain ⟨v, _, h⟩ := h
      rw [ih _ hl.2 h, put_other _ _ _ _ hl.1]
    · rw [ih _ hl.2 h, put_other _ _ _ _ hl.1]
def lexTakes (md : Region.Mode) (ops : Array Oper) : Nat → Nat → Array Bool → Bool
  | 0, _, _ => true
  | f + 1, k, up => (Region.ready md ops up).contains k && Region.free md ops up k && lexTakes md ops f (k + 1) (up.setIfInBounds k true)
def upTo : Nat → Nat → Array Bool → Array Bool
  | 0, _, up => up
  | f + 1, k, up => upTo f (k + 1) (up.setIfInBounds k true)
theorem D_lex (hrf : ∀ w, G w w) (ht : ∀ u v w, G u v → G v w → G u w) (hsel : Region.noSelect ops = true) (hQ : ∀ c a (d : Option Tmp) v w, Q (.panic c) (a.put d v) w → Q (.panic c) a w) (A : Act) (g : Nat) (l : List Oper) :
    ∀ (k : Nat) (up : Array Bool) (a : Act) (w : World), (∀ j, j < l.length → l[j]? = ops[k + j]?) → ownSlots a.tmps.size l = true →
    (∀ w1, G w w1 → wpQuiet P ops (G w1) (fun a' => a' = A) l a) → lexTakes md ops l.length k up = true →
    wpAnyD P md ops G Q g (upTo l.length k up) A w → wpAnyD P md ops G Q (l.length + g) up a w := by
  induction l with
  | nil =>
    intro k up a w _ _ H _ h
    have e : a = A := H w (hrf w)
    rw [e, List.length_nil, Nat.zero_add]; exact h
  | cons o l ih =>
    intro k up a w hl hs H hB h
    have ho : ops[k]? = some o := by simpa using (hl 0 (by simp)).symm
    simp only [List.length_cons, lexTakes, Bool.and_eq_true] at hB
    have hr : k ∈ Region.ready md ops up := by simpa using hB.1.1
    simp only [ownSlots, Bool.and_eq_true] at hs
    obtain ⟨hs1, hs2⟩ := hs
    split at hs1
    case h_2 => simp at hs1
    rename_i d hd
    simp only [Bool.and_eq_true, decide_eq_true_eq] at hs1
    have key : ∀ w1, G w w1 → YieldsIn P ops (G w1) o ((A.tmps[d]?).getD undef) a ∧ wpQuiet P ops (G w1) (fun a' => a' = A) l (a.put o.dst ((A.tmps[d]?).getD undef)) := by
      intro w1 h1
      have hq : qOp P ops (G w1) k (wpQuiet P ops (G w1) (fun a' => a' = A) l) a := by unfold qOp; simp only [ho]; exact H w1 h1
      obtain ⟨v, hy, hK⟩ := yieldsIn_of_qOp ho hq
      have e := quiet_kept d l _ hs1.2 hK
      rw [hd, put_here _ _ _ hs1.1] at e
      have e2 : (A.tmps[d]?).getD undef = v := by rw [e]; rfl
      rw [e2]
      exact ⟨hy, hK⟩
    rw [List.length_cons, Nat.add_right_comm]
    refine D_first hrf ht ho (Region.noSelect_spec hsel) (fun c a w => hQ c a _ _ w) _ up a w (Region.free_spec ho hB.1.2) hr (fun w1 h1 => (key w1 h1).1) ?_
    exact ih (k + 1) _ _ w (fun j hj => by have := hl (j + 1) (by simp; omega); simpa [Nat.add_assoc, Nat.add_comm 1 j] using this) (by rw [put_size]; exact hs2) (fun w1 h1 => (key w1 h1).2) hB.2 h
/-- one operation alone is ready, and leaves what it leaves -/
theorem D_op {i : Nat} {o : Oper} {f : Nat} {up : Array Bool} {a : Act} {w : World} (hi : ops[i]? = some o) (hg : o.guard = none) (hr : Region.ready md ops up = [i])
    (h : ∀ w1, G w w1 → ∃ v w2, (execOp a.eval o).run P w1 = .ok (.value v) w2 ∧ G w1 w2 ∧ wpAnyD P md ops G Q f (up.setIfInBounds i true) (a.put o.dst v) w2) : wpAnyD P md ops G Q (f + 1) up a w := by
  intro w1 h1
  refine ⟨fun h0 => absurd (hr.symm.trans h0) (by simp), fun j hj => ?_⟩
  rw [hr] at hj
  obtain rfl : j = i := by simpa using hj
  obtain ⟨v, w2, hrun, hG, hD⟩ := h w1 h1
  unfold wpOp
  simp only [hi]
  rw [if_pos (by simp [Region.wanted, hg])]
  refine .inl ?_
  unfold Oper.wp
  rw [hrun]
  exact ⟨hG, hD⟩
theorem D_done {up : Array Bool} {a : Act} {w : World} (hr : Region.ready md ops up = []) (h : ∀ w1, G w w1 → Q .normal a w1) : wpAnyD P md ops G Q 0 up a w := fun w1 h1 => ⟨hr, h w1 h1⟩
theorem wp_region_D {id : Nat} {a : Act} {w : World} (hrf : ∀ w, G w w) (hm : P.follows .mixedOrders = true) (h : wpAnyD P .any ops G Q ops.size (Array.replicate ops.size false) a w.drew) : (Code.region id ops true).wp P Q a w :=
  wp_region_any hm (any_of_D hrf _ _ _ _ h)
theorem upTo_size (f : Nat) : ∀ (k : Nat) (up : Array Bool), (upTo f k up).size = up.size := by
  induction f with
  | zero => intro k up; rfl
  | succ f ih => intro k up; simp [upTo, ih]
/-- what is asked of the order: the first n come first, then number n alone, then the rest -/
def makeB (md : Region.Mode) (l : List Oper) (n N : Nat) : Bool :=
  let up1 := upTo n 0 (Array.replicate l.length false)
  let up2 := up1.setIfInBounds n true
  Region.noSelect l.toArray && decide (n < l.length) && ownSlots N (l.take n) && ownSlots N (l.drop (n + 1)) && lexTakes md l.toArray n 0 (Array.replicate l.length false) &&
  decide (Region.ready md l.toArray up1 = [n]) && lexTakes md l.toArray (l.length - (n + 1)) (n + 1) up2 && decide (Region.ready md l.toArray (upTo (l.length - (n + 1)) (n + 1) up2) = [])
/-- THE LAW: a region whose number n makes memory, the others of one value in every later world. -/
theorem wp_region_make {id : Nat} {a : Act} {w : World} {l : List Oper} {A : Act} {o : Oper} (n N : Nat) (hrf : ∀ w, G w w) (ht : ∀ u v w, G u v → G v w → G u w) (hm : P.follows .mixedOrders = true)
    (hQ : ∀ c a (d : Option Tmp) v w, Q (.panic c) (a.put d v) w → Q (.panic c) a w) (hN : a.tmps.size = N) (hB : makeB .any l n N = true) (ho : l[n]? = some o) (hg : o.guard = none)
    (h : ∀ w1, G w.drew w1 → wpQuiet P l.toArray (G w1) (fun a' => a' = A) (l.take n) a)
    (hmk : ∀ w1, G w.drew w1 → ∃ v w2 A2, (execOp A.eval o).run P w1 = .ok (.value v) w2 ∧ G w1 w2 ∧ (∀ w3, G w2 w3 → wpQuiet P l.toArray (G w3) (fun a' => a' = A2) (l.drop (n + 1)) (A.put o.dst v)) ∧ ∀ w3, G w2 w3 → Q .normal A2 w3) :
    (Code.region id l.toArray true).wp P Q a w := by
  simp only [makeB, Bool.and_eq_true, decide_eq_true_eq] at hB
  obtain ⟨⟨⟨⟨⟨⟨⟨b1, b2⟩, b3⟩, b4⟩, b5⟩, b6⟩, b7⟩, b8⟩ := hB
  refine wp_region_D hrf hm ?_
  have tl : (l.take n).length = n := by simp; omega
  have dl : (l.drop (n + 1)).length = l.length - (n + 1) := by simp
  have key := D_lex (P := P) (md := .any) (ops := l.toArray) (Q := Q) hrf ht b1 hQ A (l.length - (n + 1) + 1) (l.take n) 0 (Array.replicate l.length false) a w.drew
    (fun j hj => by rw [tl] at hj; simp [hj]) (by rw [hN]; exact b3) h (by rw [tl]; exact b5)
  rw [tl, show n + (l.length - (n + 1) + 1) = l.length by omega] at key
  refine key (D_op (by simpa using ho) hg b6 fun w1 h1 => ?_)
  obtain ⟨v, w2, A2, hrun, hG, hq, hend⟩ := hmk w1 h1
  refine ⟨v, w2, hrun, hG, ?_⟩
  have hNA : A.tmps.size = N := by
    have this : ∀ (C : World → Prop) (m : List Oper) (a : Act), wpQuiet P l.toArray C (fun a' => a' = A) m a → A.tmps.size = a.tmps.size := by
      intro C m
      induction m with
      | nil => intro a h; have h : a = A := h; rw [h]
      | cons o m ih =>
        intro a h
        unfold wpQuiet at h
        split at h
        · obtain ⟨v, _, h⟩ := h; rw [ih _ h, put_size]
        · rw [ih _ h, put_size]
    rw [this _ _ _ (h _ (hrf _)), hN]
  have key2 := D_lex (P := P) (md := .any) (ops := l.toArray) (Q := Q) hrf ht b1 hQ A2 0 (l.drop (n + 1)) (n + 1) ((upTo n 0 (Array.replicate l.length false)).setIfInBounds n true) (A.put o.dst v) w2
    (fun j hj => by simp) (by rw [put_size, hNA]; exact b4) hq (by rw [dl]; exact b7)
  rw [dl, Nat.add_zero] at key2
  exact key2 (D_done b8 hend)
theorem wp_region_make' {id : Nat} {a : Act} {w : World} {l : List Oper} {o : Oper} (n N : Nat) (hrf : ∀ w, G w w) (ht : ∀ u v w, G u v → G v w → G u w) (hm : P.follows .mixedOrders = true)
    (hQ : ∀ c a (d : Option Tmp) v w, Q (.panic c) (a.put d v) w → Q (.panic c) a w) (hN : a.tmps.size = N) (hB : makeB .any l n N = true) (ho : l[n]? = some o) (hg : o.guard = none)
    (H : ∃ A, (∀ w1, G w.drew w1 → wpQuiet P l.toArray (G w1) (fun a' => a' = A) (l.take n) a) ∧
    (∀ w1, G w.drew w1 → ∃ v w2, (execOp A.eval o).run P w1 = .ok (.value v) w2 ∧ G w1 w2 ∧ ∃ A2, (∀ w3, G w2 w3 → wpQuiet P l.toArray (G w3) (fun a' => a' = A2) (l.drop (n + 1)) (A.put o.dst v)) ∧ ∀ w3, G w2 w3 → Q .normal A2 w3)) :
    (Code.region id l.toArray true).wp P Q a w := by
  obtain ⟨A, h, hmk⟩ := H
  exact wp_region_make n N hrf ht hm hQ hN hB ho hg h fun w1 h1 => by
    obtain ⟨v, w2, k1, k2, A2, k3, k4⟩ := hmk w1 h1
    exact ⟨v, w2, A2, k1, k2, k3, k4⟩
end Go.Grows
