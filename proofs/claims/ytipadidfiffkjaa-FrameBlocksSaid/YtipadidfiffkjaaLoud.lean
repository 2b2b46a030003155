/- A region that draws its order: first operations that have one value in every later world, then some that make memory, then a tail that waits for all of them. One walk in the text's order serves every order. Over any program. -/
import Derived.Test.YtipadidfiffkjaaGrows
namespace Go.Loud
open Go.Grows
variable {P : Program} {ops : Array Oper} {md : Region.Mode} {E G : World → World → Prop} {Q : Exit → Act → World → Prop} {L : Array Bool → Act → World → Prop}
def mid (K : Act → World → Prop) (Q : Exit → Act → World → Prop) : Exit → Act → World → Prop
  | .normal, a, w => K a w
  | e, a, w => Q e a w
theorem wp_mid {o : Oper} {a : Act} {w : World} {K K' : Act → World → Prop} (h : o.wp P a w K' (mid K Q)) : o.wp P a w K' Q := by
  unfold Oper.wp at *
  generalize (execOp a.eval o).run P w = r at *
  cases r with
  | ok n w' =>
    cases n <;> simp only [Oper.upon] at h ⊢
    case enter f args =>
      refine Calls.mono h fun e w'' he => ?_
      cases e with
      | returned u => exact he
      | panicked c => exact he
      | outgrown => obtain ⟨a1, w1, h1⟩ := he; exact ⟨a1, w1, h1⟩
    all_goals exact h
  | halt x w' =>
    cases x <;> simp only [Oper.upon] at h ⊢
    case panic u => exact h
theorem op_of_mid {i : Nat} {o : Oper} {a : Act} {w : World} {K : Act → World → Prop} (ho : ops[i]? = some o) (h : wpList P ops (mid K Q) [o] a w) : wpOp P ops Q i K a w := by
  unfold wpList at h
  unfold wpOp
  simp only [ho]
  split at h
  · rename_i hw
    rw [if_pos hw]
    rcases h with h | ⟨h1, a1, w1, h2⟩
    · exact .inl (wp_mid h)
    · exact .inr ⟨h1, a1, w1, h2⟩
  · rename_i hw
    rw [if_neg hw]; exact h
def D (P : Program) (md : Region.Mode) (ops : Array Oper) (E G : World → World → Prop) (Q : Exit → Act → World → Prop) (L : Array Bool → Act → World → Prop) : Nat → Array Bool → Act → World → Prop
  | 0, up, a, w => ∀ w', E w w' → L up a w'
  | f + 1, up, a, w => ∀ w', E w w' → Region.ready md ops up ≠ [] ∧ ∀ i ∈ Region.ready md ops up, wpOp P ops Q i (fun a' w'' => G w' w'' ∧ D P md ops E G Q L f (up.setIfInBounds i true) a' w'') a w'
theorem any_of_D (hr : ∀ w, E w w) {g : Nat} (hL : ∀ up a w, L up a w → wpAny P md ops Q g up a w) : ∀ (f : Nat) (up : Array Bool) (a : Act) (w : World), D P md ops E G Q L f up a w → wpAny P md ops Q (f + g) up a w
  | 0, up, a, w, h => by rw [Nat.zero_add]; exact hL _ _ _ (h w (hr w))
  | f + 1, up, a, w, h => by
    rw [Nat.add_right_comm]
    exact ⟨fun h0 => absurd h0 (h w (hr w)).1, fun i hi => wpOp_mono (fun a' w' h' => any_of_D hr hL f _ a' w' h'.2) ((h w (hr w)).2 i hi)⟩
/-- an order on worlds: E: what a quiet operation may leave; G: what any may leave -/
structure Ord (E G : World → World → Prop) : Prop where
  er : ∀ w, E w w
  et : ∀ u v w, E u v → E v w → E u w
  gt : ∀ u v w, G u v → G v w → G u w
  eg : ∀ u v, E u v → G u v
theorem D_later (O : Ord E G) {f : Nat} {up : Array Bool} {a : Act} {w w1 : World} (h1 : E w w1) (h : D P md ops E G Q L f up a w) : D P md ops E G Q L f up a w1 := by
  cases f with
  | zero => exact fun w' hw' => h w' (O.et _ _ _ h1 hw')
  | succ f => exact fun w' hw' => h w' (O.et _ _ _ h1 hw')
/-- one value in every later world -/
def Yields (P : Program) (ops : Array Oper) (E G : World → World → Prop) (o : Oper) (v : Value) (a : Act) (w : World) : Prop := ∀ w1, G w w1 → YieldsIn P ops (E w1) o v a
theorem Yields.later (O : Ord E G) {o : Oper} {v : Value} {a : Act} {w w1 : World} (h : Loud.Yields P ops E G o v a w) (h1 : G w w1) : Loud.Yields P ops E G o v a w1 := fun w2 h2 => h w2 (O.gt _ _ _ h1 h2)
theorem Yields.of_same {o : Oper} {v : Value} {a a' : Act} {w : World} (hy : Loud.Yields P ops E G o v a w) (he : execOp a'.eval o = execOp a.eval o)
    (hw : Region.wanted o (yielded ops a'.tmps) = Region.wanted o (yielded ops a.tmps)) : Loud.Yields P ops E G o v a' w := fun w1 h1 => (hy w1 h1).of_same he hw
theorem Yields.wpOp (O : Ord E G) {i : Nat} {o : Oper} {v : Value} {a : Act} {w w1 : World} {K : Act → World → Prop} (hi : ops[i]? = some o) (hy : Loud.Yields P ops E G o v a w) (h1 : E w w1)
    (h : ∀ w2, E w1 w2 → K (a.put o.dst v) w2) : wpOp P ops Q i K a w1 :=
  wpOp_of_qOp (C := E w1) (K := fun a' => a' = a.put o.dst v) (O.er w1) (fun a' w' hw' e => by rw [e]; exact h w' hw') ((hy w1 (O.eg _ _ h1)).qOp hi rfl)
theorem D_first (O : Ord E G) {i : Nat} {oi : Oper} {v : Value} (hi : ops[i]? = some oi) (hsel : ∀ (j : Nat) (o : Oper) cs b, ops[j]? = some o → o.op ≠ .select cs b)
    (hQ : ∀ c a w, Q (.panic c) (a.put oi.dst v) w → Q (.panic c) a w)
    (hend : ∀ up a w, L (up.setIfInBounds i true) a w → ∀ j ∈ Region.ready md ops up, j = i ∨ up.getD i true = true) :
    ∀ (f : Nat) (up : Array Bool) (a : Act) (w : World),
      (∀ j oj, ops[j]? = some oj → j ≠ i → up.getD j true = false → (∀ e ∈ oj.after, Region.binds md e = true → e.on ≠ i) → oi.apart ops oj = true) →
      i ∈ Region.ready md ops up → Loud.Yields P ops E G oi v a w →
      D P md ops E G Q L f (up.setIfInBounds i true) (a.put oi.dst v) w → D P md ops E G Q L (f + 1) up a w := by
  intro f
  induction f with
  | zero =>
    intro up a w hfree hr hy H w' hw'
    refine ⟨fun h => (by rw [h] at hr; cases hr), fun j hj => ?_⟩
    have hji : j = i := by
      rcases hend up _ _ (H w' hw') j hj with h | h
      · exact h
      · rw [(mem_ready.1 hr).1] at h; exact Bool.noConfusion h
    subst hji
    exact Yields.wpOp O hi hy hw' fun w2 h2 => ⟨O.eg _ _ h2, D_later O (O.et _ _ _ hw' h2) H⟩
  | succ f ih =>
    intro up a w hfree hr hy H w' hw'
    refine ⟨fun h => (by rw [h] at hr; cases hr), fun j hj => ?_⟩
    by_cases hji : j = i
    · subst hji; exact Yields.wpOp O hi hy hw' fun w2 h2 => ⟨O.eg _ _ h2, D_later O (O.et _ _ _ hw' h2) H⟩
    · have h1 := (H w' hw').2 j (ready_mono hj hji)
      obtain ⟨hjun, oj, hoj, hall⟩ := mem_ready.1 hj
      have hnot : ∀ e ∈ oj.after, Region.binds md e = true → e.on ≠ i := fun e he hb heq => by
        have h1 := hall e he hb
        have h0 := (mem_ready.1 hr).1
        rw [heq, getD_both h0] at h1
        exact Bool.noConfusion h1
      have h2 := Grows.wpOp_put (Y := fun a' => Loud.Yields P ops E G oi v a' w') hoj (hfree j oj hoj hji hjun hnot) (fun cs b => hsel i oi cs b hi) (fun cs b => hsel j oj cs b hoj) hQ
        (fun _ _ h he hw => Yields.of_same h he hw) (Yields.later O hy (O.eg _ _ hw')) h1
      have hfree' : ∀ k ok, ops[k]? = some ok → k ≠ i → (up.setIfInBounds j true).getD k true = false →
          (∀ e ∈ ok.after, Region.binds md e = true → e.on ≠ i) → oi.apart ops ok = true := fun k ok hk hki hun hno => by
        refine hfree k ok hk hki ?_ hno
        by_cases hjk : j = k
        · subst hjk; exact hjun
        · rw [getD_set_ne true hjk] at hun; exact hun
      refine wpOp_mono (fun a' w2 h3 => ⟨h3.2.1, ih (up.setIfInBounds j true) a' w2 hfree' (ready_mono hr (Ne.symm hji)) (Yields.later O h3.1 h3.2.1) ?_⟩) h2
      rw [Array.setIfInBounds_comm _ _ hji]
      exact h3.2.2
/-- the loud operations, each walked alone -/
def loudW (P : Program) (ops : Array Oper) (E G : World → World → Prop) (Q : Exit → Act → World → Prop) (Z : Act → World → Prop) : List Oper → Act → World → Prop
  | [], a, w => ∀ w', E w w' → Z a w'
  | o :: l, a, w => ∀ w', E w w' → wpList P ops (mid (fun a' w'' => G w' w'' ∧ loudW P ops E G Q Z l a' w'') Q) [o] a w'
theorem D_lex (O : Ord E G) (hsel : Region.noSelect ops = true) (hQ : ∀ c a (d : Option Tmp) v w, Q (.panic c) (a.put d v) w → Q (.panic c) a w) (A : Act) (g m : Nat)
    (hend : ∀ up a w, L up a w → ∀ j ∈ Region.ready md ops up, m ≤ j) (hwait : ∀ i j, i < m → m ≤ j → j < ops.size → Region.waitsFor md ops j i = true) (l : List Oper) :
    ∀ (k : Nat) (up : Array Bool) (a : Act) (w : World), k + l.length ≤ m → (∀ j, j < l.length → l[j]? = ops[k + j]?) → ownSlots a.tmps.size l = true →
    (∀ w1, G w w1 → wpQuiet P ops (E w1) (fun a' => a' = A) l a) → lexTakes md ops l.length k up = true →
    D P md ops E G Q L g (upTo l.length k up) A w → D P md ops E G Q L (l.length + g) up a w := by
  induction l with
  | nil =>
    intro k up a w _ _ _ H _ h
    have e : a = A := H w (O.eg _ _ (O.er w))
    rw [e, List.length_nil, Nat.zero_add]; exact h
  | cons o l ih =>
    intro k up a w hkm hl hs H hB h
    have ho : ops[k]? = some o := by simpa using (hl 0 (by simp)).symm
    simp only [List.length_cons, lexTakes, Bool.and_eq_true] at hB
    simp only [List.length_cons] at hkm
    have hr : k ∈ Region.ready md ops up := by simpa using hB.1.1
    simp only [ownSlots, Bool.and_eq_true] at hs
    obtain ⟨hs1, hs2⟩ := hs
    split at hs1
    case h_2 => simp at hs1
    rename_i d hd
    simp only [Bool.and_eq_true, decide_eq_true_eq] at hs1
    have key : ∀ w1, G w w1 → YieldsIn P ops (E w1) o ((A.tmps[d]?).getD undef) a ∧ wpQuiet P ops (E w1) (fun a' => a' = A) l (a.put o.dst ((A.tmps[d]?).getD undef)) := by
      intro w1 h1
      have hq : qOp P ops (E w1) k (wpQuiet P ops (E w1) (fun a' => a' = A) l) a := by unfold qOp; simp only [ho]; exact H w1 h1
      obtain ⟨v, hy, hK⟩ := yieldsIn_of_qOp ho hq
      have e := quiet_kept d l _ hs1.2 hK
      rw [hd, put_here _ _ _ hs1.1] at e
      have e2 : (A.tmps[d]?).getD undef = v := by rw [e]; rfl
      rw [e2]
      exact ⟨hy, hK⟩
    rw [List.length_cons, Nat.add_right_comm]
    refine D_first O ho (Region.noSelect_spec hsel) (fun c a w => hQ c a o.dst _ w) (fun up a w hL j hj => ?_) _ up a w (Region.free_spec ho hB.1.2) hr (fun w1 h1 => (key w1 h1).1) ?_
    · by_cases e : j = k
      · exact .inl e
      · right
        have h1 := hend _ _ _ hL j (ready_mono hj e)
        obtain ⟨_, oj, hoj, hall⟩ := mem_ready.1 hj
        obtain ⟨oj', hoj', x, hx, hb, hon⟩ := Region.waitsFor_spec (hwait k j (by omega) h1 (Array.getElem?_eq_some_iff.1 hoj).1)
        rw [hoj] at hoj'
        obtain rfl := Option.some.inj hoj'
        have h2 := hall x hx hb
        rw [hon] at h2
        cases h3 : up.getD k true with
        | true => rfl
        | false => rw [getD_both h3] at h2; exact Bool.noConfusion h2
    · exact ih (k + 1) _ _ w (by omega) (fun j hj => by have := hl (j + 1) (by simp; omega); simpa [Nat.add_assoc, Nat.add_comm 1 j] using this) (by rw [put_size]; exact hs2) (fun w1 h1 => (key w1 h1).2) hB.2 h
theorem D_loud {Z : Act → World → Prop} (t : Nat) (l : List Oper) : ∀ (k : Nat) (up : Array Bool) (a : Act) (w : World), (∀ j, j < l.length → l[j]? = ops[k + j]?) →
    Region.seqB md ops (l.length + t) k up = true → loudW P ops E G Q Z l a w →
    D P md ops E G Q (fun up a w => Region.seqB md ops t (k + l.length) up = true ∧ Z a w) l.length up a w := by
  induction l with
  | nil =>
    intro k up a w _ hB h w' hw'
    refine ⟨?_, h w' hw'⟩
    simpa using hB
  | cons o l ih =>
    intro k up a w hl hB h w' hw'
    have ho : ops[k]? = some o := by simpa using (hl 0 (by simp)).symm
    rw [List.length_cons, Nat.add_right_comm] at hB
    simp only [Region.seqB, Bool.and_eq_true, decide_eq_true_eq] at hB
    refine ⟨by rw [hB.1]; simp, fun j hj => ?_⟩
    rw [hB.1] at hj
    obtain rfl : j = k := by simpa using hj
    refine wpOp_mono (fun a' w2 h3 => ⟨h3.1, ?_⟩) (op_of_mid ho (h w' hw'))
    have := ih (j + 1) (up.setIfInBounds j true) a' w2 (fun i hi => by have := hl (i + 1) (by simp; omega); simpa [Nat.add_assoc, Nat.add_comm 1 i] using this) hB.2 h3.2
    rw [show j + (o :: l).length = j + 1 + l.length by simp; omega]
    exact this
/-- what is asked of the order: the first n come first, then n to m - 1, each alone, then the rest, each alone; the rest waits for all ahead of m -/
def loudB (md : Region.Mode) (l : List Oper) (n m N : Nat) : Bool :=
  Region.noSelect l.toArray && decide (n ≤ m) && decide (m ≤ l.length) && ownSlots N (l.take n) && lexTakes md l.toArray n 0 (Array.replicate l.length false) &&
  Region.seqB md l.toArray (l.length - n) n (upTo n 0 (Array.replicate l.length false)) &&
  (List.range l.length).all (fun j => decide (j < m) || (List.range m).all fun i => Region.waitsFor md l.toArray j i)
/-- THE LAW. -/
theorem wp_region {id : Nat} {a : Act} {w : World} {l : List Oper} (E G : World → World → Prop) (n m N : Nat) (O : Ord E G) (hm : P.follows .mixedOrders = true)
    (hQ : ∀ c a (d : Option Tmp) v w, Q (.panic c) (a.put d v) w → Q (.panic c) a w) (hN : a.tmps.size = N) (hB : loudB .any l n m N = true)
    (h : ∃ A, (∀ w1, G w.drew w1 → wpQuiet P l.toArray (E w1) (fun a' => a' = A) (l.take n) a) ∧ loudW P l.toArray E G Q (wpList P l.toArray Q (l.drop m)) ((l.take m).drop n) A w.drew) :
    (Code.region id l.toArray true).wp P Q a w := by
  simp only [loudB, Bool.and_eq_true, decide_eq_true_eq, List.all_eq_true, Bool.or_eq_true, List.mem_range] at hB
  obtain ⟨⟨⟨⟨⟨⟨b1, b2⟩, b3⟩, b4⟩, b5⟩, b6⟩, b7⟩ := hB
  obtain ⟨A, hq, hl⟩ := h
  refine wp_region_any hm ?_
  have tl : (l.take n).length = n := by simp; omega
  have ml : ((l.take m).drop n).length = m - n := by simp; omega
  have dl : (l.drop m).length = l.length - m := by simp
  have k1 := D_loud (P := P) (md := .any) (ops := l.toArray) (l.length - m) ((l.take m).drop n) n (upTo n 0 (Array.replicate l.length false)) A w.drew
    (fun j hj => by rw [ml] at hj; simp [List.getElem?_take]; omega) (by rw [ml, show m - n + (l.length - m) = l.length - n by omega]; exact b6) hl
  rw [ml, show n + (m - n) = m by omega] at k1
  have k2 := D_lex (P := P) (md := .any) (ops := l.toArray) (Q := Q) (L := fun up a w => Region.seqB .any l.toArray (l.length - m) m up = true ∧ wpList P l.toArray Q (l.drop m) a w) O b1 hQ A (m - n) m (fun up a w hL => seqB_ready hL.1) (fun i j hi hj hjs => by
      rcases b7 j (by simpa using hjs) with h | h
      · omega
      · exact h i hi) (l.take n) 0 (Array.replicate l.length false) a w.drew (by rw [tl]; omega)
    (fun j hj => by rw [tl] at hj; simp [hj]) (by rw [hN]; exact b4) hq (by rw [tl]; exact b5) (by rw [tl]; exact k1)
  have k3 := any_of_D (P := P) (md := .any) (ops := l.toArray) (Q := Q) (L := fun up a w => Region.seqB .any l.toArray (l.length - m) m up = true ∧ wpList P l.toArray Q (l.drop m) a w) (g := l.length - m) O.er (fun up a w hL => by
      have := wpAny_of_seq (P := P) (md := .any) (ops := l.toArray) (Q' := Q) (l.drop m) m up a w (fun j => by simp [List.getElem?_drop]) (by rw [dl]; exact hL.1) hL.2
      rwa [dl] at this) _ _ _ _ k2
  rw [tl, show n + (m - n) + (l.length - m) = l.toArray.size by simp; omega] at k3
  exact k3
/-- draws alone -/
def Drawn (w w' : World) : Prop := ∃ m, w' = w.drewN m
theorem drawn_ord {G : World → World → Prop} (gt : ∀ u v w, G u v → G v w → G u w) (g : ∀ w m, G w (w.drewN m)) : Ord Drawn G :=
  ⟨fun w => ⟨0, rfl⟩, fun u v w ⟨m, h⟩ ⟨n, k⟩ => ⟨m + n, by rw [k, h, World.drewN_drewN]⟩, gt, fun u v ⟨m, h⟩ => by rw [h]; exact g u m⟩
/-- THE LAW, where quiet operations draw at most. -/
theorem wp_drawn {id : Nat} {a : Act} {w : World} {l : List Oper} (G : World → World → Prop) (n m N : Nat) (gt : ∀ u v w, G u v → G v w → G u w) (g : ∀ w m, G w (w.drewN m)) (hm : P.follows .mixedOrders = true)
    (hQ : ∀ c a (d : Option Tmp) v w, Q (.panic c) (a.put d v) w → Q (.panic c) a w) (hN : a.tmps.size = N) (hB : loudB .any l n m N = true)
    (h : ∃ A, (∀ w1, G w.drew w1 → wpQuiet P l.toArray (fun w' => ∃ m, w' = w1.drewN m) (fun a' => a' = A) (l.take n) a) ∧ loudW P l.toArray Drawn G Q (wpList P l.toArray Q (l.drop m)) ((l.take m).drop n) A w.drew) :
    (Code.region id l.toArray true).wp P Q a w := wp_region Drawn G n m N (drawn_ord gt g) hm hQ hN hB h
end Go.Loud
