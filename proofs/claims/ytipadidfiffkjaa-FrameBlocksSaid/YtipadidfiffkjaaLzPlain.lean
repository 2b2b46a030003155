/- LZ4 blocks: what a block tells, what a packer writes; no program in sight. -/
namespace Go.PostLz

def ext : List UInt8 → Nat → Option (Nat × List UInt8)
  | [], _ => none
  | c :: r, n => if c.toNat < 255 then some (n + c.toNat, r) else ext r (n + c.toNat)
def num (n : Nat) (r : List UInt8) : Option (Nat × List UInt8) := if n < 15 then some (n, r) else ext r n
theorem ext_len : ∀ (r : List UInt8) (n a : Nat) (r' : List UInt8), ext r n = some (a, r') → r'.length < r.length
  | [], _, _, _, h => by simp [ext] at h
  | c :: r, n, a, r', h => by
    unfold ext at h
    split at h
    · obtain ⟨rfl, rfl⟩ := by simpa using h
      simp
    · have := ext_len r _ _ _ h
      simp; omega
theorem num_len {n : Nat} {r : List UInt8} {a : Nat} {r' : List UInt8} (h : num n r = some (a, r')) : r'.length ≤ r.length := by
  unfold num at h
  split at h
  · obtain ⟨rfl, rfl⟩ := by simpa using h
    exact Nat.le_refl _
  · exact Nat.le_of_lt (ext_len _ _ _ _ h)
def copyN (out : List UInt8) (far : Nat) : Nat → List UInt8
  | 0 => out
  | k + 1 => copyN (out ++ [out.getD (out.length - far) 0]) far k
def lits (most n : Nat) (r out : List UInt8) : Except Nat (List UInt8 × List UInt8) :=
  match num n r with
  | none => .error 5
  | some (a, r2) => if most < out.length + a then .error 4 else if r2.length < a then .error 5 else .ok (r2.drop a, out ++ r2.take a)
def copies (most n : Nat) (r out : List UInt8) : Except Nat (List UInt8 × List UInt8) :=
  match r with
  | d0 :: d1 :: r4 =>
    if d0.toNat + 256 * d1.toNat = 0 ∨ out.length < d0.toNat + 256 * d1.toNat then .error 60 else
    match num n r4 with
    | none => .error 5
    | some (b, r5) => if most < out.length + (b + 4) then .error 4 else .ok (r5, copyN out (d0.toNat + 256 * d1.toNat) (b + 4))
  | _ => .error 5
theorem lits_len {most n : Nat} {r out r' out' : List UInt8} (h : lits most n r out = .ok (r', out')) : r'.length ≤ r.length := by
  unfold lits at h
  split at h
  · simp at h
  · rename_i a r2 hn
    have := num_len hn
    split at h
    · simp at h
    · split at h
      · simp at h
      · obtain ⟨rfl, rfl⟩ := by simpa using h
        simp; omega
theorem copies_len {most n : Nat} {r out r' out' : List UInt8} (h : copies most n r out = .ok (r', out')) : r'.length < r.length := by
  unfold copies at h
  split at h
  · split at h
    · simp at h
    · split at h
      · simp at h
      · rename_i b r5 hn
        have := num_len hn
        split at h
        · simp at h
        · obtain ⟨rfl, rfl⟩ := by simpa using h
          simp; omega
  · simp at h
/-- what the rest r of a block tells, out being told -/
def unpackFrom (most : Nat) (r out : List UInt8) : Except Nat (List UInt8) :=
  match r with
  | [] => .error 5
  | c :: r1 =>
    match lits most (c.toNat / 16) r1 out with
    | .error e => .error e
    | .ok (r3, out2) =>
      if r3 = [] then .ok out2 else
      match copies most (c.toNat % 16) r3 out2 with
      | .error e => .error e
      | .ok (r5, out3) => if r5.length < r1.length + 1 then unpackFrom most r5 out3 else .error 5
termination_by r.length
theorem unpackFrom_nil (most : Nat) (out : List UInt8) : unpackFrom most [] out = .error 5 := by
  rw [unpackFrom.eq_def]
theorem unpackFrom_cons (most : Nat) (c : UInt8) (r1 out : List UInt8) : unpackFrom most (c :: r1) out =
    match lits most (c.toNat / 16) r1 out with
    | .error e => .error e
    | .ok (r3, out2) =>
      if r3 = [] then .ok out2 else
      match copies most (c.toNat % 16) r3 out2 with
      | .error e => .error e
      | .ok (r5, out3) => unpackFrom most r5 out3 := by
  rw [unpackFrom.eq_def]
  simp only
  cases hl : lits most (c.toNat / 16) r1 out with
  | error e => rfl
  | ok x =>
    obtain ⟨r3, out2⟩ := x
    simp only
    by_cases h0 : r3 = []
    · rw [if_pos h0, if_pos h0]
    · rw [if_neg h0, if_neg h0]
      cases hc : copies most (c.toNat % 16) r3 out2 with
      | error e => rfl
      | ok y =>
        obtain ⟨r5, out3⟩ := y
        have h1 := lits_len hl
        have h2 := copies_len hc
        simp only
        rw [if_pos (by omega)]
theorem copyN_len (far n : Nat) : ∀ out : List UInt8, (copyN out far n).length = out.length + n := by
  induction n with
  | zero => intro out; rfl
  | succ n ih => intro out; rw [copyN, ih]; simp; omega
theorem copyN_snoc (far n : Nat) : ∀ out : List UInt8, copyN out far (n + 1) = copyN out far n ++ [(copyN out far n).getD ((copyN out far n).length - far) 0] := by
  induction n with
  | zero => intro out; rfl
  | succ n ih => intro out; rw [copyN, ih]; rfl
theorem lits_most {most n : Nat} {r out r' out' : List UInt8} (h : lits most n r out = .ok (r', out')) : out'.length ≤ most := by
  unfold lits at h
  split at h
  · simp at h
  · split at h
    · simp at h
    · split at h
      · simp at h
      · obtain ⟨rfl, rfl⟩ := by simpa using h
        simp; omega
theorem copies_most {most n : Nat} {r out r' out' : List UInt8} (h : copies most n r out = .ok (r', out')) : out'.length ≤ most := by
  unfold copies at h
  split at h
  · split at h
    · simp at h
    · split at h
      · simp at h
      · split at h
        · simp at h
        · obtain ⟨rfl, rfl⟩ := by simpa using h
          rw [copyN_len]; omega
  · simp at h
theorem unpackFrom_most (most : Nat) (n : Nat) : ∀ (r out t : List UInt8), r.length ≤ n → unpackFrom most r out = .ok t → t.length ≤ most := by
  induction n with
  | zero => intro r out t hr h; rw [List.eq_nil_of_length_eq_zero (by omega : r.length = 0), unpackFrom_nil] at h; simp at h
  | succ n ih =>
    intro r out t hr h
    cases r with
    | nil => rw [unpackFrom_nil] at h; simp at h
    | cons c r1 =>
      rw [unpackFrom_cons] at h
      cases hl : lits most (c.toNat / 16) r1 out with
      | error e => rw [hl] at h; simp at h
      | ok x =>
        obtain ⟨r3, out2⟩ := x
        rw [hl] at h
        simp only at h
        split at h
        · obtain rfl := by simpa using h
          exact lits_most hl
        · cases hc : copies most (c.toNat % 16) r3 out2 with
          | error e => rw [hc] at h; simp at h
          | ok y =>
            obtain ⟨r5, out3⟩ := y
            rw [hc] at h
            have h1 := lits_len hl
            have h2 := copies_len hc
            exact ih r5 out3 t (by simp at hr; omega) h
theorem lits_error {most n : Nat} {r out : List UInt8} {c : Nat} (h : lits most n r out = .error c) : c ≠ 0 := by
  unfold lits at h
  split at h
  · simp at h; omega
  · split at h
    · simp at h; omega
    · split at h
      · simp at h; omega
      · simp at h
theorem copies_error {most n : Nat} {r out : List UInt8} {c : Nat} (h : copies most n r out = .error c) : c ≠ 0 := by
  unfold copies at h
  split at h
  · split at h
    · simp at h; omega
    · split at h
      · simp at h; omega
      · split at h
        · simp at h; omega
        · simp at h
  · simp at h; omega
def answer : Except Nat (List UInt8) → List UInt8 × Nat
  | .ok t => (t, 0)
  | .error e => ([], e)
/-- the answer of Unpack: the text, and the error's number -/
def unpack (s : List UInt8) (most : Int) : List UInt8 × Nat :=
  if most < 0 ∨ 1048576 < most then ([], 1) else answer (unpackFrom most.toNat s [])
/-! what is written -/
def extB (n : Nat) : List UInt8 := if n < 255 then [UInt8.ofNat n] else 255 :: extB (n - 255)
def numB (n : Nat) : List UInt8 := if n < 15 then [] else extB (n - 15)
theorem ext_extB (m : Nat) (n : Nat) (r : List UInt8) : ext (extB n ++ r) m = some (m + n, r) := by
  induction n using Nat.strongRecOn generalizing m with
  | ind n ih =>
    unfold extB
    split
    · rename_i h
      have e : (UInt8.ofNat n).toNat = n := by rw [UInt8.toNat_ofNat']; omega
      simp only [List.cons_append, List.nil_append, ext, e]
      rw [if_pos h]
    · rename_i h
      simp only [List.cons_append, ext]
      rw [if_neg (by decide), ih (n - 255) (by omega)]
      rw [show (255 : UInt8).toNat = 255 from rfl, show m + 255 + (n - 255) = m + n by omega]
theorem num_numB (n : Nat) (r : List UInt8) : num (min n 15) (numB n ++ r) = some (n, r) := by
  unfold num numB
  by_cases h : n < 15
  · rw [if_pos h, if_pos (by omega), Nat.min_eq_left (by omega)]; rfl
  · rw [if_neg h, if_neg (by omega), Nat.min_eq_right (by omega), ext_extB]
    rw [show 15 + (n - 15) = n by omega]
theorem extB_len (n : Nat) : (extB n).length = n / 255 + 1 := by
  induction n using Nat.strongRecOn with
  | ind n ih =>
    unfold extB
    split
    · simp; omega
    · rw [List.length_cons, ih (n - 255) (by omega)]; omega
theorem numB_len (n : Nat) : (numB n).length = if n < 15 then 0 else (n - 15) / 255 + 1 := by
  unfold numB
  split
  · rfl
  · rw [extB_len]
def token (a b : Nat) : UInt8 := UInt8.ofNat (min a 15 * 16 + min b 15)
theorem token_hi (a b : Nat) : (token a b).toNat / 16 = min a 15 := by
  unfold token; rw [UInt8.toNat_ofNat']; omega
theorem token_lo (a b : Nat) : (token a b).toNat % 16 = min b 15 := by
  unfold token; rw [UInt8.toNat_ofNat']; omega
def headB (lit : List UInt8) (b : Nat) : List UInt8 := token lit.length b :: (numB lit.length ++ lit)
def tailB (far b : Nat) : List UInt8 := UInt8.ofNat far :: UInt8.ofNat (far / 256) :: numB b
def seqB (lit : List UInt8) (far n : Nat) : List UInt8 := headB lit (n - 4) ++ tailB far (n - 4)
def lastB (lit : List UInt8) : List UInt8 := headB lit 0
theorem lits_head (most : Nat) (lit r out : List UInt8) (h : out.length + lit.length ≤ most) :
    lits most (min lit.length 15) (numB lit.length ++ (lit ++ r)) out = .ok (r, out ++ lit) := by
  unfold lits
  rw [num_numB]
  simp only
  rw [if_neg (by omega), if_neg (by simp)]
  simp
theorem copies_tail (most far b : Nat) (r out : List UInt8) (h0 : 0 < far) (h1 : far ≤ out.length) (h2 : far ≤ 65535) (h : out.length + (b + 4) ≤ most) :
    copies most (min b 15) (tailB far b ++ r) out = .ok (r, copyN out far (b + 4)) := by
  have e : (UInt8.ofNat far).toNat + 256 * (UInt8.ofNat (far / 256)).toNat = far := by
    rw [UInt8.toNat_ofNat', UInt8.toNat_ofNat']; omega
  unfold tailB
  simp only [List.cons_append, copies]
  rw [e, if_neg (by omega), num_numB]
  simp only
  rw [if_neg (by omega)]
theorem seq_step (most : Nat) (lit : List UInt8) (far n : Nat) (r out : List UInt8) (h4 : 4 ≤ n) (h0 : 0 < far) (h1 : far ≤ out.length + lit.length) (h2 : far ≤ 65535) (h : out.length + lit.length + n ≤ most) :
    unpackFrom most (seqB lit far n ++ r) out = unpackFrom most r (copyN (out ++ lit) far n) := by
  unfold seqB headB
  simp only [List.cons_append, List.append_assoc]
  rw [unpackFrom_cons, token_hi, token_lo, lits_head most lit _ out (by omega)]
  simp only
  rw [if_neg (by simp [tailB]), copies_tail most far (n - 4) r (out ++ lit) h0 (by simp; omega) h2 (by simp; omega)]
  simp only
  rw [show n - 4 + 4 = n by omega]
theorem last_step (most : Nat) (lit out : List UInt8) (h : out.length + lit.length ≤ most) : unpackFrom most (lastB lit) out = .ok (out ++ lit) := by
  unfold lastB headB
  rw [unpackFrom_cons, token_hi]
  have := lits_head most lit [] out h
  rw [List.append_nil] at this
  rw [this]
  simp only [if_true]
theorem copyN_of (s : List UInt8) (p a : Nat) (hp : p < a) (n : Nat) : ∀ (m : Nat), a + m + n ≤ s.length → (∀ i, i < m + n → s.getD (p + i) 0 = s.getD (a + i) 0) → copyN (s.take (a + m)) (a - p) n = s.take (a + m + n) := by
  induction n with
  | zero => intro m _ _; rfl
  | succ n ih =>
    intro m hl he
    rw [copyN]
    have hlen : (s.take (a + m)).length = a + m := by rw [List.length_take]; omega
    have e1 : (s.take (a + m)).getD ((s.take (a + m)).length - (a - p)) 0 = s.getD (a + m) 0 := by
      rw [hlen, show a + m - (a - p) = p + m by omega, ← he m (by omega)]
      simp only [List.getD_eq_getElem?_getD, List.getElem?_take]
      rw [if_pos (by omega)]
    rw [e1]
    have e2 : s.take (a + m) ++ [s.getD (a + m) 0] = s.take (a + (m + 1)) := by
      rw [show a + (m + 1) = a + m + 1 by omega, List.take_succ_eq_append_getElem (by omega), List.getD_eq_getElem?_getD, List.getElem?_eq_getElem (by omega)]; rfl
    rw [e2, ih (m + 1) (by omega) (fun i hi => he i (by omega))]
    congr 1
    omega
/-- z tells the text s from the place f on -/
inductive Blk (s : List UInt8) : Nat → List UInt8 → Prop
  | last (f : Nat) (h : f = 0 ∨ f + 5 ≤ s.length) : Blk s f (lastB (s.drop f))
  | seq (f a p n : Nat) (z : List UInt8) (hf : f ≤ a) (hp : p < a) (hw : a - p ≤ 65535) (h4 : 4 ≤ n) (hn : a + n + 5 ≤ s.length) (h12 : a + 12 ≤ s.length)
      (he : ∀ i, i < n → s.getD (p + i) 0 = s.getD (a + i) 0) (hz : Blk s (a + n) z) : Blk s f (seqB ((s.drop f).take (a - f)) (a - p) n ++ z)
theorem Blk.ne {s : List UInt8} {f : Nat} {z : List UInt8} (h : Blk s f z) : z ≠ [] := by
  cases h <;> simp [lastB, seqB, headB]
theorem lit_len {s : List UInt8} {f a : Nat} (hf : f ≤ a) (ha : a ≤ s.length) : ((s.drop f).take (a - f)).length = a - f := by simp; omega
theorem take_lit {s : List UInt8} {f a : Nat} (hf : f ≤ a) : s.take f ++ (s.drop f).take (a - f) = s.take a := by
  have : s.take a = s.take (f + (a - f)) := by congr 1; omega
  rw [this, List.take_add]
theorem blk_tells {s : List UInt8} {f : Nat} {z : List UInt8} (h : Blk s f z) (most : Nat) (hm : s.length ≤ most) : unpackFrom most z (s.take f) = .ok s := by
  induction h with
  | last f h => rw [last_step _ _ _ (by simp; omega), List.take_append_drop]
  | seq f a p n z hf hp hw h4 hn h12 he hz ih =>
    have hl := lit_len (s := s) hf (by omega)
    have ht : (s.take f).length = f := by simp; omega
    rw [seq_step most _ _ _ _ _ h4 (by omega) (by rw [hl, ht]; omega) hw (by rw [hl, ht]; omega), take_lit hf]
    have := copyN_of s p a hp n 0 (by omega) (fun i hi => he i (by omega))
    rw [Nat.add_zero] at this
    rw [this]; exact ih
theorem lits_long (most : Nat) (lit r out : List UInt8) (h : most < out.length + lit.length) : lits most (min lit.length 15) (numB lit.length ++ (lit ++ r)) out = .error 4 := by
  unfold lits
  rw [num_numB]
  simp only
  rw [if_pos h]
theorem copies_long (most far b : Nat) (r out : List UInt8) (h0 : 0 < far) (h1 : far ≤ out.length) (h2 : far ≤ 65535) (h : most < out.length + (b + 4)) :
    copies most (min b 15) (tailB far b ++ r) out = .error 4 := by
  have e : (UInt8.ofNat far).toNat + 256 * (UInt8.ofNat (far / 256)).toNat = far := by
    rw [UInt8.toNat_ofNat', UInt8.toNat_ofNat']; omega
  unfold tailB
  simp only [List.cons_append, copies]
  rw [e, if_neg (by omega), num_numB]
  simp only
  rw [if_pos h]
theorem blk_long {s : List UInt8} {f : Nat} {z : List UInt8} (h : Blk s f z) (most : Nat) (hm : most < s.length) (hf' : f ≤ most) : unpackFrom most z (s.take f) = .error 4 := by
  induction h with
  | last f h =>
    unfold lastB headB
    rw [unpackFrom_cons, token_hi]
    have := lits_long most (s.drop f) [] (s.take f) (by simp; omega)
    rw [List.append_nil] at this
    rw [this]
  | seq f a p n z hf hp hw h4 hn h12 he hz ih =>
    have hl := lit_len (s := s) hf (by omega)
    have ht : (s.take f).length = f := by simp; omega
    by_cases h1 : a + n ≤ most
    · rw [seq_step most _ _ _ _ _ h4 (by omega) (by rw [hl, ht]; omega) hw (by rw [hl, ht]; omega), take_lit hf]
      have := copyN_of s p a hp n 0 (by omega) (fun i hi => he i (by omega))
      rw [Nat.add_zero] at this
      rw [this]; exact ih h1
    · unfold seqB headB
      simp only [List.cons_append, List.append_assoc]
      rw [unpackFrom_cons, token_hi, token_lo]
      by_cases h2 : a ≤ most
      · rw [lits_head most _ _ _ (by rw [hl, ht]; omega)]
        simp only
        rw [if_neg (by simp [tailB]), take_lit hf, copies_long most _ _ _ _ (by omega) (by simp; omega) hw (by simp; omega)]
      · rw [lits_long most _ _ _ (by rw [hl, ht]; omega)]
/-! cut -/
theorem ext_cut (n : Nat) : ∀ (m k : Nat) (r : List UInt8), k < (extB n).length → ext ((extB n ++ r).take k) m = none := by
  induction n using Nat.strongRecOn with
  | ind n ih =>
    intro m k r hk
    unfold extB at hk ⊢
    split at hk
    · rename_i h
      obtain rfl : k = 0 := by simpa using hk
      rfl
    · rename_i h
      rw [if_neg h]
      cases k with
      | zero => rfl
      | succ k =>
        simp only [List.cons_append, List.take_succ_cons, ext]
        rw [if_neg (by decide)]
        exact ih _ (by omega) _ _ _ (by simpa using hk)
theorem num_cut (n k : Nat) (r : List UInt8) (hk : k < (numB n).length) : num (min n 15) ((numB n ++ r).take k) = none := by
  unfold numB at hk ⊢
  split at hk
  · simp at hk
  · rename_i h
    unfold num
    rw [if_neg h, if_neg (by omega)]
    exact ext_cut _ _ _ _ hk
theorem take_app (a b : List UInt8) (k : Nat) (h : a.length ≤ k) : (a ++ b).take k = a ++ b.take (k - a.length) := by
  rw [List.take_append, List.take_of_length_le h]
/-- a head that is cut: too short, or all of the plain bytes are there -/
theorem head_cut (most : Nat) (lit r out : List UInt8) (k : Nat) (h : out.length + lit.length ≤ most) :
    (lits most (min lit.length 15) ((numB lit.length ++ (lit ++ r)).take k) out = .error 5) ∨
    (∃ j, k = (numB lit.length).length + lit.length + j ∧ lits most (min lit.length 15) ((numB lit.length ++ (lit ++ r)).take k) out = .ok (r.take j, out ++ lit)) := by
  by_cases h1 : k < (numB lit.length).length
  · left
    unfold lits
    rw [num_cut _ _ _ h1]
  · rw [take_app _ _ _ (by omega)]
    by_cases h2 : k - (numB lit.length).length < lit.length
    · left
      unfold lits
      rw [num_numB]
      simp only
      rw [if_neg (by omega), if_pos (by rw [List.length_take]; omega)]
    · right
      refine ⟨k - (numB lit.length).length - lit.length, by omega, ?_⟩
      rw [take_app _ _ _ (by omega)]
      exact lits_head most lit _ out h
theorem tail_cut (most far b : Nat) (r out : List UInt8) (k : Nat) (h0 : 0 < far) (h1 : far ≤ out.length) (h2 : far ≤ 65535) (h : out.length + (b + 4) ≤ most) :
    (copies most (min b 15) ((tailB far b ++ r).take k) out = .error 5) ∨
    (∃ j, k = (tailB far b).length + j ∧ copies most (min b 15) ((tailB far b ++ r).take k) out = .ok (r.take j, copyN out far (b + 4))) := by
  by_cases hk : k < (tailB far b).length
  · left
    match k, hk with
    | 0, _ => rfl
    | 1, _ => rfl
    | k + 2, hk =>
      have e : (UInt8.ofNat far).toNat + 256 * (UInt8.ofNat (far / 256)).toNat = far := by
        rw [UInt8.toNat_ofNat', UInt8.toNat_ofNat']; omega
      unfold tailB
      simp only [List.cons_append, List.take_succ_cons, copies]
      rw [e, if_neg (by omega), num_cut _ _ _ (by simpa [tailB] using hk)]
  · right
    refine ⟨k - (tailB far b).length, by omega, ?_⟩
    rw [take_app _ _ _ (by omega)]
    exact copies_tail most far b _ out h0 h1 h2 h
theorem blk_cut {s : List UInt8} {f : Nat} {z : List UInt8} (h : Blk s f z) (most : Nat) (hm : s.length ≤ most) : ∀ k, k < z.length →
    unpackFrom most (z.take k) (s.take f) = .error 5 ∨ ∃ t, t ≤ s.length ∧ unpackFrom most (z.take k) (s.take f) = .ok (s.take t) := by
  induction h with
  | last f h =>
    intro k hk
    cases k with
    | zero => left; rw [List.take_zero, unpackFrom_nil]
    | succ k =>
      left
      unfold lastB headB at hk ⊢
      rw [List.take_succ_cons, unpackFrom_cons, token_hi]
      have := head_cut most (s.drop f) [] (s.take f) k (by simp; omega)
      rw [List.append_nil] at this
      rcases this with h1 | ⟨j, hj, h1⟩
      · rw [h1]
      · simp at hk; simp at hj; omega
  | seq f a p n z hf hp hw h4 hn h12 he hz ih =>
    intro k hk
    have hl := lit_len (s := s) hf (by omega)
    have ht : (s.take f).length = f := by simp; omega
    cases k with
    | zero => left; rw [List.take_zero, unpackFrom_nil]
    | succ k =>
      unfold seqB headB at hk ⊢
      simp only [List.cons_append, List.append_assoc, List.length_cons, List.length_append] at hk ⊢
      rw [List.take_succ_cons, unpackFrom_cons, token_hi, token_lo]
      rcases head_cut most ((s.drop f).take (a - f)) (tailB (a - p) (n - 4) ++ z) (s.take f) k (by rw [hl, ht]; omega) with h1 | ⟨j, hj, h1⟩
      · left; rw [h1]
      · rw [h1]
        simp only
        split
        · right
          exact ⟨a, by omega, by rw [take_lit hf]⟩
        · rw [take_lit hf]
          rcases tail_cut most (a - p) (n - 4) z (s.take a) j (by omega) (by simp; omega) hw (by simp; omega) with h2 | ⟨i, hi, h2⟩
          · left; rw [h2]
          · rw [h2]
            simp only
            have := copyN_of s p a hp n 0 (by omega) (fun i hi => he i (by omega))
            rw [Nat.add_zero] at this
            rw [show n - 4 + 4 = n by omega, this]
            exact ih i (by omega)
/-! how long -/
theorem headB_len (lit : List UInt8) (b : Nat) : (headB lit b).length ≤ lit.length + lit.length / 255 + 2 := by
  unfold headB
  rw [List.length_cons, List.length_append, numB_len]
  split <;> omega
theorem tailB_len (far b : Nat) : (tailB far b).length = 2 + (numB b).length := by
  unfold tailB; simp; omega
theorem blk_short {s : List UInt8} {f : Nat} {z : List UInt8} (h : Blk s f z) (hf : f ≤ s.length) : z.length ≤ (s.length - f) + (s.length - f) / 255 + 2 := by
  induction h with
  | last f h =>
    have := headB_len (s.drop f) 0
    unfold lastB
    rw [List.length_drop] at this
    exact this
  | seq f a p n z hf' hp hw h4 hn h12 he hz ih =>
    have hl := lit_len (s := s) hf' (by omega)
    have h1 : (headB ((s.drop f).take (a - f)) (n - 4)).length = 1 + (numB (a - f)).length + (a - f) := by unfold headB; rw [List.length_cons, List.length_append, hl]; omega
    have h2 := numB_len (a - f)
    have h3 := numB_len (n - 4)
    have ih := ih (by omega)
    unfold seqB
    rw [List.length_append, List.length_append, h1, tailB_len]
    split at h2 <;> split at h3 <;> omega
/-! the packer -/
def ml (s : List UInt8) (p a n : Nat) : Nat :=
  if a + n + 5 < s.length ∧ s.getD (p + n) 0 = s.getD (a + n) 0 then ml s p a (n + 1) else n
termination_by s.length - (a + n)
theorem ml_le (s : List UInt8) (p a n : Nat) : n ≤ ml s p a n := by
  induction h : s.length - (a + n) using Nat.strongRecOn generalizing n with
  | ind m ih =>
    rw [ml]
    split
    · exact Nat.le_of_succ_le (ih (s.length - (a + (n + 1))) (by omega) (n + 1) rfl)
    · exact Nat.le_refl _
theorem ml_spec (s : List UInt8) (p a n : Nat) (hn : a + n + 5 ≤ s.length) : a + ml s p a n + 5 ≤ s.length ∧ ∀ i, n ≤ i → i < ml s p a n → s.getD (p + i) 0 = s.getD (a + i) 0 := by
  induction h : s.length - (a + n) using Nat.strongRecOn generalizing n with
  | ind m ih =>
    rw [ml]
    split
    · rename_i hc
      obtain ⟨h1, h2⟩ := ih (s.length - (a + (n + 1))) (by omega) (n + 1) (by omega) rfl
      refine ⟨h1, fun i hi hi2 => ?_⟩
      by_cases e : i = n
      · rw [e]; exact hc.2
      · exact h2 i (by omega) hi2
    · exact ⟨hn, fun i h1 h2 => by omega⟩
def key4 (s : List UInt8) (a : Nat) : List UInt8 := (s.drop a).take 4
def upd (last : List UInt8 → Option Nat) (k : List UInt8) (a : Nat) : List UInt8 → Option Nat := fun x => if x = k then some a else last x
/-- what is to be written from a on, the bytes from f on being due -/
def packFrom (s : List UInt8) (a f : Nat) (last : List UInt8 → Option Nat) : List UInt8 :=
  if a + 12 ≤ s.length then
    match last (key4 s a) with
    | none => packFrom s (a + 1) f (upd last (key4 s a) a)
    | some p =>
      if 65535 < a - p then packFrom s (a + 1) f (upd last (key4 s a) a)
      else seqB ((s.drop f).take (a - f)) (a - p) (ml s p a 4) ++ packFrom s (a + ml s p a 4) (a + ml s p a 4) (upd last (key4 s a) a)
  else lastB (s.drop f)
termination_by s.length - a
decreasing_by
  · omega
  · omega
  · have := ml_le s p a 4; omega
def pack (s : List UInt8) : List UInt8 := packFrom s 0 0 (fun _ => none)
/-- the places are such as they were met -/
def Met (s : List UInt8) (a : Nat) (last : List UInt8 → Option Nat) : Prop := ∀ k p, last k = some p → p < a ∧ key4 s p = k
theorem Met.step {s : List UInt8} {a : Nat} {last : List UInt8 → Option Nat} (h : Met s a last) (b : Nat) (hb : a < b) : Met s b (upd last (key4 s a) a) := by
  intro k p hp
  unfold upd at hp
  split at hp
  · rename_i e
    obtain rfl := by simpa using hp
    exact ⟨hb, e.symm⟩
  · exact ⟨by have := (h k p hp).1; omega, (h k p hp).2⟩
theorem key4_at {s : List UInt8} {a i : Nat} (hi : i < 4) : (key4 s a).getD i 0 = s.getD (a + i) 0 := by
  unfold key4
  simp only [List.getD_eq_getElem?_getD, List.getElem?_take, List.getElem?_drop]
  rw [if_pos hi]
theorem pack_blk (s : List UInt8) (a f : Nat) (last : List UInt8 → Option Nat) (hm : Met s a last) (hf : f ≤ a) (h5 : f = 0 ∨ f + 5 ≤ s.length) : Blk s f (packFrom s a f last) := by
  induction h : s.length - a using Nat.strongRecOn generalizing a f last with
  | ind m ih =>
    rw [packFrom]
    split
    · rename_i h12
      cases hl : last (key4 s a) with
      | none => exact ih (s.length - (a + 1)) (by omega) (a + 1) f _ (hm.step _ (by omega)) (by omega) h5 rfl
      | some p =>
        simp only
        split
        · exact ih (s.length - (a + 1)) (by omega) (a + 1) f _ (hm.step _ (by omega)) (by omega) h5 rfl
        · rename_i hw
          obtain ⟨hp, hk⟩ := hm _ _ hl
          have h4 := ml_le s p a 4
          obtain ⟨h1, h2⟩ := ml_spec s p a 4 (by omega)
          refine .seq f a p _ _ hf hp (by omega) h4 h1 h12 (fun i hi => ?_) (ih (s.length - (a + ml s p a 4)) (by omega) _ _ _ (hm.step _ (by omega)) (Nat.le_refl _) (.inr h1) rfl)
          by_cases hi4 : i < 4
          · have e1 := key4_at (s := s) (a := p) hi4
            have e2 := key4_at (s := s) (a := a) hi4
            rw [← e1, ← e2, hk]
          · exact h2 i (by omega) hi
    · exact .last f h5
theorem pack_is (s : List UInt8) : Blk s 0 (pack s) := pack_blk s 0 0 _ (fun _ _ h => nomatch h) (Nat.le_refl _) (.inl rfl)
theorem pack_tells (s : List UInt8) (most : Nat) (hm : s.length ≤ most) : unpackFrom most (pack s) [] = .ok s := by
  have h := blk_tells (pack_is s) most hm
  rwa [List.take_zero] at h
end Go.PostLz
