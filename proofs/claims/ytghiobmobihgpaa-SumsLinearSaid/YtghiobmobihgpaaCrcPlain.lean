/- Plain laws of CRC-32C: no program in sight. -/
namespace Go.PostSums

/-! CRC-32C over natural numbers. -/
def poly : Nat := 2197175160
def full : Nat := 4294967295
/-- one bit of the register -/
def bitN (c : Nat) : Nat := (c >>> 1) ^^^ (if c % 2 = 1 then poly else 0)
def bitsN (c : Nat) : Nat → Nat
  | 0 => c
  | j + 1 => bitN (bitsN c j)
def entN (k : Nat) : Nat := bitsN k 8
/-- a byte by the table -/
def stepN (c : Nat) (b : UInt8) : Nat := entN ((c % 256) ^^^ b.toNat) ^^^ (c / 256)
/-- a byte by the bits -/
def refN (c : Nat) (b : UInt8) : Nat := bitsN (c ^^^ b.toNat) 8
def regN (c : Nat) (l : List UInt8) : Nat := l.foldl stepN c
def crcN (c : Nat) (l : List UInt8) : Nat := full ^^^ regN (full ^^^ c) l

theorem xor_mod2 (a b : Nat) : (a ^^^ b) % 2 = (a % 2) ^^^ (b % 2) := by
  have := Nat.xor_mod_two_pow (a := a) (b := b) (n := 1)
  simpa using this
theorem xor_div (a b n : Nat) : (a ^^^ b) >>> n = (a >>> n) ^^^ (b >>> n) := Nat.shiftRight_xor_distrib
theorem xor4 (a b c d : Nat) : (a ^^^ b) ^^^ (c ^^^ d) = (a ^^^ c) ^^^ (b ^^^ d) := by
  apply Nat.eq_of_testBit_eq; intro i; simp only [Nat.testBit_xor]
  cases a.testBit i <;> cases b.testBit i <;> cases c.testBit i <;> cases d.testBit i <;> rfl
theorem bitN_xor (a b : Nat) : bitN (a ^^^ b) = bitN a ^^^ bitN b := by
  unfold bitN
  rw [xor_div, xor4]
  congr 1
  rw [xor_mod2]
  rcases Nat.mod_two_eq_zero_or_one a with ha | ha <;> rcases Nat.mod_two_eq_zero_or_one b with hb | hb <;> simp [ha, hb]
theorem bitsN_xor (a b : Nat) (j : Nat) : bitsN (a ^^^ b) j = bitsN a j ^^^ bitsN b j := by
  induction j with
  | zero => rfl
  | succ j ih => simp only [bitsN, ih, bitN_xor]
theorem bitN_even (h : Nat) : bitN (2 * h) = h := by
  unfold bitN
  rw [if_neg (by omega), Nat.shiftRight_eq_div_pow]
  simp
theorem bitsN_shift (h : Nat) : bitsN (256 * h) 8 = h := by
  have e : 256 * h = 2 * (2 * (2 * (2 * (2 * (2 * (2 * (2 * h))))))) := by omega
  rw [e]
  simp only [bitsN, bitN_even]
theorem split256 (c : Nat) : c = (c % 256) ^^^ (256 * (c / 256)) := by
  apply Nat.eq_of_testBit_eq; intro i
  rw [Nat.testBit_xor]
  have h1 : (256 : Nat) = 2 ^ 8 := rfl
  rw [h1, Nat.testBit_mod_two_pow, Nat.testBit_two_pow_mul, Nat.testBit_div_two_pow]
  by_cases h : i < 8
  · simp [h, show ¬ 8 ≤ i by omega]
  · simp only [h, decide_false, Bool.false_and, Bool.false_xor, show i ≥ 8 by omega, decide_true, Bool.true_and]
    congr 1; omega
theorem xor_byte_mod (c b : Nat) (hb : b < 256) : (c ^^^ b) % 256 = (c % 256) ^^^ b := by
  have := Nat.xor_mod_two_pow (a := c) (b := b) (n := 8)
  rw [show (2 : Nat) ^ 8 = 256 from rfl] at this
  rw [this, Nat.mod_eq_of_lt hb]
theorem xor_byte_div (c b : Nat) (hb : b < 256) : (c ^^^ b) / 256 = c / 256 := by
  have := xor_div c b 8
  simp only [Nat.shiftRight_eq_div_pow] at this
  rw [show (2 : Nat) ^ 8 = 256 from rfl, Nat.div_eq_of_lt hb, Nat.xor_zero] at this
  exact this
theorem stepN_eq (c : Nat) (b : UInt8) : stepN c b = refN c b := by
  unfold stepN refN entN
  have hb : b.toNat < 256 := b.toNat_lt
  conv => rhs; rw [split256 (c ^^^ b.toNat)]
  rw [bitsN_xor ((c ^^^ b.toNat) % 256), bitsN_shift, xor_byte_mod _ _ hb, xor_byte_div _ _ hb]
theorem refN_xor (a b : Nat) (x y z : UInt8) (h : z.toNat = x.toNat ^^^ y.toNat) : refN (a ^^^ b) z = refN a x ^^^ refN b y := by
  unfold refN; rw [h, xor4, bitsN_xor]

theorem bitN_lt (c : Nat) (h : c < 4294967296) : bitN c < 4294967296 := by
  unfold bitN
  have h1 : c >>> 1 < 2 ^ 32 := by rw [Nat.shiftRight_eq_div_pow]; omega
  have h2 : (if c % 2 = 1 then poly else 0) < 2 ^ 32 := by split <;> decide
  exact Nat.xor_lt_two_pow h1 h2
theorem bitsN_lt (c : Nat) (j : Nat) (h : c < 4294967296) : bitsN c j < 4294967296 := by
  induction j with
  | zero => exact h
  | succ j ih => exact bitN_lt _ ih
theorem refN_lt (c : Nat) (b : UInt8) (h : c < 4294967296) : refN c b < 4294967296 :=
  bitsN_lt _ _ (Nat.xor_lt_two_pow (n := 32) h (by have := b.toNat_lt; omega))
theorem stepN_lt (c : Nat) (b : UInt8) (h : c < 4294967296) : stepN c b < 4294967296 := by
  rw [stepN_eq]; exact refN_lt c b h
theorem regN_lt (l : List UInt8) : ∀ c, c < 4294967296 → regN c l < 4294967296 := by
  induction l with
  | nil => intro c h; exact h
  | cons b l ih => intro c h; exact ih _ (stepN_lt c b h)
theorem xfull_lt (c : Nat) (h : c < 4294967296) : full ^^^ c < 4294967296 := Nat.xor_lt_two_pow (n := 32) (by decide) h
theorem crcN_lt (c : Nat) (l : List UInt8) (h : c < 4294967296) : crcN c l < 4294967296 := xfull_lt _ (regN_lt _ _ (xfull_lt _ h))
theorem xfull_xfull (c : Nat) : full ^^^ (full ^^^ c) = c := by rw [← Nat.xor_assoc]; simp
theorem regN_append (c : Nat) (l m : List UInt8) : regN c (l ++ m) = regN (regN c l) m := List.foldl_append
theorem crcN_append (c : Nat) (l m : List UInt8) : crcN (crcN c l) m = crcN c (l ++ m) := by
  unfold crcN; rw [xfull_xfull, regN_append]

/-! a step loses nothing -/
theorem bitN_inj (a b : Nat) (ha : a < 4294967296) (hb : b < 4294967296) (h : bitN a = bitN b) : a = b := by
  have hx : bitN (a ^^^ b) = 0 := by rw [bitN_xor, h, Nat.xor_self]
  have hl : a ^^^ b < 2 ^ 32 := Nat.xor_lt_two_pow ha hb
  have hz : a ^^^ b = 0 := by
    unfold bitN at hx
    generalize a ^^^ b = c at hx hl
    by_cases hc : c % 2 = 1
    · rw [if_pos hc] at hx
      have e : c >>> 1 = poly := by
        have := congrArg (· ^^^ poly) hx
        simpa [Nat.xor_assoc] using this
      rw [Nat.shiftRight_eq_div_pow] at e
      unfold poly at e
      omega
    · rw [if_neg hc, Nat.shiftRight_eq_div_pow] at hx
      simp at hx
      omega
  have := congrArg (· ^^^ b) hz
  simpa [Nat.xor_assoc] using this
theorem bitsN_inj (j : Nat) : ∀ (a b : Nat) (_ : a < 4294967296) (_ : b < 4294967296) (_ : bitsN a j = bitsN b j), a = b := by
  induction j with
  | zero => intro a b _ _ h; exact h
  | succ j ih => intro a b ha hb h; exact ih a b ha hb (bitN_inj _ _ (bitsN_lt _ _ ha) (bitsN_lt _ _ hb) h)
theorem xor_right_inj (a b c : Nat) (h : a ^^^ c = b ^^^ c) : a = b := by
  have := congrArg (· ^^^ c) h
  simpa [Nat.xor_assoc] using this
theorem xor_left_inj (a b c : Nat) (h : c ^^^ a = c ^^^ b) : a = b := by
  rw [Nat.xor_comm c a, Nat.xor_comm c b] at h; exact xor_right_inj a b c h
theorem stepN_inj (a b : Nat) (x : UInt8) (ha : a < 4294967296) (hb : b < 4294967296) (h : stepN a x = stepN b x) : a = b := by
  rw [stepN_eq, stepN_eq] at h
  have hx : x.toNat < 2 ^ 32 := by have := x.toNat_lt; omega
  exact xor_right_inj a b _ (bitsN_inj 8 _ _ (Nat.xor_lt_two_pow (n := 32) ha hx) (Nat.xor_lt_two_pow (n := 32) hb hx) h)
theorem regN_inj (l : List UInt8) : ∀ (a b : Nat) (_ : a < 4294967296) (_ : b < 4294967296) (_ : regN a l = regN b l), a = b := by
  induction l with
  | nil => intro a b _ _ h; exact h
  | cons x l ih => intro a b ha hb h; exact stepN_inj a b x ha hb (ih _ _ (stepN_lt _ _ ha) (stepN_lt _ _ hb) h)
theorem crcN_zero_inj (l m : List UInt8) (h : crcN 0 l = crcN 0 m) : regN full l = regN full m := by
  unfold crcN at h
  have := xor_left_inj _ _ _ h
  simpa using this

/-! linear -/
theorem regN_xor (l m n : List UInt8) : ∀ (a b : Nat), l.length = n.length → m.length = n.length →
    (∀ i, (n.getD i 0).toNat = (l.getD i 0).toNat ^^^ (m.getD i 0).toNat) → regN (a ^^^ b) n = regN a l ^^^ regN b m := by
  induction n generalizing l m with
  | nil =>
    intro a b hl hm _
    cases l <;> cases m <;> simp_all [regN]
  | cons z n ih =>
    intro a b hl hm hx
    cases l with
    | nil => simp at hl
    | cons x l =>
      cases m with
      | nil => simp at hm
      | cons y m =>
        have h0 := hx 0
        simp at h0
        have := ih l m (stepN a x) (stepN b y) (by simpa using hl) (by simpa using hm) (fun i => by simpa using hx (i + 1))
        simp only [regN, List.foldl_cons] at *
        rw [← this, stepN_eq, stepN_eq, stepN_eq, refN_xor a b x y z h0]

/-! one byte, four bytes -/
theorem stepN_tell (c : Nat) (x y : UInt8) (hc : c < 4294967296) (h : stepN c x = stepN c y) : x = y := by
  rw [stepN_eq, stepN_eq] at h
  have hx : x.toNat < 2 ^ 32 := by have := x.toNat_lt; omega
  have hy : y.toNat < 2 ^ 32 := by have := y.toNat_lt; omega
  have := bitsN_inj 8 _ _ (Nat.xor_lt_two_pow (n := 32) hc hx) (Nat.xor_lt_two_pow (n := 32) hc hy) h
  exact UInt8.toNat_inj.1 (xor_left_inj _ _ _ this)
theorem crcN_tell (p q : List UInt8) (x y : UInt8) (h : crcN 0 (p ++ x :: q) = crcN 0 (p ++ y :: q)) : x = y := by
  have := crcN_zero_inj _ _ h
  rw [regN_append, regN_append] at this
  have hp := regN_lt p full (by decide)
  exact stepN_tell _ x y hp (regN_inj q _ _ (stepN_lt _ _ hp) (stepN_lt _ _ hp) this)
theorem bitsN_add (c i : Nat) (j : Nat) : bitsN c (i + j) = bitsN (bitsN c i) j := by
  induction j with
  | zero => rfl
  | succ j ih => rw [← Nat.add_assoc]; simp only [bitsN, ih]
theorem bitsN_in (x b : Nat) (j : Nat) : bitsN (bitsN x 8 ^^^ b) j = bitsN (x ^^^ 256 * b) (8 + j) := by
  rw [bitsN_add, bitsN_xor x, bitsN_shift]
theorem bitsN_zero (j : Nat) : bitsN 0 j = 0 := by
  induction j with
  | zero => rfl
  | succ j ih => simp only [bitsN, ih]; rfl
theorem bitsN_shift16 (b : Nat) : bitsN (65536 * b) 16 = b := by
  rw [show 16 = 8 + 8 from rfl, bitsN_add, show 65536 * b = 256 * (256 * b) by omega, bitsN_shift, bitsN_shift]
theorem bitsN_shift24 (b : Nat) : bitsN (16777216 * b) 24 = b := by
  rw [show 24 = 8 + 16 from rfl, bitsN_add, show 16777216 * b = 256 * (65536 * b) by omega, bitsN_shift, bitsN_shift16]
theorem four_word (c : Nat) (a b d e : UInt8) :
    regN c [a, b, d, e] = bitsN (c ^^^ a.toNat ^^^ 256 * b.toNat ^^^ 65536 * d.toNat ^^^ 16777216 * e.toNat) 32 := by
  simp only [regN, List.foldl_cons, List.foldl_nil, stepN_eq, refN]
  rw [show 32 = 24 + 8 from rfl, bitsN_add, bitsN_xor _ (16777216 * e.toNat), bitsN_shift24]
  congr 2
  rw [show 24 = 16 + 8 from rfl, bitsN_add, bitsN_xor _ (65536 * d.toNat), bitsN_shift16]
  congr 2
  rw [show 16 = 8 + 8 from rfl, bitsN_add, bitsN_xor _ (256 * b.toNat), bitsN_shift]
theorem word_zero (a b d e : Nat) (ha : a < 256) (hb : b < 256) (hd : d < 256) (h : a ^^^ 256 * b ^^^ 65536 * d ^^^ 16777216 * e = 0) : a = 0 ∧ b = 0 ∧ d = 0 ∧ e = 0 := by
  have e1 := congrArg (· % 256) h
  have m : ∀ x y : Nat, (x ^^^ y) % 256 = (x % 256) ^^^ (y % 256) := fun x y => Nat.xor_mod_two_pow (n := 8)
  have v : ∀ x y : Nat, (x ^^^ y) / 256 = (x / 256) ^^^ (y / 256) := fun x y => by
    have := xor_div x y 8
    simpa only [Nat.shiftRight_eq_div_pow] using this
  simp only [m, show 256 * b % 256 = 0 by omega, show 65536 * d % 256 = 0 by omega, show 16777216 * e % 256 = 0 by omega, Nat.xor_zero, Nat.zero_mod] at e1
  have ha0 : a = 0 := by omega
  subst ha0
  have e2 := congrArg (· / 256) h
  simp only [v, Nat.zero_div, Nat.zero_xor, show 256 * b / 256 = b by omega, show 65536 * d / 256 = 256 * d by omega, show 16777216 * e / 256 = 65536 * e by omega] at e2
  have e3 := congrArg (· % 256) e2
  simp only [m, show 256 * d % 256 = 0 by omega, show 65536 * e % 256 = 0 by omega, Nat.xor_zero, Nat.zero_mod] at e3
  have hb0 : b = 0 := by omega
  subst hb0
  have e4 := congrArg (· / 256) e2
  simp only [v, Nat.zero_div, Nat.zero_xor, show 256 * d / 256 = d by omega, show 65536 * e / 256 = 256 * e by omega] at e4
  have e5 := congrArg (· % 256) e4
  simp only [m, show 256 * e % 256 = 0 by omega, Nat.xor_zero, Nat.zero_mod] at e5
  have hd0 : d = 0 := by omega
  subst hd0
  simp only [Nat.zero_xor] at e4
  exact ⟨rfl, rfl, rfl, by omega⟩
theorem crcN_burst (p q : List UInt8) (a b d e a' b' d' e' : UInt8)
    (h : crcN 0 (p ++ [a, b, d, e] ++ q) = crcN 0 (p ++ [a', b', d', e'] ++ q)) : a = a' ∧ b = b' ∧ d = d' ∧ e = e' := by
  have := crcN_zero_inj _ _ h
  rw [regN_append, regN_append, regN_append, regN_append] at this
  have hp := regN_lt p full (by decide)
  generalize regN full p = c at hp this
  have h4 := regN_inj q _ _ (regN_lt _ _ hp) (regN_lt _ _ hp) this
  have hx : regN c [a, b, d, e] ^^^ regN c [a', b', d', e'] = 0 := by rw [h4, Nat.xor_self]
  rw [← regN_xor [a, b, d, e] [a', b', d', e'] [a ^^^ a', b ^^^ b', d ^^^ d', e ^^^ e'] c c rfl rfl (fun i => by
    match i with
    | 0 | 1 | 2 | 3 => simp [UInt8.toNat_xor]
    | n + 4 => simp), Nat.xor_self, four_word, Nat.zero_xor] at hx
  have hw : (a ^^^ a').toNat ^^^ 256 * (b ^^^ b').toNat ^^^ 65536 * (d ^^^ d').toNat ^^^ 16777216 * (e ^^^ e').toNat < 2 ^ 32 := by
    have h1 := (a ^^^ a').toNat_lt; have h2 := (b ^^^ b').toNat_lt; have h3 := (d ^^^ d').toNat_lt; have h4 := (e ^^^ e').toNat_lt
    exact Nat.xor_lt_two_pow (Nat.xor_lt_two_pow (Nat.xor_lt_two_pow (by omega) (by omega)) (by omega)) (by omega)
  have hz := bitsN_inj 32 _ 0 hw (by decide) (by rw [hx, bitsN_zero])
  obtain ⟨h1, h2, h3, h4⟩ := word_zero _ _ _ _ (UInt8.toNat_lt _) (UInt8.toNat_lt _) (UInt8.toNat_lt _) hz
  have back : ∀ x y : UInt8, (x ^^^ y).toNat = 0 → x = y := fun x y h => by
    rw [UInt8.toNat_xor] at h
    apply UInt8.toNat_inj.1
    have := congrArg (· ^^^ y.toNat) h
    simpa [Nat.xor_assoc] using this
  exact ⟨back _ _ h1, back _ _ h2, back _ _ h3, back _ _ h4⟩
theorem crcN_linear (l m n z : List UInt8) (hl : l.length = n.length) (hm : m.length = n.length) (hz : z.length = n.length)
    (hx : ∀ i, (n.getD i 0).toNat = (l.getD i 0).toNat ^^^ (m.getD i 0).toNat) (h0 : ∀ i, (z.getD i 0).toNat = 0) :
    crcN 0 n = crcN 0 l ^^^ crcN 0 m ^^^ crcN 0 z := by
  have e1 := regN_xor l m n full full hl hm hx
  have e2 := regN_xor n z n 0 full rfl (by omega) (fun i => by rw [h0 i, Nat.xor_zero])
  rw [Nat.xor_self] at e1
  rw [Nat.zero_xor, e1] at e2
  unfold crcN
  simp only [Nat.xor_zero]
  rw [e2, xor4 full _ full _, Nat.xor_self, Nat.zero_xor]
  rw [Nat.xor_comm full (regN full l ^^^ regN full m ^^^ regN full z), Nat.xor_assoc (regN full l ^^^ regN full m), Nat.xor_comm (regN full z) full]
end Go.PostSums
