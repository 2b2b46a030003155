/- Plain laws of xxHash32: no program in sight. -/
namespace Go.PostSums

/-! xxHash32 over natural numbers. -/
def W32 : Nat := 4294967296
def q1 : Nat := 2654435761
def q2 : Nat := 2246822519
def q3 : Nat := 3266489917
def q4 : Nat := 668265263
def q5 : Nat := 374761393
def rotN (x n : Nat) : Nat := (x % 2 ^ (32 - n)) * 2 ^ n + x / 2 ^ (32 - n)
def roundN (v x : Nat) : Nat := rotN ((v + x * q2 % 4294967296) % 4294967296) 13 * q1 % 4294967296
def tail4 (h x : Nat) : Nat := rotN ((h + x * q3 % 4294967296) % 4294967296) 17 * q4 % 4294967296
def tail1 (h b : Nat) : Nat := rotN ((h + b * q5 % 4294967296) % 4294967296) 11 * q1 % 4294967296
/-- the byte at a place -/
def at8 (l : List UInt8) (i : Nat) : Nat := (l.getD i 0).toNat
/-- four bytes at a place, lowest first -/
def word (l : List UInt8) (i : Nat) : Nat := at8 l i + 256 * at8 l (i + 1) + 65536 * at8 l (i + 2) + 16777216 * at8 l (i + 3)
structure Lanes where
  a : Nat
  b : Nat
  c : Nat
  d : Nat
def Lanes.block (v : Lanes) (l : List UInt8) : Lanes := ⟨roundN v.a (word l 0), roundN v.b (word l 4), roundN v.c (word l 8), roundN v.d (word l 12)⟩
def Lanes.of (seed : Nat) : Lanes := ⟨(seed + q1 + q2) % 4294967296, (seed + q2) % 4294967296, seed % 4294967296, (seed + 4294967296 - q1) % 4294967296⟩
def Lanes.sum (v : Lanes) : Nat := (rotN v.a 1 + rotN v.b 7 + rotN v.c 12 + rotN v.d 18) % 4294967296
def Lanes.ok (v : Lanes) : Prop := v.a < 4294967296 ∧ v.b < 4294967296 ∧ v.c < 4294967296 ∧ v.d < 4294967296
def lanes (v : Lanes) (l : List UInt8) : Lanes × List UInt8 :=
  if 16 ≤ l.length then lanes (v.block l) (l.drop 16) else (v, l)
termination_by l.length
decreasing_by simp; omega
def sumTail (x : Nat) : List UInt8 → Nat
  | a :: b :: c :: d :: r => sumTail (tail4 x (word [a, b, c, d] 0)) r
  | l => l.foldl (fun x b => tail1 x b.toNat) x
def fin1 (x : Nat) : Nat := (x ^^^ x >>> 15) * q2 % 4294967296
def fin2 (x : Nat) : Nat := (x ^^^ x >>> 13) * q3 % 4294967296
def fin3 (x : Nat) : Nat := x ^^^ x >>> 16
def finN (x : Nat) : Nat := fin3 (fin2 (fin1 x))
/-- what a hasher tells that took n bytes -/
def tellN (seed n : Nat) (v : Lanes) (r : List UInt8) : Nat :=
  finN (sumTail (((if 16 ≤ n then v.sum else (seed + q5) % 4294967296) + n % 4294967296) % 4294967296) r)
def hashN (seed : Nat) (l : List UInt8) : Nat := tellN seed l.length (lanes (.of seed) l).1 (lanes (.of seed) l).2

theorem lanes_short (v : Lanes) (l : List UInt8) (h : l.length < 16) : lanes v l = (v, l) := by
  rw [lanes, if_neg (by omega)]
theorem lanes_long (v : Lanes) (l : List UInt8) (h : 16 ≤ l.length) : lanes v l = lanes (v.block l) (l.drop 16) := by
  rw [lanes, if_pos h]
theorem at8_append (l m : List UInt8) (i : Nat) (h : i < l.length) : at8 (l ++ m) i = at8 l i := by
  unfold at8; simp [List.getD_eq_getElem?_getD, List.getElem?_append, h]
theorem word_append (l m : List UInt8) (i : Nat) (h : i + 3 < l.length) : word (l ++ m) i = word l i := by
  unfold word
  rw [at8_append _ _ _ (by omega), at8_append _ _ _ (by omega), at8_append _ _ _ (by omega), at8_append _ _ _ (by omega)]
theorem block_append (v : Lanes) (l m : List UInt8) (h : 16 ≤ l.length) : v.block (l ++ m) = v.block l := by
  unfold Lanes.block
  rw [word_append _ _ _ (by omega), word_append _ _ _ (by omega), word_append _ _ _ (by omega), word_append _ _ _ (by omega)]
theorem lanes_append (n : Nat) : ∀ (v : Lanes) (l m : List UInt8), l.length ≤ n → lanes v (l ++ m) = lanes (lanes v l).1 ((lanes v l).2 ++ m) := by
  induction n using Nat.strongRecOn with
  | ind n ih =>
    intro v l m hn
    by_cases h : 16 ≤ l.length
    · rw [lanes_long v l h, lanes_long v (l ++ m) (by simp; omega), block_append v l m h, List.drop_append_of_le_length h]
      exact ih (n - 16) (by omega) _ _ _ (by simp; omega)
    · rw [lanes_short v l (by omega)]
theorem lanes_rest (n : Nat) : ∀ (v : Lanes) (l : List UInt8), l.length ≤ n → (lanes v l).2.length < 16 := by
  induction n using Nat.strongRecOn with
  | ind n ih =>
    intro v l hn
    by_cases h : 16 ≤ l.length
    · rw [lanes_long v l h]; exact ih (n - 16) (by omega) _ _ (by simp; omega)
    · rw [lanes_short v l (by omega)]; simpa using by omega

/-! bounds -/
theorem rotN_lt (x n : Nat) (hx : x < 4294967296) (hn : n ≤ 32) : rotN x n < 4294967296 := by
  unfold rotN
  have e : 2 ^ (32 - n) * 2 ^ n = 4294967296 := by rw [← Nat.pow_add, Nat.sub_add_cancel hn]
  have p1 : 0 < 2 ^ (32 - n) := Nat.two_pow_pos _
  have h1 : x % 2 ^ (32 - n) < 2 ^ (32 - n) := Nat.mod_lt _ p1
  have h2 : x / 2 ^ (32 - n) < 2 ^ n := Nat.div_lt_of_lt_mul (by rw [e]; exact hx)
  have h3 : (x % 2 ^ (32 - n) + 1) * 2 ^ n ≤ 2 ^ (32 - n) * 2 ^ n := Nat.mul_le_mul_right _ h1
  rw [e, Nat.add_mul, Nat.one_mul] at h3
  omega
theorem rotN_inj (x y n : Nat) (hx : x < 4294967296) (hy : y < 4294967296) (hn : n ≤ 32) (h : rotN x n = rotN y n) : x = y := by
  unfold rotN at h
  have e : 2 ^ (32 - n) * 2 ^ n = 4294967296 := by rw [← Nat.pow_add, Nat.sub_add_cancel hn]
  have h2 : x / 2 ^ (32 - n) < 2 ^ n := Nat.div_lt_of_lt_mul (by rw [e]; exact hx)
  have h3 : y / 2 ^ (32 - n) < 2 ^ n := Nat.div_lt_of_lt_mul (by rw [e]; exact hy)
  have p2 : 0 < 2 ^ n := Nat.two_pow_pos _
  have m := congrArg (· % 2 ^ n) h
  have d := congrArg (· / 2 ^ n) h
  simp only [Nat.mul_add_mod_self_right, Nat.mod_eq_of_lt h2, Nat.mod_eq_of_lt h3] at m
  rw [Nat.mul_comm _ (2 ^ n), Nat.mul_comm _ (2 ^ n)] at d
  simp only [Nat.mul_add_div p2, Nat.div_eq_of_lt h2, Nat.div_eq_of_lt h3, Nat.add_zero] at d
  rw [← Nat.div_add_mod x (2 ^ (32 - n)), ← Nat.div_add_mod y (2 ^ (32 - n)), m, d]
theorem mul_inj (p q a b : Nat) (hp : p * q % 4294967296 = 1) (ha : a < 4294967296) (hb : b < 4294967296) (h : a * p % 4294967296 = b * p % 4294967296) : a = b := by
  have e : ∀ a, a < 4294967296 → (a * p % 4294967296) * q % 4294967296 = a := fun a ha => by
    rw [Nat.mul_mod, Nat.mod_mod, ← Nat.mul_mod, Nat.mul_assoc, Nat.mul_mod, hp, Nat.mul_one, Nat.mod_mod, Nat.mod_eq_of_lt ha]
  rw [← e a ha, h, e b hb]
theorem add_inj (a b c : Nat) (ha : a < 4294967296) (hb : b < 4294967296) (h : (a + c) % 4294967296 = (b + c) % 4294967296) : a = b := by omega
theorem inv1 : q1 * 244002641 % 4294967296 = 1 := by decide
theorem inv2 : q2 * 3066638151 % 4294967296 = 1 := by decide
theorem inv3 : q3 * 2828982549 % 4294967296 = 1 := by decide
theorem inv4 : q4 * 2701016015 % 4294967296 = 1 := by decide
theorem inv5 : q5 * 2923004241 % 4294967296 = 1 := by decide
theorem m32 (a : Nat) : a % 4294967296 < 4294967296 := Nat.mod_lt _ (by decide)
theorem roundN_lt (v x : Nat) : roundN v x < 4294967296 := m32 _
theorem tail4_lt (v x : Nat) : tail4 v x < 4294967296 := m32 _
theorem tail1_lt (v x : Nat) : tail1 v x < 4294967296 := m32 _
theorem sum_inj (a b c d : Nat) (ha : a < 4294967296) (hb : b < 4294967296) (hc : c < 4294967296) (hd : d < 4294967296) (h : (a + c) % 4294967296 = (b + d) % 4294967296) : (c = d → a = b) ∧ (a = b → c = d) := by
  constructor <;> (intro e; subst e; omega)
theorem roundN_inj (v w x y : Nat) (hv : v < 4294967296) (hw : w < 4294967296) (hx : x < 4294967296) (hy : y < 4294967296) (h : roundN v x = roundN w y) : (v = w → x = y) ∧ (x = y → v = w) := by
  have h1 := rotN_inj _ _ 13 (m32 _) (m32 _) (by decide) (mul_inj q1 _ _ _ inv1 (rotN_lt _ 13 (m32 _) (by decide)) (rotN_lt _ 13 (m32 _) (by decide)) h)
  have h2 := sum_inj _ _ _ _ hv hw (m32 _) (m32 _) h1
  exact ⟨fun e => mul_inj q2 _ _ _ inv2 hx hy (h2.2 e), fun e => h2.1 (by rw [e])⟩
theorem tail4_inj (v w x y : Nat) (hv : v < 4294967296) (hw : w < 4294967296) (hx : x < 4294967296) (hy : y < 4294967296) (h : tail4 v x = tail4 w y) : (v = w → x = y) ∧ (x = y → v = w) := by
  have h1 := rotN_inj _ _ 17 (m32 _) (m32 _) (by decide) (mul_inj q4 _ _ _ inv4 (rotN_lt _ 17 (m32 _) (by decide)) (rotN_lt _ 17 (m32 _) (by decide)) h)
  have h2 := sum_inj _ _ _ _ hv hw (m32 _) (m32 _) h1
  exact ⟨fun e => mul_inj q3 _ _ _ inv3 hx hy (h2.2 e), fun e => h2.1 (by rw [e])⟩
theorem tail1_inj (v w x y : Nat) (hv : v < 4294967296) (hw : w < 4294967296) (hx : x < 4294967296) (hy : y < 4294967296) (h : tail1 v x = tail1 w y) : (v = w → x = y) ∧ (x = y → v = w) := by
  have h1 := rotN_inj _ _ 11 (m32 _) (m32 _) (by decide) (mul_inj q1 _ _ _ inv1 (rotN_lt _ 11 (m32 _) (by decide)) (rotN_lt _ 11 (m32 _) (by decide)) h)
  have h2 := sum_inj _ _ _ _ hv hw (m32 _) (m32 _) h1
  exact ⟨fun e => mul_inj q5 _ _ _ inv5 hx hy (h2.2 e), fun e => h2.1 (by rw [e])⟩
theorem shift_inj (n a b : Nat) (hn : 0 < n) (h : a ^^^ a >>> n = b ^^^ b >>> n) : a = b := by
  apply Nat.eq_of_testBit_eq
  have bits : ∀ i, a.testBit i = (b.testBit i ^^ (b.testBit (n + i) ^^ a.testBit (n + i))) := fun i => by
    have := congrArg (fun z => z.testBit i) h
    simp only [Nat.testBit_xor, Nat.testBit_shiftRight] at this
    revert this
    cases a.testBit i <;> cases b.testBit i <;> cases a.testBit (n + i) <;> cases b.testBit (n + i) <;> simp
  have top : ∃ m, ∀ i, m ≤ i → a.testBit i = false ∧ b.testBit i = false := by
    refine ⟨a + b, fun i hi => ⟨?_, ?_⟩⟩
    · exact Nat.testBit_lt_two_pow (Nat.lt_of_lt_of_le Nat.lt_two_pow_self (Nat.pow_le_pow_right (by decide) (by omega)))
    · exact Nat.testBit_lt_two_pow (Nat.lt_of_lt_of_le Nat.lt_two_pow_self (Nat.pow_le_pow_right (by decide) (by omega)))
  obtain ⟨m, top⟩ := top
  have down : ∀ d i, m ≤ i + d → a.testBit i = b.testBit i := by
    intro d
    induction d with
    | zero => intro i hi; rw [(top i hi).1, (top i hi).2]
    | succ d ih =>
      intro i hi
      rw [bits i, ih (n + i) (by omega)]
      cases b.testBit i <;> cases b.testBit (n + i) <;> rfl
  intro i
  exact down m i (by omega)
theorem xs_lt (n a : Nat) (h : a < 4294967296) : a ^^^ a >>> n < 4294967296 :=
  Nat.xor_lt_two_pow (n := 32) h (Nat.lt_of_le_of_lt (Nat.shiftRight_le _ _) h)
theorem finN_inj (a b : Nat) (ha : a < 4294967296) (hb : b < 4294967296) (h : finN a = finN b) : a = b := by
  have h1 := shift_inj 16 _ _ (by decide) h
  have h2 := shift_inj 13 _ _ (by decide) (mul_inj q3 _ _ _ inv3 (xs_lt 13 _ (m32 _)) (xs_lt 13 _ (m32 _)) h1)
  exact shift_inj 15 _ _ (by decide) (mul_inj q2 _ _ _ inv2 (xs_lt 15 _ ha) (xs_lt 15 _ hb) h2)
theorem finN_lt (a : Nat) : finN a < 4294967296 := xs_lt 16 _ (m32 _)
theorem hashN_lt (s : Nat) (l : List UInt8) : hashN s l < 4294967296 := finN_lt _

/-! one byte that is another one -/
/-- two texts of one length that are unlike at one place -/
structure Unlike (l m : List UInt8) (k : Nat) : Prop where
  len : l.length = m.length
  lt : k < l.length
  at_ : at8 l k ≠ at8 m k
  else_ : ∀ i, i ≠ k → at8 l i = at8 m i
theorem at8_lt (l : List UInt8) (i : Nat) : at8 l i < 256 := UInt8.toNat_lt _
theorem at8_drop (l : List UInt8) (n i : Nat) : at8 (l.drop n) i = at8 l (n + i) := by
  unfold at8; simp [List.getD_eq_getElem?_getD]
theorem word_lt (l : List UInt8) (i : Nat) : word l i < 4294967296 := by
  unfold word
  have h0 := at8_lt l i; have h1 := at8_lt l (i + 1); have h2 := at8_lt l (i + 2); have h3 := at8_lt l (i + 3)
  omega
theorem word_inj (l m : List UInt8) (i : Nat) (h : word l i = word m i) : at8 l i = at8 m i ∧ at8 l (i + 1) = at8 m (i + 1) ∧ at8 l (i + 2) = at8 m (i + 2) ∧ at8 l (i + 3) = at8 m (i + 3) := by
  unfold word at h
  have h0 := at8_lt l i; have h1 := at8_lt l (i + 1); have h2 := at8_lt l (i + 2); have h3 := at8_lt l (i + 3)
  have g0 := at8_lt m i; have g1 := at8_lt m (i + 1); have g2 := at8_lt m (i + 2); have g3 := at8_lt m (i + 3)
  omega
theorem Unlike.word {l m : List UInt8} {k : Nat} (h : Unlike l m k) (i : Nat) : word l i = word m i ↔ ¬ (i ≤ k ∧ k < i + 4) := by
  constructor
  · intro e hk
    obtain ⟨e0, e1, e2, e3⟩ := word_inj _ _ _ e
    have : k = i ∨ k = i + 1 ∨ k = i + 2 ∨ k = i + 3 := by omega
    rcases this with rfl | rfl | rfl | rfl
    · exact h.at_ e0
    · exact h.at_ e1
    · exact h.at_ e2
    · exact h.at_ e3
  · intro hk
    unfold PostSums.word
    rw [h.else_ i (by omega), h.else_ (i + 1) (by omega), h.else_ (i + 2) (by omega), h.else_ (i + 3) (by omega)]
theorem Unlike.drop {l m : List UInt8} {k n : Nat} (h : Unlike l m k) (hn : n ≤ k) : Unlike (l.drop n) (m.drop n) (k - n) where
  len := by simp [h.len]
  lt := by have := h.lt; simp; omega
  at_ := by rw [at8_drop, at8_drop, show n + (k - n) = k by omega]; exact h.at_
  else_ := fun i hi => by rw [at8_drop, at8_drop]; exact h.else_ _ (by omega)
theorem Unlike.same {l m : List UInt8} {k n : Nat} (h : Unlike l m k) (hn : k < n) : l.drop n = m.drop n := by
  apply List.ext_getElem?
  intro i
  have e := h.else_ (n + i) (by omega)
  have hl := h.len
  simp only [List.getElem?_drop]
  unfold at8 at e
  simp only [List.getD_eq_getElem?_getD] at e
  by_cases hi : n + i < l.length
  · rw [List.getElem?_eq_getElem hi, List.getElem?_eq_getElem (by omega)] at *
    simp at e
    rw [UInt8.toNat_inj.1 e]
  · rw [List.getElem?_eq_none (by omega), List.getElem?_eq_none (by omega)]

/-- lanes that are unlike in just one -/
inductive One : Lanes → Lanes → Prop
  | a (v w : Lanes) (h : v.a ≠ w.a) (hb : v.b = w.b) (hc : v.c = w.c) (hd : v.d = w.d) : One v w
  | b (v w : Lanes) (ha : v.a = w.a) (h : v.b ≠ w.b) (hc : v.c = w.c) (hd : v.d = w.d) : One v w
  | c (v w : Lanes) (ha : v.a = w.a) (hb : v.b = w.b) (h : v.c ≠ w.c) (hd : v.d = w.d) : One v w
  | d (v w : Lanes) (ha : v.a = w.a) (hb : v.b = w.b) (hc : v.c = w.c) (h : v.d ≠ w.d) : One v w
theorem block_ok (v : Lanes) (l : List UInt8) : (v.block l).ok := ⟨m32 _, m32 _, m32 _, m32 _⟩
theorem of_ok (s : Nat) : (Lanes.of s).ok := ⟨m32 _, m32 _, m32 _, m32 _⟩
theorem One.block {v w : Lanes} (h : One v w) (hv : v.ok) (hw : w.ok) (l : List UInt8) : One (v.block l) (w.block l) := by
  obtain ⟨v1, v2, v3, v4⟩ := hv
  obtain ⟨w1, w2, w3, w4⟩ := hw
  have keep : ∀ a b x, a < 4294967296 → b < 4294967296 → x < 4294967296 → a ≠ b → roundN a x ≠ roundN b x := fun a b x ha hb hx hn e => hn ((roundN_inj a b x x ha hb hx hx e).2 rfl)
  cases h with
  | a h hb hc hd => exact .a _ _ (keep _ _ _ v1 w1 (word_lt _ _) h) (by simp [Lanes.block, hb]) (by simp [Lanes.block, hc]) (by simp [Lanes.block, hd])
  | b ha h hc hd => exact .b _ _ (by simp [Lanes.block, ha]) (keep _ _ _ v2 w2 (word_lt _ _) h) (by simp [Lanes.block, hc]) (by simp [Lanes.block, hd])
  | c ha hb h hd => exact .c _ _ (by simp [Lanes.block, ha]) (by simp [Lanes.block, hb]) (keep _ _ _ v3 w3 (word_lt _ _) h) (by simp [Lanes.block, hd])
  | d ha hb hc h => exact .d _ _ (by simp [Lanes.block, ha]) (by simp [Lanes.block, hb]) (by simp [Lanes.block, hc]) (keep _ _ _ v4 w4 (word_lt _ _) h)
theorem One.sum {v w : Lanes} (h : One v w) (hv : v.ok) (hw : w.ok) : v.sum ≠ w.sum := by
  obtain ⟨v1, v2, v3, v4⟩ := hv
  obtain ⟨w1, w2, w3, w4⟩ := hw
  intro e
  unfold Lanes.sum at e
  have r := fun x n hx hn => rotN_lt x n hx hn
  have a1 := r v.a 1 v1 (by decide); have a2 := r v.b 7 v2 (by decide); have a3 := r v.c 12 v3 (by decide); have a4 := r v.d 18 v4 (by decide)
  have b1 := r w.a 1 w1 (by decide); have b2 := r w.b 7 w2 (by decide); have b3 := r w.c 12 w3 (by decide); have b4 := r w.d 18 w4 (by decide)
  cases h with
  | a h hb hc hd => rw [hb, hc, hd] at e; exact h (rotN_inj _ _ 1 v1 w1 (by decide) (by omega))
  | b ha h hc hd => rw [ha, hc, hd] at e; exact h (rotN_inj _ _ 7 v2 w2 (by decide) (by omega))
  | c ha hb h hd => rw [ha, hb, hd] at e; exact h (rotN_inj _ _ 12 v3 w3 (by decide) (by omega))
  | d ha hb hc h => rw [ha, hb, hc] at e; exact h (rotN_inj _ _ 18 v4 w4 (by decide) (by omega))
theorem Unlike.block {l m : List UInt8} {k : Nat} (h : Unlike l m k) (hk : k < 16) (v : Lanes) (hv : v.ok) : One (v.block l) (v.block m) := by
  obtain ⟨v1, v2, v3, v4⟩ := hv
  have tell : ∀ a i, a < 4294967296 → (i ≤ k ∧ k < i + 4) → roundN a (PostSums.word l i) ≠ roundN a (PostSums.word m i) := fun a i ha hi e =>
    (h.word i).1 ((roundN_inj a a _ _ ha ha (word_lt _ _) (word_lt _ _) e).1 rfl) hi
  have keep : ∀ a i, ¬ (i ≤ k ∧ k < i + 4) → roundN a (PostSums.word l i) = roundN a (PostSums.word m i) := fun a i hi => by rw [(h.word i).2 hi]
  by_cases h0 : k < 4
  · exact .a _ _ (tell _ 0 v1 (by omega)) (keep _ 4 (by omega)) (keep _ 8 (by omega)) (keep _ 12 (by omega))
  · by_cases h1 : k < 8
    · exact .b _ _ (keep _ 0 (by omega)) (tell _ 4 v2 (by omega)) (keep _ 8 (by omega)) (keep _ 12 (by omega))
    · by_cases h2 : k < 12
      · exact .c _ _ (keep _ 0 (by omega)) (keep _ 4 (by omega)) (tell _ 8 v3 (by omega)) (keep _ 12 (by omega))
      · exact .d _ _ (keep _ 0 (by omega)) (keep _ 4 (by omega)) (keep _ 8 (by omega)) (tell _ 12 v4 (by omega))
theorem lanes_one (n : Nat) : ∀ (v w : Lanes) (l : List UInt8), l.length ≤ n → v.ok → w.ok → One v w → One (lanes v l).1 (lanes w l).1 ∧ (lanes v l).2 = (lanes w l).2 ∧ (lanes v l).1.ok ∧ (lanes w l).1.ok := by
  induction n using Nat.strongRecOn with
  | ind n ih =>
    intro v w l hn hv hw h
    by_cases hl : 16 ≤ l.length
    · rw [lanes_long v l hl, lanes_long w l hl]
      exact ih (n - 16) (by omega) _ _ _ (by simp; omega) (block_ok _ _) (block_ok _ _) (h.block hv hw l)
    · rw [lanes_short v l (by omega), lanes_short w l (by omega)]
      exact ⟨h, rfl, hv, hw⟩
theorem lanes_unlike (n : Nat) : ∀ (v : Lanes) (l m : List UInt8) (k : Nat), l.length ≤ n → v.ok → Unlike l m k →
    (lanes v l).1.ok ∧ (lanes v m).1.ok ∧ ((16 ≤ l.length ∧ One (lanes v l).1 (lanes v m).1 ∧ (lanes v l).2 = (lanes v m).2) ∨ ((lanes v l).1 = (lanes v m).1 ∧ ∃ k, Unlike (lanes v l).2 (lanes v m).2 k)) := by
  induction n using Nat.strongRecOn with
  | ind n ih =>
    intro v l m k hn hv h
    have hlen := h.len
    by_cases hl : 16 ≤ l.length
    · rw [lanes_long v l hl, lanes_long v m (by omega)]
      by_cases hk : k < 16
      · have h1 := h.block hk v hv
        rw [h.same hk]
        obtain ⟨g1, g2, g3, g4⟩ := lanes_one n _ _ (m.drop 16) (by simp; omega) (block_ok v l) (block_ok v m) h1
        exact ⟨g3, g4, .inl ⟨hl, g1, g2⟩⟩
      · have hb : v.block l = v.block m := by
          unfold Lanes.block
          rw [(h.word 0).2 (by omega), (h.word 4).2 (by omega), (h.word 8).2 (by omega), (h.word 12).2 (by omega)]
        rw [hb]
        obtain ⟨g1, g2, g3⟩ := ih (n - 16) (by omega) (v.block m) _ _ _ (by simp; omega) (block_ok v m) (h.drop (by omega : 16 ≤ k))
        refine ⟨g1, g2, ?_⟩
        rcases g3 with ⟨_, g3⟩ | g3
        · exact .inl ⟨hl, g3⟩
        · exact .inr g3
    · rw [lanes_short v l (by omega), lanes_short v m (by omega)]
      exact ⟨hv, hv, .inr ⟨rfl, k, h⟩⟩

theorem sumTail_long (x : Nat) (l : List UInt8) (h : 4 ≤ l.length) : sumTail x l = sumTail (tail4 x (word l 0)) (l.drop 4) := by
  match l, h with
  | a :: b :: c :: d :: r, _ => rfl
theorem sumTail_short (x : Nat) (l : List UInt8) (h : l.length < 4) : sumTail x l = l.foldl (fun x b => tail1 x b.toNat) x := by
  match l, h with
  | [], _ => rfl
  | [_], _ => rfl
  | [_, _], _ => rfl
  | [_, _, _], _ => rfl
  | _ :: _ :: _ :: _ :: r, h => simp at h; omega
def ones (x : Nat) (l : List UInt8) : Nat := l.foldl (fun x b => tail1 x b.toNat) x
theorem ones_cons (x : Nat) (b : UInt8) (l : List UInt8) : ones x (b :: l) = ones (tail1 x b.toNat) l := rfl
theorem byte_lt (b : UInt8) : b.toNat < 4294967296 := by have := b.toNat_lt; omega
theorem ones_lt (l : List UInt8) : ∀ x, x < 4294967296 → ones x l < 4294967296 := by
  induction l with
  | nil => intro x h; exact h
  | cons b l ih => intro x _; exact ih _ (tail1_lt _ _)
theorem ones_inj (l : List UInt8) : ∀ x y, x < 4294967296 → y < 4294967296 → ones x l = ones y l → x = y := by
  induction l with
  | nil => intro x y _ _ h; exact h
  | cons b l ih =>
    intro x y hx hy h
    rw [ones_cons, ones_cons] at h
    exact (tail1_inj _ _ _ _ hx hy (byte_lt b) (byte_lt b) (ih _ _ (tail1_lt _ _) (tail1_lt _ _) h)).2 rfl
theorem ones_unlike (l : List UInt8) : ∀ (m : List UInt8) (k x : Nat), x < 4294967296 → Unlike l m k → ones x l ≠ ones x m := by
  induction l with
  | nil => intro m k x _ h; have := h.lt; simp at this
  | cons a l ih =>
    intro m k x hx h
    cases m with
    | nil => have := h.len; simp at this
    | cons b m =>
      rw [ones_cons, ones_cons]
      by_cases hk : k = 0
      · subst hk
        have hs : l = m := by simpa using h.same (n := 1) (by omega)
        subst hs
        intro e
        have := (tail1_inj _ _ _ _ hx hx (byte_lt a) (byte_lt b) (ones_inj l _ _ (tail1_lt _ _) (tail1_lt _ _) e)).1 rfl
        exact h.at_ (by simpa [at8] using this)
      · have h0 := h.else_ 0 (by omega)
        have : a.toNat = b.toNat := by simpa [at8] using h0
        rw [this]
        exact ih m (k - 1) _ (tail1_lt _ _) (by simpa using h.drop (n := 1) (by omega))
theorem sumTail_lt (n : Nat) : ∀ (l : List UInt8) (x : Nat), l.length ≤ n → x < 4294967296 → sumTail x l < 4294967296 := by
  induction n using Nat.strongRecOn with
  | ind n ih =>
    intro l x hn hx
    by_cases hl : 4 ≤ l.length
    · rw [sumTail_long x l hl]; exact ih (n - 4) (by omega) _ _ (by simp; omega) (tail4_lt _ _)
    · rw [sumTail_short x l (by omega)]; exact ones_lt l x hx
theorem sumTail_inj (n : Nat) : ∀ (l : List UInt8) (x y : Nat), l.length ≤ n → x < 4294967296 → y < 4294967296 → sumTail x l = sumTail y l → x = y := by
  induction n using Nat.strongRecOn with
  | ind n ih =>
    intro l x y hn hx hy h
    by_cases hl : 4 ≤ l.length
    · rw [sumTail_long x l hl, sumTail_long y l hl] at h
      have := ih (n - 4) (by omega) _ _ _ (by simp; omega) (tail4_lt _ _) (tail4_lt _ _) h
      exact (tail4_inj _ _ _ _ hx hy (word_lt _ _) (word_lt _ _) this).2 rfl
    · rw [sumTail_short x l (by omega), sumTail_short y l (by omega)] at h
      exact ones_inj l x y hx hy h
theorem sumTail_unlike (n : Nat) : ∀ (l m : List UInt8) (k x : Nat), l.length ≤ n → x < 4294967296 → Unlike l m k → sumTail x l ≠ sumTail x m := by
  induction n using Nat.strongRecOn with
  | ind n ih =>
    intro l m k x hn hx h
    have hlen := h.len
    by_cases hl : 4 ≤ l.length
    · rw [sumTail_long x l hl, sumTail_long x m (by omega)]
      by_cases hk : k < 4
      · rw [h.same hk]
        intro e
        have := sumTail_inj n _ _ _ (by simp; omega) (tail4_lt _ _) (tail4_lt _ _) e
        exact (h.word 0).1 ((tail4_inj _ _ _ _ hx hx (word_lt _ _) (word_lt _ _) this).1 rfl) (by omega)
      · rw [(h.word 0).2 (by omega)]
        exact ih (n - 4) (by omega) _ _ _ _ (by simp; omega) (tail4_lt _ _) (h.drop (by omega : 4 ≤ k))
    · rw [sumTail_short x l (by omega), sumTail_short x m (by omega)]
      exact ones_unlike l m k x hx h
/-- ONE BYTE THAT IS ANOTHER ONE IS TOLD. -/
theorem hashN_unlike (seed : Nat) (l m : List UInt8) (k : Nat) (h : Unlike l m k) : hashN seed l ≠ hashN seed m := by
  intro e
  have hlen := h.len
  obtain ⟨g1, g2, g3⟩ := lanes_unlike l.length (.of seed) l m k (Nat.le_refl _) (of_ok _) h
  unfold hashN tellN at e
  rcases g3 with ⟨h16, hone, hrest⟩ | ⟨hv, k', hrest⟩
  · rw [if_pos h16, if_pos (by omega), hrest, ← hlen] at e
    have e1 := finN_inj _ _ (sumTail_lt _ _ _ (Nat.le_refl _) (m32 _)) (sumTail_lt _ _ _ (Nat.le_refl _) (m32 _)) e
    have e2 := sumTail_inj _ _ _ _ (Nat.le_refl _) (m32 _) (m32 _) e1
    have s1 : (lanes (.of seed) l).1.sum < 4294967296 := m32 _
    have s2 : (lanes (.of seed) m).1.sum < 4294967296 := m32 _
    exact hone.sum g1 g2 (add_inj _ _ _ s1 s2 e2)
  · rw [hv, ← hlen] at e
    have e1 := finN_inj _ _ (sumTail_lt _ _ _ (Nat.le_refl _) (m32 _)) (sumTail_lt _ _ _ (Nat.le_refl _) (m32 _)) e
    exact sumTail_unlike _ _ _ _ _ (Nat.le_refl _) (m32 _) hrest e1
theorem hash_check : hashN 0 [] = 46947589 := by decide +kernel
end Go.PostSums
