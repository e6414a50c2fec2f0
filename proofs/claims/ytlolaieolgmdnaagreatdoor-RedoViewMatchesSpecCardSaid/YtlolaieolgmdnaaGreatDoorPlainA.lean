/-
  Numbers alone, no program: how many bits of a number are 1, and that the known trick with masks counts them.
-/
namespace Go.Proofs.YtlolaieolgmdnaaGreatDoor

/-- The exclusive or of p i over the i below n at which f is true. -/
def xs (f : Nat → Bool) (p : Nat → Nat) : Nat → Nat
  | 0 => 0
  | n + 1 => xs f p n ^^^ (if f n then p n else 0)

/-- How many i below n there are at which f is true. -/
def cn (f : Nat → Bool) : Nat → Nat
  | 0 => 0
  | n + 1 => cn f n + (if f n then 1 else 0)

theorem cn_succ (f : Nat → Bool) (n : Nat) : cn f (n + 1) = cn f n + (if f n then 1 else 0) := rfl
theorem xs_succ (f : Nat → Bool) (p : Nat → Nat) (n : Nat) : xs f p (n + 1) = xs f p n ^^^ (if f n then p n else 0) := rfl

theorem cn_le (f : Nat → Bool) (n : Nat) : cn f n ≤ n := by
  induction n with
  | zero => exact Nat.le_refl _
  | succ n ih => rw [cn_succ]; split <;> omega

theorem cn_congr (f g : Nat → Bool) (n : Nat) (h : ∀ i, i < n → f i = g i) : cn f n = cn g n := by
  induction n with
  | zero => rfl
  | succ n ih => rw [cn_succ, cn_succ, ih (fun i hi => h i (by omega)), h n (by omega)]

theorem xs_congr (f g : Nat → Bool) (p : Nat → Nat) (n : Nat) (h : ∀ i, i < n → f i = g i) : xs f p n = xs g p n := by
  induction n with
  | zero => rfl
  | succ n ih => rw [xs_succ, xs_succ, ih (fun i hi => h i (by omega)), h n (by omega)]

theorem cn_add (f : Nat → Bool) (m n : Nat) : cn f (m + n) = cn f m + cn (fun i => f (m + i)) n := by
  induction n with
  | zero => rfl
  | succ n ih => rw [← Nat.add_assoc, cn_succ, cn_succ, ih]; omega

/-- How many of the bits of x below n are 1. -/
def pop (n x : Nat) : Nat := cn (fun i => x.testBit i) n

theorem pop_zero (n : Nat) : pop n 0 = 0 := by
  unfold pop
  induction n with
  | zero => rfl
  | succ n ih => rw [cn_succ, ih]; simp

theorem pop_byte (n a b : Nat) (ha : a < 256) : pop (8 + n) (a + 256 * b) = pop 8 a + pop n b := by
  unfold pop
  rw [cn_add]
  have e : a + 256 * b = 2 ^ 8 * b + a := by omega
  congr 1
  · exact cn_congr _ _ _ fun i hi => by rw [e, Nat.testBit_two_pow_mul_add _ (by omega)]; simp [hi]
  · exact cn_congr _ _ _ fun i hi => by rw [e, Nat.testBit_two_pow_mul_add _ (by omega), if_neg (by omega)]; congr 1; omega

theorem and_byte (a b c d : Nat) (ha : a < 256) (hc : c < 256) : (a + 256 * b) &&& (c + 256 * d) = (a &&& c) + 256 * (b &&& d) := by
  have hac : a &&& c < 2 ^ 8 := Nat.and_lt_two_pow _ (by omega)
  apply Nat.eq_of_testBit_eq
  intro i
  rw [show a + 256 * b = 2 ^ 8 * b + a from by omega, show c + 256 * d = 2 ^ 8 * d + c from by omega, show (a &&& c) + 256 * (b &&& d) = 2 ^ 8 * (b &&& d) + (a &&& c) from by omega]
  rw [Nat.testBit_and, Nat.testBit_two_pow_mul_add _ (by omega), Nat.testBit_two_pow_mul_add _ (by omega), Nat.testBit_two_pow_mul_add _ hac]
  split <;> simp [Nat.testBit_and]

/-- A mask of n bytes, each m. -/
def rep (m : Nat) : Nat → Nat
  | 0 => 0
  | n + 1 => m + 256 * rep m n

theorem rep_succ (m n : Nat) : rep m (n + 1) = m + 256 * rep m n := rfl
def S1 (n x : Nat) : Nat := (x / 2 &&& rep 85 n) + (x &&& rep 85 n)
def S2 (n x : Nat) : Nat := (x / 4 &&& rep 51 n) + (x &&& rep 51 n)
def S3 (n x : Nat) : Nat := (x / 16 + x) &&& rep 15 n

theorem byte1 : ∀ a : Fin 256, (a.val / 2 &&& 85) = ((a.val / 2 + 128) &&& 85) ∧ (a.val / 2 &&& 85) + (a.val &&& 85) < 256 := by decide +kernel
theorem byte2 : ∀ a : Fin 256, (a.val / 4 &&& 51) = ((a.val / 4 + 64) &&& 51) ∧ (a.val / 4 &&& 51) = ((a.val / 4 + 128) &&& 51) ∧ (a.val / 4 &&& 51) = ((a.val / 4 + 192) &&& 51) ∧ (a.val / 4 &&& 51) + (a.val &&& 51) < 256 := by decide +kernel
def s12 (a : Nat) : Nat := let b := (a / 2 &&& 85) + (a &&& 85); (b / 4 &&& 51) + (b &&& 51)
theorem byte3 : ∀ a : Fin 256, s12 a.val % 16 ≤ 4 ∧ s12 a.val / 16 ≤ 4 ∧ s12 a.val / 16 + s12 a.val % 16 = pop 8 a.val := by decide +kernel
theorem low15 : ∀ a : Fin 256, (a.val &&& 15) = a.val % 16 := by decide +kernel
theorem pop8_le (a : Nat) : pop 8 a ≤ 8 := cn_le _ _

theorem S1_byte (n a b : Nat) (ha : a < 256) : S1 (n + 1) (a + 256 * b) = ((a / 2 &&& 85) + (a &&& 85)) + 256 * S1 n b := by
  unfold S1
  rw [rep_succ]
  have h1 := (byte1 ⟨a, ha⟩).1
  have e : (a + 256 * b) / 2 = (a / 2 + 128 * (b % 2)) + 256 * (b / 2) := by omega
  rw [e, and_byte _ _ _ _ (by omega) (by omega), and_byte _ _ _ _ ha (by omega)]
  have h3 : (a / 2 + 128 * (b % 2)) &&& 85 = a / 2 &&& 85 := by
    rcases (by omega : b % 2 = 0 ∨ b % 2 = 1) with h | h
    · rw [h]; rfl
    · rw [h]; exact h1.symm
  rw [h3]; omega

theorem S2_byte (n a b : Nat) (ha : a < 256) : S2 (n + 1) (a + 256 * b) = ((a / 4 &&& 51) + (a &&& 51)) + 256 * S2 n b := by
  unfold S2
  rw [rep_succ]
  obtain ⟨h1, h2, h3, _⟩ := byte2 ⟨a, ha⟩
  have e : (a + 256 * b) / 4 = (a / 4 + 64 * (b % 4)) + 256 * (b / 4) := by omega
  rw [e, and_byte _ _ _ _ (by omega) (by omega), and_byte _ _ _ _ ha (by omega)]
  have h3 : (a / 4 + 64 * (b % 4)) &&& 51 = a / 4 &&& 51 := by
    rcases (by omega : b % 4 = 0 ∨ b % 4 = 1 ∨ b % 4 = 2 ∨ b % 4 = 3) with h | h | h | h
    · rw [h]; rfl
    · rw [h]; exact h1.symm
    · rw [h]; exact h2.symm
    · rw [h]; exact h3.symm
  rw [h3]; omega

/-- The bytes' own counts, a byte each. -/
def spread : Nat → Nat → Nat
  | 0, _ => 0
  | n + 1, x => pop 8 (x % 256) + 256 * spread n (x / 256)
theorem spread_succ (n x : Nat) : spread (n + 1) x = pop 8 (x % 256) + 256 * spread n (x / 256) := rfl

theorem S12_mod (n x : Nat) : S2 n (S1 n x) % 16 ≤ 4 := by
  cases n with
  | zero => simp [S2, S1, rep]
  | succ n =>
    have e : x = x % 256 + 256 * (x / 256) := by omega
    have hb := byte3 ⟨x % 256, by omega⟩
    have h1 := (byte1 ⟨x % 256, by omega⟩).2
    simp only at hb h1
    rw [e, S1_byte _ _ _ (by omega), S2_byte _ _ _ h1]
    have : (((x % 256) / 2 &&& 85) + ((x % 256) &&& 85)) / 4 &&& 51 = (((x % 256) / 2 &&& 85) + ((x % 256) &&& 85)) / 4 &&& 51 := rfl
    unfold s12 at hb
    simp only at hb
    omega

theorem S123 (n : Nat) : ∀ x, S3 n (S2 n (S1 n x)) = spread n x := by
  induction n with
  | zero => intro x; simp [S3, rep, spread]
  | succ n ih =>
    intro x
    have e : x = x % 256 + 256 * (x / 256) := by omega
    have hb := byte3 ⟨x % 256, by omega⟩
    have h1 := (byte1 ⟨x % 256, by omega⟩).2
    have h2 := (byte2 ⟨((x % 256) / 2 &&& 85) + ((x % 256) &&& 85), h1⟩).2.2.2
    have h16 := S12_mod n (x / 256)
    simp only at hb h1 h2
    have ih := ih (x / 256)
    unfold s12 at hb
    simp only at hb
    rw [spread_succ, ← ih]
    conv => lhs; rw [e, S1_byte _ _ _ (by omega), S2_byte _ _ _ h1]
    generalize S2 n (S1 n (x / 256)) = y at *
    generalize ((((x % 256) / 2 &&& 85) + ((x % 256) &&& 85)) / 4 &&& 51) + ((((x % 256) / 2 &&& 85) + ((x % 256) &&& 85)) &&& 51) = c at *
    rw [← hb.2.2]
    unfold S3
    rw [rep_succ]
    have e2 : (c + 256 * y) / 16 + (c + 256 * y) = (c / 16 + 16 * (y % 16) + c) + 256 * (y / 16 + y) := by omega
    have hl := low15 ⟨c / 16 + 16 * (y % 16) + c, by omega⟩
    simp only at hl
    rw [e2, and_byte _ _ _ _ (by omega) (by omega), hl]
    omega

/-- A number of five bytes: the last steps. -/
theorem spread5 (x : Nat) (hx : x < 1099511627776) : ∃ c0 c1 c2 c3 c4 : Nat, c0 ≤ 8 ∧ c1 ≤ 8 ∧ c2 ≤ 8 ∧ c3 ≤ 8 ∧ c4 ≤ 8 ∧ spread 8 x = c0 + 256 * (c1 + 256 * (c2 + 256 * (c3 + 256 * c4))) ∧ pop 40 x = c0 + c1 + c2 + c3 + c4 := by
  refine ⟨pop 8 (x % 256), pop 8 (x / 256 % 256), pop 8 (x / 256 / 256 % 256), pop 8 (x / 256 / 256 / 256 % 256), pop 8 (x / 256 / 256 / 256 / 256 % 256), pop8_le _, pop8_le _, pop8_le _, pop8_le _, pop8_le _, ?_, ?_⟩
  · unfold spread spread spread spread spread spread spread spread spread
    have h0 : x / 256 / 256 / 256 / 256 / 256 = 0 := by omega
    rw [h0]
    simp [pop_zero]
  · have e0 : x = x % 256 + 256 * (x / 256) := by omega
    have e1 : x / 256 = x / 256 % 256 + 256 * (x / 256 / 256) := by omega
    have e2 : x / 256 / 256 = x / 256 / 256 % 256 + 256 * (x / 256 / 256 / 256) := by omega
    have e3 : x / 256 / 256 / 256 = x / 256 / 256 / 256 % 256 + 256 * (x / 256 / 256 / 256 / 256) := by omega
    have e4 : x / 256 / 256 / 256 / 256 % 256 = x / 256 / 256 / 256 / 256 := by omega
    rw [show pop 40 x = pop (8 + 32) (x % 256 + 256 * (x / 256)) from by rw [← e0], pop_byte _ _ _ (by omega)]
    rw [show pop 32 (x / 256) = pop (8 + 24) (x / 256 % 256 + 256 * (x / 256 / 256)) from by rw [← e1], pop_byte _ _ _ (by omega)]
    rw [show pop 24 (x / 256 / 256) = pop (8 + 16) (x / 256 / 256 % 256 + 256 * (x / 256 / 256 / 256)) from by rw [← e2], pop_byte _ _ _ (by omega)]
    rw [show pop 16 (x / 256 / 256 / 256) = pop (8 + 8) (x / 256 / 256 / 256 % 256 + 256 * (x / 256 / 256 / 256 / 256)) from by rw [← e3], pop_byte _ _ _ (by omega)]
    rw [e4]; omega

/-- The rest of the trick, on a number of five bytes that are at most 8 each. -/
theorem gather5 (x : Nat) (hx : x < 1099511627776) (y : Nat) (hy : y = spread 8 x) :
    let y4 := y + y / 256
    let y5 := y4 + y4 / 65536
    let y6 := y5 + y5 / 4294967296
    y6 < 9223372036854775808 ∧ y6 % 128 = pop 40 x := by
  obtain ⟨c0, c1, c2, c3, c4, h0, h1, h2, h3, h4, hs, hp⟩ := spread5 x hx
  rw [hp]
  rw [hs] at hy
  subst hy
  have e4 : (c0 + 256 * (c1 + 256 * (c2 + 256 * (c3 + 256 * c4)))) + (c0 + 256 * (c1 + 256 * (c2 + 256 * (c3 + 256 * c4)))) / 256 = (c0 + c1) + 256 * (c1 + c2) + 65536 * ((c2 + c3) + 256 * (c3 + c4) + 65536 * c4) := by omega
  simp only [e4]
  have e5 : (c0 + c1) + 256 * (c1 + c2) + 65536 * ((c2 + c3) + 256 * (c3 + c4) + 65536 * c4) + ((c0 + c1) + 256 * (c1 + c2) + 65536 * ((c2 + c3) + 256 * (c3 + c4) + 65536 * c4)) / 65536 = (c0 + c1 + c2 + c3) + 256 * (c1 + c2 + c3 + c4) + 65536 * (c2 + c3 + c4 + 256 * (c3 + c4)) + 4294967296 * c4 := by omega
  simp only [e5]
  have e6 : ((c0 + c1 + c2 + c3) + 256 * (c1 + c2 + c3 + c4) + 65536 * (c2 + c3 + c4 + 256 * (c3 + c4)) + 4294967296 * c4) / 4294967296 = c4 := by omega
  rw [e6]
  omega

theorem rep85 : rep 85 8 = 6148914691236517205 := by decide
theorem rep51 : rep 51 8 = 3689348814741910323 := by decide
theorem rep15 : rep 15 8 = 1085102592571150095 := by decide

end Go.Proofs.YtlolaieolgmdnaaGreatDoor
