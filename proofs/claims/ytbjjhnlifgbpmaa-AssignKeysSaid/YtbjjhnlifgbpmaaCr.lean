/- The sum of bytes: by a table, and bit by bit. No program in sight. -/
import Derived.WalkKit
namespace Go.Proofs.Ytbjjhnlifgbpmaa
open Go

def pC : Nat := 2197175160
def stepC (n : Nat) : Nat := (n / 2) ^^^ (if n % 2 = 1 then pC else 0)
def stepN : Nat → Nat → Nat
  | 0, n => n
  | k + 1, n => stepC (stepN k n)
/-- The table's way. -/
def crcT (c x : Nat) : Nat := stepN 8 (c % 256 ^^^ x) ^^^ c / 256
/-- Bit by bit. -/
def refC (r x : Nat) : Nat → Nat × Nat
  | 0 => (r, x)
  | k + 1 => (((refC r x k).1 / 2) ^^^ (if ((refC r x k).1 ^^^ (refC r x k).2) % 2 = 1 then pC else 0), (refC r x k).2 / 2)

theorem xor_div2 (a b : Nat) : (a ^^^ b) / 2 = a / 2 ^^^ b / 2 := by
  apply Nat.eq_of_testBit_eq
  intro i
  rw [Nat.testBit_xor, ← Nat.testBit_succ, ← Nat.testBit_succ, ← Nat.testBit_succ, Nat.testBit_xor]
theorem xor_mod2 (a b : Nat) : (a ^^^ b) % 2 = (a % 2 + b % 2) % 2 := by
  have h := Nat.testBit_xor a b 0
  simp only [Nat.testBit_zero] at h
  rcases Nat.mod_two_eq_zero_or_one a with ha | ha <;> rcases Nat.mod_two_eq_zero_or_one b with hb | hb <;> rcases Nat.mod_two_eq_zero_or_one (a ^^^ b) with hc | hc <;> simp [ha, hb, hc] at h ⊢
theorem step_lin (a b : Nat) : stepC (a ^^^ b) = stepC a ^^^ stepC b := by
  unfold stepC
  rw [xor_div2, xor_mod2]
  rcases Nat.mod_two_eq_zero_or_one a with ha | ha <;> rcases Nat.mod_two_eq_zero_or_one b with hb | hb <;> simp only [ha, hb]
  · simp
  · simp [Nat.xor_assoc]
  · simp; ac_rfl
  · simp
    rw [show a / 2 ^^^ pC ^^^ (b / 2 ^^^ pC) = (a / 2 ^^^ b / 2) ^^^ (pC ^^^ pC) from by ac_rfl, Nat.xor_self, Nat.xor_zero]
theorem stepN_lin (a b : Nat) : ∀ k, stepN k (a ^^^ b) = stepN k a ^^^ stepN k b
  | 0 => rfl
  | k + 1 => by rw [stepN, stepN_lin a b k, step_lin]; rfl
theorem step_even (q : Nat) : stepC (2 * q) = q := by
  unfold stepC
  rw [if_neg (by omega), Nat.xor_zero]
  omega
theorem step8_high (q : Nat) : stepN 8 (256 * q) = q := by
  simp only [stepN]
  rw [show 256 * q = 2 * (128 * q) from by omega, step_even, show 128 * q = 2 * (64 * q) from by omega, step_even, show 64 * q = 2 * (32 * q) from by omega, step_even, show 32 * q = 2 * (16 * q) from by omega, step_even,
    show 16 * q = 2 * (8 * q) from by omega, step_even, show 8 * q = 2 * (4 * q) from by omega, step_even, show 4 * q = 2 * (2 * q) from by omega, step_even, step_even]
theorem refC_x (r x : Nat) : ∀ k, (refC r x k).2 = x / 2 ^ k
  | 0 => by simp [refC]
  | k + 1 => by rw [refC]; simp only; rw [refC_x r x k, Nat.div_div_eq_div_mul, Nat.pow_succ]
theorem refC_step (r x : Nat) : ∀ k, (refC r x k).1 ^^^ (refC r x k).2 = stepN k (r ^^^ x)
  | 0 => rfl
  | k + 1 => by
    have ih := refC_step r x k
    rw [stepN, ← ih, stepC, xor_div2, refC]
    simp only
    ac_rfl
theorem split8 (n : Nat) : n = 256 * (n / 256) ^^^ n % 256 := by
  apply Nat.eq_of_testBit_eq
  intro i
  rw [Nat.testBit_xor, show 256 = 2 ^ 8 from rfl, Nat.testBit_two_pow_mul, Nat.testBit_mod_two_pow, Nat.testBit_div_two_pow]
  by_cases h : 8 ≤ i
  · simp [h, show ¬ i < 8 from by omega, show i - 8 + 8 = i from by omega]
  · simp [h, show i < 8 from by omega]
theorem xor_low {c x : Nat} (hx : x < 256) : (c ^^^ x) / 256 = c / 256 ∧ (c ^^^ x) % 256 = c % 256 ^^^ x := by
  constructor
  · apply Nat.eq_of_testBit_eq
    intro i
    rw [show 256 = 2 ^ 8 from rfl, Nat.testBit_div_two_pow, Nat.testBit_div_two_pow, Nat.testBit_xor, Nat.testBit_lt_two_pow (x := x) (Nat.lt_of_lt_of_le hx (show 2 ^ 8 ≤ 2 ^ (i + 8) from Nat.pow_le_pow_right (by decide) (by omega)))]
    simp
  · apply Nat.eq_of_testBit_eq
    intro i
    rw [show 256 = 2 ^ 8 from rfl, Nat.testBit_mod_two_pow, Nat.testBit_xor, Nat.testBit_xor, Nat.testBit_mod_two_pow]
    by_cases h : i < 8
    · simp [h]
    · have h1 : x.testBit i = false := Nat.testBit_lt_two_pow (Nat.lt_of_lt_of_le hx (show 2 ^ 8 ≤ 2 ^ i from Nat.pow_le_pow_right (by decide) (by omega)))
      simp [h, h1]
/-- Both ways come to one. -/
theorem crc_same (c x : Nat) (hx : x < 256) : (refC c x 8).1 = crcT c x := by
  have h := refC_step c x 8
  rw [refC_x, Nat.div_eq_of_lt (by simpa using hx), Nat.xor_zero] at h
  rw [h, split8 (c ^^^ x), (xor_low hx).1, (xor_low hx).2, stepN_lin, step8_high, crcT, Nat.xor_comm]
theorem stepC_lt {n : Nat} (h : n < 4294967296) : stepC n < 4294967296 := by
  unfold stepC
  have h1 : n / 2 < 2 ^ 32 := by omega
  have h2 : (if n % 2 = 1 then pC else 0) < 2 ^ 32 := by unfold pC; split <;> decide
  exact Nat.xor_lt_two_pow h1 h2
theorem stepN_lt {n : Nat} (h : n < 4294967296) : ∀ k, stepN k n < 4294967296
  | 0 => h
  | k + 1 => stepC_lt (stepN_lt h k)
theorem crcT_lt {c x : Nat} (hc : c < 4294967296) (hx : x < 256) : crcT c x < 4294967296 := by
  have h1 : c % 256 ^^^ x < 2 ^ 8 := Nat.xor_lt_two_pow (by omega) hx
  exact Nat.xor_lt_two_pow (n := 32) (stepN_lt (by omega) 8) (by omega)
theorem refC_lt {r x : Nat} (hr : r < 4294967296) : ∀ k, (refC r x k).1 < 4294967296
  | 0 => hr
  | k + 1 => by
    have ih := refC_lt (x := x) hr k
    rw [refC]
    exact Nat.xor_lt_two_pow (n := 32) (by omega) (by unfold pC; split <;> decide)

/-! The model's words. -/
theorem bits_xor32 {a b : Nat} (ha : a < 4294967296) (hb : b < 4294967296) : bits .xor .u32 (a : Int) (b : Int) = ((a ^^^ b : Nat) : Int) := by
  have h : a ^^^ b < 2 ^ 32 := Nat.xor_lt_two_pow ha hb
  have e1 : BitVec.ofInt 32 (a : Int) = BitVec.ofNat 32 a := by simp
  have e2 : BitVec.ofInt 32 (b : Int) = BitVec.ofNat 32 b := by simp
  show IntKind.u32.wrap ((BitVec.ofInt 32 (a : Int) ^^^ BitVec.ofInt 32 (b : Int)).toNat : Int) = _
  rw [e1, e2, BitVec.toNat_xor, BitVec.toNat_ofNat, BitVec.toNat_ofNat, Nat.mod_eq_of_lt (by simpa using ha), Nat.mod_eq_of_lt (by simpa using hb)]
  simp only [IntKind.wrap, IntKind.signed, IntKind.bits]
  simp
  omega
theorem bits_and1 {a : Nat} (ha : a < 4294967296) : bits .and .u32 (a : Int) 1 = ((a % 2 : Nat) : Int) := by
  have e1 : BitVec.ofInt 32 (a : Int) = BitVec.ofNat 32 a := by simp
  have e2 : BitVec.ofInt 32 (1 : Int) = BitVec.ofNat 32 1 := by decide
  show IntKind.u32.wrap ((BitVec.ofInt 32 (a : Int) &&& BitVec.ofInt 32 (1 : Int)).toNat : Int) = _
  rw [e1, e2, BitVec.toNat_and, BitVec.toNat_ofNat, BitVec.toNat_ofNat, Nat.mod_eq_of_lt (by simpa using ha)]
  rw [show 1 % 2 ^ 32 = 1 from rfl, Nat.and_one_is_mod]
  simp only [IntKind.wrap, IntKind.signed, IntKind.bits]
  simp
  omega
theorem bits_xor8 {a b : Nat} (ha : a < 256) (hb : b < 256) : bits .xor .u8 (a : Int) (b : Int) = ((a ^^^ b : Nat) : Int) := by
  have h : a ^^^ b < 2 ^ 8 := Nat.xor_lt_two_pow ha hb
  have e1 : BitVec.ofInt 8 (a : Int) = BitVec.ofNat 8 a := by simp
  have e2 : BitVec.ofInt 8 (b : Int) = BitVec.ofNat 8 b := by simp
  show IntKind.u8.wrap ((BitVec.ofInt 8 (a : Int) ^^^ BitVec.ofInt 8 (b : Int)).toNat : Int) = _
  rw [e1, e2, BitVec.toNat_xor, BitVec.toNat_ofNat, BitVec.toNat_ofNat, Nat.mod_eq_of_lt (by simpa using ha), Nat.mod_eq_of_lt (by simpa using hb)]
  simp only [IntKind.wrap, IntKind.signed, IntKind.bits]
  simp
  omega
end Go.Proofs.Ytbjjhnlifgbpmaa
