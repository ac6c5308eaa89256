/-
Plain facts on the register of 32 bits (no program in sight): one step of it, eight steps, a byte, a text; that the steps are linear, and what the table's way comes to.
-/
import Derived.RowKit
import Derived.IntWalk
import Derived.Laws.BitsAllLaws
namespace Go.Proofs.Ytljncbbajhoocaa.CrcMath
open Go Go.RowKit

def poly : BitVec 32 := 79764919#32
def step (x : BitVec 32) : BitVec 32 := (x <<< 1) ^^^ (if x.msb then poly else 0#32)
def steps : Nat → BitVec 32 → BitVec 32
  | 0, x => x
  | n + 1, x => step (steps n x)
/-- A byte at the register's upper end. -/
def high (b : UInt8) : BitVec 32 := BitVec.ofNat 32 (b.toNat * 16777216)
def onB (x : BitVec 32) (b : UInt8) : BitVec 32 := steps 8 (x ^^^ high b)
def regB (x : BitVec 32) (l : List UInt8) : BitVec 32 := l.foldl onB x
def sumB (l : List UInt8) : BitVec 32 := ~~~ (regB (BitVec.allOnes 32) l)
/-- As a number. -/
def iv (x : BitVec 32) : Int := (x.toNat : Int)
/-- A byte's number at the register's upper end. -/
def row (k : Nat) : BitVec 32 := BitVec.ofNat 32 (k * 16777216)
def tbl (k : Nat) : BitVec 32 := steps 8 (row k)

theorem iv_lo (x : BitVec 32) : 0 ≤ iv x := by unfold iv; omega
theorem iv_hi (x : BitVec 32) : iv x < 4294967296 := by have := x.isLt; unfold iv; omega
theorem iv_inj {x y : BitVec 32} (h : iv x = iv y) : x = y := BitVec.eq_of_toNat_eq (by unfold iv at h; omega)
theorem xor_iv (x y : BitVec 32) : Go.bits .xor .u32 (iv x) (iv y) = iv (x ^^^ y) := by
  unfold iv; rw [u32_xor_nat _ _ x.isLt y.isLt, BitVec.toNat_xor]
theorem iv_of (n : Nat) (h : n < 4294967296) : iv (BitVec.ofNat 32 n) = n := by unfold iv; rw [BitVec.toNat_ofNat]; omega

theorem step_xor (x y : BitVec 32) : step (x ^^^ y) = step x ^^^ step y := by
  unfold step
  rw [BitVec.shiftLeft_xor_distrib, BitVec.msb_xor]
  cases x.msb <;> cases y.msb <;> simp <;> first | ac_rfl | skip
  rw [show x <<< 1 ^^^ poly ^^^ (y <<< 1 ^^^ poly) = (x <<< 1 ^^^ y <<< 1) ^^^ (poly ^^^ poly) by ac_rfl]
  simp
theorem steps_xor (n : Nat) (x y : BitVec 32) : steps n (x ^^^ y) = steps n x ^^^ steps n y := by
  induction n with
  | zero => rfl
  | succ n ih => simp only [steps]; rw [ih, step_xor]
theorem steps_add (m n : Nat) (x : BitVec 32) : steps (m + n) x = steps m (steps n x) := by
  induction m with
  | zero => simp [steps]
  | succ m ih => rw [show m + 1 + n = (m + n) + 1 by omega]; simp only [steps]; rw [ih]
theorem step_zero : step 0#32 = 0#32 := by decide
theorem steps_zero (n : Nat) : steps n 0#32 = 0#32 := by
  induction n with
  | zero => rfl
  | succ n ih => simp only [steps]; rw [ih, step_zero]
theorem msb_lo {x : BitVec 32} (h : x.toNat < 2147483648) : x.msb = false := by
  rw [BitVec.msb_eq_decide]; simp; omega
theorem msb_hi {x : BitVec 32} (h : 2147483648 ≤ x.toNat) : x.msb = true := by
  rw [BitVec.msb_eq_decide]; simp; omega
theorem step_lo {x : BitVec 32} (h : x.toNat < 2147483648) : (step x).toNat = x.toNat * 2 := by
  unfold step; rw [msb_lo h]; simp; omega
theorem steps_lo (n : Nat) (x : BitVec 32) (h : x.toNat * 2 ^ n < 4294967296) : (steps n x).toNat = x.toNat * 2 ^ n := by
  induction n with
  | zero => simp [steps]
  | succ n ih =>
    rw [Nat.pow_succ, ← Nat.mul_assoc] at h
    have h1 := ih (by omega)
    simp only [steps]
    rw [step_lo (by rw [h1]; omega), h1, Nat.pow_succ, Nat.mul_assoc]

/-- One round of the table's inner loop. -/
theorem step_iv (x : BitVec 32) : Go.bits .xor .u32 (iv x * 2 % 4294967296) (79764919 * (iv x / 2147483648)) = iv (step x) := by
  have hx := x.isLt
  have h1 : (iv x * (2 : Int)) % (4294967296 : Int) = iv (x <<< (1 : Nat)) := by unfold iv; rw [BitVec.toNat_shiftLeft, Nat.shiftLeft_eq]; omega
  rw [h1]
  unfold step
  by_cases h : x.toNat < 2147483648
  · have h2 : (79764919 * (iv x / 2147483648) : Int) = iv 0#32 := by unfold iv; simp; omega
    rw [h2, xor_iv, msb_lo h]; rfl
  · have h2 : (79764919 * (iv x / 2147483648) : Int) = iv poly := by
      have : iv poly = 79764919 := by decide
      rw [this]; unfold iv; omega
    rw [h2, xor_iv, msb_hi (by omega)]; rfl
theorem step_iv_hi (x : BitVec 32) (h : iv x ≥ 2147483648) : Go.bits .xor .u32 (iv x * 2 % 4294967296) 79764919 = iv (step x) := by
  rw [← step_iv]
  have hx := iv_hi x
  rw [show iv x / 2147483648 = 1 by omega]; rfl
theorem step_iv_lo (x : BitVec 32) (h : ¬ iv x ≥ 2147483648) : iv x * 2 % 4294967296 = iv (step x) := by
  have hx := iv_lo x
  unfold iv at *
  rw [step_lo (by omega)]; omega

theorem split_hi (x : BitVec 32) : BitVec.ofNat 32 (x.toNat / 16777216 * 16777216) ^^^ BitVec.ofNat 32 (x.toNat % 16777216) = x := by
  have hx := x.isLt
  apply BitVec.eq_of_toNat_eq
  rw [BitVec.toNat_xor, BitVec.toNat_ofNat, BitVec.toNat_ofNat, Nat.mod_eq_of_lt (by omega), Nat.mod_eq_of_lt (by omega)]
  apply Nat.eq_of_testBit_eq
  intro i
  rw [Nat.testBit_xor, show (16777216 : Nat) = 2 ^ 24 by rfl, Nat.testBit_mul_two_pow, Nat.testBit_div_two_pow, Nat.testBit_mod_two_pow]
  by_cases h : 24 ≤ i
  · have e : i - 24 + 24 = i := by omega
    simp [h, e, show ¬ i < 24 by omega]
  · simp [h, show i < 24 by omega]
theorem xor_high (k b : Nat) (hk : k < 256) (hb : b < 256) : BitVec.ofNat 32 (k * 16777216) ^^^ BitVec.ofNat 32 (b * 16777216) = BitVec.ofNat 32 ((k ^^^ b) * 16777216) := by
  have hx : k ^^^ b < 2 ^ 8 := Nat.xor_lt_two_pow (by omega) (by omega)
  apply BitVec.eq_of_toNat_eq
  rw [BitVec.toNat_xor, BitVec.toNat_ofNat, BitVec.toNat_ofNat, BitVec.toNat_ofNat, Nat.mod_eq_of_lt (by omega), Nat.mod_eq_of_lt (by omega), Nat.mod_eq_of_lt (by omega)]
  apply Nat.eq_of_testBit_eq
  intro i
  rw [Nat.testBit_xor, show (16777216 : Nat) = 2 ^ 24 by rfl, Nat.testBit_mul_two_pow, Nat.testBit_mul_two_pow, Nat.testBit_mul_two_pow, Nat.testBit_xor]
  by_cases h : 24 ≤ i <;> simp [h]
/-- The table's way of a byte: the register's lower bits on, and the table's row xored. -/
theorem tbl_on (x : BitVec 32) (b : UInt8) : x <<< 8 ^^^ tbl (x.toNat / 16777216 ^^^ b.toNat) = onB x b := by
  have hx := x.isLt
  have hb := b.toNat_lt
  unfold onB tbl row high
  have e : steps 8 x = steps 8 (BitVec.ofNat 32 (x.toNat / 16777216 * 16777216)) ^^^ x <<< 8 := by
    conv => lhs; rw [← split_hi x]
    rw [steps_xor]
    congr 1
    apply BitVec.eq_of_toNat_eq
    rw [steps_lo 8 _ (by rw [BitVec.toNat_ofNat]; omega), BitVec.toNat_ofNat, BitVec.toNat_shiftLeft, Nat.shiftLeft_eq]
    omega
  rw [steps_xor, e, ← xor_high _ _ (by omega) hb, steps_xor]
  ac_rfl

end Go.Proofs.Ytljncbbajhoocaa.CrcMath
