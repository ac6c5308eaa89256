/-
Plain facts on the register (no program in sight): of three texts of one length, and of all three xored, the sums are nought together, xored. No condition.
-/
import Derived.Test.YtljncbbajhoocaaCrcMath
namespace Go.Proofs.Ytljncbbajhoocaa.CrcMath
open Go Go.RowKit

theorem high_xor (a b : UInt8) : high (a ^^^ b) = high a ^^^ high b := by
  have ha := a.toNat_lt
  have hb := b.toNat_lt
  unfold high
  rw [xor_high _ _ (by omega) (by omega), UInt8.toNat_xor]
theorem onB_xor3 (x y z : BitVec 32) (a b c : UInt8) : onB (x ^^^ y ^^^ z) (a ^^^ b ^^^ c) = onB x a ^^^ onB y b ^^^ onB z c := by
  unfold onB
  rw [high_xor, high_xor, show x ^^^ y ^^^ z ^^^ (high a ^^^ high b ^^^ high c) = (x ^^^ high a) ^^^ (y ^^^ high b) ^^^ (z ^^^ high c) by ac_rfl, steps_xor, steps_xor]
theorem reg_xor3 (l : List (UInt8 × UInt8 × UInt8)) : ∀ x y z : BitVec 32, regB (x ^^^ y ^^^ z) (l.map fun p => p.1 ^^^ p.2.1 ^^^ p.2.2) = regB x (l.map fun p => p.1) ^^^ regB y (l.map fun p => p.2.1) ^^^ regB z (l.map fun p => p.2.2) := by
  induction l with
  | nil => intro x y z; rfl
  | cons p l ih =>
    intro x y z
    unfold regB at *
    simp only [List.map_cons, List.foldl_cons]
    rw [onB_xor3]
    exact ih _ _ _
theorem not_xor3 (x y z : BitVec 32) : ~~~x ^^^ ~~~y ^^^ ~~~z = ~~~(x ^^^ y ^^^ z) := by
  apply BitVec.eq_of_getLsbD_eq
  intro i hi
  simp only [BitVec.getLsbD_xor, BitVec.getLsbD_not, hi, decide_true, Bool.true_and]
  cases x.getLsbD i <;> cases y.getLsbD i <;> cases z.getLsbD i <;> rfl
theorem sum_xor3 (l : List (UInt8 × UInt8 × UInt8)) : sumB (l.map fun p => p.1) ^^^ sumB (l.map fun p => p.2.1) ^^^ sumB (l.map fun p => p.2.2) = sumB (l.map fun p => p.1 ^^^ p.2.1 ^^^ p.2.2) := by
  unfold sumB
  rw [not_xor3, ← reg_xor3, show BitVec.allOnes 32 ^^^ BitVec.allOnes 32 ^^^ BitVec.allOnes 32 = BitVec.allOnes 32 by decide]
/-- As the walk says it. -/
theorem sum_xor3_iv (l : List (UInt8 × UInt8 × UInt8)) : Go.bits .xor .u32 (Go.bits .xor .u32 (iv (sumB (l.map fun p => p.1))) (iv (sumB (l.map fun p => p.2.1)))) (iv (sumB (l.map fun p => p.2.2))) = iv (sumB (l.map fun p => p.1 ^^^ p.2.1 ^^^ p.2.2)) := by
  rw [xor_iv, xor_iv, sum_xor3]
end Go.Proofs.Ytljncbbajhoocaa.CrcMath
