/-
Plain facts on numbers modulo 2^24 (no program in sight): what the mask of 24 bits leaves, of 32 and of 64 bits, and when a sum does not wrap.
-/
import Derived.RowKit
import Derived.IntWalk
import Derived.Laws.BitsAllLaws
namespace Go.Proofs.Ythdcmejgdcmldaa.Math
open Go Go.RowKit

theorem and24_u32 (x : Int) : Go.bits .and .u32 x 16777215 = x % 16777216 := by
  show IntKind.u32.wrap ((BitVec.ofInt 32 x &&& BitVec.ofInt 32 16777215).toNat : Int) = _
  have h : (BitVec.ofInt 32 16777215).toNat = 16777215 := by decide
  rw [BitVec.toNat_and, h, nat_mask24, IntKind.wrap_u32', BitVec.toNat_ofInt]
  omega

theorem and24_i64 (x : Int) : Go.bits .and .i64 x 16777215 = x % 16777216 := by
  show IntKind.i64.wrap ((BitVec.ofInt 64 x &&& BitVec.ofInt 64 16777215).toNat : Int) = _
  have h : (BitVec.ofInt 64 16777215).toNat = 16777215 := by decide
  rw [BitVec.toNat_and, h, nat_mask24, BitVec.toNat_ofInt]
  have e : (((x % ((2 ^ 64 : Nat) : Int)).toNat % 16777216 : Nat) : Int) = x % 16777216 := by omega
  rw [e]
  exact IntWalk.i64_in _ (by omega)

/-- what an answer that is known is handed to (a rewriting step of its own: simp's would leave the kernel to find it by unfolding) -/
theorem bind_eq {α β : Type} {x : Option α} {a : α} (h : x = some a) (f : α → Option β) : x.bind f = f a := by rw [h]; rfl

theorem wrap_in {x : Int} (h0 : -9223372036854775808 ≤ x) (h1 : x < 9223372036854775808) : wrap64 x = x := by
  unfold wrap64; omega

theorem tmod_neg {x : Int} (h : x.tmod 16777216 < 0) : x.tmod 16777216 + 16777216 = x % 16777216 := by
  have h1 := Int.tmod_eq_emod (a := x) (b := 16777216)
  split at h1 <;> omega
theorem tmod_pos {x : Int} (h : ¬ x.tmod 16777216 < 0) : x.tmod 16777216 = x % 16777216 := by
  have h1 := Int.tmod_eq_emod (a := x) (b := 16777216)
  split at h1 <;> omega
theorem tmod_lo (x : Int) : -16777216 < x.tmod 16777216 := by
  have h1 := Int.tmod_eq_emod (a := x) (b := 16777216)
  split at h1 <;> omega

end Go.Proofs.Ythdcmejgdcmldaa.Math
