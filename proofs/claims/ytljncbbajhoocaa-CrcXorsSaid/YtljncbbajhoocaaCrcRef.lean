/-
The reference of package crc, and Cut, by contract: a byte moves the register on as onB says, a text's sum is sumB, its four bytes are fourB. No condition but the text's length.
-/
import Derived.Test.YtljncbbajhoocaaCrcAwake
namespace Go.Proofs.Ytljncbbajhoocaa.Crc
open Go.RowKit Go.Proofs.Ytljncbbajhoocaa.CrcMath Go.Proofs.YtljncbbajhoocaaW.PrintWords Go.Proofs.Ytljncbbajhoocaa.PCrcSums

theorem steps_step (n : Nat) (x : BitVec 32) : steps n (CrcMath.step x) = steps (n + 1) x := (steps_add n 1 x).symm
theorem wrap_in {x : Int} (h0 : -9223372036854775808 ≤ x) (h1 : x < 9223372036854775808) : wrap64 x = x := by
  unfold wrap64; omega
theorem bind_eq {α β : Type} {x : Option α} {a : α} (h : x = some a) (f : α → Option β) : x.bind f = f a := by rw [h]; rfl
theorem on_l0 (d : Nat) : ∀ (k : Nat) (x : BitVec 32) (i : Int), 0 ≤ i → 8 - i = d → d < k → polliwogref02_On.l0 k (iv x) i = some (iv (steps d x)) := by
  induction d with
  | zero =>
    intro k x i h0 hd hk
    obtain ⟨k, rfl⟩ : ∃ m, k = m + 1 := ⟨k - 1, by omega⟩
    simp only [polliwogref02_On.l0]; rw [if_neg (by omega)]; rfl
  | succ d ih =>
    intro k x i h0 hd hk
    obtain ⟨k, rfl⟩ : ∃ m, k = m + 1 := ⟨k - 1, by omega⟩
    simp only [polliwogref02_On.l0]
    rw [if_pos (by omega), wrap_in (by omega) (by omega), ← steps_step]
    by_cases h : iv x ≥ 2147483648
    · rw [if_pos h, step_iv_hi x h]; exact ih k _ _ (by omega) (by omega) (by omega)
    · rw [if_neg h, step_iv_lo x h]; exact ih k _ _ (by omega) (by omega) (by omega)
theorem high_iv (b : UInt8) : ((((b.toNat : Int)) % 4294967296) * 16777216) % 4294967296 = iv (high b) := by
  have := b.toNat_lt
  unfold high; rw [iv_of _ (by omega)]; omega
theorem on_f (k : Nat) (x : BitVec 32) (b : UInt8) (hk : 8 < k) : polliwogref02_On.f k (iv x) (b.toNat : Int) = some (iv (onB x b)) := by
  unfold polliwogref02_On.f
  rw [high_iv, xor_iv]
  exact on_l0 8 k _ 0 (by omega) (by omega) hk
theorem on_calls (x : BitVec 32) (b : UInt8) (w : World) : Calls Try.prog 31 #[.int .u32 (iv x), .int .u8 (b.toNat : Int)] w fun e w' => e = .returned (.int .u32 (iv (onB x b))) ∧ ∃ n, w' = w.drewN n :=
  (polliwogref02_On.calls 9 (iv x) b.toNat _ w (on_f 9 x b (by omega))).mono fun _ _ h => ⟨h.1, h.2.out⟩
theorem not_sub (x : BitVec 32) : (4294967295 - iv x) % 4294967296 = iv (~~~ x) := by
  have := x.isLt
  unfold iv; rw [BitVec.toNat_not]; omega
theorem refsum_l0 (s : ByteArray) (hs : s.size ≤ 140737488355328) (d : Nat) : ∀ (k : Nat) (i : Nat), i ≤ s.size → s.size - i = d → d + 9 < k →
    polliwogref02_Sum.l0 k s (iv (regB (BitVec.allOnes 32) ((bytesOf s).take i))) i = some (iv (sumB (bytesOf s))) := by
  induction d with
  | zero =>
    intro k i h0 hd hk
    obtain ⟨k, rfl⟩ : ∃ m, k = m + 1 := ⟨k - 1, by omega⟩
    simp only [polliwogref02_Sum.l0]
    rw [if_neg (by omega), not_sub, List.take_of_length_le (l := bytesOf s) (by rw [bytes_len]; omega)]; rfl
  | succ d ih =>
    intro k i h0 hd hk
    obtain ⟨k, rfl⟩ : ∃ m, k = m + 1 := ⟨k - 1, by omega⟩
    have hi : i < s.size := by omega
    have hb : bt s (i : Int) = (s[i].toNat : Int) := by unfold bt; simp [hi]
    simp only [polliwogref02_Sum.l0]
    rw [if_pos (by omega), if_pos (by omega), hb, bind_eq (on_f k _ _ (by omega)), wrap_in (by omega) (by omega), ← reg_snoc, ← bytes_take s i hi]
    exact ih k (i + 1) (by omega) (by omega) (by omega)
theorem refsum_calls (s : ByteArray) (w : World) (hs : s.size ≤ 140737488355328) : Calls Try.prog 22 #[.string s] w fun e w' => e = .returned (.int .u32 (iv (sumB (bytesOf s)))) ∧ ∃ n, w' = w.drewN n := by
  refine (polliwogref02_Sum.calls (s.size + 10) s _ w ?_).mono fun _ _ h => ⟨h.1, h.2.out⟩
  unfold polliwogref02_Sum.f
  have e : (4294967295 : Int) = iv (regB (BitVec.allOnes 32) ((bytesOf s).take 0)) := by rw [List.take_zero]; decide
  rw [e]
  exact refsum_l0 s hs s.size (s.size + 10) 0 (by omega) (by omega) (by omega)
theorem reffour_calls (x : BitVec 32) (w : World) : Calls Try.prog 24 #[.int .u32 (iv x)] w fun e w' => e = .returned (.string (fourB x)) ∧ Below w.heap.size w w' := by
  refine polliwogref02_Four.calls (iv x) (fourB x) w ?_
  unfold polliwogref02_Four.f fourB
  have h0 := iv_lo x
  have h1 := iv_hi x
  rw [Int.tdiv_eq_ediv_of_nonneg h0, Int.tdiv_eq_ediv_of_nonneg h0, Int.tdiv_eq_ediv_of_nonneg h0, Int.tmod_eq_emod_of_nonneg h0]
  congr 2
  rw [show iv x / 16777216 % 4294967296 = iv x / 16777216 by omega, show iv x / 65536 % 4294967296 = iv x / 65536 by omega, show iv x / 256 % 4294967296 = iv x / 256 by omega,
    show iv x % 256 % 256 = iv x % 256 by omega]
/-- Cut at n bytes. -/
def cutB (s : ByteArray) (n : Nat) : ByteArray := if n < s.size then s.extract 0 n else s
theorem cut_size (s : ByteArray) (n : Nat) : (cutB s n).size ≤ n := by
  unfold cutB; split
  · simp; omega
  · omega
theorem cut_calls (s : ByteArray) (n : Nat) (w : World) : Calls Try.prog 19 #[.string s, .int .i64 (n : Int)] w fun e w' => e = .returned (.string (cutB s n)) ∧ ∃ m, w' = w.drewN m := by
  refine (polliwoglaw02_Cut.calls s n (cutB s n) w ?_).mono fun _ _ h => ⟨h.1, h.2.out⟩
  unfold polliwoglaw02_Cut.f cutB
  by_cases h : n < s.size
  · rw [if_pos (by omega), if_pos (by omega), if_pos (by omega), if_pos h]; simp
  · rw [if_neg (by omega), if_neg h]
end Go.Proofs.Ytljncbbajhoocaa.Crc
