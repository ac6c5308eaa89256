/-
Plain facts (no program in sight): the register's steps lose nothing; what fits is what leaves one fixed register; bits turned within 32 leave another one.
-/
import Derived.Test.YtljncbbajhoocaaTurn
import Derived.Test.YtljncbbajhoocaaCrcText
namespace Go.Proofs.Ytljncbbajhoocaa.Crc
open Go.RowKit Go.Proofs.Ytljncbbajhoocaa.CrcMath Go.Proofs.YtljncbbajhoocaaW.PrintWords

theorem step_inj0 {x : BitVec 32} (h : CrcMath.step x = 0#32) : x = 0#32 := by
  have h0 : (CrcMath.step x).getLsbD 0 = x.msb := by
    unfold CrcMath.step
    cases hm : x.msb <;> simp [poly]
  rw [h] at h0
  have hm : x.msb = false := by rw [← h0]; simp
  have hlt : x.toNat < 2147483648 := by
    rw [BitVec.msb_eq_decide] at hm; simp at hm; omega
  have h1 := step_lo hlt
  rw [h] at h1
  apply BitVec.eq_of_toNat_eq
  simp at h1 ⊢; omega
theorem steps_inj0 (n : Nat) {x : BitVec 32} (h : steps n x = 0#32) : x = 0#32 := by
  induction n with
  | zero => exact h
  | succ n ih => exact ih (step_inj0 h)
theorem xor_zero_eq {x y : BitVec 32} (h : x ^^^ y = 0#32) : x = y := by
  have := congrArg (· ^^^ y) h
  simpa [BitVec.xor_assoc] using this
theorem steps_inj (n : Nat) {x y : BitVec 32} (h : steps n x = steps n y) : x = y := by
  apply xor_zero_eq
  apply steps_inj0 n
  rw [steps_xor, h]; simp

theorem reg_append (x : BitVec 32) (a b : List UInt8) : regB x (a ++ b) = regB (regB x a) b := by simp [regB]
theorem reg_xor (l : List UInt8) : ∀ (x d : BitVec 32), regB (x ^^^ d) l = regB x l ^^^ steps (8 * l.length) d := by
  induction l with
  | nil => intro x d; simp [regB, steps]
  | cons b l ih =>
    intro x d
    show regB (onB (x ^^^ d) b) l = regB (onB x b) l ^^^ _
    have e : onB (x ^^^ d) b = onB x b ^^^ steps 8 d := by
      unfold onB
      rw [show x ^^^ d ^^^ high b = (x ^^^ high b) ^^^ d by ac_rfl, steps_xor]
    rw [e, ih, ← steps_add]
    congr 2

theorem xor_nat (a b i : Nat) (h : b < 2 ^ i) : (a * 2 ^ i) ^^^ b = a * 2 ^ i + b := by
  apply Nat.eq_of_testBit_eq
  intro j
  rw [Nat.testBit_xor, Nat.testBit_mul_two_pow, Nat.mul_comm a, Nat.testBit_two_pow_mul_add _ h]
  by_cases hj : j < i
  · simp [hj, show ¬ i ≤ j by omega]
  · have : b.testBit j = false := Nat.testBit_lt_two_pow (Nat.lt_of_lt_of_le h (Nat.pow_le_pow_right (by omega) (by omega)))
    simp [hj, this, show i ≤ j by omega]

/-- Four bytes as a word. -/
def word (a b c d : UInt8) : BitVec 32 := BitVec.ofNat 32 (a.toNat * 16777216 + b.toNat * 65536 + c.toNat * 256 + d.toNat)
theorem ofNat_xor (m n : Nat) (hm : m < 4294967296) (hn : n < 4294967296) : BitVec.ofNat 32 m ^^^ BitVec.ofNat 32 n = BitVec.ofNat 32 (m ^^^ n) := by
  have h : m ^^^ n < 2 ^ 32 := Nat.xor_lt_two_pow (by omega) (by omega)
  apply BitVec.eq_of_toNat_eq
  rw [BitVec.toNat_xor, BitVec.toNat_ofNat, BitVec.toNat_ofNat, BitVec.toNat_ofNat, Nat.mod_eq_of_lt (by omega), Nat.mod_eq_of_lt (by omega), Nat.mod_eq_of_lt h]
theorem word_eq (a b c d : UInt8) : high a ^^^ BitVec.ofNat 32 (b.toNat * 65536) ^^^ BitVec.ofNat 32 (c.toNat * 256) ^^^ BitVec.ofNat 32 d.toNat = word a b c d := by
  have ha := a.toNat_lt
  have hb := b.toNat_lt
  have hc := c.toNat_lt
  have hd := d.toNat_lt
  have e1 := xor_nat c.toNat d.toNat 8 (by omega)
  have e2 := xor_nat b.toNat (c.toNat * 256 + d.toNat) 16 (by omega)
  have e3 := xor_nat a.toNat (b.toNat * 65536 + (c.toNat * 256 + d.toNat)) 24 (by omega)
  simp only [show (2 : Nat) ^ 8 = 256 by rfl, show (2 : Nat) ^ 16 = 65536 by rfl, show (2 : Nat) ^ 24 = 16777216 by rfl] at e1 e2 e3
  unfold high word
  rw [show ∀ x y z w : BitVec 32, x ^^^ y ^^^ z ^^^ w = x ^^^ (y ^^^ (z ^^^ w)) by intros; ac_rfl]
  rw [ofNat_xor _ _ (by omega) (by omega), e1, ofNat_xor _ _ (by omega) (by omega), e2, ofNat_xor _ _ (by omega) (by omega), e3]
  exact congrArg (BitVec.ofNat 32) (by omega)
theorem steps_of (n m : Nat) (h : m * 2 ^ n < 4294967296) : steps n (BitVec.ofNat 32 m) = BitVec.ofNat 32 (m * 2 ^ n) := by
  have hm : m < 4294967296 := Nat.lt_of_le_of_lt (Nat.le_mul_of_pos_right _ (Nat.two_pow_pos n)) h
  have e : (BitVec.ofNat 32 m).toNat = m := by rw [BitVec.toNat_ofNat]; exact Nat.mod_eq_of_lt hm
  apply BitVec.eq_of_toNat_eq
  rw [steps_lo n _ (by rw [e]; exact h), e, BitVec.toNat_ofNat, Nat.mod_eq_of_lt h]
theorem reg_four (x : BitVec 32) (a b c d : UInt8) : regB x [a, b, c, d] = steps 32 (x ^^^ word a b c d) := by
  have hb := b.toNat_lt
  have hc := c.toNat_lt
  have hd := d.toNat_lt
  have e1 : high b = steps 8 (BitVec.ofNat 32 (b.toNat * 65536)) := by rw [steps_of 8 _ (by omega)]; unfold high; exact congrArg (BitVec.ofNat 32) (by omega)
  have e2 : high c = steps 16 (BitVec.ofNat 32 (c.toNat * 256)) := by rw [steps_of 16 _ (by omega)]; unfold high; exact congrArg (BitVec.ofNat 32) (by omega)
  have e3 : high d = steps 24 (BitVec.ofNat 32 d.toNat) := by rw [steps_of 24 _ (by omega)]; unfold high; exact congrArg (BitVec.ofNat 32) (by omega)
  show onB (onB (onB (onB x a) b) c) d = _
  unfold onB
  rw [e1, ← steps_xor, ← steps_add, e2, show (8 + 8 : Nat) = 16 by rfl, ← steps_xor, ← steps_add, e3, show (8 + 16 : Nat) = 24 by rfl, ← steps_xor, ← steps_add, ← word_eq]
  congr 1; ac_rfl
theorem four_word (y : BitVec 32) : fourB y = ⟨#[UInt8.ofNat (y.toNat / 16777216), UInt8.ofNat (y.toNat / 65536), UInt8.ofNat (y.toNat / 256), UInt8.ofNat y.toNat]⟩ := by
  have hy := y.isLt
  unfold fourB strOfNums iv
  simp only [List.map_cons, List.map_nil]
  have e : ∀ n : Nat, UInt8.ofNat (n % 256) = UInt8.ofNat n := fun n => by
    apply UInt8.toNat_inj.1; simp
  congr 3
  · rw [← e (y.toNat / 16777216)]; congr 1
  · congr 1
    · rw [← e (y.toNat / 65536)]; congr 1
    · congr 1
      · rw [← e (y.toNat / 256)]; congr 1
      · congr 1; rw [← e y.toNat]; congr 1
theorem word_of (y : BitVec 32) : word (UInt8.ofNat (y.toNat / 16777216)) (UInt8.ofNat (y.toNat / 65536)) (UInt8.ofNat (y.toNat / 256)) (UInt8.ofNat y.toNat) = y := by
  have hy := y.isLt
  unfold word
  simp only [UInt8.toNat_ofNat']
  apply BitVec.eq_of_toNat_eq
  rw [BitVec.toNat_ofNat]; omega
theorem of_word {a b c d : UInt8} {y : BitVec 32} (h : word a b c d = y) : a = UInt8.ofNat (y.toNat / 16777216) ∧ b = UInt8.ofNat (y.toNat / 65536) ∧ c = UInt8.ofNat (y.toNat / 256) ∧ d = UInt8.ofNat y.toNat := by
  have ha := a.toNat_lt
  have hb := b.toNat_lt
  have hc := c.toNat_lt
  have hd := d.toNat_lt
  have e : y.toNat = a.toNat * 16777216 + b.toNat * 65536 + c.toNat * 256 + d.toNat := by
    rw [← h]; unfold word; rw [BitVec.toNat_ofNat]; omega
  refine ⟨?_, ?_, ?_, ?_⟩ <;> apply UInt8.toNat_inj.1 <;> rw [UInt8.toNat_ofNat', e] <;> omega

abbrev ones : BitVec 32 := BitVec.allOnes 32
theorem xor_ones {r v : BitVec 32} : r ^^^ v = ones ↔ v = ~~~ r := by
  constructor
  · intro h
    have := congrArg (r ^^^ ·) h
    simp only [← BitVec.xor_assoc, BitVec.xor_self, BitVec.zero_xor] at this
    rw [this, BitVec.xor_allOnes]
  · intro h
    rw [h, ← BitVec.xor_allOnes, ← BitVec.xor_assoc, BitVec.xor_self, BitVec.zero_xor]
theorem tail_four (t : ByteArray) (n : Nat) (h : t.size = n + 4) : ∃ a b c d, bytesOf (t.extract n (n + 4)) = [a, b, c, d] := by
  have hl : (bytesOf (t.extract n (n + 4))).length = 4 := by rw [bytes_len]; simp; omega
  match hm : bytesOf (t.extract n (n + 4)), hl with
  | [a, b, c, d], _ => exact ⟨a, b, c, d, rfl⟩
theorem split_bytes (t : ByteArray) (n : Nat) (h : t.size = n + 4) : bytesOf t = bytesOf (t.extract 0 n) ++ bytesOf (t.extract n (n + 4)) := by
  have hz : t.data.size = t.size := rfl
  unfold bytesOf
  rw [ByteArray.data_extract, ByteArray.data_extract, ← Array.toList_append, Array.extract_append_extract, Nat.min_eq_left (by omega), Nat.max_eq_right (by omega), ← h, ← hz, Array.extract_size]
theorem toList_bytes (t : ByteArray) : t.toList = bytesOf t := Go.ByteArray.toList_eq t
/-- What fits leaves one fixed register. -/
theorem fits_iff (t : ByteArray) (n : Nat) (h : t.size = n + 4) : fitsB t = true ↔ regB ones (bytesOf t) = steps 32 ones := by
  obtain ⟨a, b, c, d, ht⟩ := tail_four t n h
  rw [fits_eq t n h, split_bytes t n h, reg_append, toList_bytes, toList_bytes, ht, reg_four]
  have hs : sumB (bytesOf (t.extract 0 n)) = ~~~ (regB ones (bytesOf (t.extract 0 n))) := rfl
  generalize regB ones (bytesOf (t.extract 0 n)) = r at hs
  rw [hs, beq_iff_eq, four_word]
  constructor
  · intro he
    have he2 : [a, b, c, d] = [UInt8.ofNat ((~~~ r).toNat / 16777216), UInt8.ofNat ((~~~ r).toNat / 65536), UInt8.ofNat ((~~~ r).toNat / 256), UInt8.ofNat (~~~ r).toNat] := he
    injection he2 with h1 h2
    injection h2 with h2 h3
    injection h3 with h3 h4
    injection h4 with h4 _
    rw [h1, h2, h3, h4, word_of, xor_ones.2 rfl]
  · intro he
    obtain ⟨h1, h2, h3, h4⟩ := of_word (xor_ones.1 (steps_inj 32 he))
    show [a, b, c, d] = [_, _, _, _]
    rw [h1, h2, h3, h4]

/-- The bits that are turned behind k rounds, as a word whose highest bit is the first. -/
def burst (s : ByteArray) (at_ mask : Int) : Nat → BitVec 32
  | 0 => 0#32
  | k + 1 => burst s at_ mask k ^^^ (if Hit s at_ mask k then BitVec.ofNat 32 (2 ^ (31 - k)) else 0#32)
theorem burst_succ (s : ByteArray) (at_ mask : Int) (k : Nat) : burst s at_ mask (k + 1) = burst s at_ mask k ^^^ (if Hit s at_ mask k then BitVec.ofNat 32 (2 ^ (31 - k)) else 0#32) := rfl
theorem high_turn (p : Nat) (b : UInt8) : high (turnByte p b) = high b ^^^ BitVec.ofNat 32 (2 ^ (31 - p % 8)) := by
  have hb := b.toNat_lt
  have hr : p % 8 < 8 := Nat.mod_lt _ (by omega)
  unfold high turnByte
  have hq : 128 / 2 ^ (p % 8) < 256 := Nat.lt_of_le_of_lt (Nat.div_le_self _ _) (by omega)
  rw [UInt8.toNat_xor, UInt8.toNat_ofNat', Nat.mod_eq_of_lt hq, ← xor_high _ _ hb hq]
  congr 2
  generalize p % 8 = r at hr
  have : r = 0 ∨ r = 1 ∨ r = 2 ∨ r = 3 ∨ r = 4 ∨ r = 5 ∨ r = 6 ∨ r = 7 := by omega
  rcases this with rfl | rfl | rfl | rfl | rfl | rfl | rfl | rfl <;> rfl
theorem steps_two (n j : Nat) (hj : j ≤ 31) (hn : j ≤ n) : steps n (BitVec.ofNat 32 (2 ^ (31 - j))) = steps (n - j) (BitVec.ofNat 32 2147483648) := by
  have e : 2 ^ (31 - j) * 2 ^ j = 2147483648 := by rw [← Nat.pow_add, show 31 - j + j = 31 by omega]
  have h := steps_of j (2 ^ (31 - j)) (by rw [e]; omega)
  rw [e] at h
  rw [← h, ← steps_add, show n - j + j = n by omega]
theorem reg_set (x : BitVec 32) (l : List UInt8) (p : Nat) (hp : p < 8 * l.length) :
    regB x (l.set (p / 8) (turnByte p (l.getD (p / 8) 0))) = regB x l ^^^ steps (8 * l.length - p) (BitVec.ofNat 32 2147483648) := by
  have hq : p / 8 < l.length := by omega
  obtain ⟨b, hb⟩ : ∃ b, l[p / 8] = b := ⟨_, rfl⟩
  have e1 : l = l.take (p / 8) ++ b :: l.drop (p / 8 + 1) := by
    rw [← hb, ← List.drop_eq_getElem_cons hq, List.take_append_drop]
  have e2 : l.getD (p / 8) 0 = b := by rw [List.getD_eq_getElem?_getD, List.getElem?_eq_getElem hq, hb]; rfl
  have hl1 : (l.take (p / 8)).length = p / 8 := by simp; omega
  have hl2 : (l.drop (p / 8 + 1)).length = l.length - p / 8 - 1 := by simp; omega
  have e3 : l.set (p / 8) (turnByte p b) = l.take (p / 8) ++ turnByte p b :: l.drop (p / 8 + 1) := by
    rw [List.set_eq_take_append_cons_drop, if_pos hq]
  rw [e2, e3]
  conv => rhs; rw [e1]
  rw [reg_append, reg_append]
  have ht : l.take (p / 8) ++ b :: l.drop (p / 8 + 1) = l := e1.symm
  generalize regB x (l.take (p / 8)) = y
  show regB (onB y (turnByte p b)) _ = regB (onB y b) _ ^^^ _
  have e4 : onB y (turnByte p b) = onB y b ^^^ steps 8 (BitVec.ofNat 32 (2 ^ (31 - p % 8))) := by
    unfold onB
    rw [high_turn, ← BitVec.xor_assoc, steps_xor]
  rw [e4, reg_xor, ← steps_add, hl2, steps_two _ (p % 8) (by omega) (by omega), ht]
  congr 2
  omega
theorem reg_turn (s : ByteArray) (at_ mask : Int) (x : BitVec 32) (h0 : 0 ≤ at_) (h1 : at_ < 8 * s.size) (k : Nat) (hk : k ≤ 32) :
    regB x (turnTo s at_ mask k) = regB x (bytesOf s) ^^^ steps (8 * s.size - at_.toNat) (burst s at_ mask k) := by
  induction k with
  | zero => simp [turnTo, burst, steps_zero]
  | succ k ih =>
    have ih := ih (by omega)
    by_cases h : Hit s at_ mask k
    · obtain ⟨p, hp⟩ := Int.eq_ofNat_of_zero_le h.2.1
      have hp2 := h.2.2
      have hl := turnTo_len s at_ mask k
      rw [turnTo_hit h p hp, reg_set x _ p (by rw [hl]; omega), ih, hl]
      rw [burst_succ, if_pos h, steps_xor, steps_two _ k (by omega) (by omega), BitVec.xor_assoc]
      have e9 : 8 * s.size - at_.toNat - k = 8 * s.size - p := by omega
      rw [e9]
    · rw [turnTo_miss h, ih]
      rw [burst_succ, if_neg h, BitVec.xor_zero]
theorem burst_bits (s : ByteArray) (at_ mask : Int) (k : Nat) (hk : k ≤ 32) :
    (∀ i, i < k → (burst s at_ mask k).getLsbD (31 - i) = decide (Hit s at_ mask i)) ∧ (∀ i, k ≤ i → i < 32 → (burst s at_ mask k).getLsbD (31 - i) = false) := by
  induction k with
  | zero => exact ⟨fun i h => by omega, fun i _ _ => by simp [burst]⟩
  | succ k ih =>
    obtain ⟨i1, i2⟩ := ih (by omega)
    have hone : ∀ i, i < 32 → (if Hit s at_ mask k then BitVec.ofNat 32 (2 ^ (31 - k)) else 0#32).getLsbD (31 - i) = (decide (Hit s at_ mask k) && decide (i = k)) := by
      intro i hi
      by_cases h : Hit s at_ mask k
      · rw [if_pos h, BitVec.getLsbD_ofNat, Nat.testBit_two_pow]
        simp only [h, decide_true, Bool.true_and, show 31 - i < 32 by omega]
        rw [decide_eq_decide]; omega
      · rw [if_neg h]; simp [h]
    constructor
    · intro i hi
      show (burst s at_ mask k ^^^ _).getLsbD (31 - i) = _
      rw [BitVec.getLsbD_xor, hone i (by omega)]
      by_cases e : i = k
      · subst e; rw [i2 i (by omega) (by omega)]; simp
      · rw [i1 i (by omega)]; simp [e]
    · intro i hi hi2
      show (burst s at_ mask k ^^^ _).getLsbD (31 - i) = _
      rw [BitVec.getLsbD_xor, hone i (by omega), i2 i (by omega) hi2]; simp; omega
theorem turn_none (s : ByteArray) (at_ mask : Int) (h : burst s at_ mask 32 = 0#32) (k : Nat) (hk : k ≤ 32) : turnTo s at_ mask k = bytesOf s := by
  induction k with
  | zero => rfl
  | succ k ih =>
    have hb := (burst_bits s at_ mask 32 (by omega)).1 k (by omega)
    rw [h] at hb
    have hn : ¬ Hit s at_ mask k := by simpa using hb
    rw [turnTo_miss hn]; exact ih (by omega)
/-- The text with its bits turned. -/
def turned (s : ByteArray) (at_ mask : Int) : ByteArray := ⟨(turnTo s at_ mask 32).toArray⟩
theorem turned_bytes (s : ByteArray) (at_ mask : Int) : bytesOf (turned s at_ mask) = turnTo s at_ mask 32 := rfl
theorem turned_size (s : ByteArray) (at_ mask : Int) : (turned s at_ mask).size = s.size := by
  have := turnTo_len s at_ mask 32
  rw [← turned_bytes, bytes_len] at this; exact this
/-- Any bits turned within 32 are told. -/
theorem burst_told (t : ByteArray) (n : Nat) (hn : t.size = n + 4) (ht : fitsB t = true) (at_ mask : Int) (h0 : 0 ≤ at_) (h1 : at_ < 8 * t.size) :
    fitsB (turned t at_ mask) = ((turned t at_ mask).toList == t.toList) := by
  rw [Bool.eq_iff_iff, fits_iff _ n (by rw [turned_size]; exact hn), beq_iff_eq, toList_bytes, toList_bytes, turned_bytes, reg_turn t at_ mask ones h0 h1 32 (by omega), (fits_iff t n hn).1 ht]
  constructor
  · intro h
    have hz : steps (8 * t.size - at_.toNat) (burst t at_ mask 32) = 0#32 := by
      have := congrArg (steps 32 ones ^^^ ·) h
      simpa [← BitVec.xor_assoc] using this
    exact turn_none t at_ mask (steps_inj0 _ hz) 32 (by omega)
  · intro h
    have hr := reg_turn t at_ mask ones h0 h1 32 (by omega)
    rw [h] at hr
    have hz : steps (8 * t.size - at_.toNat) (burst t at_ mask 32) = 0#32 := by
      have := congrArg (regB ones (bytesOf t) ^^^ ·) hr
      simpa [← BitVec.xor_assoc] using this.symm
    rw [hz]; simp
end Go.Proofs.Ytljncbbajhoocaa.Crc
