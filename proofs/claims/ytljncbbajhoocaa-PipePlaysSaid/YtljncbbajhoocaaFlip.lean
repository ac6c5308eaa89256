/-
frame.Flip: the call answers the text with the bits of a mask turned, as plain arithmetic on its bytes says (turnTo). Conditions: a text of at most 1000 bytes, a place within a million.
-/
import Derived.Test.YtljncbbajhoocaaTurn
namespace Go.Proofs.Ytljncbbajhoocaa.Crc
open Go.RowKit Go.Proofs.Ytljncbbajhoocaa.CrcMath Go.Proofs.YtljncbbajhoocaaW.PrintWords

theorem and_one_u32 (x : Int) : bits .and .u32 x 1 = 0 ∨ bits .and .u32 x 1 = 1 := by
  have h : bits .and .u32 x 1 = x % 2 := by
    show IntKind.u32.wrap ((BitVec.ofInt 32 x &&& BitVec.ofInt 32 1).toNat : Int) = _
    have h1 : (BitVec.ofInt 32 1).toNat = 1 := by decide
    rw [BitVec.toNat_and, h1, Nat.and_one_is_mod, BitVec.toNat_ofInt]
    have e : (((x % ((2 ^ 32 : Nat) : Int)).toNat % 2 : Nat) : Int) = x % 2 := by omega
    rw [e]
    rw [IntKind.wrap_u32]; omega
  omega
theorem and7 (p : Nat) (hp : p < 9223372036854775808) : bits .and .i64 (p : Int) 7 = ((p % 8 : Nat) : Int) := by
  show IntKind.i64.wrap ((BitVec.ofInt 64 (p : Int) &&& BitVec.ofInt 64 7).toNat : Int) = _
  have h : (BitVec.ofInt 64 7).toNat = 7 := by decide
  rw [BitVec.toNat_and, h, show (7 : Nat) = 2 ^ 3 - 1 from rfl, Nat.and_two_pow_sub_one_eq_mod, BitVec.ofInt_natCast, BitVec.toNat_ofNat, Nat.mod_eq_of_lt (show p < 2 ^ 64 by omega)]
  exact IntWalk.i64_in _ (by omega)
theorem set_same (l : List UInt8) (j : Nat) (h : j < l.length) : l.set j (l[j]) = l := by
  apply List.ext_getElem?
  intro i
  rw [List.getElem?_set]
  split
  · rename_i e; subst e; simp [h]
  · rfl

theorem xor_none (b : UInt8) : bits .xor .u8 (b.toNat : Int) 0 = (b.toNat : Int) := by
  have hb := b.toNat_lt
  have h := u8_xor_nat b.toNat 0 (by omega) (by omega)
  simpa using h
theorem xor_pow (p r : Nat) (b : UInt8) (hr : r = p % 8) : bits .xor .u8 (b.toNat : Int) (2 ^ (7 - r) % 256) = ((turnByte p b).toNat : Int) := by
  rw [← turnByte_iv p b]
  congr 1
  have h8 : r < 8 := by omega
  rw [← hr]
  match r, h8 with
  | 0, _ => rfl
  | 1, _ => rfl
  | 2, _ => rfl
  | 3, _ => rfl
  | 4, _ => rfl
  | 5, _ => rfl
  | 6, _ => rfl
  | 7, _ => rfl
set_option maxHeartbeats 4000000 in
set_option maxRecDepth 100000 in
theorem flip_calls (s : ByteArray) (at_ mask : Int) (w : World) (hs : s.size ≤ 1000) (ha : -1000000 ≤ at_) (ha1 : at_ ≤ 1000000) : Calls Try.prog 63 #[.string s, .int .i64 at_, .int .u32 mask] w fun e w' => e = .returned (.string ⟨(turnTo s at_ mask 32).toArray⟩) ∧ Below w.heap.size w w' := by
  obtain ⟨cap, w1, hrun, hB, hb⟩ := conv_bytes w s
  have HB := Lib.hid hB
  have HBW := Lib.hid hb
  clear hB hb
  go_enter Try.func63, Try.ntmps63
  go_wp2
  clear hrun
  obtain ⟨g, hg⟩ : ∃ g, g = w.heap.size := ⟨_, rfl⟩
  rw [← hg]
  have HGG := Lib.hid hg
  clear hg
  go_loopw [9, 10, 16] (fun _ _ i wr => ∃ (k : Nat), k ≤ 32 ∧ i = .int .i64 k ∧ Hid (BytesAt wr g (turnTo s at_ mask k)) ∧ Hid (Below w.heap.size w wr)) (fun _ _ i _ => 32 - (intOf i).toNat)
  case atStart => exact ⟨0, by omega, rfl, by rw [HGG.out]; exact HB, HBW⟩
  case round =>
    obtain ⟨k, hk, rfl, HB2, HBW2⟩ := hrel
    have hlen := turnTo_len s at_ mask k
    have HLEN := Lib.hid hlen
    clear hlen
    by_cases hlt : k < 32
    · by_cases h2 : 0 ≤ at_ + k
      · by_cases h3 : at_ + k < 8 * s.size
        · obtain ⟨p, hp⟩ := Int.eq_ofNat_of_zero_le h2
          have hj : p / 8 < (turnTo s at_ mask k).length := by rw [HLEN.out]; omega
          obtain ⟨b, hb⟩ : ∃ b, b = (turnTo s at_ mask k).getD (p / 8) 0 := ⟨_, rfl⟩
          have hcell := HB2.out.cell (p / 8) hj
          have hfree := HB2.out.free (p / 8) hj
          have hbe : (turnTo s at_ mask k)[p / 8] = b := by rw [hb, List.getD_eq_getElem?_getD, List.getElem?_eq_getElem hj]; rfl
          rw [hbe] at hcell
          have hps : p / 8 < s.size := by omega
          have hg2 : w.heap.size ≤ g := by have := HGG.out; omega
          have hp8 : (p : Int) < 8 * s.size := by omega
          have h4 : at_ < 8 * s.size - k := by omega
          have h5 : -(k : Int) ≤ at_ := by omega
          obtain ⟨r, hr⟩ : ∃ r, r = p % 8 := ⟨_, rfl⟩
          have hr8 : r < 8 := by omega
          have HR := Lib.hid hr
          have HB8 := Lib.hid hb
          have HBE : Hid (∀ h : p / 8 < (turnTo s at_ mask k).length, (turnTo s at_ mask k)[p / 8]'h = b) := fun _ => hbe
          have HJ := Lib.hid hj
          have HP := Lib.hid hp
          have H2 := Lib.hid h2
          have H3 := Lib.hid h3
          have HGG2 := Lib.hid hg2
          have hand : bits .and .i64 (p : Int) 7 = (r : Int) := by rw [and7 p (by omega), hr]
          clear h2 h3 hr hb hbe hj
          rcases and_one_u32 (mask / 2 ^ (31 - k)) with hm | hm
          · have HEND : Hid (BytesAt wr.drew g (turnTo s at_ mask (k + 1))) := by
              unfold Hid
              rw [turnTo_miss (fun h => by have := h.1; omega)]
              exact HB2.out.drew
            have HM := Lib.hid hm
            go_wp2
            go_region
            go_wp2
            go_roundw
            case rel =>
              refine ⟨k + 1, by omega, by go_num, ?_, (HBW2.out.setCell HGG2.out _).drew⟩
              unfold Hid
              rw [turnTo_miss (fun h => by have := h.1; have := HM.out; omega), xor_none]
              have h := HB2.out.set (p / 8) b HJ.out
              rw [← HBE.out HJ.out, set_same _ _ HJ.out, HBE.out HJ.out] at h
              exact h.drew
            case measure => simp [intOf]; omega
          · have HM := Lib.hid hm
            go_wp2
            go_region
            go_wp2
            go_roundw
            case rel =>
              refine ⟨k + 1, by omega, by go_num, ?_, (HBW2.out.setCell HGG2.out _).drew⟩
              unfold Hid
              rw [turnTo_hit ⟨HM.out, H2.out, H3.out⟩ p HP.out, xor_pow p r b HR.out, ← HB8.out]
              exact (HB2.out.set (p / 8) _ HJ.out).drew
            case measure => simp [intOf]; omega
        · have hmiss := Lib.hid (turnTo_miss (s := s) (at_ := at_) (mask := mask) (k := k) (fun h => h3 h.2.2))
          have h4 : 8 * (s.size : Int) - k ≤ at_ := by omega
          clear h3 h2
          go_wp2
          go_roundw
          case rel => exact ⟨k + 1, by omega, by go_num, by rw [hmiss.out]; exact HB2, HBW2⟩
          case measure => simp [intOf]; omega
      · have hmiss := Lib.hid (turnTo_miss (s := s) (at_ := at_) (mask := mask) (k := k) (fun h => h2 h.2.1))
        have h4 : at_ < 8 * (s.size : Int) - k := by omega
        have h5 : at_ < -(k : Int) := by omega
        clear h2
        go_wp2
        go_roundw
        case rel => exact ⟨k + 1, by omega, by go_num, by rw [hmiss.out]; exact HB2, HBW2⟩
        case measure => simp [intOf]; omega
    · obtain rfl : k = 32 := by omega
      have hback := run_convert_bytes_back (P := Try.prog) wr 51 9 5 ⟨g, 0, none⟩ cap (turnTo s at_ mask 32) Try.underlying51 Try.underlying5 Try.underlying9 (fun j hj => by
        have := HB2.out.cell j hj
        have e : (⟨g, 0, none⟩ : Addr).add j = ⟨g, j, none⟩ := by unfold Addr.add; split <;> simp_all
        rw [e]; exact this)
      rw [HLEN.out] at hback
      go_wp2
      go_ret
      exact ⟨rfl, HBW2.out⟩
end Go.Proofs.Ytljncbbajhoocaa.Crc
