/-
crc's Sum: over the table that Make answers, and texts that lie in memory as they are, the call answers the sum of the texts one behind the other; it only reads.
-/
import Derived.Test.YtljncbbajhoocaaCrcMake
import Derived.Deep.QuietTactic
import Derived.BigQuiet
namespace Go.Proofs.Ytljncbbajhoocaa.Crc
open Go.RowKit Go.Proofs.Ytljncbbajhoocaa.CrcMath

def bytesOf (s : ByteArray) : List UInt8 := s.data.toList
def cat (ss : List ByteArray) : List UInt8 := (ss.map bytesOf).flatten

theorem bytes_len (s : ByteArray) : (bytesOf s).length = s.size := by simp [bytesOf]
theorem cat_take (ss : List ByteArray) (k : Nat) (hk : k < ss.length) : cat (ss.take (k + 1)) = cat (ss.take k) ++ bytesOf (ss.getD k ByteArray.empty) := by
  unfold cat
  rw [List.take_succ_eq_append_getElem hk, List.map_append, List.flatten_append]
  simp [List.getD_eq_getElem?_getD, List.getElem?_eq_getElem hk]
theorem bytes_take (s : ByteArray) (q : Nat) (hq : q < s.size) : (bytesOf s).take (q + 1) = (bytesOf s).take q ++ [s[q]] := by
  have h := bytes_len s
  rw [List.take_succ_eq_append_getElem (by omega)]; rfl
theorem reg_snoc (x : BitVec 32) (l : List UInt8) (b : UInt8) : regB x (l ++ [b]) = onB (regB x l) b := by simp [regB]
theorem not_iv (x : BitVec 32) : bits .xor .u32 IntKind.u32.max (iv x) = iv (~~~ x) := by
  have e : IntKind.u32.max = iv (BitVec.allOnes 32) := by decide
  rw [e, xor_iv, BitVec.allOnes_xor]

/-- The row of the table that a byte asks for. -/
theorem idx_ok (z : Int) (b : UInt8) (x : BitVec 32) (hz : z = iv x) :
    bits .xor .u8 (IntKind.u8.wrap (z / 16777216)) (b.toNat : Int) = ((x.toNat / 16777216 ^^^ b.toNat : Nat) : Int) ∧ x.toNat / 16777216 ^^^ b.toNat < 256 := by
  have hx := x.isLt
  have hb := b.toNat_lt
  have h : x.toNat / 16777216 ^^^ b.toNat < 2 ^ 8 := Nat.xor_lt_two_pow (by omega) (by omega)
  refine ⟨?_, by omega⟩
  subst hz
  have e : IntKind.u8.wrap (iv x / 16777216) = ((x.toNat / 16777216 : Nat) : Int) := by rw [IntKind.wrap_u8']; unfold iv; omega
  rw [e, u8_xor_nat _ _ (by omega) (by omega)]
theorem shl_iv (x : BitVec 32) : IntKind.u32.wrap (iv x * 256) = iv (x <<< (8 : Nat)) := by
  rw [IntKind.wrap_u32']; unfold iv; rw [BitVec.toNat_shiftLeft, Nat.shiftLeft_eq]; omega

set_option maxHeartbeats 2000000 in
set_option maxRecDepth 100000 in
theorem sum_calls (g h off n cap : Nat) (fr : Nat × Nat) (ss : List ByteArray) (w : World) (hg : w.heap[g]? = some (.cells (tabTo 256) 26 fr))
    (hn : n = ss.length) (hm : n ≤ 9223372036854775807) (hss : ∀ s ∈ ss, s.size ≤ 9223372036854775807)
    (hc : ∀ i, i < n → w.cell? ⟨h, off + i, none⟩ = some (.string (ss.getD i ByteArray.empty))) :
    Calls Try.prog 21 #[.pointer (some ⟨g, 0, none⟩), .slice (some ⟨h, off, none⟩) n cap] w fun e w' => e = .returned (.int .u32 (iv (sumB (cat ss)))) ∧ ∃ m, w' = w.drewN m := by
  have HN := Lib.hid hn
  have HC := Lib.hid hc
  have HG := Lib.hid hg
  have HSS := Lib.hid hss
  clear hn hc hg hss
  go_enter Try.func21, Try.ntmps21
  go_wp2
  go_loopw [5, 7, 8, 11, 17] (fun x _ _ i _ wr => ∃ (k m : Nat) (y : Int), k ≤ n ∧ i = .int .i64 k ∧ x = .int .u32 y ∧ Hid (y = iv (regB (BitVec.allOnes 32) (cat (ss.take k)))) ∧ 0 ≤ y ∧ y < 4294967296 ∧ wr = w.drewN m) (fun _ _ _ i _ _ => n - (intOf i).toNat)
  case atStart => exact ⟨0, 0, 4294967295, by omega, rfl, rfl, Lib.hid (by rw [List.take_zero]; decide), by omega, by omega, rfl⟩
  case round =>
    obtain ⟨k, m, y, hk, rfl, rfl, HY, hy0, hy1, rfl⟩ := hrel
    by_cases hlt : k < n
    · have hck := HC.out k hlt
      obtain ⟨s, hs⟩ : ∃ s, s = ss.getD k ByteArray.empty := ⟨_, rfl⟩
      rw [← hs] at hck
      have hsz : s.size ≤ 9223372036854775807 := by
        apply HSS.out
        have hk2 : k < ss.length := by have := HN.out; omega
        rw [hs, List.getD_eq_getElem?_getD, List.getElem?_eq_getElem hk2]; simp
      have HS := Lib.hid hs
      clear hs
      go_wp2
      go_loopw [5, 8, 17] (fun x _ j wr => ∃ (q m : Nat) (y : Int), q ≤ s.size ∧ j = .int .i64 q ∧ x = .int .u32 y ∧ Hid (y = iv (regB (BitVec.allOnes 32) (cat (ss.take k) ++ (bytesOf s).take q))) ∧ 0 ≤ y ∧ y < 4294967296 ∧ wr = w.drewN m) (fun _ _ j _ => s.size - (intOf j).toNat)
      case atStart => exact ⟨0, m, y, by omega, rfl, rfl, Lib.hid (by rw [HY.out]; simp), by omega, by omega, rfl⟩
      case round =>
        obtain ⟨q, m2, z, hq, rfl, rfl, HZ, hz0, hz1, rfl⟩ := hrel
        by_cases hlt2 : q < s.size
        · obtain ⟨x, hx⟩ : ∃ x, x = regB (BitVec.allOnes 32) (cat (ss.take k) ++ (bytesOf s).take q) := ⟨_, rfl⟩
          have hzx : z = iv x := by rw [hx]; exact HZ.out
          obtain ⟨I, hI⟩ : ∃ I, I = bits .xor .u8 (IntKind.u8.wrap (z / 16777216)) (s[q].toNat : Int) := ⟨_, rfl⟩
          obtain ⟨hi1, hi2⟩ := idx_ok z s[q] x hzx
          obtain ⟨T, hT⟩ : ∃ T, T = iv (tbl (x.toNat / 16777216 ^^^ s[q].toNat)) := ⟨_, rfl⟩
          have c0 : 0 ≤ bits .xor .u8 (IntKind.u8.wrap (z / 16777216)) (s[q].toNat : Int) := by rw [hi1]; omega
          have c1 : bits .xor .u8 (IntKind.u8.wrap (z / 16777216)) (s[q].toNat : Int) < 256 := by rw [hi1]; omega
          have hcell : w.cell? ⟨g, (bits .xor .u8 (IntKind.u8.wrap (z / 16777216)) (s[q].toNat : Int)).toNat, none⟩ = some (.int .u32 T) := by
            rw [cell_of_row w g _ _ _ _ HG.out, hi1, Int.toNat_natCast, tabTo_get _ _ hi2, if_pos hi2, hT]
          have hstep : bits .xor .u32 (IntKind.u32.wrap (z * 256)) T = iv (regB (BitVec.allOnes 32) (cat (ss.take k) ++ (bytesOf s).take (q + 1))) := by
            rw [hzx, shl_iv, hT, xor_iv, tbl_on, bytes_take s q hlt2, ← List.append_assoc, reg_snoc, hx]
          have HSTEP := Lib.hid hstep
          clear hstep hT hi1 hi2 hI hzx hx
          go_wp2
          go_quiet (fail)
          go_wp2
          go_roundw
          case rel => exact ⟨q + 1, _, _, by omega, by go_num, rfl, HSTEP.out, by rw [HSTEP.out]; exact iv_lo _, by rw [HSTEP.out]; exact iv_hi _, rfl⟩
          case measure => simp [intOf]; omega
        · obtain rfl : q = s.size := by omega
          have hend : z = iv (regB (BitVec.allOnes 32) (cat (ss.take (k + 1)))) := by
            rw [cat_take ss k (by have := HN.out; omega), ← HS.out, HZ.out, List.take_of_length_le (l := bytesOf s) (by rw [bytes_len]; omega)]
          have HEND := Lib.hid hend
          clear hend
          go_wp2
          go_roundw
          case rel => exact ⟨k + 1, _, _, by omega, by go_num, rfl, HEND.out, by omega, by omega, rfl⟩
          case measure => simp [intOf]; omega
    · obtain rfl : k = n := by omega
      have hend : bits .xor .u32 IntKind.u32.max y = iv (sumB (cat ss)) := by
        have e : ss.take k = ss := List.take_of_length_le (by have := HN.out; omega)
        rw [HY.out, e, not_iv]; rfl
      have HEND := Lib.hid hend
      clear hend
      go_wp2
      go_ret
      exact ⟨congrArg (fun v => Ending.returned (Value.int .u32 v)) HEND.out, m, rfl⟩
end Go.Proofs.Ytljncbbajhoocaa.Crc
