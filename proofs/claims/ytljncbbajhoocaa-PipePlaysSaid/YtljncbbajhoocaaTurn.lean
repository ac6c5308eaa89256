/-
polliwoglaw02.Turn: the call answers the text with the bits of a mask turned, as plain arithmetic on its bytes says (turnTo). Conditions: a text of at most 1000 bytes, a place within a million.
-/
import Derived.Test.YtljncbbajhoocaaCrcFitsLaw
import Derived.RegionTactic
import Derived.ChangeAlike
import Derived.BigRegion
namespace Go.Proofs.Ytljncbbajhoocaa.Crc
open Go.RowKit Go.Proofs.Ytljncbbajhoocaa.CrcMath Go.Proofs.YtljncbbajhoocaaW.PrintWords

/-- Block g holds the bytes l, which may be written. -/
structure BytesAt (w : World) (g : Nat) (l : List UInt8) : Prop where
  cell : ∀ j (h : j < l.length), w.cell? ⟨g, j, none⟩ = some (.int .u8 (l[j].toNat : Int))
  free : ∀ j, j < l.length → w.frozen? ⟨g, j, none⟩ = false
theorem conv_bytes (w : World) (s : ByteArray) : ∃ (cap : Nat) (w1 : World), (convert 9 51 (.string s)).run Try.prog w = .ok (.slice (some ⟨w.heap.size, 0, none⟩) s.size cap) w1 ∧ BytesAt w1 w.heap.size (bytesOf s) ∧ Below w.heap.size w w1 := by
  refine ⟨_, _, run_bytes_of_string (P := Try.prog) w 9 51 5 s Try.underlying9 Try.underlying51 Try.underlying5, ⟨?_, ?_⟩, (Below.refl _ _).drew.alloc (Nat.le_refl _) _⟩
  · intro j h
    have hj : j < s.data.size := by simpa [bytesOf] using h
    have := World.cell?_alloc_mark w.drew (bytesRow s (grownCap w s.size 0 5)) 5 ((bytesRow s (grownCap w s.size 0 5)).size, (bytesRow s (grownCap w s.size 0 5)).size + 1) j
    rw [World.size_drew] at this
    rw [this, bytesRow_at s _ j hj]
    simp [bytesOf]
  · intro j h
    have hj : j < s.data.size := by simpa [bytesOf] using h
    have := World.frozen?_alloc_mark w.drew (bytesRow s (grownCap w s.size 0 5)) 5 (bytesRow s (grownCap w s.size 0 5)).size ((bytesRow s (grownCap w s.size 0 5)).size + 1) j
    rw [World.size_drew] at this
    rw [this]
    have h2 : j < (bytesRow s (grownCap w s.size 0 5)).size := by unfold bytesRow; simp only [Array.size_append, Array.size_map]; omega
    simp; omega

/-- Is a bit of the text turned in round k? -/
def Hit (s : ByteArray) (at_ mask : Int) (k : Nat) : Prop := bits .and .u32 (mask / 2 ^ (31 - k)) 1 = 1 ∧ 0 ≤ at_ + k ∧ at_ + k < 8 * s.size
instance (s : ByteArray) (at_ mask : Int) (k : Nat) : Decidable (Hit s at_ mask k) := by unfold Hit; infer_instance
def turnByte (p : Nat) (b : UInt8) : UInt8 := b ^^^ UInt8.ofNat (128 / 2 ^ (p % 8))
/-- The bytes behind k rounds. -/
def turnTo (s : ByteArray) (at_ mask : Int) : Nat → List UInt8
  | 0 => bytesOf s
  | k + 1 => if Hit s at_ mask k then (turnTo s at_ mask k).set ((at_ + k).toNat / 8) (turnByte (at_ + k).toNat ((turnTo s at_ mask k).getD ((at_ + k).toNat / 8) 0)) else turnTo s at_ mask k
theorem turnTo_len (s : ByteArray) (at_ mask : Int) (k : Nat) : (turnTo s at_ mask k).length = s.size := by
  induction k with
  | zero => simp [turnTo, bytes_len]
  | succ k ih => unfold turnTo; split <;> simp [ih]
theorem turnTo_hit {s : ByteArray} {at_ mask : Int} {k : Nat} (h : Hit s at_ mask k) (p : Nat) (hp : at_ + k = p) :
    turnTo s at_ mask (k + 1) = (turnTo s at_ mask k).set (p / 8) (turnByte p ((turnTo s at_ mask k).getD (p / 8) 0)) := by
  conv => lhs; unfold turnTo
  rw [if_pos h, hp, Int.toNat_natCast]
theorem turnTo_miss {s : ByteArray} {at_ mask : Int} {k : Nat} (h : ¬ Hit s at_ mask k) : turnTo s at_ mask (k + 1) = turnTo s at_ mask k := by
  conv => lhs; unfold turnTo
  rw [if_neg h]
theorem turnByte_iv (p : Nat) (b : UInt8) : bits .xor .u8 (b.toNat : Int) (128 / 2 ^ (p % 8) : Int) = ((turnByte p b).toNat : Int) := by
  have hb := b.toNat_lt
  have hq : 128 / 2 ^ (p % 8) < 256 := Nat.lt_of_le_of_lt (Nat.div_le_self _ _) (by omega)
  have e : (128 / 2 ^ (p % 8) : Int) = ((128 / 2 ^ (p % 8) : Nat) : Int) := by norm_cast
  rw [e, u8_xor_nat _ _ (by omega) hq]
  unfold turnByte
  rw [UInt8.toNat_xor, UInt8.toNat_ofNat', Nat.mod_eq_of_lt hq]
theorem BytesAt.set {w : World} {g : Nat} {l : List UInt8} (h : BytesAt w g l) (j : Nat) (v : UInt8) (_hj : j < l.length) : BytesAt (w.setCell ⟨g, j, none⟩ (.int .u8 (v.toNat : Int))) g (l.set j v) := by
  constructor
  · intro i hi
    have hi2 : i < l.length := by simpa using hi
    have h0 := h.cell i hi2
    by_cases e : j = i
    · subst e
      rw [World.cell?_setCell_same _ _ _ h0, List.getElem_set_self]
    · rw [World.cell?_setCell_other _ _ _ _ (by simp; done), h0]
      simp [List.getElem_set_ne e]
  · intro i hi
    have hi2 : i < l.length := by simpa using hi
    rw [World.frozen?_setCell]; exact h.free i hi2
theorem BytesAt.drew {w : World} {g : Nat} {l : List UInt8} (h : BytesAt w g l) : BytesAt w.drew g l := ⟨h.cell, h.free⟩

set_option maxHeartbeats 4000000 in
set_option maxRecDepth 100000 in
theorem turn_calls (s : ByteArray) (at_ mask : Int) (w : World) (hs : s.size ≤ 1000) (ha : -1000000 ≤ at_) (ha1 : at_ ≤ 1000000) : Calls Try.prog 32 #[.string s, .int .i64 at_, .int .u32 mask] w fun e w' => e = .returned (.string ⟨(turnTo s at_ mask 32).toArray⟩) ∧ Below w.heap.size w w' := by
  obtain ⟨cap, w1, hrun, hB, hb⟩ := conv_bytes w s
  have HB := Lib.hid hB
  have HBW := Lib.hid hb
  clear hB hb
  go_enter Try.func32, Try.ntmps32
  go_wp2
  clear hrun
  obtain ⟨g, hg⟩ : ∃ g, g = w.heap.size := ⟨_, rfl⟩
  rw [← hg]
  have HGG := Lib.hid hg
  clear hg
  go_loopw [8, 9, 12] (fun _ _ i wr => ∃ (k : Nat), k ≤ 32 ∧ i = .int .i64 k ∧ Hid (BytesAt wr g (turnTo s at_ mask k)) ∧ Hid (Below w.heap.size w wr)) (fun _ _ i _ => 32 - (intOf i).toNat)
  case atStart => exact ⟨0, by omega, rfl, by rw [HGG.out]; exact HB, HBW⟩
  case round =>
    obtain ⟨k, hk, rfl, HB2, HBW2⟩ := hrel
    have hlen := turnTo_len s at_ mask k
    have HLEN := Lib.hid hlen
    clear hlen
    by_cases hlt : k < 32
    · by_cases h1 : bits .and .u32 (mask / 2 ^ (31 - k)) 1 = 1
      · by_cases h2 : 0 ≤ at_ + k
        · by_cases h3 : at_ + k < 8 * s.size
          · obtain ⟨p, hp⟩ := Int.eq_ofNat_of_zero_le h2
            have hstep := Lib.hid (turnTo_hit ⟨h1, h2, h3⟩ p hp)
            have hj : p / 8 < (turnTo s at_ mask k).length := by rw [HLEN.out]; omega
            obtain ⟨b, hb⟩ : ∃ b, b = (turnTo s at_ mask k).getD (p / 8) 0 := ⟨_, rfl⟩
            have hcell := HB2.out.cell (p / 8) hj
            have hfree := HB2.out.free (p / 8) hj
            have hbe : (turnTo s at_ mask k)[p / 8] = b := by rw [hb, List.getD_eq_getElem?_getD, List.getElem?_eq_getElem hj]; rfl
            rw [hbe] at hcell
            have hbv := turnByte_iv p b
            have hps : p / 8 < s.size := by omega
            have hbit : (bits .and .u32 (mask / 2 ^ (31 - k)) 1 == 1) = true := beq_iff_eq.2 h1
            have hp8 : (p : Int) < 8 * s.size := by omega
            have hend : BytesAt (wr.drew.setCell ⟨g, p / 8, none⟩ (.int .u8 (bits .xor .u8 (b.toNat : Int) (128 / 2 ^ (p % 8))))) g (turnTo s at_ mask (k + 1)) := by
              rw [hstep.out, hbv, ← hb]
              exact (HB2.out.drew).set (p / 8) _ hj
            have HEND := Lib.hid hend
            have hg2 : w.heap.size ≤ g := by have := HGG.out; omega
            clear hj hb hbv h1 h2 h3 hbe hend
            go_wp2
            go_region
            go_wp2
            go_roundw
            case rel => exact ⟨k + 1, by omega, by go_num, HEND.out, HBW2.out.trans ((Below.refl _ _).drew.setCell hg2 _)⟩
            case measure => simp [intOf]; omega
          · have hbit : (bits .and .u32 (mask / 2 ^ (31 - k)) 1 == 1) = true := beq_iff_eq.2 h1
            have hmiss := Lib.hid (turnTo_miss (s := s) (at_ := at_) (mask := mask) (k := k) (fun h => h3 h.2.2))
            clear h1 
            go_wp2
            go_roundw
            case rel => exact ⟨k + 1, by omega, by go_num, by rw [hmiss.out]; exact HB2, HBW2⟩
            case measure => simp [intOf]; omega
        · have hbit : (bits .and .u32 (mask / 2 ^ (31 - k)) 1 == 1) = true := beq_iff_eq.2 h1
          have hmiss := Lib.hid (turnTo_miss (s := s) (at_ := at_) (mask := mask) (k := k) (fun h => h2 h.2.1))
          clear h1 
          go_wp2
          go_roundw
          case rel => exact ⟨k + 1, by omega, by go_num, by rw [hmiss.out]; exact HB2, HBW2⟩
          case measure => simp [intOf]; omega
      · have hbit : (bits .and .u32 (mask / 2 ^ (31 - k)) 1 == 1) = false := beq_eq_false_iff_ne.2 h1
        have hmiss := Lib.hid (turnTo_miss (s := s) (at_ := at_) (mask := mask) (k := k) (fun h => h1 h.1))
        clear h1 
        go_wp2
        go_roundw
        case rel => exact ⟨k + 1, by omega, by go_num, by rw [hmiss.out]; exact HB2, HBW2⟩
        case measure => simp [intOf]; omega
    · obtain rfl : k = 32 := by omega
      have hback := run_convert_bytes_back (P := Try.prog) wr 51 9 5 ⟨g, 0, none⟩ cap (turnTo s at_ mask 32) Try.underlying51 Try.underlying5 Try.underlying9 (fun j hj => by
        have := HB2.out.cell j hj
        have e : (⟨g, 0, none⟩ : Addr).add j = ⟨g, j, none⟩ := by unfold Addr.add; split <;> simp_all
        rw [e]; exact this)
      rw [HLEN.out] at hback
      go_wp2
      go_ret
      exact ⟨rfl, HBW2.out⟩
end Go.Proofs.Ytljncbbajhoocaa.Crc
