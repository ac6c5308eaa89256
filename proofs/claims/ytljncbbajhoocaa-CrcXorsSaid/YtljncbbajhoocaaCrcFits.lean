/-
crc's Seal and Fits by contract: over the table that Make answers, and any text: what is sealed is the text with its sum's four bytes, and what fits is just what ends so. What was in memory is as it was.
-/
import Derived.Test.YtljncbbajhoocaaCrcSum
import Derived.Test.YtljncbbajhoocaaPCrcSumsx1
import Derived.Deep.RegionWith
import Derived.Deep.RegionHeld3
import Derived.WalkSmall
namespace Go.Proofs.Ytljncbbajhoocaa.Crc
open Go.RowKit Go.Proofs.Ytljncbbajhoocaa.CrcMath Go.Proofs.YtljncbbajhoocaaW.PrintWords

/-- A sum's four bytes, the highest first. -/
def fourB (x : BitVec 32) : ByteArray := strOfNums [(iv x / 16777216) % 256, (iv x / 65536) % 256, (iv x / 256) % 256, (iv x) % 256]
theorem four_calls (x : BitVec 32) (w : World) : Calls Try.prog 56 #[.int .u32 (iv x)] w fun e w' => e = .returned (.string (fourB x)) ∧ Below w.heap.size w w' :=
  PCrcSums.crc_four.calls (iv x) (fourB x) w rfl

set_option maxHeartbeats 2000000 in
set_option maxRecDepth 100000 in
theorem sum_nil (g : Nat) (w : World) : Calls Try.prog 21 #[.pointer (some ⟨g, 0, none⟩), .slice none 0 0] w fun e w' => e = .returned (.int .u32 (iv (sumB []))) ∧ w = w' := by
  go_enter Try.func21, Try.ntmps21
  go_wp2
  go_loop [5, 7, 8, 11, 17] (fun x _ _ i _ => i = .int .i64 0 ∧ x = .int .u32 4294967295) (fun _ _ _ _ _ => 0)
  case atStart => exact ⟨rfl, rfl⟩
  case round =>
    obtain ⟨rfl, rfl⟩ := hrel
    go_wp2
    go_ret
    exact ⟨congrArg (fun v => Ending.returned (Value.int .u32 v)) (by decide), rfl⟩

/-- What Seal makes. -/
def sealB (s : ByteArray) : ByteArray := s ++ fourB (sumB (bytesOf s))
theorem sum_one (g h cap : Nat) (fr : Nat × Nat) (s : ByteArray) (l : List UInt8) (w : World) (hg : Hid (w.heap[g]? = some (.cells (tabTo 256) 26 fr))) (hs : s.size ≤ 9223372036854775807) (hl : Hid (bytesOf s = l))
    (hc : Hid (w.cell? ⟨h, 0, none⟩ = some (.string s))) :
    Calls Try.prog 21 #[.pointer (some ⟨g, 0, none⟩), .slice (some ⟨h, 0, none⟩) 1 cap] w fun e w' => e = .returned (.int .u32 (iv (sumB l))) ∧ ∃ m, w' = w.drewN m := by
  have e : cat [s] = l := by simp [cat, hl.out]
  have h1 := sum_calls g h 0 1 cap fr [s] w hg.out rfl (by omega) (by simpa using hs) (fun i hi => by
    obtain rfl : i = 0 := by omega
    simpa using hc.out)
  rw [e] at h1
  exact h1
theorem blk_lt {w : World} {g : Nat} {o : Obj} (hg : w.heap[g]? = some o) : g < w.heap.size := (Array.getElem?_eq_some_iff.1 hg).1
theorem blk_alloc {w : World} {g : Nat} {o : Obj} (hg : w.heap[g]? = some o) (p : Obj) : (w.alloc p).heap[g]? = some o :=
  (Below.heap_alloc w p g (blk_lt hg)).trans hg
theorem four_size (x : BitVec 32) : (fourB x).size = 4 := rfl
set_option maxHeartbeats 2000000 in
set_option maxRecDepth 100000 in
theorem seal_calls (g : Nat) (fr : Nat × Nat) (s : ByteArray) (w : World) (hg : w.heap[g]? = some (.cells (tabTo 256) 26 fr)) (hs : s.size ≤ 9223372036854775803) :
    Calls Try.prog 23 #[.pointer (some ⟨g, 0, none⟩), .string s] w fun e w' => e = .returned (.string (sealB s)) ∧ Below w.heap.size w w' := by
  have HG1 : Hid ((w.alloc (.cells #[.string s] 9)).heap[g]? = some (.cells (tabTo 256) 26 fr)) := blk_alloc hg _
  clear hg
  go_enter Try.func23, Try.ntmps23
  go_wp2_with fail
  refine (sum_one g w.heap.size 1 fr s (bytesOf s) _ HG1 (by omega) (Lib.hid rfl) (Lib.hid (by simp))).mono ?_
  rintro e w' ⟨rfl, m, rfl⟩
  go_wp2_with fail
  refine (four_calls (sumB (bytesOf s)) _).mono ?_
  rintro e w' ⟨rfl, hb⟩
  have hz : s.size + (fourB (sumB (bytesOf s))).size ≤ 9223372036854775807 := by rw [four_size]; omega
  go_wp2_with fail
  go_ret
  exact ⟨rfl, ((Below.refl _ _).alloc (Nat.le_refl _) _).trans ((below_drewN (Below.refl _ _) _).trans (hb.mono (by simp)))⟩
set_option maxHeartbeats 2000000 in
set_option maxRecDepth 100000 in
theorem fits_long (g n : Nat) (fr : Nat × Nat) (s : ByteArray) (w : World) (hg : w.heap[g]? = some (.cells (tabTo 256) 26 fr)) (hn : s.size = n + 4) (hs : n ≤ 9223372036854775803)  :
    Calls Try.prog 28 #[.pointer (some ⟨g, 0, none⟩), .string s] w fun e w' => e = .returned (.bool ((fourB (sumB (bytesOf (s.extract 0 n)))).toList == (s.extract n (n + 4)).toList)) ∧ Below w.heap.size w w' := by
  have HG := Lib.hid hg
  clear hg
  have HG1 : Hid ((w.alloc (.cells #[.string (s.extract 0 n)] 9)).heap[g]? = some (.cells (tabTo 256) 26 fr)) := blk_alloc HG.out _
  have HS : (s.extract 0 n).size ≤ 9223372036854775807 := by simp; omega
  have s1 : ∀ w', (Instr.slice 9 (.string s) none (some (.int .i64 (n : Int))) none).run Try.prog w' = .ok (.string (s.extract 0 n)) w' := fun w' => by
    rw [run_slice_string_to_if _ _ _ _ _ Try.underlying9, if_pos (by omega), Int.toNat_natCast]
  have s2 : ∀ w', (Instr.slice 9 (.string s) (some (.int .i64 (n : Int))) none none).run Try.prog w' = .ok (.string (s.extract n (n + 4))) w' := fun w' => by
    rw [run_slice_string_from_if _ _ _ _ _ Try.underlying9, if_pos (by omega), Int.toNat_natCast, hn]
  go_enter Try.func28, Try.ntmps28
  go_wp2_with fail
  go_region_held3 (fun _ => True) (first | trivial) (first | (go_at_call 21; refine (sum_one g _ 1 fr (s.extract 0 n) (bytesOf (s.extract 0 n)) _ (by exact HG1) HS (Lib.hid rfl) (by exact Lib.hid (by simp))).mono ?_; rintro e w' ⟨rfl, m, rfl⟩) | (go_at_call 56; refine (four_calls _ _).mono ?_; rintro e w' ⟨rfl, hb⟩))
  go_wp2
  go_ret
  exact ⟨rfl, ((Below.refl _ _).alloc (Nat.le_refl _) _).trans ((below_drewN (Below.refl _ _) _).trans (hb.mono (by simp)))⟩
set_option maxHeartbeats 2000000 in
set_option maxRecDepth 100000 in
theorem fits_short (g : Nat) (s : ByteArray) (w : World) (hs : s.size < 4) :
    Calls Try.prog 28 #[.pointer (some ⟨g, 0, none⟩), .string s] w fun e w' => e = .returned (.bool false) ∧ Below w.heap.size w w' := by
  have h0 : decide ((0 : Int) ≤ (s.size : Int) - 4) = false := by simp; omega
  have h1 : decide ((4 : Int) ≤ (s.size : Int)) = false := by simp; omega
  have h2 : ¬ (4 : Int) ≤ (s.size : Int) := by omega
  have h3 : decide (4 ≤ s.size) = false := by simp; omega
  go_enter Try.func28, Try.ntmps28
  go_wp2_with fail
  go_quiet (fail)
  go_wp2
  go_ret
  exact ⟨rfl, below_drewN (Below.refl _ _) _⟩
/-- What fits: the last four bytes are the sum of the ones ahead. -/
def fitsB (s : ByteArray) : Bool := decide (4 ≤ s.size) && ((fourB (sumB (bytesOf (s.extract 0 (s.size - 4))))).toList == (s.extract (s.size - 4) s.size).toList)
theorem fits_calls (g : Nat) (fr : Nat × Nat) (s : ByteArray) (w : World) (hg : w.heap[g]? = some (.cells (tabTo 256) 26 fr)) (hs : s.size ≤ 9223372036854775807) :
    Calls Try.prog 28 #[.pointer (some ⟨g, 0, none⟩), .string s] w fun e w' => e = .returned (.bool (fitsB s)) ∧ Below w.heap.size w w' := by
  by_cases h : 4 ≤ s.size
  · have h1 := fits_long g (s.size - 4) fr s w hg (by omega) (by omega)
    have e : fitsB s = ((fourB (sumB (bytesOf (s.extract 0 (s.size - 4))))).toList == (s.extract (s.size - 4) (s.size - 4 + 4)).toList) := by
      unfold fitsB; rw [show s.size - 4 + 4 = s.size by omega]; simp [h]
    rw [e]; exact h1
  · have e : fitsB s = false := by unfold fitsB; simp [h]
    rw [e]; exact fits_short g s w (by omega)
end Go.Proofs.Ytljncbbajhoocaa.Crc
