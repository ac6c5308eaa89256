/-
The walk of CrcTable: of every byte the table's row is what the reference makes of it: the law returns true. No condition.
-/
import Derived.Test.YtljncbbajhoocaaCrcRef
import Derived.OpenShut
namespace Go.Proofs.Ytljncbbajhoocaa.Crc
open Go.RowKit Go.Proofs.Ytljncbbajhoocaa.CrcMath Go.Proofs.YtljncbbajhoocaaW.PrintWords

theorem on_zero (k : Nat) (hk : k < 256) (T : Int) (hT : Hid (T = iv (tbl k))) (w : World) : Calls Try.prog 31 #[.int .u32 0, .int .u8 (k : Int)] w fun e w' => e = .returned (.int .u32 T) ∧ ∃ n, w' = w.drewN n := by
  have h := on_calls 0#32 (UInt8.ofNat k) w
  have e : (UInt8.ofNat k).toNat = k := by simp; omega
  have e2 : onB 0#32 (UInt8.ofNat k) = tbl k := by unfold onB tbl high row; rw [e]; simp
  rw [e, e2, ← hT.out] at h
  exact h
set_option maxHeartbeats 2000000 in
set_option maxRecDepth 100000 in
theorem table_walk (k : Nat) (hk : k < 256) (w : World) : Calls Try.prog 5 #[.int .u8 (k : Int)] w fun e w' => e = .returned (.bool true) ∧ Below w.heap.size w w' := by
  obtain ⟨T, hT⟩ : ∃ T, T = iv (tbl k) := ⟨_, rfl⟩
  have HT := Lib.hid hT
  clear hT
  have hk1 : (k : Int) < 256 := by omega
  go_enter Try.func5, Try.ntmps5
  go_wp2_with (first | (go_at_call 18; refine (awake_calls _).mono ?_; rintro e wa ⟨rfl, hb0⟩) | (go_at_call 20; refine (make_calls _).mono ?_; rintro e w1 ⟨rfl, hb1⟩) | (refine wpList_store_laid (by assumption) rfl _ _ rfl rfl rfl ?_; intro w2 hL))
  have hcell : w2.cell? ⟨w1.heap.size, k, none⟩ = some (.int .u32 T) := by
    rw [cell_of_row _ _ _ _ _ _ hL.tab, tabTo_get _ _ hk, if_pos hk, HT.out]
  go_quiet ((go_at_call 31; exact Calls.quiet_of (on_zero k hk T HT _)))
  go_wp2
  go_ret
  exact ⟨rfl, below_drewN (hb0.trans (hL.below.mono hb0.size)) _⟩
end Go.Proofs.Ytljncbbajhoocaa.Crc
namespace Go.Proofs.Ytljncbbajhoocaa.Crc
open Go.RowKit
theorem table_law (a : Int) (wf : (Lit.int .u8 a).wf = true) (w : World) : Calls Try.prog 5 #[.int .u8 a] w fun e w' => e = .returned (.bool true) ∧ Below w.heap.size w w' := by
  obtain ⟨h0, h1⟩ := bounds_u8 wf
  obtain ⟨k, rfl⟩ := Int.eq_ofNat_of_zero_le h0
  exact table_walk k (by omega) w
end Go.Proofs.Ytljncbbajhoocaa.Crc
