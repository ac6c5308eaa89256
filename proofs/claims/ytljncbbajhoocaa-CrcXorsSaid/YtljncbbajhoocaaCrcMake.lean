/-
crc.Make: the call answers the table of 256 rows, each of which is what plain arithmetic on the register says (tbl); what was in memory is as it was. No condition.
-/
import Derived.Test.YtljncbbajhoocaaRows
import Derived.Test.YtljncbbajhoocaaCrcMath
import Derived.WalkKit
import Derived.Outline
import Derived.OwnWalk
import Derived.LoopTactic
import Derived.WalkLawsBesides
import Derived.WalkSpells
import Derived.Laws.Rows
import Derived.Laws.Tables
import Derived.Lib.Hide
import Derived.KernelRfl
namespace Go.Proofs.Ytljncbbajhoocaa.Crc
open Go.RowKit Go.Proofs.Ytljncbbajhoocaa.CrcMath

/-- The table with its first k rows done. -/
def tabTo (k : Nat) : Array Value := ((List.range 256).map (fun j => Value.int .u32 (if j < k then iv (tbl j) else 0))).toArray
theorem tabTo_size (k : Nat) : (tabTo k).size = 256 := by simp [tabTo]
theorem tabTo_get (k j : Nat) (hj : j < 256) : (tabTo k)[j]? = some (Value.int .u32 (if j < k then iv (tbl j) else 0)) := by
  simp [tabTo, hj]
theorem tabTo_set (k : Nat) : (tabTo k).setIfInBounds k (Value.int .u32 (iv (tbl k))) = tabTo (k + 1) := by
  apply Array.ext
  · simp [tabTo]
  · intro i h1 h2
    have hi : i < 256 := by simpa [tabTo] using h2
    by_cases e : k = i
    · subst e
      simp [tabTo]
    · rw [Array.getElem_setIfInBounds_ne (by simpa [tabTo] using hi) e]
      simp only [tabTo, List.getElem_toArray, List.getElem_map, List.getElem_range]
      by_cases h : i < k
      · rw [if_pos h, if_pos (by omega)]
      · rw [if_neg h, if_neg (by omega)]
theorem tabTo_zero : tabTo 0 = Try.zeroCells26 := by kernel_rfl
theorem tabTo_one (k : Nat) : (tabTo k).all (·.oneCell') = true := by
  rw [Array.all_eq_true]; intro i h; simp [tabTo, Value.oneCell']
theorem below_setRow {w : World} {B g : Nat} (cs : Array Value) (h : B ≤ g) : Below B w (w.setRow g cs) :=
  ⟨rfl, rfl, rfl, by simp [World.setRow], fun k hk => by simp only [World.setRow, Array.getElem?_modify]; rw [if_neg (by omega)]⟩
theorem info26 : (Try.prog.info? 26).map (·.size) = some 256 := by kernel_rfl
theorem iv_row (k : Nat) (hk : k < 256) : ((k : Int) * 16777216) = iv (steps 0 (row k)) := by
  rw [steps, row, iv_of _ (by omega)]; omega

set_option maxHeartbeats 1000000 in
set_option maxRecDepth 100000 in
theorem make_calls (w : World) : Calls Try.prog 20 #[] w fun e w' => e = .returned (.agg (tabTo 256)) ∧ Below w.heap.size w w' := by
  have hz := tabTo_zero
  go_enter Try.func20, Try.ntmps20
  go_wp2
  rw [← hz]
  clear hz
  go_loopw [2, 3, 4, 5, 11] (fun _ _ _ i _ wr => ∃ k : Nat, k ≤ 256 ∧ i = .int .i64 k ∧ wr = (w.alloc (.cells (tabTo 0) 26)).alloc (.cells (tabTo k) 26)) (fun _ _ _ i _ _ => 256 - (intOf i).toNat)
  case atStart => exact ⟨0, by omega, rfl, rfl⟩
  case round =>
    obtain ⟨k, hk, rfl, rfl⟩ := hrel
    by_cases hlt : k < 256
    · go_wp2
      go_loop [3, 4, 11] (fun x _ j => ∃ m : Nat, m ≤ 8 ∧ j = .int .i64 m ∧ x = .int .u32 (iv (steps m (row k)))) (fun _ _ j => 8 - (intOf j).toNat)
      case atStart => exact ⟨0, by omega, rfl, by rw [iv_row k hlt]⟩
      case round =>
        obtain ⟨m, hm, rfl, rfl⟩ := hrel
        by_cases hlt2 : m < 8
        · have hx := iv_lo (steps m (row k))
          have hx1 := iv_hi (steps m (row k))
          obtain ⟨y, hy⟩ : ∃ y, y = iv (steps m (row k)) := ⟨_, rfl⟩
          rw [← hy] at hx hx1 ⊢
          have HY := Lib.hid hy
          clear hy
          go_wp2
          go_round
          case rel => exact ⟨m + 1, by omega, by go_num, by rw [HY.out, step_iv, steps]⟩
          case measure => simp [intOf]; omega
        · obtain rfl : m = 8 := by omega
          have hg := tabTo_get k k hlt
          have hset := Lib.hid (tabTo_set k)
          rw [show steps 8 (row k) = tbl k from rfl]
          go_wp2
          go_roundw
          case rel => exact ⟨k + 1, by omega, by go_num, by rw [hset.out]⟩
          case measure => simp [intOf]; omega
    · obtain rfl : k = 256 := by omega
      have h0 : ((w.alloc (.cells (tabTo 0) 26)).alloc (.cells (tabTo 256) 26)).heap[w.heap.size]? = some (.cells (tabTo 0) 26) := heap_alloc2_old _ _ _
      have h1 : ((w.alloc (.cells (tabTo 0) 26)).alloc (.cells (tabTo 256) 26)).heap[w.heap.size + 1]? = some (.cells (tabTo 256) 26) := heap_alloc2_new _ _ _
      have hi : (Try.prog.info? 26).map (·.size) = some (tabTo 256).size := by rw [tabTo_size]; exact info26
      go_wp2_with (first
        | (refine wpList_load_row rfl 26 (.tmp 1) rfl (w.heap.size + 1) rfl 26 (tabTo 256) (0, 0) _ h1 Try.underlying26 rfl hi ?_)
        | (refine wpList_store_row rfl 26 (.tmp 0) (.tmp 25) rfl w.heap.size (tabTo 256) rfl rfl 26 (tabTo 0) h0 hi (by rw [tabTo_size, tabTo_size]) (tabTo_one _) ?_))
      exact bodyPost_ret (v := .agg (tabTo 256)) (results_cell_row (p := 0) (ty := 26) rfl _ _ w.heap.size 26 (tabTo 256) (0, 0) _ rfl (setRow_heap _ _ _ _ _ _ h0) Try.underlying26 rfl hi) rfl
        ⟨rfl, ((((Below.refl _ _).alloc (Nat.le_refl _) _).alloc (by simp) _).trans (below_setRow _ (Nat.le_refl _)))⟩
end Go.Proofs.Ytljncbbajhoocaa.Crc
