/-
The fixed fact of the laws of package crc: the call answers true, whatever the memory. No condition.
-/
import Derived.Test.YtljncbbajhoocaaCrcFits
namespace Go.Proofs.Ytljncbbajhoocaa.Crc
open Go.RowKit Go.Proofs.Ytljncbbajhoocaa.CrcMath Go.Proofs.YtljncbbajhoocaaW.PrintWords

theorem tab_hi : (Try.prog.info? 26).map (·.size) = some (tabTo 256).size := by rw [tabTo_size]; exact info26
theorem tab_old : Try.zeroCells26.size = (tabTo 256).size := by rw [← tabTo_zero, tabTo_size, tabTo_size]
/-- A new variable that holds the table, behind Make. -/
structure Laid (w w2 : World) (g : Nat) : Prop where
  tab : w2.heap[g]? = some (.cells (tabTo 256) 26 (0, 0))
  below : Below w.heap.size w w2
  new : w.heap.size ≤ g
theorem Laid.lt {w w2 : World} {g : Nat} (h : Laid w w2 g) : g < w2.heap.size := blk_lt h.tab
theorem Laid.on {w w2 w3 : World} {g : Nat} (h : Laid w w2 g) (hb : Below w2.heap.size w2 w3) : Laid w w3 g :=
  ⟨(hb.block g h.lt).trans h.tab, h.below.trans (hb.mono h.below.size), h.new⟩
theorem Laid.alloc {w w2 : World} {g : Nat} (h : Laid w w2 g) (o : Obj) : Laid w (w2.alloc o) g := h.on ((Below.refl _ _).alloc (Nat.le_refl _) _)
theorem Laid.drewN {w w2 : World} {g : Nat} (h : Laid w w2 g) (n : Nat) : Laid w (w2.drewN n) g := h.on (below_drewN (Below.refl _ _) _)
theorem Laid.drew {w w2 : World} {g : Nat} (h : Laid w w2 g) : Laid w w2.drew g := h.on (Below.refl _ _).drew
theorem laid_of {w w1 : World} (hb : Below w.heap.size w w1) : Laid w ((w1.alloc (.cells Try.zeroCells26 26)).setRow w1.heap.size (tabTo 256)) w1.heap.size :=
  ⟨setRow_heap _ _ _ _ _ _ (Go.heap_alloc_new w1 _), (hb.alloc hb.size _).trans (below_setRow _ hb.size), hb.size⟩
theorem wpList_store_laid {w w1 : World} (hb1 : Below w.heap.size w w1) {ops : Array Oper} {rest : List Oper} {o : Oper} {a : Act} {Q : Exit → Act → World → Prop} (hgd : o.guard = none) (hd : o.dst = none) (x y : Operand)
    (ho : o.op = .store 26 x y) (hx : a.eval x = .pointer (some ⟨w1.heap.size, 0, none⟩)) (hy : a.eval y = .agg (tabTo 256))
    (h : ∀ w2, Laid w w2 w1.heap.size → wpList Try.prog ops Q rest a w2) : wpList Try.prog ops Q (o :: rest) a (w1.alloc (.cells Try.zeroCells26 26)) :=
  wpList_store_row hgd 26 x y ho w1.heap.size (tabTo 256) hx hy 26 Try.zeroCells26 (Go.heap_alloc_new _ _) tab_hi tab_old (tabTo_one _) (by rw [hd]; exact h _ (laid_of hb1))

def nine : ByteArray := ⟨#[49, 50, 51, 52, 53, 54, 55, 56, 57]⟩
def letter : ByteArray := ⟨#[97]⟩
theorem sum_nine : iv (sumB (bytesOf nine)) = 4236843288 := by decide +kernel
theorem sum_none : iv (sumB []) = 0 := by decide +kernel
theorem seal_letter : fitsB (sealB letter) = true := by decide +kernel

theorem nine_calls (g h cap : Nat) (w w2 : World) (hL : Laid w w2 g) (hc : Hid (w2.cell? ⟨h, 0, none⟩ = some (.string nine))) :
    Calls Try.prog 21 #[.pointer (some ⟨g, 0, none⟩), .slice (some ⟨h, 0, none⟩) 1 cap] w2 fun e w' => e = .returned (.int .u32 4236843288) ∧ ∃ m, w' = w2.drewN m := by
  have := sum_one g h cap (0, 0) nine _ w2 (Lib.hid hL.tab) (by decide) (Lib.hid rfl) hc
  rwa [sum_nine] at this
theorem none_calls (g : Nat) (w2 : World) : Calls Try.prog 21 #[.pointer (some ⟨g, 0, none⟩), .slice none 0 0] w2 fun e w' => e = .returned (.int .u32 0) ∧ w2 = w' := by
  have := sum_nil g w2
  rwa [sum_none] at this
set_option maxHeartbeats 2000000 in
set_option maxRecDepth 100000 in
theorem awake_calls (w : World) : Calls Try.prog 18 #[] w fun e w' => e = .returned (.bool true) ∧ Below w.heap.size w w' := by
  go_enter Try.func18, Try.ntmps18
  go_wp2_with (first | (go_at_call 20; refine (make_calls _).mono ?_; rintro e w1 ⟨rfl, hb1⟩) | (refine wpList_store_laid (by assumption) rfl rfl _ _ rfl rfl rfl ?_; intro w2 hL))
  have hc : Hid ((w2.alloc (.cells #[.string nine] 9)).cell? ⟨w2.heap.size, 0, none⟩ = some (.string nine)) := Lib.hid (by simp)
  refine (nine_calls _ _ _ w _ (hL.alloc _) hc).mono ?_
  rintro e w3 ⟨rfl, m, rfl⟩
  go_wp2_with fail
  refine (none_calls _ _).mono ?_
  rintro e w3 ⟨rfl, rfl⟩
  go_wp2_with fail
  have hL2 := (hL.alloc (.cells #[.string nine] 9)).drewN m
  refine (seal_calls _ (0, 0) letter _ hL2.tab (by decide)).mono ?_
  rintro e w4 ⟨rfl, hb4⟩
  have hL4 := hL2.on hb4
  go_wp2_with fail
  refine (fits_calls _ (0, 0) _ _ hL4.tab (by decide +kernel)).mono ?_
  rintro e w5 ⟨rfl, hb5⟩
  have hL5 := hL4.on hb5
  rw [seal_letter]
  go_wp2_with fail
  go_ret
  exact ⟨rfl, hL5.below⟩
end Go.Proofs.Ytljncbbajhoocaa.Crc
