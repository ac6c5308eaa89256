/-
The law's Note.record: a record of a note, as plain arithmetic says. No condition.
-/
import Derived.Test.YtjjnhndlollldaaEp5
import Derived.Deep.MidRow
import Derived.Deep.Cut
namespace Go.Proofs.Ytjjnhndlollldaa.Ep
set_option linter.unusedVariables false
open Go.RowKit Go.Proofs.Ytjjnhndlollldaa.Args

theorem info43r (A : Array Value) (h : A.size = 18) : (Try.prog.info? 43).map (·.size) = some A.size := by rw [h]; kernel_rfl
theorem recA_one (r : RecT) : (recA r).all (·.oneCell') = true := by simp [recA, Value.oneCell']
def zeroRec : Array Value := recA (0, 0, 0, ⟨#[]⟩, 0, ⟨#[]⟩)
theorem below_setRow3 {w : World} {B g : Nat} (cs : Array Value) (h : B ≤ g) : Below B w (w.setRow g cs) :=
  ⟨rfl, rfl, rfl, by simp [World.setRow], fun k hk => by simp only [World.setRow, Array.getElem?_modify]; rw [if_neg (by omega)]⟩
theorem at_op {o : Oper} {ops : Array Oper} {rest : List Oper} {a : Act} {w : World} {Q : Exit → Act → World → Prop} (h : wpList Try.prog ops Q (o :: rest) a w) : wpList Try.prog ops Q (o :: rest) a w := h
theorem bel_set {G j : Nat} {a w : World} (h : Below G a w) (u : Value) : Below G a (w.setCell ⟨G, j, none⟩ u) := h.setCell (Nat.le_refl _) u
theorem store5 (W : World) (G : Nat) (A : Array Value) (k : Int) (d : ByteArray) (hG : W.heap[G]? = some (.cells A 43 (0, 0))) (hA : A.size = 18) :
    (Instr.storeAt 39 (.pointer (some ⟨G, 10, none⟩)) (.agg #[.int .i64 k, .string d, .bool false, .int .u8 0, .int .i64 0])).run Try.prog W = .ok () (((((W.setCell ⟨G, 10, none⟩ (.int .i64 k)).setCell ⟨G, 11, none⟩ (.string d)).setCell ⟨G, 12, none⟩ (.bool false)).setCell ⟨G, 13, none⟩ (.int .u8 0)).setCell ⟨G, 14, none⟩ (.int .i64 0)) :=
  run_storeAt_mid W G 10 39 #[.int .i64 k, .string d, .bool false, .int .u8 0, .int .i64 0] (fun j hj => by
    have hj5 : j < 5 := hj
    refine ⟨?_, frozen_of_row _ _ _ _ _ hG⟩
    rw [cell_of_row _ _ _ _ _ _ hG, Array.getElem?_eq_getElem (by omega)]
    rfl) (by kernel_rfl) (by simp [Value.oneCell'])
theorem chain_heap (W : World) (G : Nat) (l : List (Nat × Value)) : ∀ (W : World) (A : Array Value), W.heap[G]? = some (.cells A 43 (0, 0)) → (l.foldl (fun w p => w.setCell ⟨G, p.1, none⟩ p.2) W).heap[G]? = some (.cells (l.foldl (fun A p => A.setIfInBounds p.1 p.2) A) 43 (0, 0)) := by
  induction l with
  | nil => intro W A h; exact h
  | cons p l ih => intro W A h; exact ih _ _ (heap_setCell_same _ _ _ _ _ _ h)
theorem third_new (w : World) (x y z : Obj) : (((w.alloc x).alloc y).alloc z).heap[w.heap.size + 1 + 1]? = some z := by
  have := Go.heap_alloc_new ((w.alloc x).alloc y) z
  simpa using this
theorem laid (w : World) (X Z Y A : Array Value) : Below w.heap.size w ((((w.alloc (.cells X 31)).alloc (.cells Z 43)).alloc (.cells Y 43)).setRow (w.heap.size + 1 + 1) A) ∧ ∃ B R G, B = w.heap.size ∧ R = w.heap.size + 1 ∧ G = w.heap.size + 1 + 1 ∧ ((((w.alloc (.cells X 31)).alloc (.cells Z 43)).alloc (.cells Y 43)).setRow (w.heap.size + 1 + 1) A).heap[B]? = some (.cells X 31 (0, 0)) ∧ ((((w.alloc (.cells X 31)).alloc (.cells Z 43)).alloc (.cells Y 43)).setRow (w.heap.size + 1 + 1) A).heap[R]? = some (.cells Z 43 (0, 0)) ∧ ((((w.alloc (.cells X 31)).alloc (.cells Z 43)).alloc (.cells Y 43)).setRow (w.heap.size + 1 + 1) A).heap[G]? = some (.cells A 43 (0, 0)) := by
  have h3 := third_new w (.cells X 31) (.cells Z 43) (.cells Y 43)
  have hb : ∀ B, B ≤ w.heap.size + 1 + 1 → Below B (((w.alloc (.cells X 31)).alloc (.cells Z 43)).alloc (.cells Y 43)) ((((w.alloc (.cells X 31)).alloc (.cells Z 43)).alloc (.cells Y 43)).setRow (w.heap.size + 1 + 1) A) := fun B hB => below_setRow3 A hB
  refine ⟨((((Below.refl _ _).alloc (Nat.le_refl _) _).alloc (by simp) _).alloc (by simp; omega) _).trans (hb _ (by omega)), _, _, _, rfl, rfl, rfl, ?_, ?_, setRow_heap _ _ _ _ _ _ h3⟩
  · rw [(hb (w.heap.size + 1 + 1) (Nat.le_refl _)).block _ (by omega)]
    rw [Go.heap_alloc_old _ _ (by simp; omega), Go.heap_alloc_old _ _ (by simp)]
    exact Go.heap_alloc_new w _
  · rw [(hb (w.heap.size + 1 + 1) (Nat.le_refl _)).block _ (by omega)]
    rw [Go.heap_alloc_old _ _ (by simp)]
    have := Go.heap_alloc_new (w.alloc (.cells X 31)) (.cells Z 43)
    simpa using this

set_option maxHeartbeats 4000000 in
set_option maxRecDepth 100000 in
theorem record_0 (en how : Int) (d : ByteArray) (w : World) (h : bits .and .i64 how 7 = 0) :
    Calls Try.prog 9 #[.agg #[.int .i64 en, .int .i64 0, .int .i64 how, .string d]] w (BelowR w (.agg (recA (en, 6, 0, ⟨#[]⟩, 2, ⟨#[]⟩)))) := by
  go_enter Try.func9, Try.ntmps9
  go_upto_region 2 with (first | ((with_reducible refine at_op (o := ⟨none, .store 43 (.tmp 3) (.tmp 6), _, _, _, _⟩) ?_); refine wpList_store_row rfl 43 (.tmp 3) (.tmp 6) rfl (w.heap.size + 1 + 1) (recA (en, 0, 0, ⟨#[]⟩, 0, ⟨#[]⟩)) rfl rfl 43 zeroRec (third_new _ _ _ _) (info43r _ rfl) rfl (recA_one _) ?_))
  refine code_worldA (F := fun W => Below w.heap.size w W ∧ ∃ B R G, B = w.heap.size ∧ R = w.heap.size + 1 ∧ G = w.heap.size + 1 + 1 ∧ W.heap[B]? = some (.cells #[.int .i64 en, .int .i64 0, .int .i64 how, .string d] 31 (0, 0)) ∧ W.heap[R]? = some (.cells zeroRec 43 (0, 0)) ∧ W.heap[G]? = some (.cells (recA (en, 0, 0, ⟨#[]⟩, 0, ⟨#[]⟩)) 43 (0, 0))) (laid w _ _ _ _) ?_
  rintro W ⟨hb, B, R, G, hB, hR, hG, hB1, hR1, hG1⟩
  rw [← hG]
  rw [← hR]
  rw [← hB]
  have b0 : W.cell? ⟨B, 0, none⟩ = some (.int .i64 en) := by rw [cell_of_row _ _ _ _ _ _ hB1]; rfl
  have b1 : W.cell? ⟨B, 1, none⟩ = some (.int .i64 0) := by rw [cell_of_row _ _ _ _ _ _ hB1]; rfl
  have b2 : W.cell? ⟨B, 2, none⟩ = some (.int .i64 how) := by rw [cell_of_row _ _ _ _ _ _ hB1]; rfl
  have b3 : W.cell? ⟨B, 3, none⟩ = some (.string d) := by rw [cell_of_row _ _ _ _ _ _ hB1]; rfl
  have hBG : B ≠ G := by omega
  have hGl : w.heap.size ≤ G := by omega
  have HRG : Hid (R < G) := by unfold Hid; omega
  have HBW := Lib.hid hb
  have HRW : Hid (w.heap.size ≤ R) := by unfold Hid; omega
  have HR := Lib.hid hR1
  have HG := Lib.hid hG1
  have c1 : W.cell? ⟨G, 1, none⟩ = some (.int .i64 0) := by rw [cell_of_row _ _ _ _ _ _ hG1]; rfl
  have f1 : W.frozen? ⟨G, 1, none⟩ = false := frozen_of_row _ _ _ _ _ hG1
  have c15 : W.cell? ⟨G, 15, none⟩ = some (.int .i64 0) := by rw [cell_of_row _ _ _ _ _ _ hG1]; rfl
  have f15 : W.frozen? ⟨G, 15, none⟩ = false := frozen_of_row _ _ _ _ _ hG1
  clear hb hB hR hG hB1 hR1 hG1
  go_upto_region 20 with fail
  refine code_worldA (F := fun W' => Below G W W' ∧ W'.heap[G]? = some (.cells (recA (en, 6, 0, ⟨#[]⟩, 2, ⟨#[]⟩)) 43 (0, 0))) ?hX ?_
  case hX =>
    refine ⟨?_, (by
          have h0 : ((W.setCell ⟨G, 1, none⟩ (.int .i64 6)).setCell ⟨G, 15, none⟩ (.int .i64 2)).heap[G]? = some (.cells (recA (en, 6, 0, ⟨#[]⟩, 2, ⟨#[]⟩)) 43 (0, 0)) := (chain_heap W G [(1, .int .i64 6), (15, .int .i64 2)] W _ HG.out).trans (by simp [recA])
          first | with_reducible exact h0 | (rw [heap_drew]; with_reducible exact h0))⟩
    repeat (first | with_reducible refine bel_set ?_ _ | with_reducible refine Below.drew ?_ | with_reducible exact Below.refl _ _)
  rintro W' ⟨hb', hG'⟩
  have hR' : W'.heap[R]? = some (.cells zeroRec 43 (0, 0)) := (hb'.block R HRG.out).trans HR.out
  obtain ⟨A, hA⟩ : ∃ A, recA (en, 6, 0, ⟨#[]⟩, 2, ⟨#[]⟩) = A := ⟨_, rfl⟩
  have hA18 : A.size = 18 := by rw [← hA]; rfl
  have hone : A.all (·.oneCell') = true := by rw [← hA]; exact recA_one _
  have hi := info43r A hA18
  rw [hA] at hG' ⊢
  have HB' : Hid (Below w.heap.size w W') := HBW.out.trans (hb'.mono hGl)
  have HG' := Lib.hid hG'
  have HR' := Lib.hid hR'
  have HON := Lib.hid hone
  have HSZ : Hid (zeroRec.size = A.size) := by unfold Hid; rw [hA18]; rfl
  have HAA := Lib.hid hA
  clear hb' hG' hR' hA18 hone hA
  go_wp2_with (first | ((with_reducible refine at_op (o := ⟨some 58, .load 43 (.tmp 3), _, _, _, _⟩) ?_); refine wpList_load_row rfl 43 (.tmp 3) rfl G rfl 43 A (0, 0) _ HG'.out Try.underlying43 rfl hi ?_) | ((with_reducible refine at_op (o := ⟨none, .store 43 (.tmp 2) (.tmp 58), _, _, _, _⟩) ?_); refine wpList_store_row rfl 43 (.tmp 2) (.tmp 58) rfl R A rfl rfl 43 zeroRec HR'.out hi HSZ.out HON.out ?_))
  exact bodyPost_ret (v := .agg A) (results_cell_row (p := 2) (ty := 43) rfl _ _ R 43 A (0, 0) _ rfl (setRow_heap _ _ _ _ _ _ HR'.out) Try.underlying43 rfl hi) rfl ⟨by rw [HAA.out], HB'.out.trans ((below_setRow3 _ HRW.out).mono (Nat.le_refl _))⟩

set_option maxHeartbeats 4000000 in
set_option maxRecDepth 100000 in
theorem record_1 (en how : Int) (d : ByteArray) (w : World) (h : bits .and .i64 how 7 = 1) :
    Calls Try.prog 9 #[.agg #[.int .i64 en, .int .i64 0, .int .i64 how, .string d]] w (BelowR w (.agg (recA (en, 6, 0, ⟨#[]⟩, 5, ⟨#[]⟩)))) := by
  go_enter Try.func9, Try.ntmps9
  go_upto_region 2 with (first | ((with_reducible refine at_op (o := ⟨none, .store 43 (.tmp 3) (.tmp 6), _, _, _, _⟩) ?_); refine wpList_store_row rfl 43 (.tmp 3) (.tmp 6) rfl (w.heap.size + 1 + 1) (recA (en, 0, 0, ⟨#[]⟩, 0, ⟨#[]⟩)) rfl rfl 43 zeroRec (third_new _ _ _ _) (info43r _ rfl) rfl (recA_one _) ?_))
  refine code_worldA (F := fun W => Below w.heap.size w W ∧ ∃ B R G, B = w.heap.size ∧ R = w.heap.size + 1 ∧ G = w.heap.size + 1 + 1 ∧ W.heap[B]? = some (.cells #[.int .i64 en, .int .i64 0, .int .i64 how, .string d] 31 (0, 0)) ∧ W.heap[R]? = some (.cells zeroRec 43 (0, 0)) ∧ W.heap[G]? = some (.cells (recA (en, 0, 0, ⟨#[]⟩, 0, ⟨#[]⟩)) 43 (0, 0))) (laid w _ _ _ _) ?_
  rintro W ⟨hb, B, R, G, hB, hR, hG, hB1, hR1, hG1⟩
  rw [← hG]
  rw [← hR]
  rw [← hB]
  have b0 : W.cell? ⟨B, 0, none⟩ = some (.int .i64 en) := by rw [cell_of_row _ _ _ _ _ _ hB1]; rfl
  have b1 : W.cell? ⟨B, 1, none⟩ = some (.int .i64 0) := by rw [cell_of_row _ _ _ _ _ _ hB1]; rfl
  have b2 : W.cell? ⟨B, 2, none⟩ = some (.int .i64 how) := by rw [cell_of_row _ _ _ _ _ _ hB1]; rfl
  have b3 : W.cell? ⟨B, 3, none⟩ = some (.string d) := by rw [cell_of_row _ _ _ _ _ _ hB1]; rfl
  have hBG : B ≠ G := by omega
  have hGl : w.heap.size ≤ G := by omega
  have HRG : Hid (R < G) := by unfold Hid; omega
  have HBW := Lib.hid hb
  have HRW : Hid (w.heap.size ≤ R) := by unfold Hid; omega
  have HR := Lib.hid hR1
  have HG := Lib.hid hG1
  have c1 : W.cell? ⟨G, 1, none⟩ = some (.int .i64 0) := by rw [cell_of_row _ _ _ _ _ _ hG1]; rfl
  have f1 : W.frozen? ⟨G, 1, none⟩ = false := frozen_of_row _ _ _ _ _ hG1
  have c15 : W.cell? ⟨G, 15, none⟩ = some (.int .i64 0) := by rw [cell_of_row _ _ _ _ _ _ hG1]; rfl
  have f15 : W.frozen? ⟨G, 15, none⟩ = false := frozen_of_row _ _ _ _ _ hG1
  clear hb hB hR hG hB1 hR1 hG1
  go_upto_region 20 with fail
  refine code_worldA (F := fun W' => Below G W W' ∧ W'.heap[G]? = some (.cells (recA (en, 6, 0, ⟨#[]⟩, 5, ⟨#[]⟩)) 43 (0, 0))) ?hX ?_
  case hX =>
    refine ⟨?_, (by
          have h0 : ((W.setCell ⟨G, 1, none⟩ (.int .i64 6)).setCell ⟨G, 15, none⟩ (.int .i64 5)).heap[G]? = some (.cells (recA (en, 6, 0, ⟨#[]⟩, 5, ⟨#[]⟩)) 43 (0, 0)) := (chain_heap W G [(1, .int .i64 6), (15, .int .i64 5)] W _ HG.out).trans (by simp [recA])
          first | with_reducible exact h0 | (rw [heap_drew]; with_reducible exact h0))⟩
    repeat (first | with_reducible refine bel_set ?_ _ | with_reducible refine Below.drew ?_ | with_reducible exact Below.refl _ _)
  rintro W' ⟨hb', hG'⟩
  have hR' : W'.heap[R]? = some (.cells zeroRec 43 (0, 0)) := (hb'.block R HRG.out).trans HR.out
  obtain ⟨A, hA⟩ : ∃ A, recA (en, 6, 0, ⟨#[]⟩, 5, ⟨#[]⟩) = A := ⟨_, rfl⟩
  have hA18 : A.size = 18 := by rw [← hA]; rfl
  have hone : A.all (·.oneCell') = true := by rw [← hA]; exact recA_one _
  have hi := info43r A hA18
  rw [hA] at hG' ⊢
  have HB' : Hid (Below w.heap.size w W') := HBW.out.trans (hb'.mono hGl)
  have HG' := Lib.hid hG'
  have HR' := Lib.hid hR'
  have HON := Lib.hid hone
  have HSZ : Hid (zeroRec.size = A.size) := by unfold Hid; rw [hA18]; rfl
  have HAA := Lib.hid hA
  clear hb' hG' hR' hA18 hone hA
  go_wp2_with (first | ((with_reducible refine at_op (o := ⟨some 58, .load 43 (.tmp 3), _, _, _, _⟩) ?_); refine wpList_load_row rfl 43 (.tmp 3) rfl G rfl 43 A (0, 0) _ HG'.out Try.underlying43 rfl hi ?_) | ((with_reducible refine at_op (o := ⟨none, .store 43 (.tmp 2) (.tmp 58), _, _, _, _⟩) ?_); refine wpList_store_row rfl 43 (.tmp 2) (.tmp 58) rfl R A rfl rfl 43 zeroRec HR'.out hi HSZ.out HON.out ?_))
  exact bodyPost_ret (v := .agg A) (results_cell_row (p := 2) (ty := 43) rfl _ _ R 43 A (0, 0) _ rfl (setRow_heap _ _ _ _ _ _ HR'.out) Try.underlying43 rfl hi) rfl ⟨by rw [HAA.out], HB'.out.trans ((below_setRow3 _ HRW.out).mono (Nat.le_refl _))⟩

set_option maxHeartbeats 4000000 in
set_option maxRecDepth 100000 in
theorem record_2 (en how : Int) (d : ByteArray) (w : World) (h : bits .and .i64 how 7 = 2) :
    Calls Try.prog 9 #[.agg #[.int .i64 en, .int .i64 0, .int .i64 how, .string d]] w (BelowR w (.agg (recA (en, 6, 0, ⟨#[]⟩, 6, ⟨#[]⟩)))) := by
  go_enter Try.func9, Try.ntmps9
  go_upto_region 2 with (first | ((with_reducible refine at_op (o := ⟨none, .store 43 (.tmp 3) (.tmp 6), _, _, _, _⟩) ?_); refine wpList_store_row rfl 43 (.tmp 3) (.tmp 6) rfl (w.heap.size + 1 + 1) (recA (en, 0, 0, ⟨#[]⟩, 0, ⟨#[]⟩)) rfl rfl 43 zeroRec (third_new _ _ _ _) (info43r _ rfl) rfl (recA_one _) ?_))
  refine code_worldA (F := fun W => Below w.heap.size w W ∧ ∃ B R G, B = w.heap.size ∧ R = w.heap.size + 1 ∧ G = w.heap.size + 1 + 1 ∧ W.heap[B]? = some (.cells #[.int .i64 en, .int .i64 0, .int .i64 how, .string d] 31 (0, 0)) ∧ W.heap[R]? = some (.cells zeroRec 43 (0, 0)) ∧ W.heap[G]? = some (.cells (recA (en, 0, 0, ⟨#[]⟩, 0, ⟨#[]⟩)) 43 (0, 0))) (laid w _ _ _ _) ?_
  rintro W ⟨hb, B, R, G, hB, hR, hG, hB1, hR1, hG1⟩
  rw [← hG]
  rw [← hR]
  rw [← hB]
  have b0 : W.cell? ⟨B, 0, none⟩ = some (.int .i64 en) := by rw [cell_of_row _ _ _ _ _ _ hB1]; rfl
  have b1 : W.cell? ⟨B, 1, none⟩ = some (.int .i64 0) := by rw [cell_of_row _ _ _ _ _ _ hB1]; rfl
  have b2 : W.cell? ⟨B, 2, none⟩ = some (.int .i64 how) := by rw [cell_of_row _ _ _ _ _ _ hB1]; rfl
  have b3 : W.cell? ⟨B, 3, none⟩ = some (.string d) := by rw [cell_of_row _ _ _ _ _ _ hB1]; rfl
  have hBG : B ≠ G := by omega
  have hGl : w.heap.size ≤ G := by omega
  have HRG : Hid (R < G) := by unfold Hid; omega
  have HBW := Lib.hid hb
  have HRW : Hid (w.heap.size ≤ R) := by unfold Hid; omega
  have HR := Lib.hid hR1
  have HG := Lib.hid hG1
  have c1 : W.cell? ⟨G, 1, none⟩ = some (.int .i64 0) := by rw [cell_of_row _ _ _ _ _ _ hG1]; rfl
  have f1 : W.frozen? ⟨G, 1, none⟩ = false := frozen_of_row _ _ _ _ _ hG1
  have c15 : W.cell? ⟨G, 15, none⟩ = some (.int .i64 0) := by rw [cell_of_row _ _ _ _ _ _ hG1]; rfl
  have f15 : W.frozen? ⟨G, 15, none⟩ = false := frozen_of_row _ _ _ _ _ hG1
  clear hb hB hR hG hB1 hR1 hG1
  go_upto_region 20 with fail
  refine code_worldA (F := fun W' => Below G W W' ∧ W'.heap[G]? = some (.cells (recA (en, 6, 0, ⟨#[]⟩, 6, ⟨#[]⟩)) 43 (0, 0))) ?hX ?_
  case hX =>
    refine ⟨?_, (by
          have h0 : ((W.setCell ⟨G, 1, none⟩ (.int .i64 6)).setCell ⟨G, 15, none⟩ (.int .i64 6)).heap[G]? = some (.cells (recA (en, 6, 0, ⟨#[]⟩, 6, ⟨#[]⟩)) 43 (0, 0)) := (chain_heap W G [(1, .int .i64 6), (15, .int .i64 6)] W _ HG.out).trans (by simp [recA])
          first | with_reducible exact h0 | (rw [heap_drew]; with_reducible exact h0))⟩
    repeat (first | with_reducible refine bel_set ?_ _ | with_reducible refine Below.drew ?_ | with_reducible exact Below.refl _ _)
  rintro W' ⟨hb', hG'⟩
  have hR' : W'.heap[R]? = some (.cells zeroRec 43 (0, 0)) := (hb'.block R HRG.out).trans HR.out
  obtain ⟨A, hA⟩ : ∃ A, recA (en, 6, 0, ⟨#[]⟩, 6, ⟨#[]⟩) = A := ⟨_, rfl⟩
  have hA18 : A.size = 18 := by rw [← hA]; rfl
  have hone : A.all (·.oneCell') = true := by rw [← hA]; exact recA_one _
  have hi := info43r A hA18
  rw [hA] at hG' ⊢
  have HB' : Hid (Below w.heap.size w W') := HBW.out.trans (hb'.mono hGl)
  have HG' := Lib.hid hG'
  have HR' := Lib.hid hR'
  have HON := Lib.hid hone
  have HSZ : Hid (zeroRec.size = A.size) := by unfold Hid; rw [hA18]; rfl
  have HAA := Lib.hid hA
  clear hb' hG' hR' hA18 hone hA
  go_wp2_with (first | ((with_reducible refine at_op (o := ⟨some 58, .load 43 (.tmp 3), _, _, _, _⟩) ?_); refine wpList_load_row rfl 43 (.tmp 3) rfl G rfl 43 A (0, 0) _ HG'.out Try.underlying43 rfl hi ?_) | ((with_reducible refine at_op (o := ⟨none, .store 43 (.tmp 2) (.tmp 58), _, _, _, _⟩) ?_); refine wpList_store_row rfl 43 (.tmp 2) (.tmp 58) rfl R A rfl rfl 43 zeroRec HR'.out hi HSZ.out HON.out ?_))
  exact bodyPost_ret (v := .agg A) (results_cell_row (p := 2) (ty := 43) rfl _ _ R 43 A (0, 0) _ rfl (setRow_heap _ _ _ _ _ _ HR'.out) Try.underlying43 rfl hi) rfl ⟨by rw [HAA.out], HB'.out.trans ((below_setRow3 _ HRW.out).mono (Nat.le_refl _))⟩

set_option maxHeartbeats 4000000 in
set_option maxRecDepth 100000 in
theorem record_3 (en how : Int) (d : ByteArray) (w : World) (h : bits .and .i64 how 7 = 3) :
    Calls Try.prog 9 #[.agg #[.int .i64 en, .int .i64 0, .int .i64 how, .string d]] w (BelowR w (.agg (recA (en, 5, 2, ⟨#[]⟩, 0, ⟨#[]⟩)))) := by
  go_enter Try.func9, Try.ntmps9
  go_upto_region 2 with (first | ((with_reducible refine at_op (o := ⟨none, .store 43 (.tmp 3) (.tmp 6), _, _, _, _⟩) ?_); refine wpList_store_row rfl 43 (.tmp 3) (.tmp 6) rfl (w.heap.size + 1 + 1) (recA (en, 0, 0, ⟨#[]⟩, 0, ⟨#[]⟩)) rfl rfl 43 zeroRec (third_new _ _ _ _) (info43r _ rfl) rfl (recA_one _) ?_))
  refine code_worldA (F := fun W => Below w.heap.size w W ∧ ∃ B R G, B = w.heap.size ∧ R = w.heap.size + 1 ∧ G = w.heap.size + 1 + 1 ∧ W.heap[B]? = some (.cells #[.int .i64 en, .int .i64 0, .int .i64 how, .string d] 31 (0, 0)) ∧ W.heap[R]? = some (.cells zeroRec 43 (0, 0)) ∧ W.heap[G]? = some (.cells (recA (en, 0, 0, ⟨#[]⟩, 0, ⟨#[]⟩)) 43 (0, 0))) (laid w _ _ _ _) ?_
  rintro W ⟨hb, B, R, G, hB, hR, hG, hB1, hR1, hG1⟩
  rw [← hG]
  rw [← hR]
  rw [← hB]
  have b0 : W.cell? ⟨B, 0, none⟩ = some (.int .i64 en) := by rw [cell_of_row _ _ _ _ _ _ hB1]; rfl
  have b1 : W.cell? ⟨B, 1, none⟩ = some (.int .i64 0) := by rw [cell_of_row _ _ _ _ _ _ hB1]; rfl
  have b2 : W.cell? ⟨B, 2, none⟩ = some (.int .i64 how) := by rw [cell_of_row _ _ _ _ _ _ hB1]; rfl
  have b3 : W.cell? ⟨B, 3, none⟩ = some (.string d) := by rw [cell_of_row _ _ _ _ _ _ hB1]; rfl
  have hBG : B ≠ G := by omega
  have hGl : w.heap.size ≤ G := by omega
  have HRG : Hid (R < G) := by unfold Hid; omega
  have HBW := Lib.hid hb
  have HRW : Hid (w.heap.size ≤ R) := by unfold Hid; omega
  have HR := Lib.hid hR1
  have HG := Lib.hid hG1
  have c1 : W.cell? ⟨G, 1, none⟩ = some (.int .i64 0) := by rw [cell_of_row _ _ _ _ _ _ hG1]; rfl
  have f1 : W.frozen? ⟨G, 1, none⟩ = false := frozen_of_row _ _ _ _ _ hG1
  have c10 : W.cell? ⟨G, 10, none⟩ = some (.int .i64 0) := by rw [cell_of_row _ _ _ _ _ _ hG1]; rfl
  have f10 : W.frozen? ⟨G, 10, none⟩ = false := frozen_of_row _ _ _ _ _ hG1
  clear hb hB hR hG hB1 hR1 hG1
  go_upto_region 20 with fail
  refine code_worldA (F := fun W' => Below G W W' ∧ W'.heap[G]? = some (.cells (recA (en, 5, 2, ⟨#[]⟩, 0, ⟨#[]⟩)) 43 (0, 0))) ?hX ?_
  case hX =>
    refine ⟨?_, (by
          have h0 : (((W.setCell ⟨G, 1, none⟩ (.int .i64 6)).setCell ⟨G, 1, none⟩ (.int .i64 5)).setCell ⟨G, 10, none⟩ (.int .i64 2)).heap[G]? = some (.cells (recA (en, 5, 2, ⟨#[]⟩, 0, ⟨#[]⟩)) 43 (0, 0)) := (chain_heap W G [(1, .int .i64 6), (1, .int .i64 5), (10, .int .i64 2)] W _ HG.out).trans (by simp [recA])
          first | with_reducible exact h0 | (rw [heap_drew]; with_reducible exact h0))⟩
    repeat (first | with_reducible refine bel_set ?_ _ | with_reducible refine Below.drew ?_ | with_reducible exact Below.refl _ _)
  rintro W' ⟨hb', hG'⟩
  have hR' : W'.heap[R]? = some (.cells zeroRec 43 (0, 0)) := (hb'.block R HRG.out).trans HR.out
  obtain ⟨A, hA⟩ : ∃ A, recA (en, 5, 2, ⟨#[]⟩, 0, ⟨#[]⟩) = A := ⟨_, rfl⟩
  have hA18 : A.size = 18 := by rw [← hA]; rfl
  have hone : A.all (·.oneCell') = true := by rw [← hA]; exact recA_one _
  have hi := info43r A hA18
  rw [hA] at hG' ⊢
  have HB' : Hid (Below w.heap.size w W') := HBW.out.trans (hb'.mono hGl)
  have HG' := Lib.hid hG'
  have HR' := Lib.hid hR'
  have HON := Lib.hid hone
  have HSZ : Hid (zeroRec.size = A.size) := by unfold Hid; rw [hA18]; rfl
  have HAA := Lib.hid hA
  clear hb' hG' hR' hA18 hone hA
  go_wp2_with (first | ((with_reducible refine at_op (o := ⟨some 58, .load 43 (.tmp 3), _, _, _, _⟩) ?_); refine wpList_load_row rfl 43 (.tmp 3) rfl G rfl 43 A (0, 0) _ HG'.out Try.underlying43 rfl hi ?_) | ((with_reducible refine at_op (o := ⟨none, .store 43 (.tmp 2) (.tmp 58), _, _, _, _⟩) ?_); refine wpList_store_row rfl 43 (.tmp 2) (.tmp 58) rfl R A rfl rfl 43 zeroRec HR'.out hi HSZ.out HON.out ?_))
  exact bodyPost_ret (v := .agg A) (results_cell_row (p := 2) (ty := 43) rfl _ _ R 43 A (0, 0) _ rfl (setRow_heap _ _ _ _ _ _ HR'.out) Try.underlying43 rfl hi) rfl ⟨by rw [HAA.out], HB'.out.trans ((below_setRow3 _ HRW.out).mono (Nat.le_refl _))⟩

set_option maxHeartbeats 4000000 in
set_option maxRecDepth 100000 in
theorem record_4 (en how : Int) (d : ByteArray) (x : Int) (w : World) (h : bits .and .i64 how 7 = x) (h0 : (x == 0) = false) (h1 : (x == 1) = false) (h2 : (x == 2) = false) (h3 : (x == 3) = false) :
    Calls Try.prog 9 #[.agg #[.int .i64 en, .int .i64 0, .int .i64 how, .string d]] w (BelowR w (.agg (recA (en, 5, 6, ⟨#[]⟩, 0, ⟨#[]⟩)))) := by
  go_enter Try.func9, Try.ntmps9
  go_upto_region 2 with (first | ((with_reducible refine at_op (o := ⟨none, .store 43 (.tmp 3) (.tmp 6), _, _, _, _⟩) ?_); refine wpList_store_row rfl 43 (.tmp 3) (.tmp 6) rfl (w.heap.size + 1 + 1) (recA (en, 0, 0, ⟨#[]⟩, 0, ⟨#[]⟩)) rfl rfl 43 zeroRec (third_new _ _ _ _) (info43r _ rfl) rfl (recA_one _) ?_))
  refine code_worldA (F := fun W => Below w.heap.size w W ∧ ∃ B R G, B = w.heap.size ∧ R = w.heap.size + 1 ∧ G = w.heap.size + 1 + 1 ∧ W.heap[B]? = some (.cells #[.int .i64 en, .int .i64 0, .int .i64 how, .string d] 31 (0, 0)) ∧ W.heap[R]? = some (.cells zeroRec 43 (0, 0)) ∧ W.heap[G]? = some (.cells (recA (en, 0, 0, ⟨#[]⟩, 0, ⟨#[]⟩)) 43 (0, 0))) (laid w _ _ _ _) ?_
  rintro W ⟨hb, B, R, G, hB, hR, hG, hB1, hR1, hG1⟩
  rw [← hG]
  rw [← hR]
  rw [← hB]
  have b0 : W.cell? ⟨B, 0, none⟩ = some (.int .i64 en) := by rw [cell_of_row _ _ _ _ _ _ hB1]; rfl
  have b1 : W.cell? ⟨B, 1, none⟩ = some (.int .i64 0) := by rw [cell_of_row _ _ _ _ _ _ hB1]; rfl
  have b2 : W.cell? ⟨B, 2, none⟩ = some (.int .i64 how) := by rw [cell_of_row _ _ _ _ _ _ hB1]; rfl
  have b3 : W.cell? ⟨B, 3, none⟩ = some (.string d) := by rw [cell_of_row _ _ _ _ _ _ hB1]; rfl
  have hBG : B ≠ G := by omega
  have hGl : w.heap.size ≤ G := by omega
  have HRG : Hid (R < G) := by unfold Hid; omega
  have HBW := Lib.hid hb
  have HRW : Hid (w.heap.size ≤ R) := by unfold Hid; omega
  have HR := Lib.hid hR1
  have HG := Lib.hid hG1
  have c1 : W.cell? ⟨G, 1, none⟩ = some (.int .i64 0) := by rw [cell_of_row _ _ _ _ _ _ hG1]; rfl
  have f1 : W.frozen? ⟨G, 1, none⟩ = false := frozen_of_row _ _ _ _ _ hG1
  have c10 : W.cell? ⟨G, 10, none⟩ = some (.int .i64 0) := by rw [cell_of_row _ _ _ _ _ _ hG1]; rfl
  have f10 : W.frozen? ⟨G, 10, none⟩ = false := frozen_of_row _ _ _ _ _ hG1
  clear hb hB hR hG hB1 hR1 hG1
  go_upto_region 20 with fail
  refine code_worldA (F := fun W' => Below G W W' ∧ W'.heap[G]? = some (.cells (recA (en, 5, 6, ⟨#[]⟩, 0, ⟨#[]⟩)) 43 (0, 0))) ?hX ?_
  case hX =>
    refine ⟨?_, (by
          have h0 : (((W.setCell ⟨G, 1, none⟩ (.int .i64 6)).setCell ⟨G, 1, none⟩ (.int .i64 5)).setCell ⟨G, 10, none⟩ (.int .i64 6)).heap[G]? = some (.cells (recA (en, 5, 6, ⟨#[]⟩, 0, ⟨#[]⟩)) 43 (0, 0)) := (chain_heap W G [(1, .int .i64 6), (1, .int .i64 5), (10, .int .i64 6)] W _ HG.out).trans (by simp [recA])
          first | with_reducible exact h0 | (rw [heap_drew]; with_reducible exact h0))⟩
    repeat (first | with_reducible refine bel_set ?_ _ | with_reducible refine Below.drew ?_ | with_reducible exact Below.refl _ _)
  rintro W' ⟨hb', hG'⟩
  have hR' : W'.heap[R]? = some (.cells zeroRec 43 (0, 0)) := (hb'.block R HRG.out).trans HR.out
  obtain ⟨A, hA⟩ : ∃ A, recA (en, 5, 6, ⟨#[]⟩, 0, ⟨#[]⟩) = A := ⟨_, rfl⟩
  have hA18 : A.size = 18 := by rw [← hA]; rfl
  have hone : A.all (·.oneCell') = true := by rw [← hA]; exact recA_one _
  have hi := info43r A hA18
  rw [hA] at hG' ⊢
  have HB' : Hid (Below w.heap.size w W') := HBW.out.trans (hb'.mono hGl)
  have HG' := Lib.hid hG'
  have HR' := Lib.hid hR'
  have HON := Lib.hid hone
  have HSZ : Hid (zeroRec.size = A.size) := by unfold Hid; rw [hA18]; rfl
  have HAA := Lib.hid hA
  clear hb' hG' hR' hA18 hone hA
  go_wp2_with (first | ((with_reducible refine at_op (o := ⟨some 58, .load 43 (.tmp 3), _, _, _, _⟩) ?_); refine wpList_load_row rfl 43 (.tmp 3) rfl G rfl 43 A (0, 0) _ HG'.out Try.underlying43 rfl hi ?_) | ((with_reducible refine at_op (o := ⟨none, .store 43 (.tmp 2) (.tmp 58), _, _, _, _⟩) ?_); refine wpList_store_row rfl 43 (.tmp 2) (.tmp 58) rfl R A rfl rfl 43 zeroRec HR'.out hi HSZ.out HON.out ?_))
  exact bodyPost_ret (v := .agg A) (results_cell_row (p := 2) (ty := 43) rfl _ _ R 43 A (0, 0) _ rfl (setRow_heap _ _ _ _ _ _ HR'.out) Try.underlying43 rfl hi) rfl ⟨by rw [HAA.out], HB'.out.trans ((below_setRow3 _ HRW.out).mono (Nat.le_refl _))⟩

set_option maxHeartbeats 4000000 in
set_option maxRecDepth 100000 in
theorem record_5 (en how : Int) (d : ByteArray) (w : World) :
    Calls Try.prog 9 #[.agg #[.int .i64 en, .int .i64 1, .int .i64 how, .string d]] w (BelowR w (.agg (recA (en, 6, 0, ⟨#[]⟩, 7, d)))) := by
  go_enter Try.func9, Try.ntmps9
  go_upto_region 2 with (first | ((with_reducible refine at_op (o := ⟨none, .store 43 (.tmp 3) (.tmp 6), _, _, _, _⟩) ?_); refine wpList_store_row rfl 43 (.tmp 3) (.tmp 6) rfl (w.heap.size + 1 + 1) (recA (en, 0, 0, ⟨#[]⟩, 0, ⟨#[]⟩)) rfl rfl 43 zeroRec (third_new _ _ _ _) (info43r _ rfl) rfl (recA_one _) ?_))
  refine code_worldA (F := fun W => Below w.heap.size w W ∧ ∃ B R G, B = w.heap.size ∧ R = w.heap.size + 1 ∧ G = w.heap.size + 1 + 1 ∧ W.heap[B]? = some (.cells #[.int .i64 en, .int .i64 1, .int .i64 how, .string d] 31 (0, 0)) ∧ W.heap[R]? = some (.cells zeroRec 43 (0, 0)) ∧ W.heap[G]? = some (.cells (recA (en, 0, 0, ⟨#[]⟩, 0, ⟨#[]⟩)) 43 (0, 0))) (laid w _ _ _ _) ?_
  rintro W ⟨hb, B, R, G, hB, hR, hG, hB1, hR1, hG1⟩
  rw [← hG]
  rw [← hR]
  rw [← hB]
  have b0 : W.cell? ⟨B, 0, none⟩ = some (.int .i64 en) := by rw [cell_of_row _ _ _ _ _ _ hB1]; rfl
  have b1 : W.cell? ⟨B, 1, none⟩ = some (.int .i64 1) := by rw [cell_of_row _ _ _ _ _ _ hB1]; rfl
  have b2 : W.cell? ⟨B, 2, none⟩ = some (.int .i64 how) := by rw [cell_of_row _ _ _ _ _ _ hB1]; rfl
  have b3 : W.cell? ⟨B, 3, none⟩ = some (.string d) := by rw [cell_of_row _ _ _ _ _ _ hB1]; rfl
  have hBG : B ≠ G := by omega
  have hGl : w.heap.size ≤ G := by omega
  have HRG : Hid (R < G) := by unfold Hid; omega
  have HBW := Lib.hid hb
  have HRW : Hid (w.heap.size ≤ R) := by unfold Hid; omega
  have HR := Lib.hid hR1
  have HG := Lib.hid hG1
  have c1 : W.cell? ⟨G, 1, none⟩ = some (.int .i64 0) := by rw [cell_of_row _ _ _ _ _ _ hG1]; rfl
  have f1 : W.frozen? ⟨G, 1, none⟩ = false := frozen_of_row _ _ _ _ _ hG1
  have c15 : W.cell? ⟨G, 15, none⟩ = some (.int .i64 0) := by rw [cell_of_row _ _ _ _ _ _ hG1]; rfl
  have f15 : W.frozen? ⟨G, 15, none⟩ = false := frozen_of_row _ _ _ _ _ hG1
  have c16 : W.cell? ⟨G, 16, none⟩ = some (.string ⟨#[]⟩) := by rw [cell_of_row _ _ _ _ _ _ hG1]; rfl
  have f16 : W.frozen? ⟨G, 16, none⟩ = false := frozen_of_row _ _ _ _ _ hG1
  have c17 : W.cell? ⟨G, 17, none⟩ = some (.int .i64 0) := by rw [cell_of_row _ _ _ _ _ _ hG1]; rfl
  have f17 : W.frozen? ⟨G, 17, none⟩ = false := frozen_of_row _ _ _ _ _ hG1
  clear hb hB hR hG hB1 hR1 hG1
  go_upto_region 17 with fail
  go_region
  all_goals
    go_upto_region 20 with fail
    refine code_worldA (F := fun W' => Below G W W' ∧ W'.heap[G]? = some (.cells (recA (en, 6, 0, ⟨#[]⟩, 7, d)) 43 (0, 0))) ?hX ?_
    case hX =>
      refine ⟨?_, (by
          have h0 : ((((W.setCell ⟨G, 1, none⟩ (.int .i64 6)).setCell ⟨G, 15, none⟩ (.int .i64 7)).setCell ⟨G, 16, none⟩ (.string d)).setCell ⟨G, 17, none⟩ (.int .i64 0)).heap[G]? = some (.cells (recA (en, 6, 0, ⟨#[]⟩, 7, d)) 43 (0, 0)) := (chain_heap W G [(1, .int .i64 6), (15, .int .i64 7), (16, .string d), (17, .int .i64 0)] W _ HG.out).trans (by simp [recA])
          have h1 : ((((W.setCell ⟨G, 15, none⟩ (.int .i64 7)).setCell ⟨G, 16, none⟩ (.string d)).setCell ⟨G, 17, none⟩ (.int .i64 0)).setCell ⟨G, 1, none⟩ (.int .i64 6)).heap[G]? = some (.cells (recA (en, 6, 0, ⟨#[]⟩, 7, d)) 43 (0, 0)) := (chain_heap W G [(15, .int .i64 7), (16, .string d), (17, .int .i64 0), (1, .int .i64 6)] W _ HG.out).trans (by simp [recA])
          first | with_reducible exact h0 | (rw [heap_drew]; with_reducible exact h0) | with_reducible exact h1 | (rw [heap_drew]; with_reducible exact h1))⟩
      repeat (first | with_reducible refine bel_set ?_ _ | with_reducible refine Below.drew ?_ | with_reducible exact Below.refl _ _)
    rintro W' ⟨hb', hG'⟩
    have hR' : W'.heap[R]? = some (.cells zeroRec 43 (0, 0)) := (hb'.block R HRG.out).trans HR.out
    obtain ⟨A, hA⟩ : ∃ A, recA (en, 6, 0, ⟨#[]⟩, 7, d) = A := ⟨_, rfl⟩
    have hA18 : A.size = 18 := by rw [← hA]; rfl
    have hone : A.all (·.oneCell') = true := by rw [← hA]; exact recA_one _
    have hi := info43r A hA18
    rw [hA] at hG' ⊢
    have HB' : Hid (Below w.heap.size w W') := HBW.out.trans (hb'.mono hGl)
    have HG' := Lib.hid hG'
    have HR' := Lib.hid hR'
    have HON := Lib.hid hone
    have HSZ : Hid (zeroRec.size = A.size) := by unfold Hid; rw [hA18]; rfl
    have HAA := Lib.hid hA
    clear hb' hG' hR' hA18 hone hA
    go_wp2_with (first | ((with_reducible refine at_op (o := ⟨some 58, .load 43 (.tmp 3), _, _, _, _⟩) ?_); refine wpList_load_row rfl 43 (.tmp 3) rfl G rfl 43 A (0, 0) _ HG'.out Try.underlying43 rfl hi ?_) | ((with_reducible refine at_op (o := ⟨none, .store 43 (.tmp 2) (.tmp 58), _, _, _, _⟩) ?_); refine wpList_store_row rfl 43 (.tmp 2) (.tmp 58) rfl R A rfl rfl 43 zeroRec HR'.out hi HSZ.out HON.out ?_))
    exact bodyPost_ret (v := .agg A) (results_cell_row (p := 2) (ty := 43) rfl _ _ R 43 A (0, 0) _ rfl (setRow_heap _ _ _ _ _ _ HR'.out) Try.underlying43 rfl hi) rfl ⟨by rw [HAA.out], HB'.out.trans ((below_setRow3 _ HRW.out).mono (Nat.le_refl _))⟩

set_option maxHeartbeats 4000000 in
set_option maxRecDepth 100000 in
theorem record_6 (en how : Int) (d : ByteArray) (w : World) :
    Calls Try.prog 9 #[.agg #[.int .i64 en, .int .i64 2, .int .i64 how, .string d]] w (BelowR w (.agg (recA (en, 5, 8, d, 0, ⟨#[]⟩)))) := by
  go_enter Try.func9, Try.ntmps9
  go_upto_region 2 with (first | ((with_reducible refine at_op (o := ⟨none, .store 43 (.tmp 3) (.tmp 6), _, _, _, _⟩) ?_); refine wpList_store_row rfl 43 (.tmp 3) (.tmp 6) rfl (w.heap.size + 1 + 1) (recA (en, 0, 0, ⟨#[]⟩, 0, ⟨#[]⟩)) rfl rfl 43 zeroRec (third_new _ _ _ _) (info43r _ rfl) rfl (recA_one _) ?_))
  refine code_worldA (F := fun W => Below w.heap.size w W ∧ ∃ B R G, B = w.heap.size ∧ R = w.heap.size + 1 ∧ G = w.heap.size + 1 + 1 ∧ W.heap[B]? = some (.cells #[.int .i64 en, .int .i64 2, .int .i64 how, .string d] 31 (0, 0)) ∧ W.heap[R]? = some (.cells zeroRec 43 (0, 0)) ∧ W.heap[G]? = some (.cells (recA (en, 0, 0, ⟨#[]⟩, 0, ⟨#[]⟩)) 43 (0, 0))) (laid w _ _ _ _) ?_
  rintro W ⟨hb, B, R, G, hB, hR, hG, hB1, hR1, hG1⟩
  rw [← hG]
  rw [← hR]
  rw [← hB]
  have b0 : W.cell? ⟨B, 0, none⟩ = some (.int .i64 en) := by rw [cell_of_row _ _ _ _ _ _ hB1]; rfl
  have b1 : W.cell? ⟨B, 1, none⟩ = some (.int .i64 2) := by rw [cell_of_row _ _ _ _ _ _ hB1]; rfl
  have b2 : W.cell? ⟨B, 2, none⟩ = some (.int .i64 how) := by rw [cell_of_row _ _ _ _ _ _ hB1]; rfl
  have b3 : W.cell? ⟨B, 3, none⟩ = some (.string d) := by rw [cell_of_row _ _ _ _ _ _ hB1]; rfl
  have hBG : B ≠ G := by omega
  have hGl : w.heap.size ≤ G := by omega
  have HRG : Hid (R < G) := by unfold Hid; omega
  have HBW := Lib.hid hb
  have HRW : Hid (w.heap.size ≤ R) := by unfold Hid; omega
  have HR := Lib.hid hR1
  have HG := Lib.hid hG1
  have c1 : W.cell? ⟨G, 1, none⟩ = some (.int .i64 0) := by rw [cell_of_row _ _ _ _ _ _ hG1]; rfl
  have f1 : W.frozen? ⟨G, 1, none⟩ = false := frozen_of_row _ _ _ _ _ hG1
  have c10 : W.cell? ⟨G, 10, none⟩ = some (.int .i64 0) := by rw [cell_of_row _ _ _ _ _ _ hG1]; rfl
  have f10 : W.frozen? ⟨G, 10, none⟩ = false := frozen_of_row _ _ _ _ _ hG1
  have c11 : W.cell? ⟨G, 11, none⟩ = some (.string ⟨#[]⟩) := by rw [cell_of_row _ _ _ _ _ _ hG1]; rfl
  have f11 : W.frozen? ⟨G, 11, none⟩ = false := frozen_of_row _ _ _ _ _ hG1
  have c12 : W.cell? ⟨G, 12, none⟩ = some (.bool false) := by rw [cell_of_row _ _ _ _ _ _ hG1]; rfl
  have f12 : W.frozen? ⟨G, 12, none⟩ = false := frozen_of_row _ _ _ _ _ hG1
  have c13 : W.cell? ⟨G, 13, none⟩ = some (.int .u8 0) := by rw [cell_of_row _ _ _ _ _ _ hG1]; rfl
  have f13 : W.frozen? ⟨G, 13, none⟩ = false := frozen_of_row _ _ _ _ _ hG1
  have c14 : W.cell? ⟨G, 14, none⟩ = some (.int .i64 0) := by rw [cell_of_row _ _ _ _ _ _ hG1]; rfl
  have f14 : W.frozen? ⟨G, 14, none⟩ = false := frozen_of_row _ _ _ _ _ hG1
  clear hb hB hR hG hB1 hR1 hG1
  have E1 := store5 W.drew G _ 8 d HG.out rfl
  have E2 := store5 (W.drew.setCell ⟨G, 1, none⟩ (.int .i64 5)) G _ 8 d (heap_setCell_same _ _ _ _ _ _ HG.out) rfl
  go_upto_region 19 with fail
  go_region
  all_goals
    go_upto_region 20 with fail
    refine code_worldA (F := fun W' => Below G W W' ∧ W'.heap[G]? = some (.cells (recA (en, 5, 8, d, 0, ⟨#[]⟩)) 43 (0, 0))) ?hX ?_
    case hX =>
      refine ⟨?_, (by
          have h0 : ((((((W.setCell ⟨G, 1, none⟩ (.int .i64 5)).setCell ⟨G, 10, none⟩ (.int .i64 8)).setCell ⟨G, 11, none⟩ (.string d)).setCell ⟨G, 12, none⟩ (.bool false)).setCell ⟨G, 13, none⟩ (.int .u8 0)).setCell ⟨G, 14, none⟩ (.int .i64 0)).heap[G]? = some (.cells (recA (en, 5, 8, d, 0, ⟨#[]⟩)) 43 (0, 0)) := (chain_heap W G [(1, .int .i64 5), (10, .int .i64 8), (11, .string d), (12, .bool false), (13, .int .u8 0), (14, .int .i64 0)] W _ HG.out).trans (by simp [recA])
          have h1 : ((((((W.setCell ⟨G, 10, none⟩ (.int .i64 8)).setCell ⟨G, 11, none⟩ (.string d)).setCell ⟨G, 12, none⟩ (.bool false)).setCell ⟨G, 13, none⟩ (.int .u8 0)).setCell ⟨G, 14, none⟩ (.int .i64 0)).setCell ⟨G, 1, none⟩ (.int .i64 5)).heap[G]? = some (.cells (recA (en, 5, 8, d, 0, ⟨#[]⟩)) 43 (0, 0)) := (chain_heap W G [(10, .int .i64 8), (11, .string d), (12, .bool false), (13, .int .u8 0), (14, .int .i64 0), (1, .int .i64 5)] W _ HG.out).trans (by simp [recA])
          first | with_reducible exact h0 | (rw [heap_drew]; with_reducible exact h0) | with_reducible exact h1 | (rw [heap_drew]; with_reducible exact h1))⟩
      repeat (first | with_reducible refine bel_set ?_ _ | with_reducible refine Below.drew ?_ | with_reducible exact Below.refl _ _)
    rintro W' ⟨hb', hG'⟩
    have hR' : W'.heap[R]? = some (.cells zeroRec 43 (0, 0)) := (hb'.block R HRG.out).trans HR.out
    obtain ⟨A, hA⟩ : ∃ A, recA (en, 5, 8, d, 0, ⟨#[]⟩) = A := ⟨_, rfl⟩
    have hA18 : A.size = 18 := by rw [← hA]; rfl
    have hone : A.all (·.oneCell') = true := by rw [← hA]; exact recA_one _
    have hi := info43r A hA18
    rw [hA] at hG' ⊢
    have HB' : Hid (Below w.heap.size w W') := HBW.out.trans (hb'.mono hGl)
    have HG' := Lib.hid hG'
    have HR' := Lib.hid hR'
    have HON := Lib.hid hone
    have HSZ : Hid (zeroRec.size = A.size) := by unfold Hid; rw [hA18]; rfl
    have HAA := Lib.hid hA
    clear hb' hG' hR' hA18 hone hA
    go_wp2_with (first | ((with_reducible refine at_op (o := ⟨some 58, .load 43 (.tmp 3), _, _, _, _⟩) ?_); refine wpList_load_row rfl 43 (.tmp 3) rfl G rfl 43 A (0, 0) _ HG'.out Try.underlying43 rfl hi ?_) | ((with_reducible refine at_op (o := ⟨none, .store 43 (.tmp 2) (.tmp 58), _, _, _, _⟩) ?_); refine wpList_store_row rfl 43 (.tmp 2) (.tmp 58) rfl R A rfl rfl 43 zeroRec HR'.out hi HSZ.out HON.out ?_))
    exact bodyPost_ret (v := .agg A) (results_cell_row (p := 2) (ty := 43) rfl _ _ R 43 A (0, 0) _ rfl (setRow_heap _ _ _ _ _ _ HR'.out) Try.underlying43 rfl hi) rfl ⟨by rw [HAA.out], HB'.out.trans ((below_setRow3 _ HRW.out).mono (Nat.le_refl _))⟩

set_option maxHeartbeats 4000000 in
set_option maxRecDepth 100000 in
theorem record_7 (en how : Int) (d : ByteArray) (what x : Int) (w : World) (h : bits .and .i64 how 3 = x) (hx0 : 0 ≤ x) (hx3 : x ≤ 3) (h0 : (what == 0) = false) (h1 : (what == 1) = false) (h2 : (what == 2) = false) :
    Calls Try.prog 9 #[.agg #[.int .i64 en, .int .i64 what, .int .i64 how, .string d]] w (BelowR w (.agg (recA (en, 1 + x, 3, ⟨#[]⟩, 3, ⟨#[]⟩)))) := by
  go_enter Try.func9, Try.ntmps9
  go_upto_region 2 with (first | ((with_reducible refine at_op (o := ⟨none, .store 43 (.tmp 3) (.tmp 6), _, _, _, _⟩) ?_); refine wpList_store_row rfl 43 (.tmp 3) (.tmp 6) rfl (w.heap.size + 1 + 1) (recA (en, 0, 0, ⟨#[]⟩, 0, ⟨#[]⟩)) rfl rfl 43 zeroRec (third_new _ _ _ _) (info43r _ rfl) rfl (recA_one _) ?_))
  refine code_worldA (F := fun W => Below w.heap.size w W ∧ ∃ B R G, B = w.heap.size ∧ R = w.heap.size + 1 ∧ G = w.heap.size + 1 + 1 ∧ W.heap[B]? = some (.cells #[.int .i64 en, .int .i64 what, .int .i64 how, .string d] 31 (0, 0)) ∧ W.heap[R]? = some (.cells zeroRec 43 (0, 0)) ∧ W.heap[G]? = some (.cells (recA (en, 0, 0, ⟨#[]⟩, 0, ⟨#[]⟩)) 43 (0, 0))) (laid w _ _ _ _) ?_
  rintro W ⟨hb, B, R, G, hB, hR, hG, hB1, hR1, hG1⟩
  rw [← hG]
  rw [← hR]
  rw [← hB]
  have b0 : W.cell? ⟨B, 0, none⟩ = some (.int .i64 en) := by rw [cell_of_row _ _ _ _ _ _ hB1]; rfl
  have b1 : W.cell? ⟨B, 1, none⟩ = some (.int .i64 what) := by rw [cell_of_row _ _ _ _ _ _ hB1]; rfl
  have b2 : W.cell? ⟨B, 2, none⟩ = some (.int .i64 how) := by rw [cell_of_row _ _ _ _ _ _ hB1]; rfl
  have b3 : W.cell? ⟨B, 3, none⟩ = some (.string d) := by rw [cell_of_row _ _ _ _ _ _ hB1]; rfl
  have hBG : B ≠ G := by omega
  have hGl : w.heap.size ≤ G := by omega
  have HRG : Hid (R < G) := by unfold Hid; omega
  have HBW := Lib.hid hb
  have HRW : Hid (w.heap.size ≤ R) := by unfold Hid; omega
  have HR := Lib.hid hR1
  have HG := Lib.hid hG1
  have c1 : W.cell? ⟨G, 1, none⟩ = some (.int .i64 0) := by rw [cell_of_row _ _ _ _ _ _ hG1]; rfl
  have f1 : W.frozen? ⟨G, 1, none⟩ = false := frozen_of_row _ _ _ _ _ hG1
  have c10 : W.cell? ⟨G, 10, none⟩ = some (.int .i64 0) := by rw [cell_of_row _ _ _ _ _ _ hG1]; rfl
  have f10 : W.frozen? ⟨G, 10, none⟩ = false := frozen_of_row _ _ _ _ _ hG1
  have c11 : W.cell? ⟨G, 11, none⟩ = some (.string ⟨#[]⟩) := by rw [cell_of_row _ _ _ _ _ _ hG1]; rfl
  have f11 : W.frozen? ⟨G, 11, none⟩ = false := frozen_of_row _ _ _ _ _ hG1
  have c12 : W.cell? ⟨G, 12, none⟩ = some (.bool false) := by rw [cell_of_row _ _ _ _ _ _ hG1]; rfl
  have f12 : W.frozen? ⟨G, 12, none⟩ = false := frozen_of_row _ _ _ _ _ hG1
  have c13 : W.cell? ⟨G, 13, none⟩ = some (.int .u8 0) := by rw [cell_of_row _ _ _ _ _ _ hG1]; rfl
  have f13 : W.frozen? ⟨G, 13, none⟩ = false := frozen_of_row _ _ _ _ _ hG1
  have c14 : W.cell? ⟨G, 14, none⟩ = some (.int .i64 0) := by rw [cell_of_row _ _ _ _ _ _ hG1]; rfl
  have f14 : W.frozen? ⟨G, 14, none⟩ = false := frozen_of_row _ _ _ _ _ hG1
  have c15 : W.cell? ⟨G, 15, none⟩ = some (.int .i64 0) := by rw [cell_of_row _ _ _ _ _ _ hG1]; rfl
  have f15 : W.frozen? ⟨G, 15, none⟩ = false := frozen_of_row _ _ _ _ _ hG1
  have c16 : W.cell? ⟨G, 16, none⟩ = some (.string ⟨#[]⟩) := by rw [cell_of_row _ _ _ _ _ _ hG1]; rfl
  have f16 : W.frozen? ⟨G, 16, none⟩ = false := frozen_of_row _ _ _ _ _ hG1
  have c17 : W.cell? ⟨G, 17, none⟩ = some (.int .i64 0) := by rw [cell_of_row _ _ _ _ _ _ hG1]; rfl
  have f17 : W.frozen? ⟨G, 17, none⟩ = false := frozen_of_row _ _ _ _ _ hG1
  clear hb hB hR hG hB1 hR1 hG1
  have E2 := store5 (W.setCell ⟨G, 1, none⟩ (.int .i64 (1 + x))) G _ 3 ⟨#[]⟩ (heap_setCell_same _ _ _ _ _ _ HG.out) rfl
  go_upto_region 20 with fail
  refine code_worldA (F := fun W' => Below G W W' ∧ W'.heap[G]? = some (.cells (recA (en, 1 + x, 3, ⟨#[]⟩, 3, ⟨#[]⟩)) 43 (0, 0))) ?hX ?_
  case hX =>
    refine ⟨?_, (by
          have h0 : (((((((((W.setCell ⟨G, 1, none⟩ (.int .i64 (1 + x))).setCell ⟨G, 10, none⟩ (.int .i64 3)).setCell ⟨G, 11, none⟩ (.string ⟨#[]⟩)).setCell ⟨G, 12, none⟩ (.bool false)).setCell ⟨G, 13, none⟩ (.int .u8 0)).setCell ⟨G, 14, none⟩ (.int .i64 0)).setCell ⟨G, 15, none⟩ (.int .i64 3)).setCell ⟨G, 16, none⟩ (.string ⟨#[]⟩)).setCell ⟨G, 17, none⟩ (.int .i64 0)).heap[G]? = some (.cells (recA (en, 1 + x, 3, ⟨#[]⟩, 3, ⟨#[]⟩)) 43 (0, 0)) := (chain_heap W G [(1, .int .i64 (1 + x)), (10, .int .i64 3), (11, .string ⟨#[]⟩), (12, .bool false), (13, .int .u8 0), (14, .int .i64 0), (15, .int .i64 3), (16, .string ⟨#[]⟩), (17, .int .i64 0)] W _ HG.out).trans (by simp [recA])
          first | with_reducible exact h0 | (rw [heap_drew]; with_reducible exact h0))⟩
    repeat (first | with_reducible refine bel_set ?_ _ | with_reducible refine Below.drew ?_ | with_reducible exact Below.refl _ _)
  rintro W' ⟨hb', hG'⟩
  have hR' : W'.heap[R]? = some (.cells zeroRec 43 (0, 0)) := (hb'.block R HRG.out).trans HR.out
  obtain ⟨A, hA⟩ : ∃ A, recA (en, 1 + x, 3, ⟨#[]⟩, 3, ⟨#[]⟩) = A := ⟨_, rfl⟩
  have hA18 : A.size = 18 := by rw [← hA]; rfl
  have hone : A.all (·.oneCell') = true := by rw [← hA]; exact recA_one _
  have hi := info43r A hA18
  rw [hA] at hG' ⊢
  have HB' : Hid (Below w.heap.size w W') := HBW.out.trans (hb'.mono hGl)
  have HG' := Lib.hid hG'
  have HR' := Lib.hid hR'
  have HON := Lib.hid hone
  have HSZ : Hid (zeroRec.size = A.size) := by unfold Hid; rw [hA18]; rfl
  have HAA := Lib.hid hA
  clear hb' hG' hR' hA18 hone hA
  go_wp2_with (first | ((with_reducible refine at_op (o := ⟨some 58, .load 43 (.tmp 3), _, _, _, _⟩) ?_); refine wpList_load_row rfl 43 (.tmp 3) rfl G rfl 43 A (0, 0) _ HG'.out Try.underlying43 rfl hi ?_) | ((with_reducible refine at_op (o := ⟨none, .store 43 (.tmp 2) (.tmp 58), _, _, _, _⟩) ?_); refine wpList_store_row rfl 43 (.tmp 2) (.tmp 58) rfl R A rfl rfl 43 zeroRec HR'.out hi HSZ.out HON.out ?_))
  exact bodyPost_ret (v := .agg A) (results_cell_row (p := 2) (ty := 43) rfl _ _ R 43 A (0, 0) _ rfl (setRow_heap _ _ _ _ _ _ HR'.out) Try.underlying43 rfl hi) rfl ⟨by rw [HAA.out], HB'.out.trans ((below_setRow3 _ HRW.out).mono (Nat.le_refl _))⟩

abbrev NoteT := Int × Int × Int × ByteArray
def noteA (x : NoteT) : Array Value := #[.int .i64 x.1, .int .i64 x.2.1, .int .i64 x.2.2.1, .string x.2.2.2]
def recOf (x : NoteT) : RecT :=
  if x.2.1 = 0 then
    if bits .and .i64 x.2.2.1 7 = 0 then (x.1, 6, 0, ⟨#[]⟩, 2, ⟨#[]⟩)
    else if bits .and .i64 x.2.2.1 7 = 1 then (x.1, 6, 0, ⟨#[]⟩, 5, ⟨#[]⟩)
    else if bits .and .i64 x.2.2.1 7 = 2 then (x.1, 6, 0, ⟨#[]⟩, 6, ⟨#[]⟩)
    else if bits .and .i64 x.2.2.1 7 = 3 then (x.1, 5, 2, ⟨#[]⟩, 0, ⟨#[]⟩)
    else (x.1, 5, 6, ⟨#[]⟩, 0, ⟨#[]⟩)
  else if x.2.1 = 1 then (x.1, 6, 0, ⟨#[]⟩, 7, x.2.2.2)
  else if x.2.1 = 2 then (x.1, 5, 8, x.2.2.2, 0, ⟨#[]⟩)
  else (x.1, 1 + bits .and .i64 x.2.2.1 3, 3, ⟨#[]⟩, 3, ⟨#[]⟩)
theorem and3 (x : Int) : 0 ≤ bits .and .i64 x 3 ∧ bits .and .i64 x 3 ≤ 3 := by
  have h : bits .and .i64 x 3 = x % 4 := by
    show IntKind.i64.wrap ((BitVec.ofInt 64 x &&& BitVec.ofInt 64 3).toNat : Int) = _
    have h1 : (BitVec.ofInt 64 3).toNat = 3 := by decide
    rw [BitVec.toNat_and, h1, show (3 : Nat) = 2 ^ 2 - 1 from rfl, Nat.and_two_pow_sub_one_eq_mod, BitVec.toNat_ofInt]
    have e : (((x % ((2 ^ 64 : Nat) : Int)).toNat % 2 ^ 2 : Nat) : Int) = x % 4 := by omega
    rw [e]
    exact IntWalk.i64_in _ (by omega)
  omega
theorem record_calls (x : NoteT) (w : World) : Calls Try.prog 9 #[.agg (noteA x)] w (BelowR w (.agg (recA (recOf x)))) := by
  obtain ⟨en, what, how, d⟩ := x
  unfold noteA recOf
  simp only
  by_cases h0 : what = 0
  · subst h0
    rw [if_pos rfl]
    by_cases a0 : bits .and .i64 how 7 = 0
    · rw [if_pos a0]; exact record_0 en how d w a0
    · rw [if_neg a0]
      by_cases a1 : bits .and .i64 how 7 = 1
      · rw [if_pos a1]; exact record_1 en how d w a1
      · rw [if_neg a1]
        by_cases a2 : bits .and .i64 how 7 = 2
        · rw [if_pos a2]; exact record_2 en how d w a2
        · rw [if_neg a2]
          by_cases a3 : bits .and .i64 how 7 = 3
          · rw [if_pos a3]; exact record_3 en how d w a3
          · rw [if_neg a3]
            exact record_4 en how d _ w rfl (beq_eq_false_iff_ne.2 a0) (beq_eq_false_iff_ne.2 a1) (beq_eq_false_iff_ne.2 a2) (beq_eq_false_iff_ne.2 a3)
  · rw [if_neg h0]
    by_cases h1 : what = 1
    · subst h1; rw [if_pos rfl]; exact record_5 en how d w
    · rw [if_neg h1]
      by_cases h2 : what = 2
      · subst h2; rw [if_pos rfl]; exact record_6 en how d w
      · rw [if_neg h2]
        exact record_7 en how d what _ w rfl (and3 how).1 (and3 how).2 (beq_eq_false_iff_ne.2 h0) (beq_eq_false_iff_ne.2 h1) (beq_eq_false_iff_ne.2 h2)
end Go.Proofs.Ytjjnhndlollldaa.Ep
