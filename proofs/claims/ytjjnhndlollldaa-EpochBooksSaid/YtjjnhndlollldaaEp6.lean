/-
epoch.Book.Add: what the call leaves of a book is what plain lists say. Conditions: lengths within a million.
-/
import Derived.Test.YtjjnhndlollldaaEp5
import Derived.Deep.MidRow
import Derived.Deep.CutRange
namespace Go.Proofs.Ytjjnhndlollldaa.Ep
set_option linter.unusedVariables false
open Go.RowKit Go.Proofs.Ytjjnhndlollldaa.Args

theorem info49 : (Try.prog.info? 49).map (fun i => (i.zero, i.size, i.bytes)) = some (some (.agg #[.slice none 0 0, .slice none 0 0]), 2, 48) := by kernel_rfl
theorem info9 : (Try.prog.info? 9).map (fun i => (i.zero, i.size, i.bytes)) = some (some (.string ⟨#[]⟩), 1, 16) := by kernel_rfl
/-- What a record does to a book. -/
def addR (st : St) (r : RecT) : St :=
  if 0 ≤ r.1 ∧ r.1 < 2 then
    if bg r.2.1 r.2.2.1 r.2.2.2.2.1 = true then addSt st r.1.toNat
    else if (st r.1.toNat).length = 0 then st
    else if r.2.1 = 6 ∧ r.2.2.2.2.1 = 7 then modSt st r.1.toNat ((st r.1.toNat).length - 1) 0 r.2.2.2.2.2
    else if r.2.1 = 5 ∧ r.2.2.1 = 8 then modSt st r.1.toNat ((st r.1.toNat).length - 1) 1 r.2.2.2.1
    else st
  else st
/-- Not more than so many, anywhere. -/
def Cap (st : St) (M : Nat) : Prop := ∀ e, (st e).length ≤ M ∧ ∀ i k, (cont (st e) i k).length ≤ M
def BkO (w wr : World) (P : Nat) (v : Nat → Value) (u : Nat → Nat → Nat → Value) (st st' : St) (w' : World) : Prop := ∃ v' u', Bk w w' P v' u' st' ∧ Led P v u st wr w' v' u' st'
theorem info43 (A : Array Value) (h : A.size = 18) : (Try.prog.info? 43).map (·.size) = some A.size := by rw [h]; kernel_rfl
theorem wpList_load_rec {ops : Array Oper} {rest : List Oper} {op : Oper} {a : Act} {w : World} {Q : Exit → Act → World → Prop} (hgd : op.guard = none) (ty : TypeId) (x : Operand) (ho : op.op = .load ty x)
    (b o : Nat) (hx : a.eval x = .pointer (some ⟨b, o, none⟩)) (A : Array Value) {d : TypeDesc} (hc : w.rangeAt b o A.toList)
    (hu : Try.prog.underlying ty = some d) (hd : d.isRow = true) (hi : (Try.prog.info? ty).map (·.size) = some A.size)
    (h : wpList Try.prog ops Q rest (a.put op.dst (.agg A)) w) : wpList Try.prog ops Q (op :: rest) a w :=
  wpList_load_mid hgd ty x ho b o hx A.toList d hc hu hd (by rw [hi]; simp) (by simpa using h)
theorem bg_cases {kind sk rk : Int} (h : bg kind sk rk = true) : ((kind == 5) = true ∧ (sk == 8) = false ∧ (kind == 6) = false) ∨ ((kind == 6) = true ∧ (rk == 7) = false ∧ (kind == 5) = false) := by
  unfold bg at h
  simp only [Bool.or_eq_true, Bool.and_eq_true, beq_iff_eq] at h
  rcases h with ⟨h1, h2⟩ | ⟨h1, h2⟩
  · exact .inl ⟨beq_iff_eq.2 h1, beq_eq_false_iff_ne.2 (by omega), beq_eq_false_iff_ne.2 (by omega)⟩
  · exact .inr ⟨beq_iff_eq.2 h1, beq_eq_false_iff_ne.2 (by omega), beq_eq_false_iff_ne.2 (by omega)⟩
theorem below_setRow2 {w : World} {B g : Nat} (cs : Array Value) (h : B ≤ g) : Below B w (w.setRow g cs) :=
  ⟨rfl, rfl, rfl, by simp [World.setRow], fun k hk => by simp only [World.setRow, Array.getElem?_modify]; rw [if_neg (by omega)]⟩
theorem begins_to (A : Array Value) (en kind sk rk : Int) (sd rd : ByteArray) (b : Bool) (w : World) (hA : Hid (recA (en, kind, sk, sd, rk, rd) = A)) (hb : Hid (bg kind sk rk = b)) : Calls Try.prog 15 #[.agg A] w (BelowR w (.bool b)) := by
  rw [← hA.out]; exact begins_calls en kind sk rk sd rd b w hb
section
variable {w wr w1 : World} {P : Nat} {v : Nat → Value} {u : Nat → Nat → Nat → Value} {st : St}
theorem Bk.foot_lt (h : Bk w wr P v u st) {b : Nat} (hb : BF P v u st b) : b < wr.heap.size := by
  rcases hb with rfl | ⟨e, p, he, hp, hb⟩
  · exact h.lt
  · exact (h.pl_lt he hp hb).2
/-- Behind an append to the row of epochs. -/
theorem Bk.finEpoch (h : Bk w wr P v u st) {e0 g cap : Nat} (he0 : e0 < 2) (hg : wr.grownBy w1 (v e0).ownBlock) (ho : w1.ownsRow w.heap.size 49 2 (.slice (some ⟨g, 0, none⟩) ((st e0).length + 1) cap) ((st e0).length + 1) (flat (u e0) (st e0).length ++ [nilV, nilV])) (ha : (v e0).ownBlock = some g ∨ g = wr.heap.size) :
    (Bk w (w1.setCell ⟨P, e0, none⟩ (.slice (some ⟨g, 0, none⟩) ((st e0).length + 1) cap)) P (setV v e0 (.slice (some ⟨g, 0, none⟩) ((st e0).length + 1) cap)) (newU u e0 (st e0).length) (addSt st e0) ∧ Led P v u st wr (w1.setCell ⟨P, e0, none⟩ (.slice (some ⟨g, 0, none⟩) ((st e0).length + 1) cap)) (setV v e0 (.slice (some ⟨g, 0, none⟩) ((st e0).length + 1) cap)) (newU u e0 (st e0).length) (addSt st e0)) ∧ w1.cell? ⟨P, e0, none⟩ = some (v e0) ∧ w1.frozen? ⟨P, e0, none⟩ = false := by
  have ha2 : (Value.slice (some ⟨g, 0, none⟩) ((st e0).length + 1) cap).ownBlock = (v e0).ownBlock ∨ ∃ b, (Value.slice (some ⟨g, 0, none⟩) ((st e0).length + 1) cap).ownBlock = some b ∧ wr.heap.size ≤ b := by
    rcases ha with ha | ha
    · exact .inl ha.symm
    · exact .inr ⟨g, rfl, by omega⟩
  have hP : some P ≠ (v e0).ownBlock := fun e => h.far e0 0 he0 (by omega) (by unfold pl; rw [if_pos rfl]; exact e.symm)
  have hb0 : w1.heap[P]? = wr.heap[P]? := hg.block P h.lt hP
  exact ⟨⟨h.addEpoch he0 hg ho ha2, h.ledEpoch he0 hg ha2⟩, (World.cell?_of_block (a := ⟨P, e0, none⟩) hb0).trans (h.cell e0 he0), frozen_of_row _ _ _ _ _ (hb0.trans h.blk)⟩
/-- Behind an append to a list of texts. -/
theorem Bk.finText (h : Bk w wr P v u st) {e0 i0 k0 g cap gt capt : Nat} {x : ByteArray} (he0 : e0 < 2) (hi0 : i0 < (st e0).length) (hk0 : k0 < 2) (hv : v e0 = .slice (some ⟨g, 0, none⟩) (st e0).length cap) (hg : wr.grownBy w1 (u e0 i0 k0).ownBlock) (ho : w1.ownsRow w.heap.size 9 1 (.slice (some ⟨gt, 0, none⟩) ((cont (st e0) i0 k0).length + 1) capt) ((cont (st e0) i0 k0).length + 1) ((cont (st e0) i0 k0).map Value.string ++ [Value.string x])) (ha : (u e0 i0 k0).ownBlock = some gt ∨ gt = wr.heap.size) :
    (Bk w (w1.setCell ⟨g, i0 * 2 + k0, none⟩ (.slice (some ⟨gt, 0, none⟩) ((cont (st e0) i0 k0).length + 1) capt)) P v (setU u e0 i0 k0 (.slice (some ⟨gt, 0, none⟩) ((cont (st e0) i0 k0).length + 1) capt)) (modSt st e0 i0 k0 x) ∧ Led P v u st wr (w1.setCell ⟨g, i0 * 2 + k0, none⟩ (.slice (some ⟨gt, 0, none⟩) ((cont (st e0) i0 k0).length + 1) capt)) v (setU u e0 i0 k0 (.slice (some ⟨gt, 0, none⟩) ((cont (st e0) i0 k0).length + 1) capt)) (modSt st e0 i0 k0 x)) ∧ w1.cell? ⟨g, i0 * 2 + k0, none⟩ = some (u e0 i0 k0) ∧ w1.frozen? ⟨g, i0 * 2 + k0, none⟩ = false := by
  have ha2 : (Value.slice (some ⟨gt, 0, none⟩) ((cont (st e0) i0 k0).length + 1) capt).ownBlock = (u e0 i0 k0).ownBlock ∨ ∃ b, (Value.slice (some ⟨gt, 0, none⟩) ((cont (st e0) i0 k0).length + 1) capt).ownBlock = some b ∧ wr.heap.size ≤ b := by
    rcases ha with ha | ha
    · exact .inl ha.symm
    · exact .inr ⟨gt, rfl, by omega⟩
  have hp1 : pl v u e0 (1 + 2 * i0 + k0) = (u e0 i0 k0).ownBlock := by
    unfold pl
    rw [if_neg (by omega), show (1 + 2 * i0 + k0 - 1) / 2 = i0 by omega, show (1 + 2 * i0 + k0 - 1) % 2 = k0 by omega]
  have hp0 : pl v u e0 0 = some g := by unfold pl; rw [if_pos rfl, hv]; rfl
  have hgx : some g ≠ (u e0 i0 k0).ownBlock := fun e => by
    have := (h.sep e0 0 e0 (1 + 2 * i0 + k0) g he0 (by omega) he0 (by omega) hp0 (by rw [hp1]; exact e.symm)).2
    omega
  have hr := h.row e0 he0
  rw [hv] at hr
  have hr1 : w1.ownsRow w.heap.size 49 2 (.slice (some ⟨g, 0, none⟩) (st e0).length cap) (st e0).length (flat (u e0) (st e0).length) := row_keep hr (fun b hb => by
    injection hb with hb
    subst hb
    exact hg.block _ (h.pl_lt he0 (by omega) hp0).2 hgx)
  obtain ⟨c1, c2⟩ := row_cell hr1 (by omega) (flat_get (u e0) _ i0 k0 hi0 hk0)
  exact ⟨⟨h.addText he0 hi0 hk0 hv hg ho ha2, h.ledText he0 hi0 hk0 hv hg ha2⟩, c1, c2⟩
end
theorem Cap.more {st : St} {M : Nat} (h : Cap st M) : Cap st (M + 1) := fun e => ⟨by have := (h e).1; omega, fun i k => by have := (h e).2 i k; omega⟩
theorem Cap.add {st : St} {M : Nat} (h : Cap st M) (e0 : Nat) : Cap (addSt st e0) (M + 1) := fun e => by
  by_cases hee : e = e0
  · subst hee
    rw [addSt_self]
    refine ⟨by have := (h e).1; simp; omega, fun i k => ?_⟩
    by_cases hi : i < (st e).length
    · rw [cont_old hi]; have := (h e).2 i k; omega
    · by_cases hi2 : i = (st e).length
      · subst hi2; rw [cont_new]; simp
      · have hn : (st e ++ [(([], []) : EpT)])[i]? = none := List.getElem?_eq_none (by simp; omega)
        unfold cont
        rw [List.getD_eq_getElem?_getD, hn]
        split <;> simp
  · rw [addSt_other st hee]; exact h.more e
theorem Cap.mod {st : St} {M : Nat} (h : Cap st M) (e0 i0 k0 : Nat) (x : ByteArray) : Cap (modSt st e0 i0 k0 x) (M + 1) := fun e => by
  refine ⟨by rw [modSt_len]; have := (h e).1; omega, fun i k => ?_⟩
  have hM := (h e).2 i k
  unfold modSt
  split
  · rename_i hee
    subst hee
    unfold cont at *
    rw [List.getD_eq_getElem?_getD, List.getElem?_modify]
    rw [List.getD_eq_getElem?_getD] at hM
    cases hq : (st e)[i]? with
    | none => rw [hq] at hM; split <;> simp
    | some q =>
      rw [hq] at hM
      by_cases hii : i0 = i
      · by_cases h0 : k0 = 0 <;> by_cases hk : k = 0 <;> simp [hii, h0, hk, addTx] at hM ⊢ <;> omega
      · by_cases hk : k = 0 <;> simp [hii, hk] at hM ⊢ <;> omega
  · omega
set_option maxHeartbeats 8000000 in
set_option maxRecDepth 100000 in
theorem add_calls (w wr0 : World) (P : Nat) (v0 : Nat → Value) (u0 : Nat → Nat → Nat → Value) (st0 : St) (s : Option Addr) (m c M : Nat) (rs : List RecT) (h : Hid (Bk w wr0 P v0 u0 st0)) (ha : Hid (ArgRow 18 recV wr0 s m rs)) (hs : Hid (∀ b off, s = some ⟨b, off, none⟩ → ¬ BF P v0 u0 st0 b)) (hM : Hid (Cap st0 M)) (hMm : M + m ≤ 1000000) :
    Calls Try.prog 8 #[.pointer (some ⟨P, 0, none⟩), .slice s m c] wr0 fun e w' => e = .returned (.tuple #[]) ∧ BkO w wr0 P v0 u0 st0 (rs.foldl addR st0) w' := by
  go_enter Try.func8, Try.ntmps8
  go_wp2_with fail
  go_loopw [5, 6, 9] (fun _ _ iv wr => ∃ (i : Nat) (v : Nat → Value) (u : Nat → Nat → Nat → Value) (st : St), i ≤ m ∧ iv = .int .i64 i ∧ Hid (st = (rs.take i).foldl addR st0) ∧ Hid (Cap st (M + i)) ∧ Hid (Bk w wr P v u st) ∧ Hid (Led P v0 u0 st0 wr0 wr v u st)) (fun _ _ iv _ => m - (intOf iv).toNat)
  case atStart => exact ⟨0, v0, u0, st0, by omega, rfl, rfl, hM, h, Led.of_below (Below.refl _ _)⟩
  case round =>
    obtain ⟨i, v, u, st, him, rfl, HST, HCAP, HB, HL⟩ := hrel
    by_cases hlt : i < m
    · obtain ⟨b, off, rfl, hbw, hc⟩ := ha.out.form (by omega)
      have hil : i < rs.length := by rw [ha.out.len]; exact hlt
      obtain ⟨z, hz⟩ : ∃ z, rs[i] = z := ⟨_, rfl⟩
      have hkeep : ∀ j, wr.cell? ⟨b, j, none⟩ = wr0.cell? ⟨b, j, none⟩ := fun j => World.cell?_of_block (HL.out.block b hbw (hs.out b off rfl))
      have hR : wr.rangeAt b (off + i * 18) (recA z).toList := fun j x hx => by rw [hkeep]; exact hc i hil j x (by rw [hz]; exact hx)
      have HST2 : Hid ((rs.take (i + 1)).foldl addR st0 = addR st z) := by
        unfold Hid
        rw [List.take_succ_eq_append_getElem hil, List.foldl_append, ← HST.out, hz]
        rfl
      have hA18 : (recA z).size = 18 := rfl
      have hone : (recA z).all (·.oneCell') = true := by simp [recA, Value.oneCell']
      obtain ⟨en, kind, sk, sd, rk, rd⟩ := z
      obtain ⟨A, hA⟩ : ∃ A, recA (en, kind, sk, sd, rk, rd) = A := ⟨_, rfl⟩
      rw [hA] at hR hA18 hone
      have HA := Lib.hid hA
      have HR := Lib.hid hR
      have HA18 := Lib.hid hA18
      have HONE := Lib.hid hone
      have hi43 := info43 A HA18.out
      clear hc hz hil hkeep hA hR hA18 hone
      go_upto_region 3 with (first | (refine wpList_load_rec rfl 43 (.tmp 11) rfl b (off + i * 18) rfl A HR.out Try.underlying43 rfl hi43 ?_) | (refine wpList_store_row rfl 43 (.tmp 5) (.tmp 12) rfl wr.heap.size A rfl rfl 43 _ (Go.heap_alloc_new wr _) hi43 (by rw [HA18.out]; rfl) HONE.out ?_))
      refine code_worldA (F := fun W => Below wr.heap.size wr W ∧ ∃ X, X = wr.heap.size ∧ W.heap[X]? = some (.cells A 43 (0, 0))) ⟨((Below.refl _ _).alloc (Nat.le_refl _) _).trans ((below_setRow2 _ (Nat.le_refl _)).mono (Nat.le_refl _)), _, rfl, setRow_heap _ _ _ _ _ _ (Go.heap_alloc_new wr _)⟩ ?_
      rintro W ⟨hW, X, hX, hXA⟩
      rw [← hX]
      have HW := Lib.hid hW
      have HXA := Lib.hid hXA
      have hXf : ¬ BF P v u st X := fun hb => by have := HB.out.foot_lt hb; omega
      have HXF := Lib.hid hXf
      have HB1 := Lib.hid (HB.out.on hW)
      have HL1 := Lib.hid (HL.out.on hW)
      have x0 : W.cell? ⟨X, 0, none⟩ = some (.int .i64 en) := by rw [cell_of_row _ _ _ _ _ _ hXA, ← HA.out]; rfl
      have HCAP2 := Lib.hid HCAP.out.more
      clear hW hX hXA hXf
      by_cases hen : 0 ≤ en ∧ en < 2
      · obtain ⟨e0, rfl⟩ : ∃ e0 : Nat, en = (e0 : Int) := ⟨en.toNat, by omega⟩
        have he0 : e0 < 2 := by omega
        have hd1 : (0 : Int) ≤ (e0 : Int) := by omega
        have hd2 : (e0 : Int) < 2 := by omega
        have hd3 : decide ((2 : Int) ≤ (e0 : Int)) = false := decide_eq_false (by omega)
        have hd4 : decide ((e0 : Int) < 0) = false := decide_eq_false (by omega)
        have HE0 := Lib.hid he0
        have HEN := Lib.hid hen
        obtain ⟨bb, hbb⟩ : ∃ bb, bg kind sk rk = bb := ⟨_, rfl⟩
        have HBG := Lib.hid hbb
        clear hen hbb
        go_wp2_with (first | (refine wpList_load_row rfl 43 (.tmp 5) rfl X rfl 43 A (0, 0) _ HXA.out Try.underlying43 rfl hi43 ?_))
        refine (begins_to A (e0 : Int) kind sk rk sd rd bb W HA HBG).mono ?_
        rintro e w3 ⟨rfl, hb3⟩
        have hx3 : w3.heap[X]? = some (.cells A 43 (0, 0)) := (hb3.block X (Array.getElem?_eq_some_iff.1 HXA.out).1).trans HXA.out
        have HX3 := Lib.hid hx3
        have HBK := Lib.hid (HB1.out.on hb3)
        have HLD := Lib.hid (HL1.out.on hb3)
        have y0 : w3.cell? ⟨X, 0, none⟩ = some (.int .i64 (e0 : Int)) := by rw [cell_of_row _ _ _ _ _ _ hx3, ← HA.out]; rfl
        have Y0 := Lib.hid y0
        have y1 : w3.cell? ⟨X, 1, none⟩ = some (.int .i64 kind) := by rw [cell_of_row _ _ _ _ _ _ hx3, ← HA.out]; rfl
        have y10 : w3.cell? ⟨X, 10, none⟩ = some (.int .i64 sk) := by rw [cell_of_row _ _ _ _ _ _ hx3, ← HA.out]; rfl
        have y11 : w3.cell? ⟨X, 11, none⟩ = some (.string sd) := by rw [cell_of_row _ _ _ _ _ _ hx3, ← HA.out]; rfl
        have y15 : w3.cell? ⟨X, 15, none⟩ = some (.int .i64 rk) := by rw [cell_of_row _ _ _ _ _ _ hx3, ← HA.out]; rfl
        have y16 : w3.cell? ⟨X, 16, none⟩ = some (.string rd) := by rw [cell_of_row _ _ _ _ _ _ hx3, ← HA.out]; rfl
        have hXl : X < w3.heap.size := (Array.getElem?_eq_some_iff.1 hx3).1
        have hPl : P < w3.heap.size := HBK.out.lt
        have hXP : X ≠ P := fun e => HXF.out (.inl e)
        have hws : w.heap.size ≤ w3.heap.size := HBK.out.below.size
        have HXS := Lib.hid hXl
        clear hb3 hx3 x0
        obtain ⟨nn, hnn⟩ : ∃ nn, (st e0).length = nn := ⟨_, rfl⟩
        have hnM : nn ≤ 1000000 := by rw [← hnn]; have := (HCAP.out e0).1; omega
        obtain ⟨sp, sc, hv⟩ := row_form (HBK.out.row e0 HE0.out)
        rw [hnn] at hv
        have yP : w3.cell? ⟨P, e0, none⟩ = some (.slice sp nn sc) := by rw [← hv]; exact HBK.out.cell e0 HE0.out
        have HV := Lib.hid hv
        have HNN := Lib.hid hnn
        clear hv hnn
        cases bb with
        | true =>
          have HROW : Hid (∀ W', Below w3.heap.size w3 W' → W'.ownsRow w.heap.size 49 2 (.slice sp nn sc) nn (flat (u e0) nn)) := fun W' hW' => by
            have := (HBK.out.on hW').row e0 HE0.out
            rwa [HV.out, HNN.out] at this
          have HFE : Hid (∀ W' w1 g cap, Below w3.heap.size w3 W' → W'.grownBy w1 (Value.slice sp nn sc).ownBlock → w1.ownsRow w.heap.size 49 2 (.slice (some ⟨g, 0, none⟩) (nn + 1) cap) (nn + 1) (flat (u e0) nn ++ [.slice none 0 0, .slice none 0 0]) → ((Value.slice sp nn sc).ownBlock = some g ∨ g = W'.heap.size) → (Bk w (w1.setCell ⟨P, e0, none⟩ (.slice (some ⟨g, 0, none⟩) (nn + 1) cap)) P (setV v e0 (.slice (some ⟨g, 0, none⟩) (nn + 1) cap)) (newU u e0 nn) (addSt st e0) ∧ Led P v u st W' (w1.setCell ⟨P, e0, none⟩ (.slice (some ⟨g, 0, none⟩) (nn + 1) cap)) (setV v e0 (.slice (some ⟨g, 0, none⟩) (nn + 1) cap)) (newU u e0 nn) (addSt st e0)) ∧ w1.cell? ⟨P, e0, none⟩ = some (.slice sp nn sc) ∧ w1.frozen? ⟨P, e0, none⟩ = false ∧ w1.heap[X]? = w3.heap[X]?) := fun W' w1 g cap hW' hg ho ha => by
            have := (HBK.out.on hW').finEpoch HE0.out (by rw [HV.out]; exact hg) (by rw [HNN.out]; exact ho) (by rw [HV.out]; exact ha)
            rw [HV.out, HNN.out] at this
            exact ⟨this.1, this.2.1, this.2.2, (hg.block X (Nat.lt_of_lt_of_le HXS.out hW'.size) (fun q => HXF.out (.inr ⟨e0, 0, HE0.out, by omega, by unfold pl; rw [if_pos rfl, HV.out]; exact q.symm⟩))).trans (hW'.block X HXS.out)⟩
          obtain ⟨i0, hi0, hz0, hz1, hz2⟩ := info_parts info49
          have HI := Lib.hid hi0
          have HZ0 := Lib.hid hz0
          have HZ1 := Lib.hid hz1
          have HZ2 := Lib.hid hz2
          have HRR : Hid (addR st ((e0 : Int), kind, sk, sd, rk, rd) = addSt st e0) := by
            unfold Hid addR
            rw [if_pos HEN.out, if_pos HBG.out, Int.toNat_natCast]
          clear hi0 hz0 hz1 hz2
          go_upto_if 22 with fail
          go_cut [23] from 24 to 38 (fun _ W2 => ∃ g cap, Hid (Bk w W2 P (setV v e0 (.slice (some ⟨g, 0, none⟩) (nn + 1) cap)) (newU u e0 nn) (addSt st e0)) ∧ Hid (Led P v u st w3 W2 (setV v e0 (.slice (some ⟨g, 0, none⟩) (nn + 1) cap)) (newU u e0 nn) (addSt st e0)))
          case first =>
            go_wp2_with fail
            go_region_law ((refine step_append_lies _ (by rfl) _ _ 24 (by rfl) w.heap.size 49 i0 (.agg #[.slice none 0 0, .slice none 0 0]) 2 48 Try.underlying24 HI.out HZ0.out HZ1.out HZ2.out (by rfl) (by decide) _ nn _ (by rfl) (HROW.out _ ((Below.refl _ _).drew.alloc (Nat.le_refl _) _)) ⟨_, 0, none⟩ 1 1 [.slice none 0 0, .slice none 0 0] (by rfl) (by rfl) (World.news_of_block (cs := #[.slice none 0 0, .slice none 0 0]) (t := 49) (fr := (0, 0)) (Go.heap_alloc_new _ _)) (by simp [Value.oneCell']) (by omega) (by unfold maxLen; omega) (by omega) (by simp; omega) _ rfl ?_; intro g cap4 w4 hown4 hgrow4 hat4 hlt4; obtain ⟨hfin, hPc, hPf, hXh⟩ := HFE.out _ w4 g cap4 ((Below.refl _ _).drew.alloc (Nat.le_refl _) _) hgrow4 hown4 hat4; have hX4 : w4.cell? ⟨X, 0, none⟩ = some (.int .i64 (e0 : Int)) := (World.cell?_of_block hXh).trans Y0.out; have HFIN := Lib.hid hfin; clear hown4 hgrow4 hat4 hfin hXh))
            all_goals
              have HLN := Lib.hid ((Led.of_below ((Below.refl w3.heap.size w3).drew.alloc (Nat.le_refl _) _)).trans HFIN.out.2)
              have HBN := Lib.hid HFIN.out.1
              go_wp2_with fail
              go_meet
              exact ⟨g, cap4, HBN, HLN⟩
          case rest =>
            obtain ⟨g, cap4, HBN, HLN⟩ := hcut
            have hx4 : wc.heap[X]? = some (.cells A 43 (0, 0)) := (HLN.out.block X HXS.out HXF.out).trans HX3.out
            have q0 : wc.cell? ⟨X, 0, none⟩ = some (.int .i64 (e0 : Int)) := by rw [cell_of_row _ _ _ _ _ _ hx4, ← HA.out]; rfl
            have q1 : wc.cell? ⟨X, 1, none⟩ = some (.int .i64 kind) := by rw [cell_of_row _ _ _ _ _ _ hx4, ← HA.out]; rfl
            have q10 : wc.cell? ⟨X, 10, none⟩ = some (.int .i64 sk) := by rw [cell_of_row _ _ _ _ _ _ hx4, ← HA.out]; rfl
            have q15 : wc.cell? ⟨X, 15, none⟩ = some (.int .i64 rk) := by rw [cell_of_row _ _ _ _ _ _ hx4, ← HA.out]; rfl
            have qP : wc.cell? ⟨P, e0, none⟩ = some (.slice (some ⟨g, 0, none⟩) (nn + 1) cap4) := by
              rw [HBN.out.cell e0 HE0.out]
              exact congrArg some (if_pos rfl)
            have hlast := fun W : World => last_some g nn cap4 W (by omega)
            have HLAST := Lib.hid hlast
            have HCA := Lib.hid (HCAP.out.add e0)
            have HLX := Lib.hid (HLD.out.trans HLN.out)
            clear hx4 hlast y0 y1 y10 y11 y15 y16 yP HLN
            go_wp2_with fail
            go_quiet ((go_at_call 16; exact Calls.quiet_of_same (HLAST.out _)))
            rcases bg_cases HBG.out with ⟨k5, s8, k6⟩ | ⟨k6, r7, k5⟩
            · go_wp2_with fail
              go_roundw
              case rel => exact ⟨i + 1, _, _, _, by omega, by go_num, by unfold Hid; rw [HST2.out]; exact HRR.out.symm, HCA, HBN.out.on (below_drewN (Below.refl _ _) _), HLX.out.on (below_drewN (Below.refl _ _) _)⟩
              case measure => simp [intOf]; omega
            · go_wp2_with fail
              go_roundw
              case rel => exact ⟨i + 1, _, _, _, by omega, by go_num, by unfold Hid; rw [HST2.out]; exact HRR.out.symm, HCA, HBN.out.on (below_drewN (Below.refl _ _) _), HLX.out.on (below_drewN (Below.refl _ _) _)⟩
              case measure => simp [intOf]; omega
        | false =>
          cases nn with
          | zero =>
            have hlast := fun W : World => last_none sp sc W
            have HLAST := Lib.hid hlast
            have HRR : Hid (addR st ((e0 : Int), kind, sk, sd, rk, rd) = st) := by
              unfold Hid addR
              rw [if_pos HEN.out, if_neg (by rw [HBG.out]; decide), Int.toNat_natCast, if_pos HNN.out]
            clear hlast
            go_wp2_with fail
            go_quiet ((go_at_call 16; exact Calls.quiet_of_same (HLAST.out _)))
            go_wp2_with fail
            go_roundw
            case rel => exact ⟨i + 1, v, u, st, by omega, by go_num, by unfold Hid; rw [HST2.out]; exact HRR.out.symm, HCAP2, HBK.out.on (below_drewN (Below.refl _ _) _), HLD.out.on (below_drewN (Below.refl _ _) _)⟩
            case measure => simp [intOf]; omega
          | succ n1 =>
            obtain ⟨g, cap, cur, hvg, hgb, hgh, hgc, hgx⟩ := row_open (HBK.out.row e0 HE0.out) (by rw [HNN.out]; omega)
            have HVV := Lib.hid hvg
            have hN1 : n1 < (st e0).length := by rw [HNN.out]; omega
            have HN1 := Lib.hid hN1
            have HCL : Hid (∀ k, k < 2 → w3.cell? ⟨g, n1 * 2 + k, none⟩ = some (u e0 n1 k)) := fun k hk => by
              rw [cell_of_row _ _ _ _ _ _ hgh]; exact hgx _ _ (flat_get (u e0) _ n1 k hN1 hk)
            have CELL := HCL
            have hgl : g < w3.heap.size := (Array.getElem?_eq_some_iff.1 hgh).1
            have hgP : g ≠ P := fun e => HBK.out.far e0 0 HE0.out (by omega) (by unfold pl; rw [if_pos rfl, hvg, e]; rfl)
            have hgX : g ≠ X := fun e => HXF.out (.inr ⟨e0, 0, HE0.out, by omega, by unfold pl; rw [if_pos rfl, hvg, e]; rfl⟩)
            have hspg : sp = some ⟨g, 0, none⟩ ∧ sc = cap := by
              have h1 := HV.out
              rw [hvg] at h1
              injection h1 with h1 h2 h3
              exact ⟨h1.symm, h3.symm⟩
            obtain ⟨rfl, rfl⟩ := hspg
            have hlast := fun W : World => last_some g n1 sc W (by omega)
            have HLAST := Lib.hid hlast
            clear hlast hvg hgb hgh hgc hgx hN1
            by_cases hk6 : kind = 6 ∧ rk = 7
            · as_aux_lemma =>
                have HK6 := Lib.hid hk6.1
                have HR7 := Lib.hid hk6.2
                have k6 : (kind == 6) = true := beq_iff_eq.2 hk6.1
                have r7 : (rk == 7) = true := beq_iff_eq.2 hk6.2
                clear hk6
                go_wp2_with fail
                go_quiet ((go_at_call 16; exact Calls.quiet_of_same (HLAST.out _)))
                have hv0 := HBK.out.row e0 HE0.out
                obtain ⟨sT, scT, huT⟩ := row_form (HBK.out.txt e0 n1 0 HE0.out HN1.out (by omega))
                obtain ⟨ct, hct⟩ : ∃ ct, (cont (st e0) n1 0).length = ct := ⟨_, rfl⟩
                have hctM : ct ≤ 1000000 := by rw [← hct]; have := (HCAP.out e0).2 n1 0; omega
                rw [hct] at huT
                have HUT := Lib.hid huT
                have HCT := Lib.hid hct
                have hcell : w3.cell? ⟨g, n1 * 2, none⟩ = some (.slice sT ct scT) := by rw [← huT]; exact CELL.out 0 (by omega)
                have hcellA : ∀ (q : Nat) (o : Obj), ((w3.drewN q).alloc o).cell? ⟨g, n1 * 2, none⟩ = some (.slice sT ct scT) := fun q o => (((below_drewN (Below.refl _ _) q).alloc (Nat.le_refl _) o).cell (p := ⟨g, n1 * 2, none⟩) hgl).trans hcell
                have HTX : Hid (∀ W', Below w3.heap.size w3 W' → W'.ownsRow w.heap.size 9 1 (.slice sT ct scT) ct ((cont (st e0) n1 0).map Value.string)) := fun W' hW' => by
                  have := (HBK.out.on hW').txt e0 n1 0 HE0.out HN1.out (by omega)
                  rwa [HUT.out, HCT.out] at this
                have HFT : Hid (∀ W' w1 gt capt, Below w3.heap.size w3 W' → W'.grownBy w1 (Value.slice sT ct scT).ownBlock → w1.ownsRow w.heap.size 9 1 (.slice (some ⟨gt, 0, none⟩) (ct + 1) capt) (ct + 1) ((cont (st e0) n1 0).map Value.string ++ [Value.string rd]) → ((Value.slice sT ct scT).ownBlock = some gt ∨ gt = W'.heap.size) → (Bk w (w1.setCell ⟨g, n1 * 2 + 0, none⟩ (.slice (some ⟨gt, 0, none⟩) (ct + 1) capt)) P v (setU u e0 n1 0 (.slice (some ⟨gt, 0, none⟩) (ct + 1) capt)) (modSt st e0 n1 0 rd) ∧ Led P v u st W' (w1.setCell ⟨g, n1 * 2 + 0, none⟩ (.slice (some ⟨gt, 0, none⟩) (ct + 1) capt)) v (setU u e0 n1 0 (.slice (some ⟨gt, 0, none⟩) (ct + 1) capt)) (modSt st e0 n1 0 rd)) ∧ w1.cell? ⟨g, n1 * 2, none⟩ = some (.slice sT ct scT) ∧ w1.frozen? ⟨g, n1 * 2, none⟩ = false) := fun W' w1 gt capt hW' hg ho ha => by
                  have := (HBK.out.on hW').finText (x := rd) HE0.out HN1.out (show 0 < 2 by omega) HVV.out (by rw [HUT.out]; exact hg) (by rw [HCT.out]; exact ho) (by rw [HUT.out]; exact ha)
                  rw [HUT.out, HCT.out] at this
                  exact this
                obtain ⟨i0, hi0, hz0, hz1, hz2⟩ := info_parts info9
                have HI := Lib.hid hi0
                have HZ0 := Lib.hid hz0
                have HZ1 := Lib.hid hz1
                have HZ2 := Lib.hid hz2
                have HRR : Hid (addR st ((e0 : Int), kind, sk, sd, rk, rd) = modSt st e0 n1 0 rd) := by
                  unfold Hid addR
                  rw [if_pos HEN.out, if_neg (by rw [HBG.out]; decide), Int.toNat_natCast, if_neg (by rw [HNN.out]; omega), HNN.out, Nat.add_sub_cancel]
                  rw [if_pos ⟨HK6.out, HR7.out⟩]
                clear huT hct hv0 hi0 hz0 hz1 hz2
                go_wp2_with fail
                go_region_law ((refine step_append_lies _ (by rfl) _ _ 45 (by rfl) w.heap.size 9 i0 (.string ⟨#[]⟩) 1 16 Try.underlying45 HI.out HZ0.out HZ1.out HZ2.out (by rfl) (by decide) _ ct _ (by rfl) (HTX.out _ ((below_drewN (Below.refl _ _) _).drew.alloc (Nat.le_refl _) _)) ⟨_, 0, none⟩ 1 1 [.string rd] (by rfl) (by rfl) (World.news_of_block (cs := #[.string rd]) (t := 9) (fr := (0, 0)) (Go.heap_alloc_new _ _)) (by simp [Value.oneCell']) (by omega) (by unfold maxLen; omega) (by omega) (by simp; omega) _ rfl ?_; intro gt capt w4 hown4 hgrow4 hat4 hlt4; obtain ⟨hfin, hPc, hPf⟩ := HFT.out _ w4 gt capt ((below_drewN (Below.refl _ _) _).drew.alloc (Nat.le_refl _) _) hgrow4 hown4 hat4; have HFIN := Lib.hid hfin; clear hown4 hgrow4 hat4 hfin))
                all_goals
                  have HLN := Lib.hid ((Led.of_below ((below_drewN (Below.refl w3.heap.size w3) _).drew.alloc (Nat.le_refl _) _)).trans HFIN.out.2)
                  have HBN := Lib.hid HFIN.out.1
                  go_wp2_with fail
                  go_roundw
                  case rel => exact ⟨i + 1, _, _, _, by omega, by go_num, by unfold Hid; rw [HST2.out]; exact HRR.out.symm, HCAP.out.mod e0 n1 0 rd, HBN, HLD.out.trans HLN.out⟩
                  case measure => simp [intOf]; omega
            · by_cases hk5 : kind = 5 ∧ sk = 8
              · as_aux_lemma =>
                  have HNK : Hid (¬ kind = 6) := fun q => by have := hk5.1; omega
                  have HK5 := Lib.hid hk5.1
                  have HS8 := Lib.hid hk5.2
                  have k6 : (kind == 6) = false := beq_eq_false_iff_ne.2 HNK.out
                  have k5 : (kind == 5) = true := beq_iff_eq.2 hk5.1
                  have s8 : (sk == 8) = true := beq_iff_eq.2 hk5.2
                  clear hk5 hk6
                  go_wp2_with fail
                  go_quiet ((go_at_call 16; exact Calls.quiet_of_same (HLAST.out _)))
                  have hv0 := HBK.out.row e0 HE0.out
                  obtain ⟨sT, scT, huT⟩ := row_form (HBK.out.txt e0 n1 1 HE0.out HN1.out (by omega))
                  obtain ⟨ct, hct⟩ : ∃ ct, (cont (st e0) n1 1).length = ct := ⟨_, rfl⟩
                  have hctM : ct ≤ 1000000 := by rw [← hct]; have := (HCAP.out e0).2 n1 1; omega
                  rw [hct] at huT
                  have HUT := Lib.hid huT
                  have HCT := Lib.hid hct
                  have hcell : w3.cell? ⟨g, n1 * 2 + 1, none⟩ = some (.slice sT ct scT) := by rw [← huT]; exact CELL.out 1 (by omega)
                  have hcellA : ∀ (q : Nat) (o : Obj), ((w3.drewN q).alloc o).cell? ⟨g, n1 * 2 + 1, none⟩ = some (.slice sT ct scT) := fun q o => (((below_drewN (Below.refl _ _) q).alloc (Nat.le_refl _) o).cell (p := ⟨g, n1 * 2 + 1, none⟩) hgl).trans hcell
                  have HTX : Hid (∀ W', Below w3.heap.size w3 W' → W'.ownsRow w.heap.size 9 1 (.slice sT ct scT) ct ((cont (st e0) n1 1).map Value.string)) := fun W' hW' => by
                    have := (HBK.out.on hW').txt e0 n1 1 HE0.out HN1.out (by omega)
                    rwa [HUT.out, HCT.out] at this
                  have HFT : Hid (∀ W' w1 gt capt, Below w3.heap.size w3 W' → W'.grownBy w1 (Value.slice sT ct scT).ownBlock → w1.ownsRow w.heap.size 9 1 (.slice (some ⟨gt, 0, none⟩) (ct + 1) capt) (ct + 1) ((cont (st e0) n1 1).map Value.string ++ [Value.string sd]) → ((Value.slice sT ct scT).ownBlock = some gt ∨ gt = W'.heap.size) → (Bk w (w1.setCell ⟨g, n1 * 2 + 1, none⟩ (.slice (some ⟨gt, 0, none⟩) (ct + 1) capt)) P v (setU u e0 n1 1 (.slice (some ⟨gt, 0, none⟩) (ct + 1) capt)) (modSt st e0 n1 1 sd) ∧ Led P v u st W' (w1.setCell ⟨g, n1 * 2 + 1, none⟩ (.slice (some ⟨gt, 0, none⟩) (ct + 1) capt)) v (setU u e0 n1 1 (.slice (some ⟨gt, 0, none⟩) (ct + 1) capt)) (modSt st e0 n1 1 sd)) ∧ w1.cell? ⟨g, n1 * 2 + 1, none⟩ = some (.slice sT ct scT) ∧ w1.frozen? ⟨g, n1 * 2 + 1, none⟩ = false) := fun W' w1 gt capt hW' hg ho ha => by
                    have := (HBK.out.on hW').finText (x := sd) HE0.out HN1.out (show 1 < 2 by omega) HVV.out (by rw [HUT.out]; exact hg) (by rw [HCT.out]; exact ho) (by rw [HUT.out]; exact ha)
                    rw [HUT.out, HCT.out] at this
                    exact this
                  obtain ⟨i0, hi0, hz0, hz1, hz2⟩ := info_parts info9
                  have HI := Lib.hid hi0
                  have HZ0 := Lib.hid hz0
                  have HZ1 := Lib.hid hz1
                  have HZ2 := Lib.hid hz2
                  have HRR : Hid (addR st ((e0 : Int), kind, sk, sd, rk, rd) = modSt st e0 n1 1 sd) := by
                    unfold Hid addR
                    rw [if_pos HEN.out, if_neg (by rw [HBG.out]; decide), Int.toNat_natCast, if_neg (by rw [HNN.out]; omega), HNN.out, Nat.add_sub_cancel]
                    rw [if_neg (fun q => HNK.out q.1), if_pos ⟨HK5.out, HS8.out⟩]
                  clear huT hct hv0 hi0 hz0 hz1 hz2
                  go_wp2_with fail
                  go_region_law ((refine step_append_lies _ (by rfl) _ _ 45 (by rfl) w.heap.size 9 i0 (.string ⟨#[]⟩) 1 16 Try.underlying45 HI.out HZ0.out HZ1.out HZ2.out (by rfl) (by decide) _ ct _ (by rfl) (HTX.out _ ((below_drewN (Below.refl _ _) _).drew.alloc (Nat.le_refl _) _)) ⟨_, 0, none⟩ 1 1 [.string sd] (by rfl) (by rfl) (World.news_of_block (cs := #[.string sd]) (t := 9) (fr := (0, 0)) (Go.heap_alloc_new _ _)) (by simp [Value.oneCell']) (by omega) (by unfold maxLen; omega) (by omega) (by simp; omega) _ rfl ?_; intro gt capt w4 hown4 hgrow4 hat4 hlt4; obtain ⟨hfin, hPc, hPf⟩ := HFT.out _ w4 gt capt ((below_drewN (Below.refl _ _) _).drew.alloc (Nat.le_refl _) _) hgrow4 hown4 hat4; have HFIN := Lib.hid hfin; clear hown4 hgrow4 hat4 hfin))
                  all_goals
                    have HLN := Lib.hid ((Led.of_below ((below_drewN (Below.refl w3.heap.size w3) _).drew.alloc (Nat.le_refl _) _)).trans HFIN.out.2)
                    have HBN := Lib.hid HFIN.out.1
                    go_wp2_with fail
                    go_roundw
                    case rel => exact ⟨i + 1, _, _, _, by omega, by go_num, by unfold Hid; rw [HST2.out]; exact HRR.out.symm, HCAP.out.mod e0 n1 1 sd, HBN, HLD.out.trans HLN.out⟩
                    case measure => simp [intOf]; omega
              · have HRR : Hid (addR st ((e0 : Int), kind, sk, sd, rk, rd) = st) := by
                  unfold Hid addR
                  rw [if_pos HEN.out, if_neg (by rw [HBG.out]; decide), Int.toNat_natCast, if_neg (by rw [HNN.out]; omega), if_neg hk6, if_neg hk5]
                have hc6 : (kind == 6) = false ∨ (kind == 6) = true ∧ (rk == 7) = false := by
                  by_cases q : kind = 6
                  · exact .inr ⟨beq_iff_eq.2 q, beq_eq_false_iff_ne.2 (fun q2 => hk6 ⟨q, q2⟩)⟩
                  · exact .inl (beq_eq_false_iff_ne.2 q)
                have hc5 : (kind == 5) = false ∨ (kind == 5) = true ∧ (sk == 8) = false := by
                  by_cases q : kind = 5
                  · exact .inr ⟨beq_iff_eq.2 q, beq_eq_false_iff_ne.2 (fun q2 => hk5 ⟨q, q2⟩)⟩
                  · exact .inl (beq_eq_false_iff_ne.2 q)
                have HC6 := Lib.hid hc6
                have HC5 := Lib.hid hc5
                clear hk6 hk5 hc6 hc5
                go_wp2_with fail
                go_quiet ((go_at_call 16; exact Calls.quiet_of_same (HLAST.out _)))
                rcases HC6.out with k6 | ⟨k6, r7⟩ <;> rcases HC5.out with k5 | ⟨k5, s8⟩
                all_goals
                  go_wp2_with fail
                  go_roundw
                  case rel => exact ⟨i + 1, v, u, st, by omega, by go_num, by unfold Hid; rw [HST2.out]; exact HRR.out.symm, HCAP2, HBK.out.on (below_drewN (Below.refl _ _) _), HLD.out.on (below_drewN (Below.refl _ _) _)⟩
                  case measure => simp [intOf]; omega
      · have HRR : Hid (addR st (en, kind, sk, sd, rk, rd) = st) := if_neg hen
        by_cases hen0 : en < 0
        · clear hen
          go_wp2_with fail
          go_roundw
          case rel => exact ⟨i + 1, v, u, st, by omega, by go_num, by unfold Hid; rw [HST2.out]; exact HRR.out.symm, HCAP2, HB1, HL1⟩
          case measure => simp [intOf]; omega
        · have hen2 : 2 ≤ en := by omega
          clear hen
          go_wp2_with fail
          go_roundw
          case rel => exact ⟨i + 1, v, u, st, by omega, by go_num, by unfold Hid; rw [HST2.out]; exact HRR.out.symm, HCAP2, HB1, HL1⟩
          case measure => simp [intOf]; omega
    · have hie : i = m := by omega
      have HEND : Hid (BkO w wr0 P v0 u0 st0 (rs.foldl addR st0) wr) := by
        unfold Hid BkO
        refine ⟨v, u, ?_⟩
        have e : rs.foldl addR st0 = st := by rw [HST.out, List.take_of_length_le (by rw [ha.out.len]; omega)]
        rw [e]
        exact ⟨HB.out, HL.out⟩
      clear hie
      go_wp2_with fail
      go_end0
      exact ⟨rfl, HEND.out⟩
end Go.Proofs.Ytjjnhndlollldaa.Ep
