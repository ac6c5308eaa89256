/-
EpochBooks' three regions over what the law keeps: what each asks lies in its rows, and what each leaves. No condition but the rows' own.
-/
import Derived.Test.YtjjnhndlollldaaEpB3
import Derived.Test.YtjjnhndlollldaaEpB4
import Derived.Test.YtjjnhndlollldaaEpB5
import Derived.Test.YtjjnhndlollldaaEpB6
namespace Go.Proofs.Ytjjnhndlollldaa.Ep
set_option linter.unusedVariables false
open Go.RowKit Go.Proofs.Ytjjnhndlollldaa.Args

theorem Mx.cellS {w w3 : World} {S G : Nat} {v : Nat → Value} {u : Nat → Nat → Value} {mt : Mt} (h : Mx w w3 S G v u mt) {e : Nat} (he : e < 2) : w3.cell? ⟨S, e, none⟩ = some (v e) := by
  rw [cell_of_row _ _ _ _ _ _ h.blkS]
  match e, he with
  | 0, _ => rfl
  | 1, _ => rfl
theorem Mx.cellG {w w3 : World} {S G : Nat} {v : Nat → Value} {u : Nat → Nat → Value} {mt : Mt} (h : Mx w w3 S G v u mt) {e : Nat} (he : e < 2) : w3.cell? ⟨G, e, none⟩ = some (v (2 + e)) := by
  rw [cell_of_row _ _ _ _ _ _ h.blkG]
  match e, he with
  | 0, _ => rfl
  | 1, _ => rfl
theorem Mx.mf_ge {w w3 : World} {S G : Nat} {v : Nat → Value} {u : Nat → Nat → Value} {mt : Mt} (h : Mx w w3 S G v u mt) {b : Nat} (hb : MF S G v u mt b) : w.heap.size ≤ b := by
  rcases hb with rfl | rfl | ⟨r, p, hr, hp, hb⟩
  · exact h.newS
  · exact h.newG
  · exact (h.pm_lt hr hp hb).1
/-- What a region of the law's leaves of other memory. -/
structure KeptM (w w3 wF : World) (S G : Nat) (v : Nat → Value) (u : Nat → Nat → Value) (mt : Mt) : Prop where
  below : Below w.heap.size w3 wF
  block : ∀ b, b < w3.heap.size → ¬ MF S G v u mt b → wF.heap[b]? = w3.heap[b]?
theorem Mx.keptM {w w3 wF : World} {S G : Nat} {v : Nat → Value} {u : Nat → Nat → Value} {mt : Mt} (h : Mx w w3 S G v u mt) (hw : w.heap.size ≤ w3.heap.size) (o1 : wF.os = w3.os) (o2 : wF.tape = w3.tape) (o3 : wF.output = w3.output) (o4 : w3.heap.size ≤ wF.heap.size) (hk : ∀ b, b < w3.heap.size → ¬ MF S G v u mt b → wF.heap[b]? = w3.heap[b]?) : KeptM w w3 wF S G v u mt :=
  ⟨⟨o1, o2, o3, o4, fun k hk2 => hk k (by omega) (fun hm => by have := h.mf_ge hm; omega)⟩, hk⟩
theorem here12 {w w3 : World} {X S G e n cs cg : Nat} {ps pg : Option Addr} {v : Nat → Value} {u : Nat → Nat → Value} {mt : Mt} {t0 : Array Value} (h : Mx w w3 S G v u mt) (he : e < 2) (hn1 : (mt e).length = n) (hn2 : (mt (2 + e)).length = n) (hvs : v e = .slice ps n cs) (hvg : v (2 + e) = .slice pg n cg) (hn : n ≤ 1000)
    (lX : X < w3.heap.size) (hX : ¬ MF S G v u mt X) (hb : w.heap.size ≤ w3.heap.size) (c0 : w3.cell? ⟨X, 0, none⟩ = some (.int .i64 (e : Int))) (hs : t0.size = 170) (p7 : t0.getD 7 undef = .pointer (some ⟨X, 0, none⟩)) (p4 : t0.getD 4 undef = .pointer (some ⟨S, 0, none⟩)) (p5 : t0.getD 5 undef = .pointer (some ⟨G, 0, none⟩)) :
    R12.Here X S G e n cs n cg ps pg (rowV u e n) (rowV u (2 + e) n) w.heap.size w3 t0 := by
  have hp : ∀ r, pm v u r 0 = (v r).ownBlock := fun r => by unfold pm; rw [if_pos rfl]
  have f1 := h.far e 0 (by omega) (by omega)
  have f2 := h.far (2 + e) 0 (by omega) (by omega)
  rw [hp, hvs] at f1
  rw [hp, hvg] at f2
  have r1 := h.row e (by omega)
  have r2 := h.row (2 + e) (by omega)
  rw [hvs, hn1] at r1
  rw [hvg, hn2] at r2
  refine ⟨hs, p7, p4, p5, he, c0, by rw [← hvs]; exact h.cellS he, by rw [← hvg]; exact h.cellG he, frozen_of_row _ _ _ _ _ h.blkS, frozen_of_row _ _ _ _ _ h.blkG, lX, h.mf_lt (.inl rfl), h.mf_lt (.inr (.inl rfl)), fun e1 => hX (.inl e1), fun e1 => hX (.inr (.inl e1)), h.ne,
    ⟨fun e1 => hX (.inr (.inr ⟨e, 0, by omega, by omega, by rw [hp, hvs]; exact e1.symm⟩)), fun e1 => hX (.inr (.inr ⟨2 + e, 0, by omega, by omega, by rw [hp, hvg]; exact e1.symm⟩))⟩, ⟨fun e1 => f1.1 e1.symm, fun e1 => f2.1 e1.symm⟩, ⟨fun e1 => f1.2 e1.symm, fun e1 => f2.2 e1.symm⟩, r1, r2, fun b h1 h2 => ?_, hn, hn, hb⟩
  have := (h.sep e 0 (2 + e) 0 b (by omega) (by omega) (by omega) (by omega) (by rw [hp, hvs]; exact h1) (by rw [hp, hvg]; exact h2)).1
  omega
theorem fin12 {w w3 wF : World} {S G e n cs cg : Nat} {ps pg : Option Addr} {v : Nat → Value} {u : Nat → Nat → Value} {mt : Mt} (h : Mx w w3 S G v u mt) (he : e < 2) (hn1 : (mt e).length = n) (hn2 : (mt (2 + e)).length = n) (hvs : v e = .slice ps n cs) (hvg : v (2 + e) = .slice pg n cg) (hb : w.heap.size ≤ w3.heap.size)
    (hF : ∃ w1 c d, wF = (w1.setCell ⟨S, e, none⟩ c).setCell ⟨G, e, none⟩ d ∧ R12.Core n cs n cg ps pg (rowV u e n) (rowV u (2 + e) n) w.heap.size w3 w1 c d) :
    ∃ g cap ng, (Mx w wF S G (vE v e (.slice (some ⟨g, 0, none⟩) (n + 1) cap) ng) (uE u mt e) (addE mt e) ∧ ∀ b, MF S G (vE v e (.slice (some ⟨g, 0, none⟩) (n + 1) cap) ng) (uE u mt e) (addE mt e) b → MF S G v u mt b ∨ w3.heap.size ≤ b) ∧ KeptM w w3 wF S G v u mt := by
  obtain ⟨w1, c, d, rfl, hc⟩ := hF
  obtain ⟨g, cap, rfl⟩ := hc.mores.form
  have hp : ∀ r, pm v u r 0 = (v r).ownBlock := fun r => by unfold pm; rw [if_pos rfl]
  have f1 := h.far e 0 (by omega) (by omega)
  have f2 := h.far (2 + e) 0 (by omega) (by omega)
  rw [hp] at f1 f2
  have lS := h.mf_lt (b := S) (.inl rfl)
  have lG := h.mf_lt (b := G) (.inr (.inl rfl))
  have hg := hc.grown
  rw [← hvs, ← hvg] at hg
  have hm := hc.mores
  have hn := hc.moreg
  unfold R12.F1 at hm hn
  rw [← hvs] at hm
  rw [← hvg] at hn
  have kS : ∀ b : Nat, b ≠ S → b ≠ G → ((w1.setCell ⟨S, e, none⟩ (.slice (some ⟨g, 0, none⟩) (n + 1) cap)).setCell ⟨G, e, none⟩ d).heap[b]? = w1.heap[b]? := fun b h1 h2 => by rw [setCell_keep _ _ h2, setCell_keep _ _ h1]
  have hS1 : w1.heap[S]? = w3.heap[S]? := hg.block S lS (fun e1 => f1.1 e1.symm) (fun e1 => f2.1 e1.symm)
  have hG1 : w1.heap[G]? = w3.heap[G]? := hg.block G lG (fun e1 => f1.2 e1.symm) (fun e1 => f2.2 e1.symm)
  have res := h.addTwo he (wF := (w1.setCell ⟨S, e, none⟩ (.slice (some ⟨g, 0, none⟩) (n + 1) cap)).setCell ⟨G, e, none⟩ d) (ns := .slice (some ⟨g, 0, none⟩) (n + 1) cap) (ng := d)
    (by rw [setCell_keep _ _ h.ne]; exact heap_setCell_same _ _ _ _ _ _ (hS1.trans h.blkS))
    (heap_setCell_same _ _ _ _ _ _ ((setCell_keep _ _ (Ne.symm h.ne)).trans (hG1.trans h.blkG)))
    (by rw [hn1]; exact row_keep hm.1 fun b hb2 => kS b (fun e1 => by
      subst e1
      rcases hm.2 with h1 | ⟨b', h1, h2⟩
      · exact f1.1 (by rw [← h1]; exact hb2)
      · rw [h1] at hb2; injection hb2 with hb2; omega) (fun e1 => by
      subst e1
      rcases hm.2 with h1 | ⟨b', h1, h2⟩
      · exact f1.2 (by rw [← h1]; exact hb2)
      · rw [h1] at hb2; injection hb2 with hb2; omega))
    (by rw [hn2]; exact row_keep hn.1 fun b hb2 => kS b (fun e1 => by
      subst e1
      rcases hn.2 with h1 | ⟨b', h1, h2⟩
      · exact f2.1 (by rw [← h1]; exact hb2)
      · rw [h1] at hb2; injection hb2 with hb2; omega) (fun e1 => by
      subst e1
      rcases hn.2 with h1 | ⟨b', h1, h2⟩
      · exact f2.2 (by rw [← h1]; exact hb2)
      · rw [h1] at hb2; injection hb2 with hb2; omega))
    (fun b hb2 h1 h2 h3 h4 => (kS b h1 h2).trans (hg.block b hb2 h3 h4)) hm.2 hn.2 hc.sep
  exact ⟨g, cap, d, res.1, h.keptM hb hg.os hg.tape hg.output (by simpa [World.setCell] using hg.size) res.2⟩
theorem here15 {w w3 : World} {X S G e n cap g k m sc : Nat} {sp : Option Addr} {v : Nat → Value} {u : Nat → Nat → Value} {mt : Mt} {d : ByteArray} {t0 : Array Value} (h : Mx w w3 S G v u mt) (he : e < 2) (hk : k < n) (hn : (mt (e)).length = n) (hv : v (e) = .slice (some ⟨g, 0, none⟩) n cap) (hu : u (e) k = .slice sp m sc) (hm : (tx mt (e) k).length = m) (hm2 : m ≤ 1000)
    (lX : X < w3.heap.size) (hX : ¬ MF S G v u mt X) (hb : w.heap.size ≤ w3.heap.size) (c0 : w3.cell? ⟨X, 0, none⟩ = some (.int .i64 (e : Int))) (c3 : w3.cell? ⟨X, 3, none⟩ = some (.string d)) (hs : t0.size = 170) (p7 : t0.getD 7 undef = .pointer (some ⟨X, 0, none⟩)) (pA : t0.getD 4 undef = .pointer (some ⟨S, 0, none⟩)) (p8 : t0.getD 8 undef = .int .i64 (k : Int)) :
    R15.Here X S g k e n cap m sp sc ((tx mt (e) k).map Value.string) d w.heap.size w3 t0 := by
  have hr : e < 4 := by omega
  have hkl : k < (mt (e)).length := by omega
  have hp0 : pm v u (e) 0 = some g := by unfold pm; rw [if_pos rfl, hv]; rfl
  have hp1 : pm v u (e) (1 + k) = (u (e) k).ownBlock := by unfold pm; rw [if_neg (by omega), show 1 + k - 1 = k by omega]
  have hne : ∀ b, MF S G v u mt b → b < w3.heap.size := fun b hb => h.mf_lt hb
  have hrow := h.row (e) hr
  rw [hv, hn] at hrow
  have hcell := row_cell hrow (by omega) (rowV_get u (r := e) hk)
  have htx := h.txt (e) k hr hkl
  rw [hu, hm] at htx
  have hfar := h.far (e) (1 + k) hr (by omega)
  rw [hp1, hu] at hfar
  refine ⟨hs, p7, pA, p8, he, hk, c0, c3, by rw [← hv]; exact h.cellS he, by rw [← hu]; exact hcell.1, hcell.2, lX, h.mf_lt (.inl rfl), (h.pm_lt hr (by omega) hp0).2, fun e1 => hX (.inr (.inr ⟨e, 1 + k, hr, by omega, by rw [hp1, hu]; exact e1.symm⟩)), fun e1 => hfar.1 e1.symm, fun e1 => ?_, htx, hm2, hb⟩
  have := (h.sep (e) 0 (e) (1 + k) g hr (by omega) hr (by omega) hp0 (by rw [hp1, hu]; exact e1.symm)).2
  omega
theorem here17 {w w3 : World} {X S G e n cap g k m sc : Nat} {sp : Option Addr} {v : Nat → Value} {u : Nat → Nat → Value} {mt : Mt} {d : ByteArray} {t0 : Array Value} (h : Mx w w3 S G v u mt) (he : e < 2) (hk : k < n) (hn : (mt (2 + e)).length = n) (hv : v (2 + e) = .slice (some ⟨g, 0, none⟩) n cap) (hu : u (2 + e) k = .slice sp m sc) (hm : (tx mt (2 + e) k).length = m) (hm2 : m ≤ 1000)
    (lX : X < w3.heap.size) (hX : ¬ MF S G v u mt X) (hb : w.heap.size ≤ w3.heap.size) (c0 : w3.cell? ⟨X, 0, none⟩ = some (.int .i64 (e : Int))) (c3 : w3.cell? ⟨X, 3, none⟩ = some (.string d)) (hs : t0.size = 170) (p7 : t0.getD 7 undef = .pointer (some ⟨X, 0, none⟩)) (pA : t0.getD 5 undef = .pointer (some ⟨G, 0, none⟩)) (p8 : t0.getD 8 undef = .int .i64 (k : Int)) :
    R17.Here X G g k e n cap m sp sc ((tx mt (2 + e) k).map Value.string) d w.heap.size w3 t0 := by
  have hr : 2 + e < 4 := by omega
  have hkl : k < (mt (2 + e)).length := by omega
  have hp0 : pm v u (2 + e) 0 = some g := by unfold pm; rw [if_pos rfl, hv]; rfl
  have hp1 : pm v u (2 + e) (1 + k) = (u (2 + e) k).ownBlock := by unfold pm; rw [if_neg (by omega), show 1 + k - 1 = k by omega]
  have hne : ∀ b, MF S G v u mt b → b < w3.heap.size := fun b hb => h.mf_lt hb
  have hrow := h.row (2 + e) hr
  rw [hv, hn] at hrow
  have hcell := row_cell hrow (by omega) (rowV_get u (r := 2 + e) hk)
  have htx := h.txt (2 + e) k hr hkl
  rw [hu, hm] at htx
  have hfar := h.far (2 + e) (1 + k) hr (by omega)
  rw [hp1, hu] at hfar
  refine ⟨hs, p7, pA, p8, he, hk, c0, c3, by rw [← hv]; exact h.cellG he, by rw [← hu]; exact hcell.1, hcell.2, lX, h.mf_lt (.inr (.inl rfl)), (h.pm_lt hr (by omega) hp0).2, fun e1 => hX (.inr (.inr ⟨2 + e, 1 + k, hr, by omega, by rw [hp1, hu]; exact e1.symm⟩)), fun e1 => hfar.2 e1.symm, fun e1 => ?_, htx, hm2, hb⟩
  have := (h.sep (2 + e) 0 (2 + e) (1 + k) g hr (by omega) hr (by omega) hp0 (by rw [hp1, hu]; exact e1.symm)).2
  omega
theorem finText {w w3 wF : World} {S G r n cap g k m sc : Nat} {sp : Option Addr} {v : Nat → Value} {u : Nat → Nat → Value} {mt : Mt} {d : ByteArray} (h : Mx w w3 S G v u mt) (hr : r < 4) (hk : k < n) (hn : (mt r).length = n) (hv : v r = .slice (some ⟨g, 0, none⟩) n cap) (hu : u r k = .slice sp m sc) (hm : (tx mt r k).length = m) (hb : w.heap.size ≤ w3.heap.size)
    (hF : ∃ w1 nu, wF = w1.setCell ⟨g, k, none⟩ nu ∧ Fin 9 w.heap.size m (.slice sp m sc) ((tx mt r k).map Value.string) (.string d) w3 w1 nu) :
    ∃ nu, (Mx w wF S G v (setM u r k nu) (addTxt mt r k d) ∧ ∀ b, MF S G v (setM u r k nu) (addTxt mt r k d) b → MF S G v u mt b ∨ w3.heap.size ≤ b) ∧ KeptM w w3 wF S G v u mt := by
  obtain ⟨w1, nu, rfl, hg, ho, ha⟩ := hF
  rw [← hu] at hg ha
  rw [← hm] at ho
  have res := h.addText hr (by omega) (by rw [hn]; exact hv) hg ho ha
  exact ⟨nu, res.1, h.keptM hb hg.os hg.tape hg.output (by simpa [World.setCell] using hg.size) res.2⟩
end Go.Proofs.Ytjjnhndlollldaa.Ep
