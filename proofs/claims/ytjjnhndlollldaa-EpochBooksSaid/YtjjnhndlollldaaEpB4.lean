/-
EpochBooks' region 17 that draws its order (a text that came): whatever order is picked, the list of texts has one more, and its row says so. Condition: the note's block and the arrays lie as they do.
-/
import Derived.Test.YtjjnhndlollldaaEpB2
namespace Go.Proofs.Ytjjnhndlollldaa.Ep.R17
set_option linter.unusedVariables false
open Go.RowKit Go.Proofs.Ytjjnhndlollldaa.Args Go.Proofs.Ytjjnhndlollldaa.Ep

noncomputable def ops : Array Oper := ((Try.f3.body.bind (regionOf 17)).getD #[])
theorem ops_size : ops.size = 18 := by kernel_rfl
section
variable (X Ar g k e n cap m : Nat) (sp : Option Addr) (sc : Nat) (xs : List Value) (d : ByteArray) (base : Nat) (w0 : World) (t0 : Array Value)
structure Here : Prop where
  size : t0.size = 170
  p7 : t0.getD 7 undef = .pointer (some ⟨X, 0, none⟩)
  pA : t0.getD 5 undef = .pointer (some ⟨Ar, 0, none⟩)
  p8 : t0.getD 8 undef = .int .i64 (k : Int)
  he : e < 2
  hk : k < n
  c0 : w0.cell? ⟨X, 0, none⟩ = some (.int .i64 (e : Int))
  c3 : w0.cell? ⟨X, 3, none⟩ = some (.string d)
  cA : w0.cell? ⟨Ar, e, none⟩ = some (.slice (some ⟨g, 0, none⟩) n cap)
  cg : w0.cell? ⟨g, k, none⟩ = some (.slice sp m sc)
  fg : w0.frozen? ⟨g, k, none⟩ = false
  lX : X < w0.heap.size
  lA : Ar < w0.heap.size
  lg : g < w0.heap.size
  nX : some X ≠ (Value.slice sp m sc).ownBlock
  nA : some Ar ≠ (Value.slice sp m sc).ownBlock
  ng : some g ≠ (Value.slice sp m sc).ownBlock
  row : w0.ownsRow base 9 1 (.slice sp m sc) m xs
  hm : m ≤ 1000
  hb : base ≤ w0.heap.size
def V (i : Nat) (v : Value) : Prop := match i with
  | 0 => v = .pointer (some ⟨X, 0, none⟩)
  | 1 => v = .int .i64 (e : Int)
  | 2 => v = .pointer (some ⟨Ar, e, none⟩)
  | 3 => v = .slice (some ⟨g, 0, none⟩) n cap
  | 4 => v = .int .i64 (k : Int)
  | 5 => v = .pointer (some ⟨X, 0, none⟩)
  | 6 => v = .int .i64 (e : Int)
  | 7 => v = .pointer (some ⟨Ar, e, none⟩)
  | 8 => v = .slice (some ⟨g, 0, none⟩) n cap
  | 9 => v = .int .i64 (k : Int)
  | 10 => v = .pointer (some ⟨g, k, none⟩)
  | 11 => v = .slice sp m sc
  | 12 => v = .pointer (some ⟨X, 3, none⟩)
  | 13 => v = .string d
  | 16 => v = .pointer (some ⟨g, k, none⟩)
  | _ => True
structure RI (l : Array Bool) (a : Act) (w : World) : Prop where
  size : l.size = 18
  defers : a.defers = []
  tsize : a.tmps.size = 170
  frame : ∀ s, ¬ (98 ≤ s ∧ s ≤ 114) → a.tmps.getD s undef = t0.getD s undef
  val : ∀ i, i < 17 → l.getD i false = true → V X Ar g k e n cap m sp sc d i (a.tmps.getD (98 + i) undef)
  grown : l.getD 17 false = false → w0.grownBy w (Value.slice sp m sc).ownBlock
  old : l.getD 17 false = false → l.getD 15 false = false → w.ownsRow base 9 1 (.slice sp m sc) m xs
  new : l.getD 17 false = false → l.getD 14 false = true → ∃ B, a.tmps.getD 112 undef = .slice (some ⟨B, 0, none⟩) 1 1 ∧ w.heap[B]? = some (.cells #[.string d] 9 (0, 0)) ∧ w0.heap.size ≤ B
  more : l.getD 17 false = false → l.getD 15 false = true → Fin 9 base m (.slice sp m sc) xs (.string d) w0 w (a.tmps.getD 113 undef)
  all : l.getD 17 false = true → ∀ i, i < 17 → l.getD i false = true
  done : l.getD 17 false = true → ∃ w1 nu, w = w1.setCell ⟨g, k, none⟩ nu ∧ Fin 9 base m (.slice sp m sc) xs (.string d) w0 w1 nu
variable {X Ar g k e n cap m sp sc xs d base w0 t0}
variable {w : World} {l : Array Bool} {a : Act} {Q : Exit → Act → World → Prop}
theorem RI.pre (h : RI X Ar g k e n cap m sp sc xs d base w0 t0 l a w) {i : Nat} (hi : i < 17) (hr : l.getD i false = false) : l.getD 17 false = false := by
  cases h1 : l.getD 17 false with
  | false => rfl
  | true => rw [h.all h1 i hi] at hr; cases hr
theorem flag {l : Array Bool} {i j : Nat} (h : i ≠ j) : (l.setIfInBounds i true).getD j false = l.getD j false := by rw [getD_set, if_neg (fun x => h x.1)]
theorem slot_ne (t : Array Value) {i j : Nat} (v : Value) (h : i ≠ j) : (t.setIfInBounds i v).getD j undef = t.getD j undef := by rw [getD_set, if_neg (fun x => h x.1)]
/-- An operation that writes its slot: what it leaves there, and the world. -/
theorem RI.put (h : RI X Ar g k e n cap m sp sc xs d base w0 t0 l a w) {i : Nat} (hi : i < 17) (hr : l.getD i false = false) {v : Value} {w' : World} (hv : V X Ar g k e n cap m sp sc d i v)
    (hg : w0.grownBy w' (Value.slice sp m sc).ownBlock) (ho : i ≠ 15 → l.getD 15 false = false → w'.ownsRow base 9 1 (.slice sp m sc) m xs)
    (hn : i ≠ 14 → ∀ B, w0.heap.size ≤ B → w.heap[B]? = some (.cells #[.string d] 9 (0, 0)) → w'.heap[B]? = some (.cells #[.string d] 9 (0, 0)))
    (hn' : i = 14 → ∃ B, v = .slice (some ⟨B, 0, none⟩) 1 1 ∧ w'.heap[B]? = some (.cells #[.string d] 9 (0, 0)) ∧ w0.heap.size ≤ B)
    (hm : i ≠ 15 → ∀ nu, Fin 9 base m (.slice sp m sc) xs (.string d) w0 w nu → Fin 9 base m (.slice sp m sc) xs (.string d) w0 w' nu)
    (hm' : i = 15 → Fin 9 base m (.slice sp m sc) xs (.string d) w0 w' v) :
    RI X Ar g k e n cap m sp sc xs d base w0 t0 (l.setIfInBounds i true) (a.put (some (98 + i)) v) w' := by
  have hp := h.pre hi hr
  have h17 : (l.setIfInBounds i true).getD 17 false = false := by rw [flag (by omega)]; exact hp
  refine ⟨by simpa using h.size, h.defers, by simpa [Act.put] using h.tsize, fun s h1 => ?_, fun j hj hl => ?_, fun _ => hg, fun _ hl => ?_, fun _ hl => ?_, fun _ hl => ?_, fun h1 => (by rw [h17] at h1; cases h1), fun h1 => (by rw [h17] at h1; cases h1)⟩
  · show (a.tmps.setIfInBounds (98 + i) v).getD s undef = _
    rw [slot_ne _ _ (by omega)]
    exact h.frame s h1
  · show V _ _ _ _ _ _ _ _ _ _ _ j ((a.tmps.setIfInBounds (98 + i) v).getD (98 + j) undef)
    by_cases e1 : i = j
    · subst e1
      rw [getD_set, if_pos ⟨rfl, by rw [h.tsize]; omega⟩]; exact hv
    · rw [flag e1] at hl
      rw [slot_ne _ _ (by omega)]
      exact h.val j hj hl
  · by_cases e1 : i = 15
    · subst e1
      rw [getD_set, if_pos ⟨rfl, by rw [h.size]; omega⟩] at hl; cases hl
    · rw [flag e1] at hl
      exact ho e1 hl
  · show ∃ B, (a.tmps.setIfInBounds (98 + i) v).getD 112 undef = _ ∧ _
    by_cases e1 : i = 14
    · subst e1
      obtain ⟨B, b1, b2, b3⟩ := hn' rfl
      exact ⟨B, by rw [getD_set, if_pos ⟨rfl, by rw [h.tsize]; omega⟩]; exact b1, b2, b3⟩
    · rw [flag e1] at hl
      obtain ⟨B, b1, b2, b3⟩ := h.new hp hl
      exact ⟨B, by rw [slot_ne _ _ (by omega)]; exact b1, hn e1 B b3 b2, b3⟩
  · show Fin _ _ _ _ _ _ _ _ ((a.tmps.setIfInBounds (98 + i) v).getD 113 undef)
    by_cases e1 : i = 15
    · subst e1
      rw [getD_set, if_pos ⟨rfl, by rw [h.tsize]; omega⟩]
      exact hm' rfl
    · rw [flag e1] at hl
      rw [slot_ne _ _ (by omega)]
      exact hm e1 _ (h.more hp hl)
/-- An operation that reads alone. -/
theorem RI.read (h : RI X Ar g k e n cap m sp sc xs d base w0 t0 l a w) {i : Nat} (hi : i < 17) (hr : l.getD i false = false) (h4 : i ≠ 14) (h5 : i ≠ 15) {v : Value} (hv : V X Ar g k e n cap m sp sc d i v) :
    RI X Ar g k e n cap m sp sc xs d base w0 t0 (l.setIfInBounds i true) (a.put (some (98 + i)) v) w :=
  h.put hi hr hv (h.grown (h.pre hi hr)) (fun _ h1 => h.old (h.pre hi hr) h1) (fun _ _ _ hb => hb) (fun h1 => absurd h1 h4) (fun _ _ hf => hf) (fun h1 => absurd h1 h5)
theorem RI.v (h : RI X Ar g k e n cap m sp sc xs d base w0 t0 l a w) {i j : Nat} (hr : i ∈ Region.ready .any ops l) (hd : j ∈ deps ops i) (hj : j < 17) : V X Ar g k e n cap m sp sc d j (a.tmps.getD (98 + j) undef) := h.val j hj (ready_dep hr hd)
theorem RI.cell (h : RI X Ar g k e n cap m sp sc xs d base w0 t0 l a w) {i : Nat} (hi : i < 17) (hr : l.getD i false = false) {b o : Nat} {v : Value} (hc : w0.cell? ⟨b, o, none⟩ = some v) (hb : b < w0.heap.size) (hn : some b ≠ (Value.slice sp m sc).ownBlock) : w.cell? ⟨b, o, none⟩ = some v :=
  ((h.grown (h.pre hi hr)).cell_far ⟨b, o, none⟩ hb hn).trans hc
theorem st0 (hr : 0 ∈ Region.ready .any ops l) (h : RI X Ar g k e n cap m sp sc xs d base w0 t0 l a w) (q : Here X Ar g k e n cap m sp sc xs d base w0 t0) : wpOp Try.prog ops Q 0 (RI X Ar g k e n cap m sp sc xs d base w0 t0 (l.setIfInBounds 0 true)) a w := by
  have hn := ready_not hr
  obtain ⟨o, ho, hg, hd, hop⟩ := opIs (ops := ops) (i := 0) (d := some 98) (p := .fieldAddr 31 (.tmp 7) 0) (by kernel_rfl)
  refine wpOp_of ho hg ?_
  exact k_field hd hop (.inl rfl) ((h.frame 7 (by omega)).trans q.p7) (h.read (i := 0) (by omega) hn (by omega) (by omega) rfl)
theorem st1 (hr : 1 ∈ Region.ready .any ops l) (h : RI X Ar g k e n cap m sp sc xs d base w0 t0 l a w) (q : Here X Ar g k e n cap m sp sc xs d base w0 t0) : wpOp Try.prog ops Q 1 (RI X Ar g k e n cap m sp sc xs d base w0 t0 (l.setIfInBounds 1 true)) a w := by
  have hn := ready_not hr
  obtain ⟨o, ho, hg, hd, hop⟩ := opIs (ops := ops) (i := 1) (d := some 99) (p := .load 3 (.tmp 98)) (by kernel_rfl)
  refine wpOp_of ho hg ?_
  exact k_load3 hd hop (h.v (j := 0) hr (by rw [show deps ops 1 = [0] from by kernel_rfl]; simp) (by omega)) (h.cell (i := 1) (by omega) hn q.c0 q.lX q.nX) (h.read (i := 1) (by omega) hn (by omega) (by omega) rfl)
theorem st2 (hr : 2 ∈ Region.ready .any ops l) (h : RI X Ar g k e n cap m sp sc xs d base w0 t0 l a w) (q : Here X Ar g k e n cap m sp sc xs d base w0 t0) : wpOp Try.prog ops Q 2 (RI X Ar g k e n cap m sp sc xs d base w0 t0 (l.setIfInBounds 2 true)) a w := by
  have hn := ready_not hr
  obtain ⟨o, ho, hg, hd, hop⟩ := opIs (ops := ops) (i := 2) (d := some 100) (p := .indexAddr 29 (.tmp 5) (.tmp 99)) (by kernel_rfl)
  refine wpOp_of ho hg ?_
  exact k_idx29 hd hop q.he ((h.frame 5 (by omega)).trans q.pA) (h.v (j := 1) hr (by rw [show deps ops 2 = [1] from by kernel_rfl]; simp) (by omega)) (h.read (i := 2) (by omega) hn (by omega) (by omega) rfl)
theorem st3 (hr : 3 ∈ Region.ready .any ops l) (h : RI X Ar g k e n cap m sp sc xs d base w0 t0 l a w) (q : Here X Ar g k e n cap m sp sc xs d base w0 t0) : wpOp Try.prog ops Q 3 (RI X Ar g k e n cap m sp sc xs d base w0 t0 (l.setIfInBounds 3 true)) a w := by
  have hn := ready_not hr
  obtain ⟨o, ho, hg, hd, hop⟩ := opIs (ops := ops) (i := 3) (d := some 101) (p := .load 28 (.tmp 100)) (by kernel_rfl)
  refine wpOp_of ho hg ?_
  exact k_load28 hd hop (h.v (j := 2) hr (by rw [show deps ops 3 = [2] from by kernel_rfl]; simp) (by omega)) (h.cell (i := 3) (by omega) hn q.cA q.lA q.nA) (h.read (i := 3) (by omega) hn (by omega) (by omega) rfl)
theorem st4 (hr : 4 ∈ Region.ready .any ops l) (h : RI X Ar g k e n cap m sp sc xs d base w0 t0 l a w) (q : Here X Ar g k e n cap m sp sc xs d base w0 t0) : wpOp Try.prog ops Q 4 (RI X Ar g k e n cap m sp sc xs d base w0 t0 (l.setIfInBounds 4 true)) a w := by
  have hn := ready_not hr
  obtain ⟨o, ho, hg, hd, hop⟩ := opIs (ops := ops) (i := 4) (d := some 102) (p := .move (.tmp 8)) (by kernel_rfl)
  refine wpOp_of ho hg ?_
  refine k_move hd hop ?_
  have e1 : a.eval (.tmp 8) = .int .i64 (k : Int) := ((h.frame 8 (by omega)).trans q.p8)
  rw [e1]
  exact (h.read (i := 4) (by omega) hn (by omega) (by omega) rfl)
theorem st5 (hr : 5 ∈ Region.ready .any ops l) (h : RI X Ar g k e n cap m sp sc xs d base w0 t0 l a w) (q : Here X Ar g k e n cap m sp sc xs d base w0 t0) : wpOp Try.prog ops Q 5 (RI X Ar g k e n cap m sp sc xs d base w0 t0 (l.setIfInBounds 5 true)) a w := by
  have hn := ready_not hr
  obtain ⟨o, ho, hg, hd, hop⟩ := opIs (ops := ops) (i := 5) (d := some 103) (p := .fieldAddr 31 (.tmp 7) 0) (by kernel_rfl)
  refine wpOp_of ho hg ?_
  exact k_field hd hop (.inl rfl) ((h.frame 7 (by omega)).trans q.p7) (h.read (i := 5) (by omega) hn (by omega) (by omega) rfl)
theorem st6 (hr : 6 ∈ Region.ready .any ops l) (h : RI X Ar g k e n cap m sp sc xs d base w0 t0 l a w) (q : Here X Ar g k e n cap m sp sc xs d base w0 t0) : wpOp Try.prog ops Q 6 (RI X Ar g k e n cap m sp sc xs d base w0 t0 (l.setIfInBounds 6 true)) a w := by
  have hn := ready_not hr
  obtain ⟨o, ho, hg, hd, hop⟩ := opIs (ops := ops) (i := 6) (d := some 104) (p := .load 3 (.tmp 103)) (by kernel_rfl)
  refine wpOp_of ho hg ?_
  exact k_load3 hd hop (h.v (j := 5) hr (by rw [show deps ops 6 = [5] from by kernel_rfl]; simp) (by omega)) (h.cell (i := 6) (by omega) hn q.c0 q.lX q.nX) (h.read (i := 6) (by omega) hn (by omega) (by omega) rfl)
theorem st7 (hr : 7 ∈ Region.ready .any ops l) (h : RI X Ar g k e n cap m sp sc xs d base w0 t0 l a w) (q : Here X Ar g k e n cap m sp sc xs d base w0 t0) : wpOp Try.prog ops Q 7 (RI X Ar g k e n cap m sp sc xs d base w0 t0 (l.setIfInBounds 7 true)) a w := by
  have hn := ready_not hr
  obtain ⟨o, ho, hg, hd, hop⟩ := opIs (ops := ops) (i := 7) (d := some 105) (p := .indexAddr 29 (.tmp 5) (.tmp 104)) (by kernel_rfl)
  refine wpOp_of ho hg ?_
  exact k_idx29 hd hop q.he ((h.frame 5 (by omega)).trans q.pA) (h.v (j := 6) hr (by rw [show deps ops 7 = [6] from by kernel_rfl]; simp) (by omega)) (h.read (i := 7) (by omega) hn (by omega) (by omega) rfl)
theorem st8 (hr : 8 ∈ Region.ready .any ops l) (h : RI X Ar g k e n cap m sp sc xs d base w0 t0 l a w) (q : Here X Ar g k e n cap m sp sc xs d base w0 t0) : wpOp Try.prog ops Q 8 (RI X Ar g k e n cap m sp sc xs d base w0 t0 (l.setIfInBounds 8 true)) a w := by
  have hn := ready_not hr
  obtain ⟨o, ho, hg, hd, hop⟩ := opIs (ops := ops) (i := 8) (d := some 106) (p := .load 28 (.tmp 105)) (by kernel_rfl)
  refine wpOp_of ho hg ?_
  exact k_load28 hd hop (h.v (j := 7) hr (by rw [show deps ops 8 = [7] from by kernel_rfl]; simp) (by omega)) (h.cell (i := 8) (by omega) hn q.cA q.lA q.nA) (h.read (i := 8) (by omega) hn (by omega) (by omega) rfl)
theorem st9 (hr : 9 ∈ Region.ready .any ops l) (h : RI X Ar g k e n cap m sp sc xs d base w0 t0 l a w) (q : Here X Ar g k e n cap m sp sc xs d base w0 t0) : wpOp Try.prog ops Q 9 (RI X Ar g k e n cap m sp sc xs d base w0 t0 (l.setIfInBounds 9 true)) a w := by
  have hn := ready_not hr
  obtain ⟨o, ho, hg, hd, hop⟩ := opIs (ops := ops) (i := 9) (d := some 107) (p := .move (.tmp 8)) (by kernel_rfl)
  refine wpOp_of ho hg ?_
  refine k_move hd hop ?_
  have e1 : a.eval (.tmp 8) = .int .i64 (k : Int) := ((h.frame 8 (by omega)).trans q.p8)
  rw [e1]
  exact (h.read (i := 9) (by omega) hn (by omega) (by omega) rfl)
theorem st10 (hr : 10 ∈ Region.ready .any ops l) (h : RI X Ar g k e n cap m sp sc xs d base w0 t0 l a w) (q : Here X Ar g k e n cap m sp sc xs d base w0 t0) : wpOp Try.prog ops Q 10 (RI X Ar g k e n cap m sp sc xs d base w0 t0 (l.setIfInBounds 10 true)) a w := by
  have hn := ready_not hr
  obtain ⟨o, ho, hg, hd, hop⟩ := opIs (ops := ops) (i := 10) (d := some 108) (p := .indexAddr 28 (.tmp 106) (.tmp 107)) (by kernel_rfl)
  refine wpOp_of ho hg ?_
  exact k_idx28 hd hop q.hk (h.v (j := 8) hr (by rw [show deps ops 10 = [8, 9] from by kernel_rfl]; simp) (by omega)) (h.v (j := 9) hr (by rw [show deps ops 10 = [8, 9] from by kernel_rfl]; simp) (by omega)) (h.read (i := 10) (by omega) hn (by omega) (by omega) rfl)
theorem st11 (hr : 11 ∈ Region.ready .any ops l) (h : RI X Ar g k e n cap m sp sc xs d base w0 t0 l a w) (q : Here X Ar g k e n cap m sp sc xs d base w0 t0) : wpOp Try.prog ops Q 11 (RI X Ar g k e n cap m sp sc xs d base w0 t0 (l.setIfInBounds 11 true)) a w := by
  have hn := ready_not hr
  obtain ⟨o, ho, hg, hd, hop⟩ := opIs (ops := ops) (i := 11) (d := some 109) (p := .load 45 (.tmp 108)) (by kernel_rfl)
  refine wpOp_of ho hg ?_
  exact k_load45 hd hop (h.v (j := 10) hr (by rw [show deps ops 11 = [10] from by kernel_rfl]; simp) (by omega)) (h.cell (i := 11) (by omega) hn q.cg q.lg q.ng) (h.read (i := 11) (by omega) hn (by omega) (by omega) rfl)
theorem st12 (hr : 12 ∈ Region.ready .any ops l) (h : RI X Ar g k e n cap m sp sc xs d base w0 t0 l a w) (q : Here X Ar g k e n cap m sp sc xs d base w0 t0) : wpOp Try.prog ops Q 12 (RI X Ar g k e n cap m sp sc xs d base w0 t0 (l.setIfInBounds 12 true)) a w := by
  have hn := ready_not hr
  obtain ⟨o, ho, hg, hd, hop⟩ := opIs (ops := ops) (i := 12) (d := some 110) (p := .fieldAddr 31 (.tmp 7) 3) (by kernel_rfl)
  refine wpOp_of ho hg ?_
  exact k_field hd hop (.inr rfl) ((h.frame 7 (by omega)).trans q.p7) (h.read (i := 12) (by omega) hn (by omega) (by omega) rfl)
theorem st13 (hr : 13 ∈ Region.ready .any ops l) (h : RI X Ar g k e n cap m sp sc xs d base w0 t0 l a w) (q : Here X Ar g k e n cap m sp sc xs d base w0 t0) : wpOp Try.prog ops Q 13 (RI X Ar g k e n cap m sp sc xs d base w0 t0 (l.setIfInBounds 13 true)) a w := by
  have hn := ready_not hr
  obtain ⟨o, ho, hg, hd, hop⟩ := opIs (ops := ops) (i := 13) (d := some 111) (p := .load 9 (.tmp 110)) (by kernel_rfl)
  refine wpOp_of ho hg ?_
  exact k_load9 hd hop (h.v (j := 12) hr (by rw [show deps ops 13 = [12] from by kernel_rfl]; simp) (by omega)) (h.cell (i := 13) (by omega) hn q.c3 q.lX q.nX) (h.read (i := 13) (by omega) hn (by omega) (by omega) rfl)
theorem st14 (hr : 14 ∈ Region.ready .any ops l) (h : RI X Ar g k e n cap m sp sc xs d base w0 t0 l a w) (q : Here X Ar g k e n cap m sp sc xs d base w0 t0) : wpOp Try.prog ops Q 14 (RI X Ar g k e n cap m sp sc xs d base w0 t0 (l.setIfInBounds 14 true)) a w := by
  have hn := ready_not hr
  obtain ⟨o, ho, hg, hd, hop⟩ := opIs (ops := ops) (i := 14) (d := some 112) (p := .buildSlice 45 1 #[(0, .tmp 111)]) (by kernel_rfl)
  refine wpOp_of ho hg ?_
  refine k_build45 hd hop (h.v (j := 13) hr (by rw [show deps ops 14 = [13] from by kernel_rfl]; simp) (by omega)) ?_
  have hp := h.pre (i := 14) (by omega) hn
  have hgr := h.grown hp
  have hal : Below w.heap.size w (w.alloc (.cells #[.string d] 9)) := (Below.refl _ _).alloc (Nat.le_refl _) _
  exact h.put (i := 14) (by omega) hn trivial (grown_alloc hgr _) (fun _ h1 => (h.old hp h1).alloc _) (fun h1 => absurd rfl h1) (fun _ => ⟨_, rfl, Go.heap_alloc_new _ _, hgr.size⟩) (fun _ nu hf => hf.alloc _) (fun h1 => by omega)
theorem st15 (hr : 15 ∈ Region.ready .any ops l) (h : RI X Ar g k e n cap m sp sc xs d base w0 t0 l a w) (q : Here X Ar g k e n cap m sp sc xs d base w0 t0) : wpOp Try.prog ops Q 15 (RI X Ar g k e n cap m sp sc xs d base w0 t0 (l.setIfInBounds 15 true)) a w := by
  have hn := ready_not hr
  obtain ⟨o, ho, hg, hd, hop⟩ := opIs (ops := ops) (i := 15) (d := some 113) (p := .call { callee := .builtin .append, args := #[.tmp 109, .tmp 112], argTypes := #[45, 45] }) (by kernel_rfl)
  refine wpOp_of ho hg ?_
  obtain ⟨i0, hi0, hz0, hz1, hz2⟩ := info_parts info9
  have hp := h.pre (i := 15) (by omega) hn
  have hgr := h.grown hp
  obtain ⟨B, hB, hBh, hBs⟩ := h.new hp (ready_dep hr (by rw [show deps ops 15 = [11, 14] from by kernel_rfl]; simp))
  have hu : a.eval (.tmp 109) = .slice sp m sc := (h.v (j := 11) hr (by rw [show deps ops 15 = [11, 14] from by kernel_rfl]; simp) (by omega))
  refine wp_append_lies _ _ _ 45 hop base 9 i0 (.string ⟨#[]⟩) 1 16 Try.underlying45 hi0 hz0 hz1 hz2 rfl (by decide) _ m xs hu (h.old hp hn) ⟨B, 0, none⟩ 1 1 [.string d] hB rfl (World.news_of_block (cs := #[.string d]) (t := 9) (fr := (0, 0)) hBh) (by simp [Value.oneCell']) (by omega) (by unfold maxLen; have := q.hm; omega) (by have := q.hm; omega) (Nat.le_trans q.hb hgr.size) _ rfl ?_
  intro g4 cap4 w4 hown hgrow hat hlt
  rw [hd]
  have hne : ∀ b, w0.heap.size ≤ b → some b ≠ (Value.slice sp m sc).ownBlock := fun b hb e1 => by have := (q.row.lt b e1.symm).2; omega
  have hF : Fin 9 base m (.slice sp m sc) xs (.string d) w0 w4 (.slice (some ⟨g4, 0, none⟩) (m + 1) cap4) := ⟨grown_then hgr hgrow, hown, hat.elim (fun h1 => .inl h1.symm) (fun h1 => .inr ⟨g4, rfl, by rw [h1]; exact hgr.size⟩)⟩
  exact h.put (i := 15) (by omega) hn trivial (grown_then hgr hgrow) (fun h1 => absurd rfl h1) (fun _ B' hB' hb' => (hgrow.block B' (Array.getElem?_eq_some_iff.1 hb').1 (hne B' hB')).trans hb') (fun h1 => by omega) (fun h1 => absurd rfl h1) (fun _ => hF)
theorem st16 (hr : 16 ∈ Region.ready .any ops l) (h : RI X Ar g k e n cap m sp sc xs d base w0 t0 l a w) (q : Here X Ar g k e n cap m sp sc xs d base w0 t0) : wpOp Try.prog ops Q 16 (RI X Ar g k e n cap m sp sc xs d base w0 t0 (l.setIfInBounds 16 true)) a w := by
  have hn := ready_not hr
  obtain ⟨o, ho, hg, hd, hop⟩ := opIs (ops := ops) (i := 16) (d := some 114) (p := .indexAddr 28 (.tmp 101) (.tmp 102)) (by kernel_rfl)
  refine wpOp_of ho hg ?_
  exact k_idx28 hd hop q.hk (h.v (j := 3) hr (by rw [show deps ops 16 = [3, 4, 0, 1, 2, 3, 4, 5, 6, 7, 8, 9, 10, 11, 12, 13, 14, 15] from by kernel_rfl]; simp) (by omega)) (h.v (j := 4) hr (by rw [show deps ops 16 = [3, 4, 0, 1, 2, 3, 4, 5, 6, 7, 8, 9, 10, 11, 12, 13, 14, 15] from by kernel_rfl]; simp) (by omega)) (h.read (i := 16) (by omega) hn (by omega) (by omega) rfl)
theorem st17 (hr : 17 ∈ Region.ready .any ops l) (h : RI X Ar g k e n cap m sp sc xs d base w0 t0 l a w) (q : Here X Ar g k e n cap m sp sc xs d base w0 t0) : wpOp Try.prog ops Q 17 (RI X Ar g k e n cap m sp sc xs d base w0 t0 (l.setIfInBounds 17 true)) a w := by
  have hn := ready_not hr
  obtain ⟨o, ho, hg, hd, hop⟩ := opIs (ops := ops) (i := 17) (d := none) (p := .store 45 (.tmp 114) (.tmp 113)) (by kernel_rfl)
  refine wpOp_of ho hg ?_
  have hall : ∀ j, j < 17 → l.getD j false = true := fun j hj => ready_dep hr (by
    rw [show deps ops 17 = [16, 15, 15, 0, 1, 2, 3, 4, 5, 6, 7, 8, 9, 10, 11, 12, 13, 14, 15] from by kernel_rfl]
    simp only [List.mem_cons, List.not_mem_nil]
    omega)
  have hF := h.more hn (hall 15 (by omega))
  obtain ⟨g4, cap4, hnu⟩ := hF.form
  have hgr := h.grown hn
  have hv : V X Ar g k e n cap m sp sc d 16 (a.tmps.getD (98 + 16) undef) := h.val 16 (by omega) (hall 16 (by omega))
  have hcell : w.cell? ⟨g, k, none⟩ = some (.slice sp m sc) := (hgr.cell_far ⟨g, k, none⟩ q.lg q.ng).trans q.cg
  have hfrz : w.frozen? ⟨g, k, none⟩ = false := (hgr.frozen_far ⟨g, k, none⟩ q.lg q.ng).trans q.fg
  refine k_store45 hd hop hv hnu hcell hfrz ?_
  rw [← hnu]
  have h17 : (l.setIfInBounds 17 true).getD 17 false = true := by rw [getD_set, if_pos ⟨rfl, by rw [h.size]; omega⟩]
  exact ⟨by simpa using h.size, h.defers, h.tsize, h.frame, fun j hj hl => h.val j hj (hall j hj), fun h1 => (by rw [h17] at h1; cases h1), fun h1 => (by rw [h17] at h1; cases h1), fun h1 => (by rw [h17] at h1; cases h1), fun h1 => (by rw [h17] at h1; cases h1), fun _ j hj => (by rw [flag (by omega)]; exact hall j hj), fun _ => ⟨w, _, rfl, hF⟩⟩
theorem step_all (q : Here X Ar g k e n cap m sp sc xs d base w0 t0) (i : Nat) (l : Array Bool) (a : Act) (w : World) (hr : i ∈ Region.ready .any ops l) (h : RI X Ar g k e n cap m sp sc xs d base w0 t0 l a w) : wpOp Try.prog ops Q i (RI X Ar g k e n cap m sp sc xs d base w0 t0 (l.setIfInBounds i true)) a w := by
  have hi : i < 18 := by have := ready_lt hr; rwa [ops_size] at this
  match i, hi with
  | 0, _ => exact st0 hr h q
  | 1, _ => exact st1 hr h q
  | 2, _ => exact st2 hr h q
  | 3, _ => exact st3 hr h q
  | 4, _ => exact st4 hr h q
  | 5, _ => exact st5 hr h q
  | 6, _ => exact st6 hr h q
  | 7, _ => exact st7 hr h q
  | 8, _ => exact st8 hr h q
  | 9, _ => exact st9 hr h q
  | 10, _ => exact st10 hr h q
  | 11, _ => exact st11 hr h q
  | 12, _ => exact st12 hr h q
  | 13, _ => exact st13 hr h q
  | 14, _ => exact st14 hr h q
  | 15, _ => exact st15 hr h q
  | 16, _ => exact st16 hr h q
  | 17, _ => exact st17 hr h q
  | n + 18, h => exact absurd h (by omega)
theorem region_done (q : Here X Ar g k e n cap m sp sc xs d base w0 t0)
    (hQ : ∀ (f : Nat → Value) (wF : World), (∃ w1 nu, wF = w1.setCell ⟨g, k, none⟩ nu ∧ Fin 9 base m (.slice sp m sc) xs (.string d) w0 w1 nu) → Q .normal ⟨setAll t0 [(98, f 98), (99, f 99), (100, f 100), (101, f 101), (102, f 102), (103, f 103), (104, f 104), (105, f 105), (106, f 106), (107, f 107), (108, f 108), (109, f 109), (110, f 110), (111, f 111), (112, f 112), (113, f 113), (114, f 114)], []⟩ wF) :
    wpAny Try.prog .any ops Q ops.size (Array.replicate ops.size false) ⟨t0, []⟩ w0.drew := by
  rw [ops_size]
  refine wpAny_inv (RI X Ar g k e n cap m sp sc xs d base w0 t0) (step_all q) (fun l a w hr h => ?_) 18 _ _ _ ⟨by simp, rfl, q.size, fun _ _ => rfl, fun i _ hl => absurd hl (by rw [rep_false]; decide), fun _ => ⟨rfl, rfl, rfl, Nat.le_refl _, fun _ _ _ => rfl⟩, fun _ _ => row_keep q.row (fun _ _ => rfl), fun _ hl => absurd hl (by rw [rep_false]; decide), fun _ hl => absurd hl (by rw [rep_false]; decide), fun hl => absurd hl (by rw [rep_false]; decide), fun hl => absurd hl (by rw [rep_false]; decide)⟩ (by decide)
  have hl := all_listed ops_size (by kernel_rfl) h.size hr
  obtain ⟨t, ds⟩ := a
  obtain rfl : ds = [] := h.defers
  have key := hQ (fun s => t.getD s undef) w (h.done (hl 17 (by omega)))
  have e1 : t = setAll t0 [(98, t.getD 98 undef), (99, t.getD 99 undef), (100, t.getD 100 undef), (101, t.getD 101 undef), (102, t.getD 102 undef), (103, t.getD 103 undef), (104, t.getD 104 undef), (105, t.getD 105 undef), (106, t.getD 106 undef), (107, t.getD 107 undef), (108, t.getD 108 undef), (109, t.getD 109 undef), (110, t.getD 110 undef), (111, t.getD 111 undef), (112, t.getD 112 undef), (113, t.getD 113 undef), (114, t.getD 114 undef)] := frame_all (t := t) (t0 := t0) (h.tsize.trans q.size.symm) 98 114 h.frame
  rw [← e1] at key
  exact key
end
end Go.Proofs.Ytjjnhndlollldaa.Ep.R17
