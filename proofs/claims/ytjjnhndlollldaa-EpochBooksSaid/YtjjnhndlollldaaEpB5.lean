/-
EpochBooks' region 12 that draws its order: whatever order is picked, both rows have an empty list more, and both arrays say so. Condition: the note's block and the arrays lie as they do.
-/
import Derived.Test.YtjjnhndlollldaaEpB2
namespace Go.Proofs.Ytjjnhndlollldaa.Ep.R12
set_option linter.unusedVariables false
open Go.RowKit Go.Proofs.Ytjjnhndlollldaa.Args Go.Proofs.Ytjjnhndlollldaa.Ep

noncomputable def ops : Array Oper := ((Try.f3.body.bind (regionOf 12)).getD #[])
theorem ops_size : ops.size = 20 := by kernel_rfl
/-- Two rows may have grown. -/
structure Grown2 (w w' : World) (r1 r2 : Option Nat) : Prop where
  os : w'.os = w.os
  tape : w'.tape = w.tape
  output : w'.output = w.output
  size : w.heap.size ≤ w'.heap.size
  block : ∀ k, k < w.heap.size → some k ≠ r1 → some k ≠ r2 → w'.heap[k]? = w.heap[k]?
theorem Grown2.alloc {w w' : World} {r1 r2 : Option Nat} (h : Grown2 w w' r1 r2) (o : Obj) : Grown2 w (w'.alloc o) r1 r2 :=
  ⟨h.os, h.tape, h.output, by simp; have := h.size; omega, fun k hk a b => (((Below.refl w'.heap.size w').alloc (Nat.le_refl _) o).block k (Nat.lt_of_lt_of_le hk h.size)).trans (h.block k hk a b)⟩
theorem Grown2.one {w w' w2 : World} {r1 r2 : Option Nat} (h : Grown2 w w' r1 r2) (h2 : w'.grownBy w2 r1) : Grown2 w w2 r1 r2 :=
  ⟨h2.os.trans h.os, h2.tape.trans h.tape, h2.output.trans h.output, Nat.le_trans h.size h2.size, fun k hk a b => (h2.block k (Nat.lt_of_lt_of_le hk h.size) a).trans (h.block k hk a b)⟩
theorem Grown2.two {w w' w2 : World} {r1 r2 : Option Nat} (h : Grown2 w w' r1 r2) (h2 : w'.grownBy w2 r2) : Grown2 w w2 r1 r2 :=
  ⟨h2.os.trans h.os, h2.tape.trans h.tape, h2.output.trans h.output, Nat.le_trans h.size h2.size, fun k hk a b => (h2.block k (Nat.lt_of_lt_of_le hk h.size) b).trans (h.block k hk a b)⟩
/-- A row that has one more, wherever. -/
def F1 (base n : Nat) (v : Value) (xs : List Value) (w0 w : World) (nu : Value) : Prop :=
  w.ownsRow base 45 1 nu (n + 1) (xs ++ [nilV]) ∧ (nu.ownBlock = v.ownBlock ∨ ∃ b, nu.ownBlock = some b ∧ w0.heap.size ≤ b)
theorem F1.form {base n : Nat} {v : Value} {xs : List Value} {w0 w : World} {nu : Value} (h : F1 base n v xs w0 w nu) : ∃ g cap, nu = .slice (some ⟨g, 0, none⟩) (n + 1) cap := by
  obtain ⟨g, cap, _, hv, _⟩ := row_open h.1 (by omega)
  exact ⟨g, cap, hv⟩
section
variable (X S G e ns cs ng cg : Nat) (ps pg : Option Addr) (xs ys : List Value) (base : Nat) (w0 : World) (t0 : Array Value)
structure Here : Prop where
  size : t0.size = 170
  p7 : t0.getD 7 undef = .pointer (some ⟨X, 0, none⟩)
  p4 : t0.getD 4 undef = .pointer (some ⟨S, 0, none⟩)
  p5 : t0.getD 5 undef = .pointer (some ⟨G, 0, none⟩)
  he : e < 2
  c0 : w0.cell? ⟨X, 0, none⟩ = some (.int .i64 (e : Int))
  cS : w0.cell? ⟨S, e, none⟩ = some (.slice ps ns cs)
  cG : w0.cell? ⟨G, e, none⟩ = some (.slice pg ng cg)
  fS : w0.frozen? ⟨S, e, none⟩ = false
  fG : w0.frozen? ⟨G, e, none⟩ = false
  lX : X < w0.heap.size
  lS : S < w0.heap.size
  lG : G < w0.heap.size
  XS : X ≠ S
  XG : X ≠ G
  SG : S ≠ G
  nX : some X ≠ (Value.slice ps ns cs).ownBlock ∧ some X ≠ (Value.slice pg ng cg).ownBlock
  nS : some S ≠ (Value.slice ps ns cs).ownBlock ∧ some S ≠ (Value.slice pg ng cg).ownBlock
  nG : some G ≠ (Value.slice ps ns cs).ownBlock ∧ some G ≠ (Value.slice pg ng cg).ownBlock
  rowS : w0.ownsRow base 45 1 (.slice ps ns cs) ns xs
  rowG : w0.ownsRow base 45 1 (.slice pg ng cg) ng ys
  apart : ∀ b, (Value.slice ps ns cs).ownBlock = some b → (Value.slice pg ng cg).ownBlock ≠ some b
  hs : ns ≤ 1000
  hg : ng ≤ 1000
  hb : base ≤ w0.heap.size
def V (i : Nat) (v : Value) : Prop := match i with
  | 0 => v = .pointer (some ⟨X, 0, none⟩)
  | 1 => v = .int .i64 (e : Int)
  | 2 => v = .pointer (some ⟨X, 0, none⟩)
  | 3 => v = .int .i64 (e : Int)
  | 4 => v = .pointer (some ⟨X, 0, none⟩)
  | 5 => v = .int .i64 (e : Int)
  | 6 => v = .pointer (some ⟨S, e, none⟩)
  | 7 => v = .slice ps ns cs
  | 10 => v = .pointer (some ⟨X, 0, none⟩)
  | 11 => v = .int .i64 (e : Int)
  | 12 => v = .pointer (some ⟨G, e, none⟩)
  | 13 => v = .slice pg ng cg
  | 16 => v = .pointer (some ⟨S, e, none⟩)
  | 18 => v = .pointer (some ⟨G, e, none⟩)
  | _ => True
def sl (i : Nat) : Nat := if i = 18 then 60 else 43 + i
structure Core0 (f8 f9 f14 f15 : Bool) (a51 a52 a57 a58 : Value) (w : World) : Prop where
  grown : Grown2 w0 w (Value.slice ps ns cs).ownBlock (Value.slice pg ng cg).ownBlock
  olds : f9 = false → w.ownsRow base 45 1 (.slice ps ns cs) ns xs
  oldg : f15 = false → w.ownsRow base 45 1 (.slice pg ng cg) ng ys
  news : f8 = true → ∃ B, a51 = .slice (some ⟨B, 0, none⟩) 1 1 ∧ w.heap[B]? = some (.cells #[nilV] 45 (0, 0)) ∧ w0.heap.size ≤ B
  newg : f14 = true → ∃ B, a57 = .slice (some ⟨B, 0, none⟩) 1 1 ∧ w.heap[B]? = some (.cells #[nilV] 45 (0, 0)) ∧ w0.heap.size ≤ B
  mores : f9 = true → F1 base ns (.slice ps ns cs) xs w0 w a52
  moreg : f15 = true → F1 base ng (.slice pg ng cg) ys w0 w a58
  sep : f9 = true → f15 = true → ∀ b, a52.ownBlock = some b → a58.ownBlock ≠ some b
structure Core (w : World) (a b : Value) : Prop where
  grown : Grown2 w0 w (Value.slice ps ns cs).ownBlock (Value.slice pg ng cg).ownBlock
  mores : F1 base ns (.slice ps ns cs) xs w0 w a
  moreg : F1 base ng (.slice pg ng cg) ys w0 w b
  sep : ∀ k, a.ownBlock = some k → b.ownBlock ≠ some k
def Closed (l : Array Bool) : Prop := ∀ i, l.getD i false = true → ∀ d ∈ deps ops i, l.getD d false = true
structure RI (l : Array Bool) (a : Act) (w : World) : Prop where
  size : l.size = 20
  defers : a.defers = []
  tsize : a.tmps.size = 170
  frame : ∀ s, ¬ (43 ≤ s ∧ s ≤ 60) → a.tmps.getD s undef = t0.getD s undef
  val : ∀ i, i < 19 → i ≠ 17 → l.getD i false = true → V X S G e ns cs ng cg ps pg i (a.tmps.getD (sl i) undef)
  pre : l.getD 17 false = false → Core0 ns cs ng cg ps pg xs ys base w0 (l.getD 8 false) (l.getD 9 false) (l.getD 14 false) (l.getD 15 false) (a.tmps.getD 51 undef) (a.tmps.getD 52 undef) (a.tmps.getD 57 undef) (a.tmps.getD 58 undef) w
  mid : l.getD 17 false = true → l.getD 19 false = false → ∃ w1, w = w1.setCell ⟨S, e, none⟩ (a.tmps.getD 52 undef) ∧ Core ns cs ng cg ps pg xs ys base w0 w1 (a.tmps.getD 52 undef) (a.tmps.getD 58 undef)
  all : l.getD 17 false = true → ∀ i, i < 17 → i ≠ 2 → i ≠ 3 → l.getD i false = true
  last : l.getD 19 false = true → ∀ i, i < 19 → l.getD i false = true
  done : l.getD 19 false = true → ∃ w1 c d, w = (w1.setCell ⟨S, e, none⟩ c).setCell ⟨G, e, none⟩ d ∧ Core ns cs ng cg ps pg xs ys base w0 w1 c d
  closed : Closed l
variable {X S G e ns cs ng cg ps pg xs ys base w0 t0}
variable {w : World} {l : Array Bool} {a : Act} {Q : Exit → Act → World → Prop}
theorem flag {l : Array Bool} {i j : Nat} (h : i ≠ j) : (l.setIfInBounds i true).getD j false = l.getD j false := by rw [getD_set, if_neg (fun x => h x.1)]
theorem slot_ne (t : Array Value) {i j : Nat} (v : Value) (h : i ≠ j) : (t.setIfInBounds i v).getD j undef = t.getD j undef := by rw [getD_set, if_neg (fun x => h x.1)]
theorem Closed.set {i : Nat} (h : Closed l) (hd : ∀ d ∈ deps ops i, l.getD d false = true) : Closed (l.setIfInBounds i true) := by
  intro j hj d hdj
  have key : l.getD d false = true := by
    by_cases e1 : i = j
    · subst e1; exact hd d hdj
    · rw [getD_set, if_neg (fun x => e1 x.1)] at hj
      exact h j hj d hdj
  rw [getD_set]
  split
  · rfl
  · exact key
theorem RI.no17 (h : RI X S G e ns cs ng cg ps pg xs ys base w0 t0 l a w) {i : Nat} (hi : i < 17) (h2 : i ≠ 2) (h3 : i ≠ 3) (hr : l.getD i false = false) : l.getD 17 false = false := by
  cases h1 : l.getD 17 false with
  | false => rfl
  | true => rw [h.all h1 i hi h2 h3] at hr; cases hr
theorem RI.no19 (h : RI X S G e ns cs ng cg ps pg xs ys base w0 t0 l a w) {i : Nat} (hi : i < 19) (hr : l.getD i false = false) : l.getD 19 false = false := by
  cases h1 : l.getD 19 false with
  | false => rfl
  | true => rw [h.last h1 i hi] at hr; cases hr
theorem sl_inj {i j : Nat} (hi : i < 19) (hj : j < 19) (h1 : i ≠ 17) (h2 : j ≠ 17) (h : i ≠ j) : sl i ≠ sl j := by unfold sl; split <;> split <;> omega
theorem RI.vput (h : RI X S G e ns cs ng cg ps pg xs ys base w0 t0 l a w) {i : Nat} (hi : i < 19) (h17 : i ≠ 17) {v : Value} (hv : V X S G e ns cs ng cg ps pg i v) : ∀ j, j < 19 → j ≠ 17 → (l.setIfInBounds i true).getD j false = true → V X S G e ns cs ng cg ps pg j ((a.tmps.setIfInBounds (sl i) v).getD (sl j) undef) := fun j hj hj17 hl => by
  by_cases e1 : i = j
  · subst e1
    rw [getD_set, if_pos ⟨rfl, by rw [h.tsize]; unfold sl; split <;> omega⟩]; exact hv
  · rw [flag e1] at hl
    rw [slot_ne _ _ (sl_inj hi hj h17 hj17 e1)]
    exact h.val j hj hj17 hl
/-- An operation ahead of the first store: what it leaves, and the world. -/
theorem RI.put (h : RI X S G e ns cs ng cg ps pg xs ys base w0 t0 l a w) {i : Nat} (hi : i < 17) (hp : l.getD 17 false = false) (hr : l.getD i false = false) {v : Value} {w' : World} (hv : V X S G e ns cs ng cg ps pg i v)
    (hrd : ∀ d ∈ deps ops i, l.getD d false = true) (hc : Core0 ns cs ng cg ps pg xs ys base w0 (if i = 8 then true else l.getD 8 false) (if i = 9 then true else l.getD 9 false) (if i = 14 then true else l.getD 14 false) (if i = 15 then true else l.getD 15 false) (if i = 8 then v else a.tmps.getD 51 undef) (if i = 9 then v else a.tmps.getD 52 undef) (if i = 14 then v else a.tmps.getD 57 undef) (if i = 15 then v else a.tmps.getD 58 undef) w') :
    RI X S G e ns cs ng cg ps pg xs ys base w0 t0 (l.setIfInBounds i true) (a.put (some (43 + i)) v) w' := by
  have h17 : (l.setIfInBounds i true).getD 17 false = false := by rw [flag (by omega)]; exact hp
  have h19 : (l.setIfInBounds i true).getD 19 false = false := by rw [flag (by omega)]; exact h.no19 (by omega) hr
  have hsl : sl i = 43 + i := by unfold sl; rw [if_neg (by omega)]
  have hfl : ∀ j, j < 20 → (l.setIfInBounds i true).getD j false = if i = j then true else l.getD j false := fun j hj => by
    rw [getD_set, h.size]
    by_cases e1 : i = j
    · rw [if_pos ⟨e1, by omega⟩, if_pos e1]
    · rw [if_neg (fun x => e1 x.1), if_neg e1]
  have hsv : ∀ j, j < 17 → (a.tmps.setIfInBounds (43 + i) v).getD (43 + j) undef = if i = j then v else a.tmps.getD (43 + j) undef := fun j hj => by
    rw [getD_set, h.tsize]
    by_cases e1 : i = j
    · rw [if_pos ⟨by omega, by omega⟩, if_pos e1]
    · rw [if_neg (fun x => e1 (by omega)), if_neg e1]
  refine ⟨by simpa using h.size, h.defers, by simpa [Act.put] using h.tsize, fun s h1 => ?_, fun j hj hj17 hl => ?_, fun _ => ?_, fun h1 => (by rw [h17] at h1; cases h1), fun h1 => (by rw [h17] at h1; cases h1), fun h1 => (by rw [h19] at h1; cases h1), fun h1 => (by rw [h19] at h1; cases h1), h.closed.set hrd⟩
  · show (a.tmps.setIfInBounds (43 + i) v).getD s undef = _
    rw [slot_ne _ _ (by omega)]
    exact h.frame s h1
  · have := h.vput (i := i) (by omega) (by omega) hv j hj hj17 hl
    rw [hsl] at this
    exact this
  · show Core0 _ _ _ _ _ _ _ _ _ _ _ _ _ _ ((a.tmps.setIfInBounds (43 + i) v).getD (43 + 8) undef) ((a.tmps.setIfInBounds (43 + i) v).getD (43 + 9) undef) ((a.tmps.setIfInBounds (43 + i) v).getD (43 + 14) undef) ((a.tmps.setIfInBounds (43 + i) v).getD (43 + 15) undef) w'
    rw [hsv 8 (by omega), hsv 9 (by omega), hsv 14 (by omega), hsv 15 (by omega), hfl 8 (by omega), hfl 9 (by omega), hfl 14 (by omega), hfl 15 (by omega)]
    exact hc
/-- An operation that reads alone. -/
theorem RI.read (h : RI X S G e ns cs ng cg ps pg xs ys base w0 t0 l a w) {i : Nat} (hi : i < 19) (h17 : i ≠ 17) (hrd : ∀ d ∈ deps ops i, l.getD d false = true) (hr : l.getD i false = false) (h8 : i ≠ 8) (h9 : i ≠ 9) (h14 : i ≠ 14) (h15 : i ≠ 15) {v : Value} (hv : V X S G e ns cs ng cg ps pg i v) :
    RI X S G e ns cs ng cg ps pg xs ys base w0 t0 (l.setIfInBounds i true) (a.put (some (sl i)) v) w := by
  have h19 : (l.setIfInBounds i true).getD 19 false = false := by rw [flag (by omega)]; exact h.no19 (by omega) hr
  have hne : ∀ j, j = 51 ∨ j = 52 ∨ j = 57 ∨ j = 58 → sl i ≠ j := fun j hj => by unfold sl; split <;> omega
  refine ⟨by simpa using h.size, h.defers, by simpa [Act.put] using h.tsize, fun s h1 => ?_, h.vput hi h17 hv, fun h1 => ?_, fun h1 _ => ?_, fun h1 j hj j2 j3 => ?_, fun h1 => (by rw [h19] at h1; cases h1), fun h1 => (by rw [h19] at h1; cases h1), h.closed.set hrd⟩
  · show (a.tmps.setIfInBounds (sl i) v).getD s undef = _
    rw [slot_ne _ _ (by unfold sl; split <;> omega)]
    exact h.frame s h1
  · rw [flag (by omega)] at h1
    show Core0 _ _ _ _ _ _ _ _ _ _ _ _ _ _ ((a.tmps.setIfInBounds (sl i) v).getD 51 undef) ((a.tmps.setIfInBounds (sl i) v).getD 52 undef) ((a.tmps.setIfInBounds (sl i) v).getD 57 undef) ((a.tmps.setIfInBounds (sl i) v).getD 58 undef) w
    rw [slot_ne _ _ (hne 51 (by omega)), slot_ne _ _ (hne 52 (by omega)), slot_ne _ _ (hne 57 (by omega)), slot_ne _ _ (hne 58 (by omega)), flag h8, flag h9, flag h14, flag h15]
    exact h.pre h1
  · rw [flag (by omega)] at h1
    show ∃ w1, w = w1.setCell ⟨S, e, none⟩ ((a.tmps.setIfInBounds (sl i) v).getD 52 undef) ∧ Core ns cs ng cg ps pg xs ys base w0 w1 ((a.tmps.setIfInBounds (sl i) v).getD 52 undef) ((a.tmps.setIfInBounds (sl i) v).getD 58 undef)
    rw [slot_ne _ _ (hne 52 (by omega)), slot_ne _ _ (hne 58 (by omega))]
    exact h.mid h1 (h.no19 (by omega) hr)
  · rw [flag (by omega)] at h1
    by_cases e1 : i = j
    · subst e1; rw [getD_set, if_pos ⟨rfl, by rw [h.size]; omega⟩]
    · rw [flag e1]; exact h.all h1 j hj j2 j3
theorem RI.v (h : RI X S G e ns cs ng cg ps pg xs ys base w0 t0 l a w) {i j : Nat} (hr : i ∈ Region.ready .any ops l) (hd : j ∈ deps ops i) (hj : j < 19) (h17 : j ≠ 17) : V X S G e ns cs ng cg ps pg j (a.tmps.getD (sl j) undef) := h.val j hj h17 (ready_dep hr hd)
theorem dep15 : deps ops 15 = [13, 14, 9] := by kernel_rfl
/-- What comes ahead of the second append. -/
theorem RI.upto (h : RI X S G e ns cs ng cg ps pg xs ys base w0 t0 l a w) (a15 : l.getD 15 false = true) : ∀ j, 10 ≤ j → j ≤ 14 → l.getD j false = true := fun j h1 h2 => by
  have a13 : l.getD 13 false = true := h.closed 15 a15 13 (by rw [dep15]; simp)
  have a14 : l.getD 14 false = true := h.closed 15 a15 14 (by rw [dep15]; simp)
  have a12 : l.getD 12 false = true := h.closed 13 a13 12 (by rw [show deps ops 13 = [12] from by kernel_rfl]; simp)
  have a11 : l.getD 11 false = true := h.closed 12 a12 11 (by rw [show deps ops 12 = [11] from by kernel_rfl]; simp)
  have a10 : l.getD 10 false = true := h.closed 11 a11 10 (by rw [show deps ops 11 = [10] from by kernel_rfl]; simp)
  have : j = 10 ∨ j = 11 ∨ j = 12 ∨ j = 13 ∨ j = 14 := by omega
  rcases this with rfl | rfl | rfl | rfl | rfl <;> assumption
/-- The note's first cell, at any time. -/
theorem RI.x0 (h : RI X S G e ns cs ng cg ps pg xs ys base w0 t0 l a w) (q : Here X S G e ns cs ng cg ps pg xs ys base w0 t0) {i : Nat} (hi : i < 19) (hr : l.getD i false = false) : w.cell? ⟨X, 0, none⟩ = some (.int .i64 (e : Int)) := by
  cases h1 : l.getD 17 false with
  | false => exact (World.cell?_of_block ((h.pre h1).grown.block X q.lX q.nX.1 q.nX.2)).trans q.c0
  | true =>
    obtain ⟨w1, hw, hc⟩ := h.mid h1 (h.no19 hi hr)
    rw [hw]
    exact (World.cell?_of_block (a := ⟨X, 0, none⟩) (setCell_keep _ _ q.XS)).trans ((World.cell?_of_block (hc.grown.block X q.lX q.nX.1 q.nX.2)).trans q.c0)
theorem st0 (hr : 0 ∈ Region.ready .any ops l) (h : RI X S G e ns cs ng cg ps pg xs ys base w0 t0 l a w) (q : Here X S G e ns cs ng cg ps pg xs ys base w0 t0) : wpOp Try.prog ops Q 0 (RI X S G e ns cs ng cg ps pg xs ys base w0 t0 (l.setIfInBounds 0 true)) a w := by
  have hn := ready_not hr
  obtain ⟨o, ho, hg, hd, hop⟩ := opIs (ops := ops) (i := 0) (d := some 43) (p := .fieldAddr 31 (.tmp 7) 0) (by kernel_rfl)
  refine wpOp_of ho hg ?_
  exact k_field hd hop (.inl rfl) ((h.frame 7 (by omega)).trans q.p7) (h.read (i := 0) (by omega) (by omega) (fun d hd => ready_dep hr hd) hn (by omega) (by omega) (by omega) (by omega) rfl)
theorem st1 (hr : 1 ∈ Region.ready .any ops l) (h : RI X S G e ns cs ng cg ps pg xs ys base w0 t0 l a w) (q : Here X S G e ns cs ng cg ps pg xs ys base w0 t0) : wpOp Try.prog ops Q 1 (RI X S G e ns cs ng cg ps pg xs ys base w0 t0 (l.setIfInBounds 1 true)) a w := by
  have hn := ready_not hr
  obtain ⟨o, ho, hg, hd, hop⟩ := opIs (ops := ops) (i := 1) (d := some 44) (p := .load 3 (.tmp 43)) (by kernel_rfl)
  refine wpOp_of ho hg ?_
  exact k_load3 hd hop (h.v (j := 0) hr (by rw [show deps ops 1 = [0] from by kernel_rfl]; simp) (by omega) (by omega)) (h.x0 q (i := 1) (by omega) hn) (h.read (i := 1) (by omega) (by omega) (fun d hd => ready_dep hr hd) hn (by omega) (by omega) (by omega) (by omega) rfl)
theorem st2 (hr : 2 ∈ Region.ready .any ops l) (h : RI X S G e ns cs ng cg ps pg xs ys base w0 t0 l a w) (q : Here X S G e ns cs ng cg ps pg xs ys base w0 t0) : wpOp Try.prog ops Q 2 (RI X S G e ns cs ng cg ps pg xs ys base w0 t0 (l.setIfInBounds 2 true)) a w := by
  have hn := ready_not hr
  obtain ⟨o, ho, hg, hd, hop⟩ := opIs (ops := ops) (i := 2) (d := some 45) (p := .fieldAddr 31 (.tmp 7) 0) (by kernel_rfl)
  refine wpOp_of ho hg ?_
  exact k_field hd hop (.inl rfl) ((h.frame 7 (by omega)).trans q.p7) (h.read (i := 2) (by omega) (by omega) (fun d hd => ready_dep hr hd) hn (by omega) (by omega) (by omega) (by omega) rfl)
theorem st3 (hr : 3 ∈ Region.ready .any ops l) (h : RI X S G e ns cs ng cg ps pg xs ys base w0 t0 l a w) (q : Here X S G e ns cs ng cg ps pg xs ys base w0 t0) : wpOp Try.prog ops Q 3 (RI X S G e ns cs ng cg ps pg xs ys base w0 t0 (l.setIfInBounds 3 true)) a w := by
  have hn := ready_not hr
  obtain ⟨o, ho, hg, hd, hop⟩ := opIs (ops := ops) (i := 3) (d := some 46) (p := .load 3 (.tmp 45)) (by kernel_rfl)
  refine wpOp_of ho hg ?_
  exact k_load3 hd hop (h.v (j := 2) hr (by rw [show deps ops 3 = [2] from by kernel_rfl]; simp) (by omega) (by omega)) (h.x0 q (i := 3) (by omega) hn) (h.read (i := 3) (by omega) (by omega) (fun d hd => ready_dep hr hd) hn (by omega) (by omega) (by omega) (by omega) rfl)
theorem st4 (hr : 4 ∈ Region.ready .any ops l) (h : RI X S G e ns cs ng cg ps pg xs ys base w0 t0 l a w) (q : Here X S G e ns cs ng cg ps pg xs ys base w0 t0) : wpOp Try.prog ops Q 4 (RI X S G e ns cs ng cg ps pg xs ys base w0 t0 (l.setIfInBounds 4 true)) a w := by
  have hn := ready_not hr
  obtain ⟨o, ho, hg, hd, hop⟩ := opIs (ops := ops) (i := 4) (d := some 47) (p := .fieldAddr 31 (.tmp 7) 0) (by kernel_rfl)
  refine wpOp_of ho hg ?_
  exact k_field hd hop (.inl rfl) ((h.frame 7 (by omega)).trans q.p7) (h.read (i := 4) (by omega) (by omega) (fun d hd => ready_dep hr hd) hn (by omega) (by omega) (by omega) (by omega) rfl)
theorem st5 (hr : 5 ∈ Region.ready .any ops l) (h : RI X S G e ns cs ng cg ps pg xs ys base w0 t0 l a w) (q : Here X S G e ns cs ng cg ps pg xs ys base w0 t0) : wpOp Try.prog ops Q 5 (RI X S G e ns cs ng cg ps pg xs ys base w0 t0 (l.setIfInBounds 5 true)) a w := by
  have hn := ready_not hr
  obtain ⟨o, ho, hg, hd, hop⟩ := opIs (ops := ops) (i := 5) (d := some 48) (p := .load 3 (.tmp 47)) (by kernel_rfl)
  refine wpOp_of ho hg ?_
  exact k_load3 hd hop (h.v (j := 4) hr (by rw [show deps ops 5 = [4] from by kernel_rfl]; simp) (by omega) (by omega)) (h.x0 q (i := 5) (by omega) hn) (h.read (i := 5) (by omega) (by omega) (fun d hd => ready_dep hr hd) hn (by omega) (by omega) (by omega) (by omega) rfl)
theorem st6 (hr : 6 ∈ Region.ready .any ops l) (h : RI X S G e ns cs ng cg ps pg xs ys base w0 t0 l a w) (q : Here X S G e ns cs ng cg ps pg xs ys base w0 t0) : wpOp Try.prog ops Q 6 (RI X S G e ns cs ng cg ps pg xs ys base w0 t0 (l.setIfInBounds 6 true)) a w := by
  have hn := ready_not hr
  obtain ⟨o, ho, hg, hd, hop⟩ := opIs (ops := ops) (i := 6) (d := some 49) (p := .indexAddr 29 (.tmp 4) (.tmp 48)) (by kernel_rfl)
  refine wpOp_of ho hg ?_
  exact k_idx29 hd hop q.he ((h.frame 4 (by omega)).trans q.p4) (h.v (j := 5) hr (by rw [show deps ops 6 = [5] from by kernel_rfl]; simp) (by omega) (by omega)) (h.read (i := 6) (by omega) (by omega) (fun d hd => ready_dep hr hd) hn (by omega) (by omega) (by omega) (by omega) rfl)
theorem st7 (hr : 7 ∈ Region.ready .any ops l) (h : RI X S G e ns cs ng cg ps pg xs ys base w0 t0 l a w) (q : Here X S G e ns cs ng cg ps pg xs ys base w0 t0) : wpOp Try.prog ops Q 7 (RI X S G e ns cs ng cg ps pg xs ys base w0 t0 (l.setIfInBounds 7 true)) a w := by
  have hn := ready_not hr
  obtain ⟨o, ho, hg, hd, hop⟩ := opIs (ops := ops) (i := 7) (d := some 50) (p := .load 28 (.tmp 49)) (by kernel_rfl)
  refine wpOp_of ho hg ?_
  have hp := h.no17 (i := 7) (by omega) (by omega) (by omega) hn
  exact k_load28 hd hop (h.v (j := 6) hr (by rw [show deps ops 7 = [6] from by kernel_rfl]; simp) (by omega) (by omega)) ((World.cell?_of_block ((h.pre hp).grown.block S q.lS q.nS.1 q.nS.2)).trans q.cS) (h.read (i := 7) (by omega) (by omega) (fun d hd => ready_dep hr hd) hn (by omega) (by omega) (by omega) (by omega) rfl)
theorem st8 (hr : 8 ∈ Region.ready .any ops l) (h : RI X S G e ns cs ng cg ps pg xs ys base w0 t0 l a w) (q : Here X S G e ns cs ng cg ps pg xs ys base w0 t0) : wpOp Try.prog ops Q 8 (RI X S G e ns cs ng cg ps pg xs ys base w0 t0 (l.setIfInBounds 8 true)) a w := by
  have hn := ready_not hr
  obtain ⟨o, ho, hg, hd, hop⟩ := opIs (ops := ops) (i := 8) (d := some 51) (p := .buildSlice 28 1 #[(0, .const (.slice none 0 0))]) (by kernel_rfl)
  refine wpOp_of ho hg ?_
  have hp := h.no17 (i := 8) (by omega) (by omega) (by omega) hn
  have hc := h.pre hp
  refine k_build28 hd hop ?_
  have hal : ∀ B : Nat, w.heap[B]? = some (Obj.cells #[nilV] 45 (0, 0)) → (w.alloc (.cells #[.slice none 0 0] 45)).heap[B]? = some (Obj.cells #[nilV] 45 (0, 0)) := fun B hB => (((Below.refl w.heap.size w).alloc (Nat.le_refl _) (.cells #[.slice none 0 0] 45)).block B (Array.getElem?_eq_some_iff.1 hB).1).trans hB
  refine h.put (i := 8) (by omega) hp hn trivial (fun d hd => ready_dep hr hd) ⟨hc.grown.alloc _, fun h1 => (hc.olds h1).alloc _, fun h1 => (hc.oldg h1).alloc _, fun h1 => ?_, fun h1 => ?_, fun h1 => ⟨(hc.mores h1).1.alloc _, (hc.mores h1).2⟩, fun h1 => ⟨(hc.moreg h1).1.alloc _, (hc.moreg h1).2⟩, hc.sep⟩
  · exact ⟨_, rfl, Go.heap_alloc_new _ _, hc.grown.size⟩
  · obtain ⟨B, b1, b2, b3⟩ := hc.newg h1
    exact ⟨B, b1, hal B b2, b3⟩
theorem st9 (hr : 9 ∈ Region.ready .any ops l) (h : RI X S G e ns cs ng cg ps pg xs ys base w0 t0 l a w) (q : Here X S G e ns cs ng cg ps pg xs ys base w0 t0) : wpOp Try.prog ops Q 9 (RI X S G e ns cs ng cg ps pg xs ys base w0 t0 (l.setIfInBounds 9 true)) a w := by
  have hn := ready_not hr
  obtain ⟨o, ho, hg, hd, hop⟩ := opIs (ops := ops) (i := 9) (d := some 52) (p := .call { callee := .builtin .append, args := #[.tmp 50, .tmp 51], argTypes := #[28, 28] }) (by kernel_rfl)
  refine wpOp_of ho hg ?_
  obtain ⟨i0, hi0, hz0, hz1, hz2⟩ := info_parts info45
  have hp := h.no17 (i := 9) (by omega) (by omega) (by omega) hn
  have hc := h.pre hp
  obtain ⟨B, hB, hBh, hBs⟩ := hc.news (ready_dep hr (by rw [show deps ops 9 = [7, 8] from by kernel_rfl]; simp))
  have hu : a.eval (.tmp 50) = .slice ps ns cs := (h.v (j := 7) hr (by rw [show deps ops 9 = [7, 8] from by kernel_rfl]; simp) (by omega) (by omega))
  refine wp_append_lies _ _ _ 28 hop base 45 i0 (.slice none 0 0) 1 24 Try.underlying28 hi0 hz0 hz1 hz2 rfl (by decide) _ ns xs hu (hc.olds hn) ⟨B, 0, none⟩ 1 1 [nilV] hB rfl (World.news_of_block (cs := #[nilV]) (t := 45) (fr := (0, 0)) hBh) (by simp [nilV, Value.oneCell']) (by omega) (by unfold maxLen; have := q.hs; have := q.hg; omega) (by have := q.hs; have := q.hg; omega) (Nat.le_trans q.hb hc.grown.size) _ rfl ?_
  intro g4 cap4 w4 hown hgrow hat hlt
  rw [hd]
  have hbs : ∀ b, w0.heap.size ≤ b → some b ≠ (Value.slice ps ns cs).ownBlock := fun b hb e1 => by have := (q.rowS.lt b e1.symm).2; omega
  have hbg : ∀ b, w0.heap.size ≤ b → some b ≠ (Value.slice pg ng cg).ownBlock := fun b hb e1 => by have := (q.rowG.lt b e1.symm).2; omega
  have hnb : ∀ B' : Nat, w0.heap.size ≤ B' → w.heap[B']? = some (Obj.cells #[nilV] 45 (0, 0)) → w4.heap[B']? = some (.cells #[nilV] 45 (0, 0)) := fun B' hB' hb' => (hgrow.block B' (Array.getElem?_eq_some_iff.1 hb').1 (hbs B' hB')).trans hb'
  have hF : F1 base ns (.slice ps ns cs) xs w0 w4 (.slice (some ⟨g4, 0, none⟩) (ns + 1) cap4) := ⟨hown, hat.elim (fun h1 => .inl h1.symm) (fun h1 => .inr ⟨g4, rfl, by rw [h1]; exact hc.grown.size⟩)⟩
  have h15 : l.getD 15 false = false := by
    cases h1 : l.getD 15 false with
    | false => rfl
    | true => rw [h.closed 15 h1 9 (by rw [dep15]; simp)] at hn; cases hn
  refine h.put (i := 9) (by omega) hp hn trivial (fun d hd => ready_dep hr hd) ⟨hc.grown.one hgrow, fun h1 => (by cases h1), fun h1 => row_keep (hc.oldg h1) fun b hb => hgrow.block b ((hc.oldg h1).lt b hb).2 (fun e1 => q.apart b e1.symm hb), fun h1 => ?_, fun h1 => ?_, fun _ => hF, fun h1 => (by rw [if_neg (by omega), h15] at h1; cases h1), fun _ h1 => (by rw [if_neg (by omega), h15] at h1; cases h1)⟩
  · obtain ⟨B', b1, b2, b3⟩ := hc.news h1
    exact ⟨B', b1, hnb B' b3 b2, b3⟩
  · obtain ⟨B', b1, b2, b3⟩ := hc.newg h1
    exact ⟨B', b1, hnb B' b3 b2, b3⟩
theorem st10 (hr : 10 ∈ Region.ready .any ops l) (h : RI X S G e ns cs ng cg ps pg xs ys base w0 t0 l a w) (q : Here X S G e ns cs ng cg ps pg xs ys base w0 t0) : wpOp Try.prog ops Q 10 (RI X S G e ns cs ng cg ps pg xs ys base w0 t0 (l.setIfInBounds 10 true)) a w := by
  have hn := ready_not hr
  obtain ⟨o, ho, hg, hd, hop⟩ := opIs (ops := ops) (i := 10) (d := some 53) (p := .fieldAddr 31 (.tmp 7) 0) (by kernel_rfl)
  refine wpOp_of ho hg ?_
  exact k_field hd hop (.inl rfl) ((h.frame 7 (by omega)).trans q.p7) (h.read (i := 10) (by omega) (by omega) (fun d hd => ready_dep hr hd) hn (by omega) (by omega) (by omega) (by omega) rfl)
theorem st11 (hr : 11 ∈ Region.ready .any ops l) (h : RI X S G e ns cs ng cg ps pg xs ys base w0 t0 l a w) (q : Here X S G e ns cs ng cg ps pg xs ys base w0 t0) : wpOp Try.prog ops Q 11 (RI X S G e ns cs ng cg ps pg xs ys base w0 t0 (l.setIfInBounds 11 true)) a w := by
  have hn := ready_not hr
  obtain ⟨o, ho, hg, hd, hop⟩ := opIs (ops := ops) (i := 11) (d := some 54) (p := .load 3 (.tmp 53)) (by kernel_rfl)
  refine wpOp_of ho hg ?_
  exact k_load3 hd hop (h.v (j := 10) hr (by rw [show deps ops 11 = [10] from by kernel_rfl]; simp) (by omega) (by omega)) (h.x0 q (i := 11) (by omega) hn) (h.read (i := 11) (by omega) (by omega) (fun d hd => ready_dep hr hd) hn (by omega) (by omega) (by omega) (by omega) rfl)
theorem st12 (hr : 12 ∈ Region.ready .any ops l) (h : RI X S G e ns cs ng cg ps pg xs ys base w0 t0 l a w) (q : Here X S G e ns cs ng cg ps pg xs ys base w0 t0) : wpOp Try.prog ops Q 12 (RI X S G e ns cs ng cg ps pg xs ys base w0 t0 (l.setIfInBounds 12 true)) a w := by
  have hn := ready_not hr
  obtain ⟨o, ho, hg, hd, hop⟩ := opIs (ops := ops) (i := 12) (d := some 55) (p := .indexAddr 29 (.tmp 5) (.tmp 54)) (by kernel_rfl)
  refine wpOp_of ho hg ?_
  exact k_idx29 hd hop q.he ((h.frame 5 (by omega)).trans q.p5) (h.v (j := 11) hr (by rw [show deps ops 12 = [11] from by kernel_rfl]; simp) (by omega) (by omega)) (h.read (i := 12) (by omega) (by omega) (fun d hd => ready_dep hr hd) hn (by omega) (by omega) (by omega) (by omega) rfl)
theorem st13 (hr : 13 ∈ Region.ready .any ops l) (h : RI X S G e ns cs ng cg ps pg xs ys base w0 t0 l a w) (q : Here X S G e ns cs ng cg ps pg xs ys base w0 t0) : wpOp Try.prog ops Q 13 (RI X S G e ns cs ng cg ps pg xs ys base w0 t0 (l.setIfInBounds 13 true)) a w := by
  have hn := ready_not hr
  obtain ⟨o, ho, hg, hd, hop⟩ := opIs (ops := ops) (i := 13) (d := some 56) (p := .load 28 (.tmp 55)) (by kernel_rfl)
  refine wpOp_of ho hg ?_
  have hp := h.no17 (i := 13) (by omega) (by omega) (by omega) hn
  exact k_load28 hd hop (h.v (j := 12) hr (by rw [show deps ops 13 = [12] from by kernel_rfl]; simp) (by omega) (by omega)) ((World.cell?_of_block ((h.pre hp).grown.block G q.lG q.nG.1 q.nG.2)).trans q.cG) (h.read (i := 13) (by omega) (by omega) (fun d hd => ready_dep hr hd) hn (by omega) (by omega) (by omega) (by omega) rfl)
theorem st14 (hr : 14 ∈ Region.ready .any ops l) (h : RI X S G e ns cs ng cg ps pg xs ys base w0 t0 l a w) (q : Here X S G e ns cs ng cg ps pg xs ys base w0 t0) : wpOp Try.prog ops Q 14 (RI X S G e ns cs ng cg ps pg xs ys base w0 t0 (l.setIfInBounds 14 true)) a w := by
  have hn := ready_not hr
  obtain ⟨o, ho, hg, hd, hop⟩ := opIs (ops := ops) (i := 14) (d := some 57) (p := .buildSlice 28 1 #[(0, .const (.slice none 0 0))]) (by kernel_rfl)
  refine wpOp_of ho hg ?_
  have hp := h.no17 (i := 14) (by omega) (by omega) (by omega) hn
  have hc := h.pre hp
  refine k_build28 hd hop ?_
  have hal : ∀ B : Nat, w.heap[B]? = some (Obj.cells #[nilV] 45 (0, 0)) → (w.alloc (.cells #[.slice none 0 0] 45)).heap[B]? = some (Obj.cells #[nilV] 45 (0, 0)) := fun B hB => (((Below.refl w.heap.size w).alloc (Nat.le_refl _) (.cells #[.slice none 0 0] 45)).block B (Array.getElem?_eq_some_iff.1 hB).1).trans hB
  refine h.put (i := 14) (by omega) hp hn trivial (fun d hd => ready_dep hr hd) ⟨hc.grown.alloc _, fun h1 => (hc.olds h1).alloc _, fun h1 => (hc.oldg h1).alloc _, fun h1 => ?_, fun h1 => ?_, fun h1 => ⟨(hc.mores h1).1.alloc _, (hc.mores h1).2⟩, fun h1 => ⟨(hc.moreg h1).1.alloc _, (hc.moreg h1).2⟩, hc.sep⟩
  · obtain ⟨B, b1, b2, b3⟩ := hc.news h1
    exact ⟨B, b1, hal B b2, b3⟩
  · exact ⟨_, rfl, Go.heap_alloc_new _ _, hc.grown.size⟩
theorem st15 (hr : 15 ∈ Region.ready .any ops l) (h : RI X S G e ns cs ng cg ps pg xs ys base w0 t0 l a w) (q : Here X S G e ns cs ng cg ps pg xs ys base w0 t0) : wpOp Try.prog ops Q 15 (RI X S G e ns cs ng cg ps pg xs ys base w0 t0 (l.setIfInBounds 15 true)) a w := by
  have hn := ready_not hr
  obtain ⟨o, ho, hg, hd, hop⟩ := opIs (ops := ops) (i := 15) (d := some 58) (p := .call { callee := .builtin .append, args := #[.tmp 56, .tmp 57], argTypes := #[28, 28] }) (by kernel_rfl)
  refine wpOp_of ho hg ?_
  obtain ⟨i0, hi0, hz0, hz1, hz2⟩ := info_parts info45
  have hp := h.no17 (i := 15) (by omega) (by omega) (by omega) hn
  have hc := h.pre hp
  obtain ⟨B, hB, hBh, hBs⟩ := hc.newg (ready_dep hr (by rw [show deps ops 15 = [13, 14, 9] from by kernel_rfl]; simp))
  have hu : a.eval (.tmp 56) = .slice pg ng cg := (h.v (j := 13) hr (by rw [show deps ops 15 = [13, 14, 9] from by kernel_rfl]; simp) (by omega) (by omega))
  refine wp_append_lies _ _ _ 28 hop base 45 i0 (.slice none 0 0) 1 24 Try.underlying28 hi0 hz0 hz1 hz2 rfl (by decide) _ ng ys hu (hc.oldg hn) ⟨B, 0, none⟩ 1 1 [nilV] hB rfl (World.news_of_block (cs := #[nilV]) (t := 45) (fr := (0, 0)) hBh) (by simp [nilV, Value.oneCell']) (by omega) (by unfold maxLen; have := q.hs; have := q.hg; omega) (by have := q.hs; have := q.hg; omega) (Nat.le_trans q.hb hc.grown.size) _ rfl ?_
  intro g4 cap4 w4 hown hgrow hat hlt
  rw [hd]
  have hbs : ∀ b, w0.heap.size ≤ b → some b ≠ (Value.slice ps ns cs).ownBlock := fun b hb e1 => by have := (q.rowS.lt b e1.symm).2; omega
  have hbg : ∀ b, w0.heap.size ≤ b → some b ≠ (Value.slice pg ng cg).ownBlock := fun b hb e1 => by have := (q.rowG.lt b e1.symm).2; omega
  have hnb : ∀ B' : Nat, w0.heap.size ≤ B' → w.heap[B']? = some (Obj.cells #[nilV] 45 (0, 0)) → w4.heap[B']? = some (.cells #[nilV] 45 (0, 0)) := fun B' hB' hb' => (hgrow.block B' (Array.getElem?_eq_some_iff.1 hb').1 (hbg B' hB')).trans hb'
  have hF : F1 base ng (.slice pg ng cg) ys w0 w4 (.slice (some ⟨g4, 0, none⟩) (ng + 1) cap4) := ⟨hown, hat.elim (fun h1 => .inl h1.symm) (fun h1 => .inr ⟨g4, rfl, by rw [h1]; exact hc.grown.size⟩)⟩
  have h9 : l.getD 9 false = true := ready_dep hr (by rw [show deps ops 15 = [13, 14, 9] from by kernel_rfl]; simp)
  have hM := hc.mores h9
  have hMb : ∀ b, (a.tmps.getD 52 undef).ownBlock = some b → b < w.heap.size ∧ some b ≠ (Value.slice pg ng cg).ownBlock := fun b hb => ⟨(hM.1.lt b hb).2, fun e1 => by
    rcases hM.2 with h1 | ⟨b', h1, h2⟩
    · exact q.apart b (by rw [← h1]; exact hb) e1.symm
    · rw [h1] at hb; injection hb with hb; subst hb; exact hbg _ h2 e1⟩
  refine h.put (i := 15) (by omega) hp hn trivial (fun d hd => ready_dep hr hd) ⟨hc.grown.two hgrow, fun h1 => row_keep (hc.olds h1) fun b hb => hgrow.block b ((hc.olds h1).lt b hb).2 (fun e1 => q.apart b hb e1.symm), fun h1 => (by cases h1), fun h1 => ?_, fun h1 => ?_, fun h1 => ⟨row_keep hM.1 fun b hb => hgrow.block b (hMb b hb).1 (hMb b hb).2, hM.2⟩, fun _ => hF, fun _ _ b hb hb2 => ?_⟩
  · obtain ⟨B', b1, b2, b3⟩ := hc.news h1
    exact ⟨B', b1, hnb B' b3 b2, b3⟩
  · obtain ⟨B', b1, b2, b3⟩ := hc.newg h1
    exact ⟨B', b1, hnb B' b3 b2, b3⟩
  · have hb3 : some g4 = some b := hb2
    injection hb3 with hb3
    subst hb3
    rcases hat with h1 | h1
    · exact (hMb g4 hb).2 h1.symm
    · have := (hMb g4 hb).1; omega
theorem st16 (hr : 16 ∈ Region.ready .any ops l) (h : RI X S G e ns cs ng cg ps pg xs ys base w0 t0 l a w) (q : Here X S G e ns cs ng cg ps pg xs ys base w0 t0) : wpOp Try.prog ops Q 16 (RI X S G e ns cs ng cg ps pg xs ys base w0 t0 (l.setIfInBounds 16 true)) a w := by
  have hn := ready_not hr
  obtain ⟨o, ho, hg, hd, hop⟩ := opIs (ops := ops) (i := 16) (d := some 59) (p := .indexAddr 29 (.tmp 4) (.tmp 44)) (by kernel_rfl)
  refine wpOp_of ho hg ?_
  exact k_idx29 hd hop q.he ((h.frame 4 (by omega)).trans q.p4) (h.v (j := 1) hr (by rw [show deps ops 16 = [1, 0, 1, 4, 5, 6, 7, 8, 9] from by kernel_rfl]; simp) (by omega) (by omega)) (h.read (i := 16) (by omega) (by omega) (fun d hd => ready_dep hr hd) hn (by omega) (by omega) (by omega) (by omega) rfl)
theorem st17 (hr : 17 ∈ Region.ready .any ops l) (h : RI X S G e ns cs ng cg ps pg xs ys base w0 t0 l a w) (q : Here X S G e ns cs ng cg ps pg xs ys base w0 t0) : wpOp Try.prog ops Q 17 (RI X S G e ns cs ng cg ps pg xs ys base w0 t0 (l.setIfInBounds 17 true)) a w := by
  have hn := ready_not hr
  obtain ⟨o, ho, hg, hd, hop⟩ := opIs (ops := ops) (i := 17) (d := none) (p := .store 28 (.tmp 59) (.tmp 52)) (by kernel_rfl)
  refine wpOp_of ho hg ?_
  have hall : ∀ j, j < 17 → j ≠ 2 → j ≠ 3 → l.getD j false = true := fun j hj h2 h3 => by
    by_cases h10 : 10 ≤ j ∧ j ≤ 14
    · exact h.upto (ready_dep hr (by rw [show deps ops 17 = [16, 9, 15, 0, 1, 4, 5, 6, 7, 8, 9] from by kernel_rfl]; simp)) j h10.1 h10.2
    · exact ready_dep hr (by
        rw [show deps ops 17 = [16, 9, 15, 0, 1, 4, 5, 6, 7, 8, 9] from by kernel_rfl]
        simp only [List.mem_cons, List.not_mem_nil]
        omega)
  have hc := h.pre hn
  have hM := hc.mores (hall 9 (by omega) (by omega) (by omega))
  have hN := hc.moreg (hall 15 (by omega) (by omega) (by omega))
  have hsep := hc.sep (hall 9 (by omega) (by omega) (by omega)) (hall 15 (by omega) (by omega) (by omega))
  obtain ⟨g4, cap4, hnu⟩ := hM.form
  have hv : V X S G e ns cs ng cg ps pg 16 (a.tmps.getD (sl 16) undef) := h.val 16 (by omega) (by omega) (hall 16 (by omega) (by omega) (by omega))
  have hb := hc.grown.block S q.lS q.nS.1 q.nS.2
  have hcell : w.cell? ⟨S, e, none⟩ = some (.slice ps ns cs) := (World.cell?_of_block hb).trans q.cS
  have hfrz : w.frozen? ⟨S, e, none⟩ = false := (World.frozen?_of_block hb).trans q.fS
  refine k_store28 hd hop hv hnu hcell hfrz ?_
  rw [← hnu]
  have h17 : (l.setIfInBounds 17 true).getD 17 false = true := by rw [getD_set, if_pos ⟨rfl, by rw [h.size]; omega⟩]
  have h19 : (l.setIfInBounds 17 true).getD 19 false = false := by rw [flag (by omega)]; exact h.no19 (i := 17) (by omega) hn
  exact ⟨by simpa using h.size, h.defers, h.tsize, h.frame, fun j hj hj17 hl => h.val j hj hj17 (by rwa [flag (Ne.symm hj17)] at hl), fun h1 => (by rw [h17] at h1; cases h1), fun _ _ => ⟨w, rfl, hc.grown, hM, hN, hsep⟩, fun _ j hj h2 h3 => (by rw [flag (by omega)]; exact hall j hj h2 h3), fun h1 => (by rw [h19] at h1; cases h1), fun h1 => (by rw [h19] at h1; cases h1), h.closed.set (fun d hd => ready_dep hr hd)⟩
theorem st18 (hr : 18 ∈ Region.ready .any ops l) (h : RI X S G e ns cs ng cg ps pg xs ys base w0 t0 l a w) (q : Here X S G e ns cs ng cg ps pg xs ys base w0 t0) : wpOp Try.prog ops Q 18 (RI X S G e ns cs ng cg ps pg xs ys base w0 t0 (l.setIfInBounds 18 true)) a w := by
  have hn := ready_not hr
  obtain ⟨o, ho, hg, hd, hop⟩ := opIs (ops := ops) (i := 18) (d := some 60) (p := .indexAddr 29 (.tmp 5) (.tmp 46)) (by kernel_rfl)
  refine wpOp_of ho hg ?_
  exact k_idx29 hd hop q.he ((h.frame 5 (by omega)).trans q.p5) (h.v (j := 3) hr (by rw [show deps ops 18 = [3, 0, 1, 2, 3, 4, 5, 6, 7, 8, 9, 10, 11, 12, 13, 14, 15, 16, 17] from by kernel_rfl]; simp) (by omega) (by omega)) (h.read (i := 18) (by omega) (by omega) (fun d hd => ready_dep hr hd) hn (by omega) (by omega) (by omega) (by omega) rfl)
theorem st19 (hr : 19 ∈ Region.ready .any ops l) (h : RI X S G e ns cs ng cg ps pg xs ys base w0 t0 l a w) (q : Here X S G e ns cs ng cg ps pg xs ys base w0 t0) : wpOp Try.prog ops Q 19 (RI X S G e ns cs ng cg ps pg xs ys base w0 t0 (l.setIfInBounds 19 true)) a w := by
  have hn := ready_not hr
  obtain ⟨o, ho, hg, hd, hop⟩ := opIs (ops := ops) (i := 19) (d := none) (p := .store 28 (.tmp 60) (.tmp 58)) (by kernel_rfl)
  refine wpOp_of ho hg ?_
  have hall : ∀ j, j < 19 → l.getD j false = true := fun j hj => ready_dep hr (by
    rw [show deps ops 19 = [18, 15, 17, 0, 1, 2, 3, 4, 5, 6, 7, 8, 9, 10, 11, 12, 13, 14, 15, 16, 17] from by kernel_rfl]
    simp only [List.mem_cons, List.not_mem_nil]
    omega)
  obtain ⟨w1, hw, hc⟩ := h.mid (hall 17 (by omega)) hn
  obtain ⟨g4, cap4, hnu⟩ := hc.moreg.form
  have hv : V X S G e ns cs ng cg ps pg 18 (a.tmps.getD (sl 18) undef) := h.val 18 (by omega) (by omega) (hall 18 (by omega))
  have hb : w.heap[G]? = w0.heap[G]? := by rw [hw]; exact (setCell_keep _ _ (Ne.symm q.SG)).trans (hc.grown.block G q.lG q.nG.1 q.nG.2)
  have hcell : w.cell? ⟨G, e, none⟩ = some (.slice pg ng cg) := (World.cell?_of_block hb).trans q.cG
  have hfrz : w.frozen? ⟨G, e, none⟩ = false := (World.frozen?_of_block hb).trans q.fG
  refine k_store28 hd hop hv hnu hcell hfrz ?_
  rw [← hnu, hw]
  have h19 : (l.setIfInBounds 19 true).getD 19 false = true := by rw [getD_set, if_pos ⟨rfl, by rw [h.size]; omega⟩]
  have h17 : (l.setIfInBounds 19 true).getD 17 false = true := by rw [flag (by omega)]; exact hall 17 (by omega)
  exact ⟨by simpa using h.size, h.defers, h.tsize, h.frame, fun j hj hj17 hl => h.val j hj hj17 (hall j hj), fun h1 => (by rw [h17] at h1; cases h1), fun _ h1 => (by rw [h19] at h1; cases h1), fun _ j hj _ _ => (by rw [flag (by omega)]; exact hall j (by omega)), fun _ j hj => (by rw [flag (by omega)]; exact hall j hj), fun _ => ⟨w1, _, _, rfl, hc⟩, h.closed.set (fun d hd => ready_dep hr hd)⟩
theorem step_all (q : Here X S G e ns cs ng cg ps pg xs ys base w0 t0) (i : Nat) (l : Array Bool) (a : Act) (w : World) (hr : i ∈ Region.ready .any ops l) (h : RI X S G e ns cs ng cg ps pg xs ys base w0 t0 l a w) : wpOp Try.prog ops Q i (RI X S G e ns cs ng cg ps pg xs ys base w0 t0 (l.setIfInBounds i true)) a w := by
  have hi : i < 20 := by have := ready_lt hr; rwa [ops_size] at this
  match i, hi with
  | 0, _ => exact st0 hr h q
  | 1, _ => exact st1 hr h q
  | 2, _ => exact st2 hr h q
  | 3, _ => exact st3 hr h q
  | 4, _ => exact st4 hr h q
  | 5, _ => exact st5 hr h q
  | 6, _ => exact st6 hr h q
  | 7, _ => exact st7 hr h q
  | 8, _ => exact st8 hr h q
  | 9, _ => exact st9 hr h q
  | 10, _ => exact st10 hr h q
  | 11, _ => exact st11 hr h q
  | 12, _ => exact st12 hr h q
  | 13, _ => exact st13 hr h q
  | 14, _ => exact st14 hr h q
  | 15, _ => exact st15 hr h q
  | 16, _ => exact st16 hr h q
  | 17, _ => exact st17 hr h q
  | 18, _ => exact st18 hr h q
  | 19, _ => exact st19 hr h q
  | n + 20, h => exact absurd h (by omega)
theorem region_done (q : Here X S G e ns cs ng cg ps pg xs ys base w0 t0)
    (hQ : ∀ (f : Nat → Value) (wF : World), (∃ w1 c d, wF = (w1.setCell ⟨S, e, none⟩ c).setCell ⟨G, e, none⟩ d ∧ Core ns cs ng cg ps pg xs ys base w0 w1 c d) → Q .normal ⟨setAll t0 [(43, f 43), (44, f 44), (45, f 45), (46, f 46), (47, f 47), (48, f 48), (49, f 49), (50, f 50), (51, f 51), (52, f 52), (53, f 53), (54, f 54), (55, f 55), (56, f 56), (57, f 57), (58, f 58), (59, f 59), (60, f 60)], []⟩ wF) :
    wpAny Try.prog .any ops Q ops.size (Array.replicate ops.size false) ⟨t0, []⟩ w0.drew := by
  rw [ops_size]
  have hf : ∀ {C : Prop} (j : Nat), (Array.replicate 20 false).getD j false = true → C := fun j hl => absurd hl (by rw [rep_false]; decide)
  refine wpAny_inv (RI X S G e ns cs ng cg ps pg xs ys base w0 t0) (step_all q) (fun l a w hr h => ?_) 20 _ _ _ ⟨by simp, rfl, q.size, fun _ _ => rfl, fun i _ _ hl => hf i hl, fun _ => ⟨⟨rfl, rfl, rfl, Nat.le_refl _, fun _ _ _ _ => rfl⟩, fun _ => row_keep q.rowS (fun _ _ => rfl), fun _ => row_keep q.rowG (fun _ _ => rfl), fun hl => hf 8 hl, fun hl => hf 14 hl, fun hl => hf 9 hl, fun hl => hf 15 hl, fun hl => hf 9 hl⟩, fun hl => hf 17 hl, fun hl => hf 17 hl, fun hl => hf 19 hl, fun hl => hf 19 hl, fun i hl => hf i hl⟩ (by decide)
  have hl := all_listed ops_size (by kernel_rfl) h.size hr
  obtain ⟨t, ds⟩ := a
  obtain rfl : ds = [] := h.defers
  have key := hQ (fun s => t.getD s undef) w (h.done (hl 19 (by omega)))
  have e1 : t = setAll t0 [(43, t.getD 43 undef), (44, t.getD 44 undef), (45, t.getD 45 undef), (46, t.getD 46 undef), (47, t.getD 47 undef), (48, t.getD 48 undef), (49, t.getD 49 undef), (50, t.getD 50 undef), (51, t.getD 51 undef), (52, t.getD 52 undef), (53, t.getD 53 undef), (54, t.getD 54 undef), (55, t.getD 55 undef), (56, t.getD 56 undef), (57, t.getD 57 undef), (58, t.getD 58 undef), (59, t.getD 59 undef), (60, t.getD 60 undef)] := frame_all (t := t) (t0 := t0) (h.tsize.trans q.size.symm) 43 60 h.frame
  rw [← e1] at key
  exact key
end
end Go.Proofs.Ytjjnhndlollldaa.Ep.R12
