/-
RingPlays' append(append([]int{}, l...), x) in a region that draws: the first append. No condition but append's bounds.
-/
import Derived.Test.YtljncbbajhoocaaPlaysA
import Derived.Deep.AppendLies
import Derived.Deep.Upon
namespace Go.Proofs.Ytljncbbajhoocaa.RingI
open Go.RowKit Go.Proofs.Ytljncbbajhoocaa.Args

/-- What the first append leaves. -/
structure App1 (w3 W W' : World) (E : Nat) (q : List Int) (v : Value) : Prop where
  own : W'.ownsRow w3.heap.size 3 1 v q.length (q.map (Value.int .i64))
  below : Below w3.heap.size w3 W'
  size : W.heap.size ≤ W'.heap.size
  keep : ∀ j, j < W.heap.size → j ≠ E → W'.heap[j]? = W.heap[j]?
theorem App1.on {w3 W W' W2 : World} {E : Nat} {q : List Int} {v : Value} (h : App1 w3 W W' E q v) (hb : Below W'.heap.size W' W2) : App1 w3 W W2 E q v :=
  ⟨row_mod h.own (Mod.of_below hb (fun _ => False)) (fun _ _ => id), h.below.trans (hb.mono h.below.size), Nat.le_trans h.size hb.size, fun j hj he => (hb.block j (Nat.lt_of_lt_of_le hj h.size)).trans (h.keep j hj he)⟩
theorem step_app_first {ops : Array Oper} {o : Oper} {a : Act} {K : Act → World → Prop} {Q : Exit → Act → World → Prop} {E0 : Prop} {W : World} (hgd : o.guard = none) (s x : Operand)
    (ho : o.op = .call { callee := .builtin .append, args := #[s, x], argTypes := #[53, 53] })
    (w3 : World) (E : Nat) (sp : Option Addr) (sc : Nat) (q : List Int) (hs : a.eval s = .slice (some ⟨E, 0, none⟩) 0 0) (hx : a.eval x = .slice sp q.length sc)
    (hb : Below w3.heap.size w3 W) (hE : w3.heap.size ≤ E) (hc : W.heap[E]? = some (.cells #[] 3 (0, 0))) (hr : ArgRow 1 (fun x => [Value.int .i64 x]) w3 sp q.length q) (hq : q.length ≤ 4096)
    (h : ∀ v W', App1 w3 W W' E q v → K (a.put o.dst v) W') :
    if Region.wanted o (yielded ops a.tmps) = true then Oper.wp Try.prog o a W K Q else E0 := by
  have hw : Region.wanted o (yielded ops a.tmps) = true := by simp [Region.wanted, hgd]
  rw [if_pos hw]
  obtain ⟨i0, hi0, hz0, hz1, hz2⟩ := info_parts infoE
  have hown : W.ownsRow w3.heap.size 3 1 (.slice (some ⟨E, 0, none⟩) 0 0) 0 [] := ⟨rfl, .inr ⟨E, 0, #[], rfl, hE, hc, Nat.le_refl _, by decide, rfl, rfl⟩⟩
  rcases Nat.eq_zero_or_pos q.length with hq0 | hq0
  · obtain rfl : q = [] := List.eq_nil_of_length_eq_zero hq0
    have hsrc : Src Try.prog i0.size 53 (.slice sp 0 sc) 0 [] W := by
      cases sp with
      | none => exact Src.ofNil W Try.underlying53 sc
      | some ad => exact Src.ofSlice W Try.underlying53 ad 0 sc [] (by simp) (fun j u hu => by simp at hu) (fun u hu => by cases hu)
    have hrun := run_append_nothing (P := Try.prog) W 53 53 o.type 3 i0 Try.underlying53 hi0 (some ⟨E, 0, none⟩) 0 0 (Nat.le_refl _) (.slice sp 0 sc) hsrc
    unfold Oper.wp execOp
    simp only [ho, resolve, invoke, builtin, Sem.run_bind, Sem.run_pure, Result.andThen_ok, List.map_toArray, List.map_cons, List.map_nil, hs, hx, List.length_nil, hrun]
    exact h _ W ⟨hown, hb, Nat.le_refl _, fun _ _ _ => rfl⟩
  · obtain ⟨b, off, rfl, hbl, hcl⟩ := ArgRow.one hr hq0
    obtain ⟨v', w', hrun, h2, h3, _, h5⟩ := run_append_own_at (P := Try.prog) W w3.heap.size 53 o.type 3 i0 (.int .i64 0) 1 8 Try.underlying53 hi0 hz0 hz1 hz2 rfl (by decide) _ 0 [] hown ⟨b, off, none⟩ q.length sc (q.map (Value.int .i64)) (by simp) (fun j u hu => by
      rw [add_form, hb.cell (p := ⟨b, off + j, none⟩) hbl]
      have hj : j < q.length := by have := (List.getElem?_eq_some_iff.1 hu).1; simpa using this
      rw [hcl j hj]
      rw [List.getElem?_map, List.getElem?_eq_getElem hj] at hu
      exact hu) (one_cells q) (by unfold maxLen; omega) (by omega) hb.size
    unfold Oper.wp execOp
    simp only [ho, resolve, invoke, builtin, Sem.run_bind, Sem.run_pure, Result.andThen_ok, List.map_toArray, List.map_cons, List.map_nil, hs, hx, hrun]
    refine h _ _ ⟨by simpa using h2, hb.grown h3 hb.size (fun k hk => (row_lt hown k hk).1), h3.size, fun j hj hne => h3.block j hj (fun e => ?_)⟩
    simp [Value.ownBlock] at e
    exact hne e
theorem Pl.arg {w wr : World} {R : Nat} {B : Option Nat} {k : Nat} {X : Option (Nat × Array Value)} {q ql : List Int} {sp : Option Addr} {n sc : Nat} (h : Pl w wr R B k X q (.slice sp n sc) ql) : ArgRow 1 (fun x => [Value.int .i64 x]) wr sp ql.length ql := by
  obtain ⟨sp2, sc2, hv, hl, ha, hd⟩ := h.row
  injection hv with hv1 hv2 hv3
  subst hv1
  exact ha
theorem Pl.put2 {w w3 w4 : World} {R g c : Nat} {B : Option Nat} {k : Nat} {X : Option (Nat × Array Value)} {q : List Int} {x : Int} {v : Value} (h : Pl w w3 R B k X (q ++ [x]) v q) (hb : Below w3.heap.size w3 w4) (ho : w4.ownsRow w3.heap.size 3 1 (.slice (some ⟨g, 0, none⟩) (q.length + 1) c) (q.length + 1) (q.map (Value.int .i64) ++ [.int .i64 x])) : Pl w w4 R B k none (q ++ [x]) (.slice (some ⟨g, 0, none⟩) (q.length + 1) c) (q ++ [x]) := by
  have e : (q ++ [x]).length = q.length + 1 := by simp
  have h2 := (h.new (qn := q ++ [x]) hb (sp := some ⟨g, 0, none⟩) (sc := c) (by rw [e, List.map_append]; exact ho)).drop
  rw [e] at h2
  exact h2
theorem bel_alloc {B : Nat} {a w : World} (hle : B ≤ w.heap.size) (h : Below B a w) (o : Obj) : Below B a (w.alloc o) := h.alloc hle o
theorem bel_drewN {B : Nat} {a w : World} {n : Nat} (h : Below B a w) : Below B a (w.drewN n) := below_drewN h n
theorem bel_drew {B : Nat} {a w : World} (h : Below B a w) : Below B a w.drew := h.drew
theorem alloc_at {w : World} {o : Obj} {k : Nat} (hk : k = w.heap.size) : (w.alloc o).heap[k]? = some o := by subst hk; exact Go.heap_alloc_new _ _
theorem old_at {w : World} {o : Obj} {k : Nat} {v : Option Obj} (hk : k < w.heap.size) (h : w.heap[k]? = v) : (w.alloc o).heap[k]? = v := (Go.heap_alloc_old _ _ hk).trans h
theorem drew_at {w : World} {k : Nat} {v : Option Obj} (h : w.heap[k]? = v) : w.drew.heap[k]? = v := h
theorem drewN_at {w : World} {k n : Nat} {v : Option Obj} (h : w.heap[k]? = v) : (w.drewN n).heap[k]? = v := h
end Go.Proofs.Ytljncbbajhoocaa.RingI
