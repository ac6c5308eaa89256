/-
A region that draws its order, step by step: what each kind of its operations does, and that whatever keeps to a relation in each step comes to its end in it. No condition.
-/
import Derived.Test.YtjjnhndlollldaaEpB1
import Derived.BigRegion
import Derived.Deep.AppendLies
namespace Go.Proofs.Ytjjnhndlollldaa.Ep
set_option linter.unusedVariables false
open Go.RowKit Go.Proofs.Ytjjnhndlollldaa.Args

def left (l : Array Bool) : Nat := l.toList.countP (fun b => !b)
theorem left_set {l : Array Bool} {i : Nat} (h : l.getD i true = false) : left (l.setIfInBounds i true) < left l := by
  have hi : i < l.size := by
    rcases Nat.lt_or_ge i l.size with h' | h'
    · exact h'
    · rw [Array.getD_eq_getD_getElem?, Array.getElem?_eq_none h'] at h; cases h
  have hv : l.toList[i]'(by simpa using hi) = false := by
    rw [Array.getD_eq_getD_getElem?, Array.getElem?_eq_getElem hi] at h
    simpa using h
  unfold left
  rw [Array.toList_setIfInBounds, List.set_eq_take_append_cons_drop, if_pos (by simpa using hi)]
  have e : l.toList = l.toList.take i ++ l.toList[i]'(by simpa using hi) :: l.toList.drop (i + 1) := by
    have h1 := List.drop_eq_getElem_cons (l := l.toList) (i := i) (by simpa using hi)
    rw [← h1, List.take_append_drop]
  conv => rhs; rw [e]
  rw [List.countP_append, List.countP_append, List.countP_cons, List.countP_cons, hv]
  simp
theorem wpAny_inv {P : Program} {md : Region.Mode} {ops : Array Oper} {Q : Exit → Act → World → Prop} (I : Array Bool → Act → World → Prop)
    (hstep : ∀ i l a w, i ∈ Region.ready md ops l → I l a w → wpOp P ops Q i (I (l.setIfInBounds i true)) a w)
    (hdone : ∀ l a w, Region.ready md ops l = [] → I l a w → Q .normal a w) :
    ∀ (fuel : Nat) (l : Array Bool) (a : Act) (w : World), I l a w → left l ≤ fuel → wpAny P md ops Q fuel l a w := by
  intro fuel
  induction fuel with
  | zero =>
    intro l a w hI hl
    have hr : Region.ready md ops l = [] := by
      rw [List.eq_nil_iff_forall_not_mem]
      intro j hj
      have := left_set (mem_ready.1 hj).1
      omega
    exact ⟨hr, hdone l a w hr hI⟩
  | succ fuel ih =>
    intro l a w hI hl
    refine ⟨fun hr => hdone l a w hr hI, fun i hi => ?_⟩
    have := left_set (mem_ready.1 hi).1
    exact wpOp_mono (fun a' w' h => ih _ a' w' h (by omega)) (hstep i l a w hi hI)
def regionOf (n : Nat) : Code → Option (Array Oper)
  | .region id ops _ => if id = n then some ops else none
  | .seq a b => match regionOf n a with
    | some c => some c
    | none => regionOf n b
  | .loop c => regionOf n c
  | .block _ c => regionOf n c
  | .scope c => regionOf n c
  | .cond _ a b => match regionOf n a with
    | some c => some c
    | none => regionOf n b
  | _ => none
def deps (ops : Array Oper) (i : Nat) : List Nat := ((ops[i]?).map (fun o => o.after.toList.filterMap (fun e => if Region.binds .any e then some e.on else none))).getD []
theorem ready_dep {ops : Array Oper} {l : Array Bool} {i d : Nat} (hr : i ∈ Region.ready .any ops l) (hd : d ∈ deps ops i) : l.getD d false = true := by
  obtain ⟨_, o, ho, h⟩ := mem_ready.1 hr
  unfold deps at hd
  rw [ho] at hd
  simp only [Option.map_some, Option.getD_some, List.mem_filterMap] at hd
  obtain ⟨e, he, hb⟩ := hd
  split at hb
  · rename_i hb2
    injection hb with hb
    subst hb
    exact h e (by simpa using he) hb2
  · cases hb
theorem opIs {ops : Array Oper} {i : Nat} {d : Option Tmp} {p : Op} (h : (ops[i]?).map (fun o => (o.guard, o.dst, o.op)) = some (none, d, p)) : ∃ o, ops[i]? = some o ∧ o.guard = none ∧ o.dst = d ∧ o.op = p := by
  cases ho : ops[i]? with
  | none => rw [ho] at h; cases h
  | some o =>
    rw [ho] at h
    simp only [Option.map_some, Option.some.injEq, Prod.mk.injEq] at h
    exact ⟨o, rfl, h⟩
theorem ready_lt {ops : Array Oper} {l : Array Bool} {i : Nat} (hr : i ∈ Region.ready .any ops l) : i < ops.size := by
  obtain ⟨_, o, ho, _⟩ := mem_ready.1 hr
  exact (Array.getElem?_eq_some_iff.1 ho).1
theorem ready_not {ops : Array Oper} {l : Array Bool} {i : Nat} (hr : i ∈ Region.ready .any ops l) : l.getD i false = false := by
  have h := (mem_ready.1 hr).1
  rw [Array.getD_eq_getD_getElem?] at h ⊢
  cases h1 : l[i]? with
  | none => rfl
  | some b => rw [h1] at h; exact h
theorem all_listed {ops : Array Oper} {n : Nat} (hn : ops.size = n) (hlt : (List.range n).all (fun i => (deps ops i).all (fun d => decide (d < i))) = true) {l : Array Bool} (hl : l.size = n) (h : Region.ready .any ops l = []) : ∀ i, i < n → l.getD i false = true := by
  intro i
  induction i using Nat.strongRecOn with
  | _ i ih =>
    intro hi
    have hd : ∀ d ∈ deps ops i, d < i := fun d hd => by
      have h1 := List.all_eq_true.1 hlt i (by simpa using hi)
      have h2 := List.all_eq_true.1 h1 d hd
      simpa using h2
    cases hf : l.getD i true with
    | true =>
      rw [Array.getD_eq_getD_getElem?, Array.getElem?_eq_getElem (by omega)] at hf ⊢
      exact hf
    | false =>
      have hmem : i ∈ Region.ready .any ops l := by
        have hio : i < ops.size := by omega
        refine mem_ready.2 ⟨hf, ops[i], Array.getElem?_eq_getElem hio, fun e he hb => ?_⟩
        have hde : e.on ∈ deps ops i := by
          unfold deps
          rw [Array.getElem?_eq_getElem hio]
          simp only [Option.map_some, Option.getD_some, List.mem_filterMap]
          exact ⟨e, by simpa using he, by rw [if_pos hb]⟩
        exact ih _ (hd _ hde) (by have := hd _ hde; omega)
      rw [h] at hmem
      cases hmem
theorem rep_false (n i : Nat) : (Array.replicate n false).getD i false = false := by
  rw [Array.getD_eq_getD_getElem?]
  rcases Nat.lt_or_ge i n with h | h
  · rw [Array.getElem?_eq_getElem (by simpa using h)]; simp
  · rw [Array.getElem?_eq_none (by simpa using h)]; rfl
theorem getD_set {α : Type} (t : Array α) (i j : Nat) (v d : α) : (t.setIfInBounds i v).getD j d = if i = j ∧ i < t.size then v else t.getD j d := by
  simp only [Array.getD_eq_getD_getElem?, Array.getElem?_setIfInBounds]
  by_cases h : i = j
  · subst h
    by_cases h2 : i < t.size
    · simp [h2]
    · simp [h2]
  · simp [h]
/-- The slots of ls set. -/
def setAll (t : Array Value) : List (Nat × Value) → Array Value
  | [] => t
  | p :: ls => (setAll t ls).setIfInBounds p.1 p.2
theorem setAll_size (t : Array Value) (ls : List (Nat × Value)) : (setAll t ls).size = t.size := by
  induction ls with
  | nil => rfl
  | cons p ls ih => simp [setAll, ih]
theorem setAll_getD {t t0 : Array Value} (hs : t.size = t0.size) (ls : List (Nat × Value)) (h : ∀ p ∈ ls, t.getD p.1 undef = p.2) (s : Nat) : (setAll t0 ls).getD s undef = if s ∈ ls.map (·.1) ∧ s < t0.size then t.getD s undef else t0.getD s undef := by
  induction ls with
  | nil => simp [setAll]
  | cons p ls ih =>
    unfold setAll
    rw [getD_set, ih (fun q hq => h q (List.mem_cons_of_mem _ hq)), setAll_size]
    by_cases e : p.1 = s
    · subst e
      by_cases h2 : p.1 < t0.size
      · rw [if_pos ⟨rfl, h2⟩, if_pos ⟨by simp, h2⟩, h p (by simp)]
      · rw [if_neg (fun x => h2 x.2), if_neg (fun x => h2 x.2), if_neg (fun x => h2 x.2)]
    · rw [if_neg (fun x => e x.1)]
      have e2 : (s ∈ (p :: ls).map (·.1)) ↔ s ∈ ls.map (·.1) := by
        simp only [List.map_cons, List.mem_cons]
        exact ⟨fun x => x.resolve_left (fun y => e y.symm), .inr⟩
      simp only [e2]
theorem ext_getD {t t' : Array Value} (hs : t.size = t'.size) (h : ∀ s, t.getD s undef = t'.getD s undef) : t = t' := by
  apply Array.ext hs
  intro i h1 h2
  have h3 := h i
  rw [Array.getD_eq_getD_getElem?, Array.getD_eq_getD_getElem?, Array.getElem?_eq_getElem h1, Array.getElem?_eq_getElem h2] at h3
  exact h3
/-- A frame of which the slots from lo to hi alone were written. -/
theorem frame_all {t t0 : Array Value} (hs : t.size = t0.size) (lo hi : Nat) (h : ∀ s, ¬ (lo ≤ s ∧ s ≤ hi) → t.getD s undef = t0.getD s undef) : t = setAll t0 ((List.range' lo (hi + 1 - lo)).map fun s => (s, t.getD s undef)) := by
  refine ext_getD (by rw [setAll_size]; omega) (fun s => ?_)
  rw [setAll_getD (t := t) hs _ (fun p hp => by obtain ⟨s', _, rfl⟩ := List.mem_map.1 hp; rfl)]
  by_cases hin : s ∈ (((List.range' lo (hi + 1 - lo)).map fun s => (s, t.getD s undef))).map (·.1) ∧ s < t0.size
  · rw [if_pos hin]
  · rw [if_neg hin]
    by_cases h1 : lo ≤ s ∧ s ≤ hi
    · have h2 : ¬ s < t0.size := fun h2 => hin ⟨by
        rw [List.map_map, List.mem_map]
        exact ⟨s, List.mem_range'_1.2 ⟨by omega, by omega⟩, rfl⟩, h2⟩
      rw [Array.getD_eq_getD_getElem?, Array.getD_eq_getD_getElem?, Array.getElem?_eq_none (by omega), Array.getElem?_eq_none (by omega)]
    · exact h s h1
section
variable {a : Act} {w : World} {K : Act → World → Prop} {Q : Exit → Act → World → Prop} {o : Oper} {d : Option Tmp}
theorem wpOp_of {ops : Array Oper} {i : Nat} (ho : ops[i]? = some o) (hg : o.guard = none) (h : o.wp Try.prog a w K Q) : wpOp Try.prog ops Q i K a w := by
  unfold wpOp
  simp only [ho, Region.wanted, hg, if_true]
  exact .inl h
theorem k_move {x : Operand} (hd : o.dst = d) (ho : o.op = .move x) (h : K (a.put d (a.eval x)) w) : o.wp Try.prog a w K Q := by
  unfold Oper.wp; rw [BigFrame.run_move x ho]; show K (a.put o.dst _) w; rw [hd]; exact h
theorem k_field {s X f : Nat} (hd : o.dst = d) (ho : o.op = .fieldAddr 31 (.tmp s) f) (hf : f = 0 ∨ f = 3) (hs : a.tmps.getD s undef = .pointer (some ⟨X, 0, none⟩)) (h : K (a.put d (.pointer (some ⟨X, f, none⟩))) w) : o.wp Try.prog a w K Q := by
  have e : (execOp a.eval o).run Try.prog w = .ok (.value (.pointer (some ⟨X, f, none⟩))) w := by
    have hs' : a.eval (.tmp s) = .pointer (some ⟨X, 0, none⟩) := hs
    have hu := Try.underlying31
    unfold execOp
    simp only [ho, hs']
    rcases hf with rfl | rfl <;> go_simp
  unfold Oper.wp; rw [e]; show K (a.put o.dst _) w; rw [hd]; exact h
theorem k_load3 {s X k : Nat} {n : Int} (hd : o.dst = d) (ho : o.op = .load 3 (.tmp s)) (hs : a.tmps.getD s undef = .pointer (some ⟨X, k, none⟩)) (hc : w.cell? ⟨X, k, none⟩ = some (.int .i64 n)) (h : K (a.put d (.int .i64 n)) w) : o.wp Try.prog a w K Q := by
  have e : (execOp a.eval o).run Try.prog w = .ok (.value (.int .i64 n)) w := by
    have hs' : a.eval (.tmp s) = .pointer (some ⟨X, k, none⟩) := hs
    unfold execOp
    simp only [ho, hs']
    go_simp
  unfold Oper.wp; rw [e]; show K (a.put o.dst _) w; rw [hd]; exact h
theorem k_load9 {s X k : Nat} {n : ByteArray} (hd : o.dst = d) (ho : o.op = .load 9 (.tmp s)) (hs : a.tmps.getD s undef = .pointer (some ⟨X, k, none⟩)) (hc : w.cell? ⟨X, k, none⟩ = some (.string n)) (h : K (a.put d (.string n)) w) : o.wp Try.prog a w K Q := by
  have e : (execOp a.eval o).run Try.prog w = .ok (.value (.string n)) w := by
    have hs' : a.eval (.tmp s) = .pointer (some ⟨X, k, none⟩) := hs
    unfold execOp
    simp only [ho, hs']
    go_simp
  unfold Oper.wp; rw [e]; show K (a.put o.dst _) w; rw [hd]; exact h
theorem k_load28 {s X k n c : Nat} {p : Option Addr} (hd : o.dst = d) (ho : o.op = .load 28 (.tmp s)) (hs : a.tmps.getD s undef = .pointer (some ⟨X, k, none⟩)) (hc : w.cell? ⟨X, k, none⟩ = some (.slice p n c)) (h : K (a.put d (.slice p n c)) w) : o.wp Try.prog a w K Q := by
  have e : (execOp a.eval o).run Try.prog w = .ok (.value (.slice p n c)) w := by
    have hs' : a.eval (.tmp s) = .pointer (some ⟨X, k, none⟩) := hs
    unfold execOp
    simp only [ho, hs']
    go_simp
  unfold Oper.wp; rw [e]; show K (a.put o.dst _) w; rw [hd]; exact h
theorem k_load45 {s X k n c : Nat} {p : Option Addr} (hd : o.dst = d) (ho : o.op = .load 45 (.tmp s)) (hs : a.tmps.getD s undef = .pointer (some ⟨X, k, none⟩)) (hc : w.cell? ⟨X, k, none⟩ = some (.slice p n c)) (h : K (a.put d (.slice p n c)) w) : o.wp Try.prog a w K Q := by
  have e : (execOp a.eval o).run Try.prog w = .ok (.value (.slice p n c)) w := by
    have hs' : a.eval (.tmp s) = .pointer (some ⟨X, k, none⟩) := hs
    unfold execOp
    simp only [ho, hs']
    go_simp
  unfold Oper.wp; rw [e]; show K (a.put o.dst _) w; rw [hd]; exact h
theorem k_idx29 {s t X e : Nat} (hd : o.dst = d) (ho : o.op = .indexAddr 29 (.tmp s) (.tmp t)) (he : e < 2) (hs : a.tmps.getD s undef = .pointer (some ⟨X, 0, none⟩)) (ht : a.tmps.getD t undef = .int .i64 (e : Int)) (h : K (a.put d (.pointer (some ⟨X, e, none⟩))) w) : o.wp Try.prog a w K Q := by
  have e : (execOp a.eval o).run Try.prog w = .ok (.value (.pointer (some ⟨X, e, none⟩))) w := by
    have hs' : a.eval (.tmp s) = .pointer (some ⟨X, 0, none⟩) := hs
    have ht' : a.eval (.tmp t) = .int .i64 (e : Int) := ht
    have hu := Try.underlying29
    unfold execOp
    simp only [ho, hs', ht']
    match e, he with
    | 0, _ => go_simp
    | 1, _ => go_simp
  unfold Oper.wp; rw [e]; show K (a.put o.dst _) w; rw [hd]; exact h
theorem k_idx28 {s t g n c k : Nat} (hd : o.dst = d) (ho : o.op = .indexAddr 28 (.tmp s) (.tmp t)) (hk : k < n) (hs : a.tmps.getD s undef = .slice (some ⟨g, 0, none⟩) n c) (ht : a.tmps.getD t undef = .int .i64 (k : Int)) (h : K (a.put d (.pointer (some ⟨g, k, none⟩))) w) : o.wp Try.prog a w K Q := by
  have e : (execOp a.eval o).run Try.prog w = .ok (.value (.pointer (some ⟨g, k, none⟩))) w := by
    have hs' : a.eval (.tmp s) = .slice (some ⟨g, 0, none⟩) n c := hs
    have ht' : a.eval (.tmp t) = .int .i64 (k : Int) := ht
    have hu := Try.underlying28
    have h0 : (0 : Int) ≤ (k : Int) := by omega
    have h1 : (k : Int) < (n : Int) := by omega
    unfold execOp
    simp only [ho, hs', ht']
    go_simp
  unfold Oper.wp; rw [e]; show K (a.put o.dst _) w; rw [hd]; exact h
theorem k_build45 {s : Nat} {n : ByteArray} (hd : o.dst = d) (ho : o.op = .buildSlice 45 1 #[(0, .tmp s)]) (hs : a.tmps.getD s undef = .string n) (h : K (a.put d (.slice (some ⟨w.heap.size, 0, none⟩) 1 1)) (w.alloc (.cells #[.string n] 9))) : o.wp Try.prog a w K Q := by
  have e : (execOp a.eval o).run Try.prog w = .ok (.value (.slice (some ⟨w.heap.size, 0, none⟩) 1 1)) (w.alloc (.cells #[.string n] 9)) := by
    have hu := Try.underlying45
    have hs' : a.eval (.tmp s) = .string n := hs
    have hm : #[((0 : Nat), Operand.tmp s)].map (fun x => (x.fst, a.eval x.snd)) = #[(0, .string n)] := by simp [hs']
    unfold execOp
    simp only [ho]
    rw [hm]
    go_simp
  unfold Oper.wp; rw [e]; show K (a.put o.dst _) _; rw [hd]; exact h
theorem k_build28 (hd : o.dst = d) (ho : o.op = .buildSlice 28 1 #[(0, .const (.slice none 0 0))]) (h : K (a.put d (.slice (some ⟨w.heap.size, 0, none⟩) 1 1)) (w.alloc (.cells #[.slice none 0 0] 45))) : o.wp Try.prog a w K Q := by
  have e : (execOp a.eval o).run Try.prog w = .ok (.value (.slice (some ⟨w.heap.size, 0, none⟩) 1 1)) (w.alloc (.cells #[.slice none 0 0] 45)) := by
    have hu := Try.underlying28
    have hm : #[((0 : Nat), Operand.const (.slice none 0 0))].map (fun x => (x.fst, a.eval x.snd)) = #[(0, .slice none 0 0)] := by simp [show a.eval (Operand.const (.slice none 0 0)) = .slice none 0 0 from rfl]
    unfold execOp
    simp only [ho]
    rw [hm]
    go_simp
  unfold Oper.wp; rw [e]; show K (a.put o.dst _) _; rw [hd]; exact h
theorem k_store45 {s t g k n c : Nat} {p : Option Addr} {old : Value} (hd : o.dst = none) (ho : o.op = .store 45 (.tmp s) (.tmp t)) (hs : a.tmps.getD s undef = .pointer (some ⟨g, k, none⟩)) (ht : a.tmps.getD t undef = .slice p n c) (hc : w.cell? ⟨g, k, none⟩ = some old) (hf : w.frozen? ⟨g, k, none⟩ = false) (h : K a (w.setCell ⟨g, k, none⟩ (.slice p n c))) : o.wp Try.prog a w K Q := by
  have hs' : a.eval (.tmp s) = .pointer (some ⟨g, k, none⟩) := hs
  have ht' : a.eval (.tmp t) = .slice p n c := ht
  unfold Oper.wp execOp
  simp only [ho, hs', ht']
  go_simp
  exact h
theorem k_store28 {s t g k n c : Nat} {p : Option Addr} {old : Value} (hd : o.dst = none) (ho : o.op = .store 28 (.tmp s) (.tmp t)) (hs : a.tmps.getD s undef = .pointer (some ⟨g, k, none⟩)) (ht : a.tmps.getD t undef = .slice p n c) (hc : w.cell? ⟨g, k, none⟩ = some old) (hf : w.frozen? ⟨g, k, none⟩ = false) (h : K a (w.setCell ⟨g, k, none⟩ (.slice p n c))) : o.wp Try.prog a w K Q := by
  have hs' : a.eval (.tmp s) = .pointer (some ⟨g, k, none⟩) := hs
  have ht' : a.eval (.tmp t) = .slice p n c := ht
  unfold Oper.wp execOp
  simp only [ho, hs', ht']
  go_simp
  exact h
end
theorem info45 : (Try.prog.info? 45).map (fun i => (i.zero, i.size, i.bytes)) = some (some (.slice none 0 0), 1, 24) := by kernel_rfl
/-- A row that has one more. -/
def Fin (ty : TypeId) (base m : Nat) (v : Value) (xs : List Value) (x : Value) (w0 w1 : World) (nu : Value) : Prop :=
  w0.grownBy w1 v.ownBlock ∧ w1.ownsRow base ty 1 nu (m + 1) (xs ++ [x]) ∧ (nu.ownBlock = v.ownBlock ∨ ∃ b, nu.ownBlock = some b ∧ w0.heap.size ≤ b)
theorem grown_alloc {w0 w : World} {r : Option Nat} (h : w0.grownBy w r) (o : Obj) : w0.grownBy (w.alloc o) r :=
  ⟨h.os, h.tape, h.output, by simp; have := h.size; omega, fun k hk hn => (((Below.refl w.heap.size w).alloc (Nat.le_refl _) o).block k (Nat.lt_of_lt_of_le hk h.size)).trans (h.block k hk hn)⟩
theorem grown_then {w0 w w1 : World} {r : Option Nat} (h : w0.grownBy w r) (h2 : w.grownBy w1 r) : w0.grownBy w1 r :=
  ⟨h2.os.trans h.os, h2.tape.trans h.tape, h2.output.trans h.output, Nat.le_trans h.size h2.size, fun k hk hn => (h2.block k (Nat.lt_of_lt_of_le hk h.size) hn).trans (h.block k hk hn)⟩
theorem Fin.alloc {ty : TypeId} {base m : Nat} {v : Value} {xs : List Value} {x : Value} {w0 w1 : World} {nu : Value} (h : Fin ty base m v xs x w0 w1 nu) (o : Obj) : Fin ty base m v xs x w0 (w1.alloc o) nu :=
  ⟨grown_alloc h.1 o, h.2.1.alloc o, h.2.2⟩
theorem Fin.form {ty : TypeId} {base m : Nat} {v : Value} {xs : List Value} {x : Value} {w0 w1 : World} {nu : Value} (h : Fin ty base m v xs x w0 w1 nu) : ∃ g cap, nu = .slice (some ⟨g, 0, none⟩) (m + 1) cap := by
  obtain ⟨g, cap, _, hv, _⟩ := row_open h.2.1 (by omega)
  exact ⟨g, cap, hv⟩
end Go.Proofs.Ytjjnhndlollldaa.Ep
