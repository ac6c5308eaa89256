/-
CrcXors' region that draws: whatever order is picked, the four texts grow by the bytes and by their sum. Condition: the three bytes lie in memory.
-/
import Derived.Test.YtljncbbajhoocaaCrcPartsLaw
import Derived.BigRegion
namespace Go.Proofs.Ytljncbbajhoocaa.Xors
set_option linter.unusedVariables false
open Go.RowKit Go.Proofs.Ytljncbbajhoocaa.Args Go.Proofs.Ytljncbbajhoocaa.Crc

/-- Whatever keeps to I in each step comes to its end in I. -/
theorem ready_nil {md : Region.Mode} {ops : Array Oper} {l : Array Bool} (h : ∀ i, i < ops.size → l.getD i true = true) : Region.ready md ops l = [] := by
  rw [List.eq_nil_iff_forall_not_mem]
  intro j hj
  obtain ⟨h1, o, h2, _⟩ := mem_ready.1 hj
  rw [h j (Array.getElem?_eq_some_iff.1 h2).1] at h1
  cases h1
def left (l : Array Bool) : Nat := l.toList.countP (fun b => !b)
theorem left_set {l : Array Bool} {i : Nat} (h : l.getD i true = false) : left (l.setIfInBounds i true) < left l := by
  have hi : i < l.size := by
    rcases Nat.lt_or_ge i l.size with h' | h'
    · exact h'
    · rw [Array.getD_eq_getD_getElem?, Array.getElem?_eq_none h'] at h; cases h
  have hv : l.toList[i]'(by simpa using hi) = false := by
    rw [Array.getD_eq_getD_getElem?, Array.getElem?_eq_getElem hi] at h
    simpa using h
  unfold left
  rw [Array.toList_setIfInBounds, List.set_eq_take_append_cons_drop, if_pos (by simpa using hi)]
  have e : l.toList = l.toList.take i ++ l.toList[i]'(by simpa using hi) :: l.toList.drop (i + 1) := by
    have h1 := List.drop_eq_getElem_cons (l := l.toList) (i := i) (by simpa using hi)
    rw [← h1, List.take_append_drop]
  conv => rhs; rw [e]
  rw [List.countP_append, List.countP_append, List.countP_cons, List.countP_cons, hv]
  simp
theorem wpAny_inv {P : Program} {md : Region.Mode} {ops : Array Oper} {Q : Exit → Act → World → Prop} (I : Array Bool → Act → World → Prop)
    (hstep : ∀ i l a w, i ∈ Region.ready md ops l → I l a w → wpOp P ops Q i (I (l.setIfInBounds i true)) a w)
    (hdone : ∀ l a w, Region.ready md ops l = [] → I l a w → Q .normal a w) :
    ∀ (fuel : Nat) (l : Array Bool) (a : Act) (w : World), I l a w → left l ≤ fuel → wpAny P md ops Q fuel l a w := by
  intro fuel
  induction fuel with
  | zero =>
    intro l a w hI hl
    have hr : Region.ready md ops l = [] := by
      rw [List.eq_nil_iff_forall_not_mem]
      intro j hj
      have := left_set (mem_ready.1 hj).1
      omega
    exact ⟨hr, hdone l a w hr hI⟩
  | succ fuel ih =>
    intro l a w hI hl
    refine ⟨fun hr => hdone l a w hr hI, fun i hi => ?_⟩
    have := left_set (mem_ready.1 hi).1
    exact wpOp_mono (fun a' w' h => ih _ a' w' h (by omega)) (hstep i l a w hi hI)

def regionOf (n : Nat) : Code → Option (Array Oper)
  | .region id ops _ => if id = n then some ops else none
  | .seq a b => match regionOf n a with
    | some c => some c
    | none => regionOf n b
  | .loop c => regionOf n c
  | .block _ c => regionOf n c
  | .scope c => regionOf n c
  | .cond _ a b => match regionOf n a with
    | some c => some c
    | none => regionOf n b
  | _ => none
noncomputable def ops8 : Array Oper := ((Try.f9.body.bind (regionOf 8)).getD #[])
def deps (o : Array Oper) (i : Nat) : List Nat := ((o[i]?).map (fun o => o.after.toList.filterMap (fun e => if Region.binds .any e then some e.on else none))).getD []
theorem ready_dep {l : Array Bool} {i d : Nat} (hr : i ∈ Region.ready .any ops8 l) (hd : d ∈ deps ops8 i) : l.getD d false = true := by
  obtain ⟨_, o, ho, h⟩ := mem_ready.1 hr
  unfold deps at hd
  rw [ho] at hd
  simp only [Option.map_some, Option.getD_some, List.mem_filterMap] at hd
  obtain ⟨e, he, hb⟩ := hd
  split at hb
  · rename_i hb2
    injection hb with hb
    subst hb
    exact h e (by simpa using he) hb2
  · cases hb
theorem opIs {i : Nat} {d : Option Tmp} {p : Op} (h : (ops8[i]?).map (fun o => (o.guard, o.dst, o.op)) = some (none, d, p)) : ∃ o, ops8[i]? = some o ∧ o.guard = none ∧ o.dst = d ∧ o.op = p := by
  cases ho : ops8[i]? with
  | none => rw [ho] at h; cases h
  | some o =>
    rw [ho] at h
    simp only [Option.map_some, Option.some.injEq, Prod.mk.injEq] at h
    exact ⟨o, rfl, h⟩
section
variable {a : Act} {w : World} {K : Act → World → Prop} {Q : Exit → Act → World → Prop} {o : Oper} {d : Option Tmp}
theorem wpOp_of {i : Nat} (ho : ops8[i]? = some o) (hg : o.guard = none) (h : o.wp Try.prog a w K Q) : wpOp Try.prog ops8 Q i K a w := by
  unfold wpOp
  simp only [ho, Region.wanted, hg, if_true]
  exact .inl h
theorem k_move {x : Operand} (hd : o.dst = d) (ho : o.op = .move x) (h : K (a.put d (a.eval x)) w) : o.wp Try.prog a w K Q := by
  unfold Oper.wp; rw [BigFrame.run_move x ho]; show K (a.put o.dst _) w; rw [hd]; exact h
theorem k_assign {x : Operand} (hd : o.dst = d) (ho : o.op = .assign x) (h : K (a.put d (a.eval x)) w) : o.wp Try.prog a w K Q := by
  unfold Oper.wp; rw [BigFrame.run_assign x ho]; show K (a.put o.dst _) w; rw [hd]; exact h
theorem k_idx {X k : Nat} (hd : o.dst = d) (ho : o.op = .indexAddr 50 (.tmp 8) (.const (.int .i64 (k : Int)))) (hk : k < 3) (hx : a.tmps.getD 8 undef = .pointer (some ⟨X, 0, none⟩)) (h : K (a.put d (.pointer (some ⟨X, k, none⟩))) w) : o.wp Try.prog a w K Q := by
  have e : (execOp a.eval o).run Try.prog w = .ok (.value (.pointer (some ⟨X, k, none⟩))) w := by
    have hu := Try.underlying50
    have hx' : a.eval (.tmp 8) = .pointer (some ⟨X, 0, none⟩) := hx
    have hc : a.eval (.const (.int .i64 (k : Int))) = .int .i64 (k : Int) := rfl
    unfold execOp
    simp only [ho, hx', hc]
    match k, hk with
    | 0, _ => go_simp
    | 1, _ => go_simp
    | 2, _ => go_simp
  unfold Oper.wp; rw [e]; show K (a.put o.dst _) w; rw [hd]; exact h
theorem k_load {s X k : Nat} {n : Int} (hd : o.dst = d) (ho : o.op = .load 5 (.tmp s)) (hs : a.tmps.getD s undef = .pointer (some ⟨X, k, none⟩)) (hc : w.cell? ⟨X, k, none⟩ = some (.int .u8 n)) (h : K (a.put d (.int .u8 n)) w) : o.wp Try.prog a w K Q := by
  have e : (execOp a.eval o).run Try.prog w = .ok (.value (.int .u8 n)) w := by
    have hu := Try.underlying5
    have hs' : a.eval (.tmp s) = .pointer (some ⟨X, k, none⟩) := hs
    unfold execOp
    simp only [ho, hs']
    go_simp
  unfold Oper.wp; rw [e]; show K (a.put o.dst _) w; rw [hd]; exact h
theorem k_build {s : Nat} {n : Int} (hd : o.dst = d) (ho : o.op = .buildSlice 51 1 #[(0, .tmp s)]) (hs : a.tmps.getD s undef = .int .u8 n) (h : K (a.put d (.slice (some ⟨w.heap.size, 0, none⟩) 1 1)) (w.alloc (.cells #[.int .u8 n] 5))) : o.wp Try.prog a w K Q := by
  have e : (execOp a.eval o).run Try.prog w = .ok (.value (.slice (some ⟨w.heap.size, 0, none⟩) 1 1)) (w.alloc (.cells #[.int .u8 n] 5)) := by
    have hu := Try.underlying51
    have hs' : a.eval (.tmp s) = .int .u8 n := hs
    have hm : #[((0 : Nat), Operand.tmp s)].map (fun x => (x.fst, a.eval x.snd)) = #[(0, .int .u8 n)] := by simp [hs']
    unfold execOp
    simp only [ho]
    rw [hm]
    go_simp
  unfold Oper.wp; rw [e]; show K (a.put o.dst _) _; rw [hd]; exact h
def one (x : UInt8) : ByteArray := ⟨#[x]⟩
/-- A slice of one byte. -/
def Sl (w : World) (v : Value) (x : UInt8) : Prop := ∃ b cap, v = .slice (some ⟨b, 0, none⟩) 1 cap ∧ w.cell? ⟨b, 0, none⟩ = some (.int .u8 (x.toNat : Int)) ∧ b < w.heap.size
theorem k_conv {s : Nat} {x : UInt8} (hd : o.dst = d) (ho : o.op = .convert 51 9 (.tmp s)) (hs : Sl w (a.tmps.getD s undef) x) (h : K (a.put d (.string (one x))) w) : o.wp Try.prog a w K Q := by
  obtain ⟨b, cap, hv, hc, _⟩ := hs
  have e : (execOp a.eval o).run Try.prog w = .ok (.value (.string (one x))) w := by
    have hs' : a.eval (.tmp s) = .slice (some ⟨b, 0, none⟩) 1 cap := hv
    have hback := run_convert_bytes_back (P := Try.prog) w 51 9 5 ⟨b, 0, none⟩ cap [x] Try.underlying51 Try.underlying5 Try.underlying9 (fun j hj => by
      obtain rfl : j = 0 := by simpa using hj
      simpa [Addr.add] using hc)
    unfold execOp
    simp only [ho, hs']
    have hback2 : (convert 51 9 (.slice (some ⟨b, 0, none⟩) 1 cap)).run Try.prog w = .ok (.string (one x)) w := hback
    rw [Sem.run_bind, hback2]; rfl
  unfold Oper.wp; rw [e]; show K (a.put o.dst _) w; rw [hd]; exact h
theorem k_add {s t : Nat} {A B : ByteArray} (hd : o.dst = d) (ho : o.op = .binOp .add 9 (.tmp s) (.tmp t) 9) (hs : a.tmps.getD s undef = .string A) (ht : a.tmps.getD t undef = .string B) (hz : A.size + B.size ≤ 9223372036854775807) (h : K (a.put d (.string (A ++ B))) w) : o.wp Try.prog a w K Q := by
  have e : (execOp a.eval o).run Try.prog w = .ok (.value (.string (A ++ B))) w := by
    have hs' : a.eval (.tmp s) = .string A := hs
    have ht' : a.eval (.tmp t) = .string B := ht
    have hu := Try.underlying9
    unfold execOp
    simp only [ho, hs', ht']
    go_simp
  unfold Oper.wp; rw [e]; show K (a.put o.dst _) w; rw [hd]; exact h
theorem k_xor {s t : Nat} {x y : UInt8} (hd : o.dst = d) (ho : o.op = .binOp .xor 5 (.tmp s) (.tmp t) 5) (hs : a.tmps.getD s undef = .int .u8 (x.toNat : Int)) (ht : a.tmps.getD t undef = .int .u8 (y.toNat : Int)) (h : K (a.put d (.int .u8 ((x ^^^ y).toNat : Int))) w) : o.wp Try.prog a w K Q := by
  have e : (execOp a.eval o).run Try.prog w = .ok (.value (.int .u8 ((x ^^^ y).toNat : Int))) w := by
    have hs' : a.eval (.tmp s) = .int .u8 (x.toNat : Int) := hs
    have ht' : a.eval (.tmp t) = .int .u8 (y.toNat : Int) := ht
    have hu := Try.underlying5
    have hx := u8_xor_nat x.toNat y.toNat x.toNat_lt y.toNat_lt
    rw [← UInt8.toNat_xor] at hx
    unfold execOp
    simp only [ho, hs', ht']
    go_simp
  unfold Oper.wp; rw [e]; show K (a.put o.dst _) w; rw [hd]; exact h
end
section
variable (X : Nat) (x0 x1 x2 : UInt8) (A B C D : ByteArray)
def slot (i : Nat) : Nat := if i < 30 then 23 + i else i - 27
def oldOf (j : Nat) : ByteArray := match j with
  | 0 => A
  | 1 => B
  | 2 => C
  | _ => D
/-- What operation i leaves in its slot. -/
def V (i : Nat) (w : World) (v : Value) : Prop := match i with
  | 0 => v = .string A
  | 1 => v = .pointer (some ⟨X, 0, none⟩)
  | 2 => v = .int .u8 ((x0).toNat : Int)
  | 3 => Sl w v x0
  | 4 => v = .string (one x0)
  | 5 => v = .string (A ++ one x0)
  | 6 => v = .string B
  | 7 => v = .pointer (some ⟨X, 1, none⟩)
  | 8 => v = .int .u8 ((x1).toNat : Int)
  | 9 => Sl w v x1
  | 10 => v = .string (one x1)
  | 11 => v = .string (B ++ one x1)
  | 12 => v = .string C
  | 13 => v = .pointer (some ⟨X, 2, none⟩)
  | 14 => v = .int .u8 ((x2).toNat : Int)
  | 15 => Sl w v x2
  | 16 => v = .string (one x2)
  | 17 => v = .string (C ++ one x2)
  | 18 => v = .string D
  | 19 => v = .pointer (some ⟨X, 0, none⟩)
  | 20 => v = .int .u8 ((x0).toNat : Int)
  | 21 => v = .pointer (some ⟨X, 1, none⟩)
  | 22 => v = .int .u8 ((x1).toNat : Int)
  | 23 => v = .int .u8 (((x0 ^^^ x1)).toNat : Int)
  | 24 => v = .pointer (some ⟨X, 2, none⟩)
  | 25 => v = .int .u8 ((x2).toNat : Int)
  | 26 => v = .int .u8 (((x0 ^^^ x1 ^^^ x2)).toNat : Int)
  | 27 => Sl w v ((x0 ^^^ x1 ^^^ x2))
  | 28 => v = .string (one (x0 ^^^ x1 ^^^ x2))
  | 29 => v = .string (D ++ one (x0 ^^^ x1 ^^^ x2))
  | 30 => v = .string (A ++ one x0)
  | 31 => v = .string (B ++ one x1)
  | 32 => v = .string (C ++ one x2)
  | 33 => v = .string (D ++ one (x0 ^^^ x1 ^^^ x2))
  | _ => True
theorem Sl.mono {w w' : World} {v : Value} {x : UInt8} (h : Sl w v x) (hb : Below w.heap.size w w') : Sl w' v x := by
  obtain ⟨b, cap, hv, hc, hl⟩ := h
  exact ⟨b, cap, hv, (hb.cell (p := ⟨b, 0, none⟩) hl).trans hc, Nat.lt_of_lt_of_le hl hb.size⟩
theorem V.mono {i : Nat} {w w' : World} {v : Value} (h : V X x0 x1 x2 A B C D i w v) (hb : Below w.heap.size w w') : V X x0 x1 x2 A B C D i w' v := by
  unfold V at *
  split at h <;> first | exact h | exact Sl.mono h hb
theorem getD_set {α : Type} (t : Array α) (i j : Nat) (v d : α) : (t.setIfInBounds i v).getD j d = if i = j ∧ i < t.size then v else t.getD j d := by
  simp only [Array.getD_eq_getD_getElem?, Array.getElem?_setIfInBounds]
  by_cases h : i = j
  · subst h
    by_cases h2 : i < t.size
    · simp [h2]
    · simp [h2]
  · simp [h]
structure RI (w0 : World) (t0 : Array Value) (l : Array Bool) (a : Act) (w : World) : Prop where
  size : l.size = 34
  defers : a.defers = []
  tsize : a.tmps.size = 78
  frame : ∀ s, ¬ (3 ≤ s ∧ s ≤ 6) → ¬ (23 ≤ s ∧ s ≤ 52) → a.tmps.getD s undef = t0.getD s undef
  below : Below w0.heap.size w0 w
  val : ∀ i, i < 34 → l.getD i false = true → V X x0 x1 x2 A B C D i w (a.tmps.getD (slot i) undef)
  old : ∀ j, j < 4 → l.getD (30 + j) false = false → a.tmps.getD (3 + j) undef = .string (oldOf A B C D j)
  dc : ∀ j, j < 4 → l.getD (30 + j) false = true → l.getD (6 * j) false = true
variable {X x0 x1 x2 A B C D}
theorem RI.step {w0 w w' : World} {t0 : Array Value} {l : Array Bool} {a : Act} (h : RI X x0 x1 x2 A B C D w0 t0 l a w) {i : Nat} (hi : i < 34) (hb : Below w.heap.size w w') {v : Value} (hv : V X x0 x1 x2 A B C D i w' v) (hd : ∀ j, j < 4 → i = 30 + j → l.getD (6 * j) false = true) :
    RI X x0 x1 x2 A B C D w0 t0 (l.setIfInBounds i true) (a.put (some (slot i)) v) w' := by
  have hs : slot i < 78 := by unfold slot; split <;> omega
  refine ⟨by simpa using h.size, h.defers, by simpa [Act.put] using h.tsize, fun s h1 h2 => ?_, h.below.trans (hb.mono h.below.size), fun j hj hl => ?_, fun j hj hl => ?_, fun j hj hl => ?_⟩
  · show (a.tmps.setIfInBounds (slot i) v).getD s undef = _
    rw [getD_set, if_neg (by unfold slot; split <;> omega)]
    exact h.frame s h1 h2
  · show V X x0 x1 x2 A B C D j w' ((a.tmps.setIfInBounds (slot i) v).getD (slot j) undef)
    rw [getD_set]
    by_cases e : i = j
    · subst e
      rw [if_pos ⟨rfl, by rw [h.tsize]; exact hs⟩]; exact hv
    · rw [if_neg (by unfold slot; split <;> split <;> omega)]
      rw [getD_set, if_neg (by omega)] at hl
      exact V.mono X x0 x1 x2 A B C D (h.val j hj hl) hb
  · show (a.tmps.setIfInBounds (slot i) v).getD (3 + j) undef = _
    rw [getD_set] at hl ⊢
    have hne : ¬ i = 30 + j := fun e => by rw [if_pos ⟨e, by rw [h.size]; exact hi⟩] at hl; cases hl
    rw [if_neg (by omega)] at hl
    rw [if_neg (by unfold slot; split <;> omega)]
    exact h.old j hj hl
  · rw [getD_set] at hl ⊢
    by_cases e : i = 6 * j
    · rw [if_pos ⟨e, by rw [h.size]; exact hi⟩]
    · rw [if_neg (by omega)]
      by_cases e2 : i = 30 + j
      · exact hd j hj e2
      · rw [if_neg (by omega)] at hl
        exact h.dc j hj hl
theorem RI.v {w0 w : World} {t0 : Array Value} {l : Array Bool} {a : Act} (h : RI X x0 x1 x2 A B C D w0 t0 l a w) {i j : Nat} (hr : i ∈ Region.ready .any ops8 l) (hd : j ∈ deps ops8 i) (hj : j < 34) : V X x0 x1 x2 A B C D j w (a.tmps.getD (slot j) undef) := h.val j hj (ready_dep hr hd)
theorem RI.mine {w0 w : World} {t0 : Array Value} {l : Array Bool} {a : Act} (h : RI X x0 x1 x2 A B C D w0 t0 l a w) {j : Nat} (hr : 6 * j ∈ Region.ready .any ops8 l) (hj : j < 4) : a.tmps.getD (3 + j) undef = .string (oldOf A B C D j) := by
  refine h.old j hj ?_
  have h1 := (mem_ready.1 hr).1
  cases h2 : l.getD (30 + j) false with
  | false => rfl
  | true =>
    have h3 := h.dc j hj h2
    rw [Array.getD_eq_getD_getElem?] at h1 h3
    cases h4 : l[6 * j]? with
    | none => rw [h4] at h3; cases h3
    | some b => rw [h4] at h1 h3; simp at h1 h3; rw [h1] at h3; cases h3
/-- The three bytes lie in block X, which slot 8 points to. -/
structure Here (X : Nat) (x0 x1 x2 : UInt8) (w0 : World) (t0 : Array Value) (A B C D : ByteArray) : Prop where
  ptr : t0.getD 8 undef = .pointer (some ⟨X, 0, none⟩)
  lt : X < w0.heap.size
  c0 : w0.cell? ⟨X, 0, none⟩ = some (.int .u8 (x0.toNat : Int))
  c1 : w0.cell? ⟨X, 1, none⟩ = some (.int .u8 (x1.toNat : Int))
  c2 : w0.cell? ⟨X, 2, none⟩ = some (.int .u8 (x2.toNat : Int))
  zA : A.size ≤ 60
  zB : B.size ≤ 60
  zC : C.size ≤ 60
  zD : D.size ≤ 60
theorem one_size (x : UInt8) : (one x).size = 1 := rfl
variable {w0 w : World} {t0 : Array Value} {l : Array Bool} {a : Act} {Q : Exit → Act → World → Prop}
theorem sl_new (w : World) (x : UInt8) : Sl (w.alloc (.cells #[.int .u8 (x.toNat : Int)] 5)) (.slice (some ⟨w.heap.size, 0, none⟩) 1 1) x :=
  ⟨_, 1, rfl, by rw [cell_of_row _ _ _ _ _ _ (Go.heap_alloc_new w _)]; rfl, by simp⟩
theorem st0 (hr : 0 ∈ Region.ready .any ops8 l) (h : RI X x0 x1 x2 A B C D w0 t0 l a w) (q : Here X x0 x1 x2 w0 t0 A B C D) : wpOp Try.prog ops8 Q 0 (RI X x0 x1 x2 A B C D w0 t0 (l.setIfInBounds 0 true)) a w := by
  obtain ⟨o, ho, hg, hd, hop⟩ := opIs (i := 0) (d := some 23) (p := .move (.tmp 3)) (by kernel_rfl)
  refine wpOp_of ho hg ?_
  refine k_move hd hop ?_
  have e : a.eval (.tmp 3) = .string A := h.mine (j := 0) hr (by omega)
  rw [e]
  exact h.step (i := 0) (by omega) (Below.refl _ _) rfl (fun j hj e => by omega)
theorem st1 (hr : 1 ∈ Region.ready .any ops8 l) (h : RI X x0 x1 x2 A B C D w0 t0 l a w) (q : Here X x0 x1 x2 w0 t0 A B C D) : wpOp Try.prog ops8 Q 1 (RI X x0 x1 x2 A B C D w0 t0 (l.setIfInBounds 1 true)) a w := by
  obtain ⟨o, ho, hg, hd, hop⟩ := opIs (i := 1) (d := some 24) (p := .indexAddr 50 (.tmp 8) (.const (.int .i64 ((0 : Nat) : Int)))) (by kernel_rfl)
  refine wpOp_of ho hg ?_
  exact k_idx hd hop (by omega) ((h.frame 8 (by omega) (by omega)).trans q.ptr) (h.step (i := 1) (by omega) (Below.refl _ _) rfl (fun j hj e => by omega))
theorem st2 (hr : 2 ∈ Region.ready .any ops8 l) (h : RI X x0 x1 x2 A B C D w0 t0 l a w) (q : Here X x0 x1 x2 w0 t0 A B C D) : wpOp Try.prog ops8 Q 2 (RI X x0 x1 x2 A B C D w0 t0 (l.setIfInBounds 2 true)) a w := by
  obtain ⟨o, ho, hg, hd, hop⟩ := opIs (i := 2) (d := some 25) (p := .load 5 (.tmp 24)) (by kernel_rfl)
  refine wpOp_of ho hg ?_
  exact k_load hd hop (h.v (j := 1) hr (by rw [show deps ops8 2 = [1] from by kernel_rfl]; simp) (by omega)) ((h.below.cell (p := ⟨X, 0, none⟩) q.lt).trans q.c0) (h.step (i := 2) (by omega) (Below.refl _ _) rfl (fun j hj e => by omega))
theorem st3 (hr : 3 ∈ Region.ready .any ops8 l) (h : RI X x0 x1 x2 A B C D w0 t0 l a w) (q : Here X x0 x1 x2 w0 t0 A B C D) : wpOp Try.prog ops8 Q 3 (RI X x0 x1 x2 A B C D w0 t0 (l.setIfInBounds 3 true)) a w := by
  obtain ⟨o, ho, hg, hd, hop⟩ := opIs (i := 3) (d := some 26) (p := .buildSlice 51 1 #[(0, .tmp 25)]) (by kernel_rfl)
  refine wpOp_of ho hg ?_
  exact k_build hd hop (h.v (j := 2) hr (by rw [show deps ops8 3 = [2] from by kernel_rfl]; simp) (by omega)) (h.step (i := 3) (by omega) ((Below.refl _ _).alloc (Nat.le_refl _) _) (sl_new w _) (fun j hj e => by omega))
theorem st4 (hr : 4 ∈ Region.ready .any ops8 l) (h : RI X x0 x1 x2 A B C D w0 t0 l a w) (q : Here X x0 x1 x2 w0 t0 A B C D) : wpOp Try.prog ops8 Q 4 (RI X x0 x1 x2 A B C D w0 t0 (l.setIfInBounds 4 true)) a w := by
  obtain ⟨o, ho, hg, hd, hop⟩ := opIs (i := 4) (d := some 27) (p := .convert 51 9 (.tmp 26)) (by kernel_rfl)
  refine wpOp_of ho hg ?_
  exact k_conv hd hop (h.v (j := 3) hr (by rw [show deps ops8 4 = [3] from by kernel_rfl]; simp) (by omega)) (h.step (i := 4) (by omega) (Below.refl _ _) rfl (fun j hj e => by omega))
theorem st5 (hr : 5 ∈ Region.ready .any ops8 l) (h : RI X x0 x1 x2 A B C D w0 t0 l a w) (q : Here X x0 x1 x2 w0 t0 A B C D) : wpOp Try.prog ops8 Q 5 (RI X x0 x1 x2 A B C D w0 t0 (l.setIfInBounds 5 true)) a w := by
  obtain ⟨o, ho, hg, hd, hop⟩ := opIs (i := 5) (d := some 28) (p := .binOp .add 9 (.tmp 23) (.tmp 27) 9) (by kernel_rfl)
  refine wpOp_of ho hg ?_
  exact k_add hd hop (h.v (j := 0) hr (by rw [show deps ops8 5 = [0, 4] from by kernel_rfl]; simp) (by omega)) (h.v (j := 4) hr (by rw [show deps ops8 5 = [0, 4] from by kernel_rfl]; simp) (by omega)) (by have := q.zA; rw [one_size]; omega) (h.step (i := 5) (by omega) (Below.refl _ _) rfl (fun j hj e => by omega))
theorem st6 (hr : 6 ∈ Region.ready .any ops8 l) (h : RI X x0 x1 x2 A B C D w0 t0 l a w) (q : Here X x0 x1 x2 w0 t0 A B C D) : wpOp Try.prog ops8 Q 6 (RI X x0 x1 x2 A B C D w0 t0 (l.setIfInBounds 6 true)) a w := by
  obtain ⟨o, ho, hg, hd, hop⟩ := opIs (i := 6) (d := some 29) (p := .move (.tmp 4)) (by kernel_rfl)
  refine wpOp_of ho hg ?_
  refine k_move hd hop ?_
  have e : a.eval (.tmp 4) = .string B := h.mine (j := 1) hr (by omega)
  rw [e]
  exact h.step (i := 6) (by omega) (Below.refl _ _) rfl (fun j hj e => by omega)
theorem st7 (hr : 7 ∈ Region.ready .any ops8 l) (h : RI X x0 x1 x2 A B C D w0 t0 l a w) (q : Here X x0 x1 x2 w0 t0 A B C D) : wpOp Try.prog ops8 Q 7 (RI X x0 x1 x2 A B C D w0 t0 (l.setIfInBounds 7 true)) a w := by
  obtain ⟨o, ho, hg, hd, hop⟩ := opIs (i := 7) (d := some 30) (p := .indexAddr 50 (.tmp 8) (.const (.int .i64 ((1 : Nat) : Int)))) (by kernel_rfl)
  refine wpOp_of ho hg ?_
  exact k_idx hd hop (by omega) ((h.frame 8 (by omega) (by omega)).trans q.ptr) (h.step (i := 7) (by omega) (Below.refl _ _) rfl (fun j hj e => by omega))
theorem st8 (hr : 8 ∈ Region.ready .any ops8 l) (h : RI X x0 x1 x2 A B C D w0 t0 l a w) (q : Here X x0 x1 x2 w0 t0 A B C D) : wpOp Try.prog ops8 Q 8 (RI X x0 x1 x2 A B C D w0 t0 (l.setIfInBounds 8 true)) a w := by
  obtain ⟨o, ho, hg, hd, hop⟩ := opIs (i := 8) (d := some 31) (p := .load 5 (.tmp 30)) (by kernel_rfl)
  refine wpOp_of ho hg ?_
  exact k_load hd hop (h.v (j := 7) hr (by rw [show deps ops8 8 = [7] from by kernel_rfl]; simp) (by omega)) ((h.below.cell (p := ⟨X, 1, none⟩) q.lt).trans q.c1) (h.step (i := 8) (by omega) (Below.refl _ _) rfl (fun j hj e => by omega))
theorem st9 (hr : 9 ∈ Region.ready .any ops8 l) (h : RI X x0 x1 x2 A B C D w0 t0 l a w) (q : Here X x0 x1 x2 w0 t0 A B C D) : wpOp Try.prog ops8 Q 9 (RI X x0 x1 x2 A B C D w0 t0 (l.setIfInBounds 9 true)) a w := by
  obtain ⟨o, ho, hg, hd, hop⟩ := opIs (i := 9) (d := some 32) (p := .buildSlice 51 1 #[(0, .tmp 31)]) (by kernel_rfl)
  refine wpOp_of ho hg ?_
  exact k_build hd hop (h.v (j := 8) hr (by rw [show deps ops8 9 = [8] from by kernel_rfl]; simp) (by omega)) (h.step (i := 9) (by omega) ((Below.refl _ _).alloc (Nat.le_refl _) _) (sl_new w _) (fun j hj e => by omega))
theorem st10 (hr : 10 ∈ Region.ready .any ops8 l) (h : RI X x0 x1 x2 A B C D w0 t0 l a w) (q : Here X x0 x1 x2 w0 t0 A B C D) : wpOp Try.prog ops8 Q 10 (RI X x0 x1 x2 A B C D w0 t0 (l.setIfInBounds 10 true)) a w := by
  obtain ⟨o, ho, hg, hd, hop⟩ := opIs (i := 10) (d := some 33) (p := .convert 51 9 (.tmp 32)) (by kernel_rfl)
  refine wpOp_of ho hg ?_
  exact k_conv hd hop (h.v (j := 9) hr (by rw [show deps ops8 10 = [9] from by kernel_rfl]; simp) (by omega)) (h.step (i := 10) (by omega) (Below.refl _ _) rfl (fun j hj e => by omega))
theorem st11 (hr : 11 ∈ Region.ready .any ops8 l) (h : RI X x0 x1 x2 A B C D w0 t0 l a w) (q : Here X x0 x1 x2 w0 t0 A B C D) : wpOp Try.prog ops8 Q 11 (RI X x0 x1 x2 A B C D w0 t0 (l.setIfInBounds 11 true)) a w := by
  obtain ⟨o, ho, hg, hd, hop⟩ := opIs (i := 11) (d := some 34) (p := .binOp .add 9 (.tmp 29) (.tmp 33) 9) (by kernel_rfl)
  refine wpOp_of ho hg ?_
  exact k_add hd hop (h.v (j := 6) hr (by rw [show deps ops8 11 = [6, 10] from by kernel_rfl]; simp) (by omega)) (h.v (j := 10) hr (by rw [show deps ops8 11 = [6, 10] from by kernel_rfl]; simp) (by omega)) (by have := q.zB; rw [one_size]; omega) (h.step (i := 11) (by omega) (Below.refl _ _) rfl (fun j hj e => by omega))
theorem st12 (hr : 12 ∈ Region.ready .any ops8 l) (h : RI X x0 x1 x2 A B C D w0 t0 l a w) (q : Here X x0 x1 x2 w0 t0 A B C D) : wpOp Try.prog ops8 Q 12 (RI X x0 x1 x2 A B C D w0 t0 (l.setIfInBounds 12 true)) a w := by
  obtain ⟨o, ho, hg, hd, hop⟩ := opIs (i := 12) (d := some 35) (p := .move (.tmp 5)) (by kernel_rfl)
  refine wpOp_of ho hg ?_
  refine k_move hd hop ?_
  have e : a.eval (.tmp 5) = .string C := h.mine (j := 2) hr (by omega)
  rw [e]
  exact h.step (i := 12) (by omega) (Below.refl _ _) rfl (fun j hj e => by omega)
theorem st13 (hr : 13 ∈ Region.ready .any ops8 l) (h : RI X x0 x1 x2 A B C D w0 t0 l a w) (q : Here X x0 x1 x2 w0 t0 A B C D) : wpOp Try.prog ops8 Q 13 (RI X x0 x1 x2 A B C D w0 t0 (l.setIfInBounds 13 true)) a w := by
  obtain ⟨o, ho, hg, hd, hop⟩ := opIs (i := 13) (d := some 36) (p := .indexAddr 50 (.tmp 8) (.const (.int .i64 ((2 : Nat) : Int)))) (by kernel_rfl)
  refine wpOp_of ho hg ?_
  exact k_idx hd hop (by omega) ((h.frame 8 (by omega) (by omega)).trans q.ptr) (h.step (i := 13) (by omega) (Below.refl _ _) rfl (fun j hj e => by omega))
theorem st14 (hr : 14 ∈ Region.ready .any ops8 l) (h : RI X x0 x1 x2 A B C D w0 t0 l a w) (q : Here X x0 x1 x2 w0 t0 A B C D) : wpOp Try.prog ops8 Q 14 (RI X x0 x1 x2 A B C D w0 t0 (l.setIfInBounds 14 true)) a w := by
  obtain ⟨o, ho, hg, hd, hop⟩ := opIs (i := 14) (d := some 37) (p := .load 5 (.tmp 36)) (by kernel_rfl)
  refine wpOp_of ho hg ?_
  exact k_load hd hop (h.v (j := 13) hr (by rw [show deps ops8 14 = [13] from by kernel_rfl]; simp) (by omega)) ((h.below.cell (p := ⟨X, 2, none⟩) q.lt).trans q.c2) (h.step (i := 14) (by omega) (Below.refl _ _) rfl (fun j hj e => by omega))
theorem st15 (hr : 15 ∈ Region.ready .any ops8 l) (h : RI X x0 x1 x2 A B C D w0 t0 l a w) (q : Here X x0 x1 x2 w0 t0 A B C D) : wpOp Try.prog ops8 Q 15 (RI X x0 x1 x2 A B C D w0 t0 (l.setIfInBounds 15 true)) a w := by
  obtain ⟨o, ho, hg, hd, hop⟩ := opIs (i := 15) (d := some 38) (p := .buildSlice 51 1 #[(0, .tmp 37)]) (by kernel_rfl)
  refine wpOp_of ho hg ?_
  exact k_build hd hop (h.v (j := 14) hr (by rw [show deps ops8 15 = [14] from by kernel_rfl]; simp) (by omega)) (h.step (i := 15) (by omega) ((Below.refl _ _).alloc (Nat.le_refl _) _) (sl_new w _) (fun j hj e => by omega))
theorem st16 (hr : 16 ∈ Region.ready .any ops8 l) (h : RI X x0 x1 x2 A B C D w0 t0 l a w) (q : Here X x0 x1 x2 w0 t0 A B C D) : wpOp Try.prog ops8 Q 16 (RI X x0 x1 x2 A B C D w0 t0 (l.setIfInBounds 16 true)) a w := by
  obtain ⟨o, ho, hg, hd, hop⟩ := opIs (i := 16) (d := some 39) (p := .convert 51 9 (.tmp 38)) (by kernel_rfl)
  refine wpOp_of ho hg ?_
  exact k_conv hd hop (h.v (j := 15) hr (by rw [show deps ops8 16 = [15] from by kernel_rfl]; simp) (by omega)) (h.step (i := 16) (by omega) (Below.refl _ _) rfl (fun j hj e => by omega))
theorem st17 (hr : 17 ∈ Region.ready .any ops8 l) (h : RI X x0 x1 x2 A B C D w0 t0 l a w) (q : Here X x0 x1 x2 w0 t0 A B C D) : wpOp Try.prog ops8 Q 17 (RI X x0 x1 x2 A B C D w0 t0 (l.setIfInBounds 17 true)) a w := by
  obtain ⟨o, ho, hg, hd, hop⟩ := opIs (i := 17) (d := some 40) (p := .binOp .add 9 (.tmp 35) (.tmp 39) 9) (by kernel_rfl)
  refine wpOp_of ho hg ?_
  exact k_add hd hop (h.v (j := 12) hr (by rw [show deps ops8 17 = [12, 16] from by kernel_rfl]; simp) (by omega)) (h.v (j := 16) hr (by rw [show deps ops8 17 = [12, 16] from by kernel_rfl]; simp) (by omega)) (by have := q.zC; rw [one_size]; omega) (h.step (i := 17) (by omega) (Below.refl _ _) rfl (fun j hj e => by omega))
theorem st18 (hr : 18 ∈ Region.ready .any ops8 l) (h : RI X x0 x1 x2 A B C D w0 t0 l a w) (q : Here X x0 x1 x2 w0 t0 A B C D) : wpOp Try.prog ops8 Q 18 (RI X x0 x1 x2 A B C D w0 t0 (l.setIfInBounds 18 true)) a w := by
  obtain ⟨o, ho, hg, hd, hop⟩ := opIs (i := 18) (d := some 41) (p := .move (.tmp 6)) (by kernel_rfl)
  refine wpOp_of ho hg ?_
  refine k_move hd hop ?_
  have e : a.eval (.tmp 6) = .string D := h.mine (j := 3) hr (by omega)
  rw [e]
  exact h.step (i := 18) (by omega) (Below.refl _ _) rfl (fun j hj e => by omega)
theorem st19 (hr : 19 ∈ Region.ready .any ops8 l) (h : RI X x0 x1 x2 A B C D w0 t0 l a w) (q : Here X x0 x1 x2 w0 t0 A B C D) : wpOp Try.prog ops8 Q 19 (RI X x0 x1 x2 A B C D w0 t0 (l.setIfInBounds 19 true)) a w := by
  obtain ⟨o, ho, hg, hd, hop⟩ := opIs (i := 19) (d := some 42) (p := .indexAddr 50 (.tmp 8) (.const (.int .i64 ((0 : Nat) : Int)))) (by kernel_rfl)
  refine wpOp_of ho hg ?_
  exact k_idx hd hop (by omega) ((h.frame 8 (by omega) (by omega)).trans q.ptr) (h.step (i := 19) (by omega) (Below.refl _ _) rfl (fun j hj e => by omega))
theorem st20 (hr : 20 ∈ Region.ready .any ops8 l) (h : RI X x0 x1 x2 A B C D w0 t0 l a w) (q : Here X x0 x1 x2 w0 t0 A B C D) : wpOp Try.prog ops8 Q 20 (RI X x0 x1 x2 A B C D w0 t0 (l.setIfInBounds 20 true)) a w := by
  obtain ⟨o, ho, hg, hd, hop⟩ := opIs (i := 20) (d := some 43) (p := .load 5 (.tmp 42)) (by kernel_rfl)
  refine wpOp_of ho hg ?_
  exact k_load hd hop (h.v (j := 19) hr (by rw [show deps ops8 20 = [19] from by kernel_rfl]; simp) (by omega)) ((h.below.cell (p := ⟨X, 0, none⟩) q.lt).trans q.c0) (h.step (i := 20) (by omega) (Below.refl _ _) rfl (fun j hj e => by omega))
theorem st21 (hr : 21 ∈ Region.ready .any ops8 l) (h : RI X x0 x1 x2 A B C D w0 t0 l a w) (q : Here X x0 x1 x2 w0 t0 A B C D) : wpOp Try.prog ops8 Q 21 (RI X x0 x1 x2 A B C D w0 t0 (l.setIfInBounds 21 true)) a w := by
  obtain ⟨o, ho, hg, hd, hop⟩ := opIs (i := 21) (d := some 44) (p := .indexAddr 50 (.tmp 8) (.const (.int .i64 ((1 : Nat) : Int)))) (by kernel_rfl)
  refine wpOp_of ho hg ?_
  exact k_idx hd hop (by omega) ((h.frame 8 (by omega) (by omega)).trans q.ptr) (h.step (i := 21) (by omega) (Below.refl _ _) rfl (fun j hj e => by omega))
theorem st22 (hr : 22 ∈ Region.ready .any ops8 l) (h : RI X x0 x1 x2 A B C D w0 t0 l a w) (q : Here X x0 x1 x2 w0 t0 A B C D) : wpOp Try.prog ops8 Q 22 (RI X x0 x1 x2 A B C D w0 t0 (l.setIfInBounds 22 true)) a w := by
  obtain ⟨o, ho, hg, hd, hop⟩ := opIs (i := 22) (d := some 45) (p := .load 5 (.tmp 44)) (by kernel_rfl)
  refine wpOp_of ho hg ?_
  exact k_load hd hop (h.v (j := 21) hr (by rw [show deps ops8 22 = [21] from by kernel_rfl]; simp) (by omega)) ((h.below.cell (p := ⟨X, 1, none⟩) q.lt).trans q.c1) (h.step (i := 22) (by omega) (Below.refl _ _) rfl (fun j hj e => by omega))
theorem st23 (hr : 23 ∈ Region.ready .any ops8 l) (h : RI X x0 x1 x2 A B C D w0 t0 l a w) (q : Here X x0 x1 x2 w0 t0 A B C D) : wpOp Try.prog ops8 Q 23 (RI X x0 x1 x2 A B C D w0 t0 (l.setIfInBounds 23 true)) a w := by
  obtain ⟨o, ho, hg, hd, hop⟩ := opIs (i := 23) (d := some 46) (p := .binOp .xor 5 (.tmp 43) (.tmp 45) 5) (by kernel_rfl)
  refine wpOp_of ho hg ?_
  exact k_xor hd hop (h.v (j := 20) hr (by rw [show deps ops8 23 = [20, 22] from by kernel_rfl]; simp) (by omega)) (h.v (j := 22) hr (by rw [show deps ops8 23 = [20, 22] from by kernel_rfl]; simp) (by omega)) (h.step (i := 23) (by omega) (Below.refl _ _) rfl (fun j hj e => by omega))
theorem st24 (hr : 24 ∈ Region.ready .any ops8 l) (h : RI X x0 x1 x2 A B C D w0 t0 l a w) (q : Here X x0 x1 x2 w0 t0 A B C D) : wpOp Try.prog ops8 Q 24 (RI X x0 x1 x2 A B C D w0 t0 (l.setIfInBounds 24 true)) a w := by
  obtain ⟨o, ho, hg, hd, hop⟩ := opIs (i := 24) (d := some 47) (p := .indexAddr 50 (.tmp 8) (.const (.int .i64 ((2 : Nat) : Int)))) (by kernel_rfl)
  refine wpOp_of ho hg ?_
  exact k_idx hd hop (by omega) ((h.frame 8 (by omega) (by omega)).trans q.ptr) (h.step (i := 24) (by omega) (Below.refl _ _) rfl (fun j hj e => by omega))
theorem st25 (hr : 25 ∈ Region.ready .any ops8 l) (h : RI X x0 x1 x2 A B C D w0 t0 l a w) (q : Here X x0 x1 x2 w0 t0 A B C D) : wpOp Try.prog ops8 Q 25 (RI X x0 x1 x2 A B C D w0 t0 (l.setIfInBounds 25 true)) a w := by
  obtain ⟨o, ho, hg, hd, hop⟩ := opIs (i := 25) (d := some 48) (p := .load 5 (.tmp 47)) (by kernel_rfl)
  refine wpOp_of ho hg ?_
  exact k_load hd hop (h.v (j := 24) hr (by rw [show deps ops8 25 = [24] from by kernel_rfl]; simp) (by omega)) ((h.below.cell (p := ⟨X, 2, none⟩) q.lt).trans q.c2) (h.step (i := 25) (by omega) (Below.refl _ _) rfl (fun j hj e => by omega))
theorem st26 (hr : 26 ∈ Region.ready .any ops8 l) (h : RI X x0 x1 x2 A B C D w0 t0 l a w) (q : Here X x0 x1 x2 w0 t0 A B C D) : wpOp Try.prog ops8 Q 26 (RI X x0 x1 x2 A B C D w0 t0 (l.setIfInBounds 26 true)) a w := by
  obtain ⟨o, ho, hg, hd, hop⟩ := opIs (i := 26) (d := some 49) (p := .binOp .xor 5 (.tmp 46) (.tmp 48) 5) (by kernel_rfl)
  refine wpOp_of ho hg ?_
  exact k_xor hd hop (h.v (j := 23) hr (by rw [show deps ops8 26 = [23, 25] from by kernel_rfl]; simp) (by omega)) (h.v (j := 25) hr (by rw [show deps ops8 26 = [23, 25] from by kernel_rfl]; simp) (by omega)) (h.step (i := 26) (by omega) (Below.refl _ _) rfl (fun j hj e => by omega))
theorem st27 (hr : 27 ∈ Region.ready .any ops8 l) (h : RI X x0 x1 x2 A B C D w0 t0 l a w) (q : Here X x0 x1 x2 w0 t0 A B C D) : wpOp Try.prog ops8 Q 27 (RI X x0 x1 x2 A B C D w0 t0 (l.setIfInBounds 27 true)) a w := by
  obtain ⟨o, ho, hg, hd, hop⟩ := opIs (i := 27) (d := some 50) (p := .buildSlice 51 1 #[(0, .tmp 49)]) (by kernel_rfl)
  refine wpOp_of ho hg ?_
  exact k_build hd hop (h.v (j := 26) hr (by rw [show deps ops8 27 = [26] from by kernel_rfl]; simp) (by omega)) (h.step (i := 27) (by omega) ((Below.refl _ _).alloc (Nat.le_refl _) _) (sl_new w _) (fun j hj e => by omega))
theorem st28 (hr : 28 ∈ Region.ready .any ops8 l) (h : RI X x0 x1 x2 A B C D w0 t0 l a w) (q : Here X x0 x1 x2 w0 t0 A B C D) : wpOp Try.prog ops8 Q 28 (RI X x0 x1 x2 A B C D w0 t0 (l.setIfInBounds 28 true)) a w := by
  obtain ⟨o, ho, hg, hd, hop⟩ := opIs (i := 28) (d := some 51) (p := .convert 51 9 (.tmp 50)) (by kernel_rfl)
  refine wpOp_of ho hg ?_
  exact k_conv hd hop (h.v (j := 27) hr (by rw [show deps ops8 28 = [27] from by kernel_rfl]; simp) (by omega)) (h.step (i := 28) (by omega) (Below.refl _ _) rfl (fun j hj e => by omega))
theorem st29 (hr : 29 ∈ Region.ready .any ops8 l) (h : RI X x0 x1 x2 A B C D w0 t0 l a w) (q : Here X x0 x1 x2 w0 t0 A B C D) : wpOp Try.prog ops8 Q 29 (RI X x0 x1 x2 A B C D w0 t0 (l.setIfInBounds 29 true)) a w := by
  obtain ⟨o, ho, hg, hd, hop⟩ := opIs (i := 29) (d := some 52) (p := .binOp .add 9 (.tmp 41) (.tmp 51) 9) (by kernel_rfl)
  refine wpOp_of ho hg ?_
  exact k_add hd hop (h.v (j := 18) hr (by rw [show deps ops8 29 = [18, 28] from by kernel_rfl]; simp) (by omega)) (h.v (j := 28) hr (by rw [show deps ops8 29 = [18, 28] from by kernel_rfl]; simp) (by omega)) (by have := q.zD; rw [one_size]; omega) (h.step (i := 29) (by omega) (Below.refl _ _) rfl (fun j hj e => by omega))
theorem st30 (hr : 30 ∈ Region.ready .any ops8 l) (h : RI X x0 x1 x2 A B C D w0 t0 l a w) (q : Here X x0 x1 x2 w0 t0 A B C D) : wpOp Try.prog ops8 Q 30 (RI X x0 x1 x2 A B C D w0 t0 (l.setIfInBounds 30 true)) a w := by
  obtain ⟨o, ho, hg, hd, hop⟩ := opIs (i := 30) (d := some 3) (p := .assign (.tmp 28)) (by kernel_rfl)
  refine wpOp_of ho hg ?_
  refine k_assign hd hop ?_
  have e : a.eval (.tmp 28) = _ := (h.v (j := 5) hr (by rw [show deps ops8 30 = [5, 0, 1, 2, 3, 4, 5] from by kernel_rfl]; simp) (by omega))
  rw [e]
  exact h.step (i := 30) (by omega) (Below.refl _ _) rfl (fun j hj e => by
    obtain rfl : j = 0 := by omega
    exact ready_dep hr (by rw [show deps ops8 30 = [5, 0, 1, 2, 3, 4, 5] from by kernel_rfl]; simp))
theorem st31 (hr : 31 ∈ Region.ready .any ops8 l) (h : RI X x0 x1 x2 A B C D w0 t0 l a w) (q : Here X x0 x1 x2 w0 t0 A B C D) : wpOp Try.prog ops8 Q 31 (RI X x0 x1 x2 A B C D w0 t0 (l.setIfInBounds 31 true)) a w := by
  obtain ⟨o, ho, hg, hd, hop⟩ := opIs (i := 31) (d := some 4) (p := .assign (.tmp 34)) (by kernel_rfl)
  refine wpOp_of ho hg ?_
  refine k_assign hd hop ?_
  have e : a.eval (.tmp 34) = _ := (h.v (j := 11) hr (by rw [show deps ops8 31 = [11, 30, 0, 1, 2, 3, 4, 5, 6, 7, 8, 9, 10, 11, 30] from by kernel_rfl]; simp) (by omega))
  rw [e]
  exact h.step (i := 31) (by omega) (Below.refl _ _) rfl (fun j hj e => by
    obtain rfl : j = 1 := by omega
    exact ready_dep hr (by rw [show deps ops8 31 = [11, 30, 0, 1, 2, 3, 4, 5, 6, 7, 8, 9, 10, 11, 30] from by kernel_rfl]; simp))
theorem st32 (hr : 32 ∈ Region.ready .any ops8 l) (h : RI X x0 x1 x2 A B C D w0 t0 l a w) (q : Here X x0 x1 x2 w0 t0 A B C D) : wpOp Try.prog ops8 Q 32 (RI X x0 x1 x2 A B C D w0 t0 (l.setIfInBounds 32 true)) a w := by
  obtain ⟨o, ho, hg, hd, hop⟩ := opIs (i := 32) (d := some 5) (p := .assign (.tmp 40)) (by kernel_rfl)
  refine wpOp_of ho hg ?_
  refine k_assign hd hop ?_
  have e : a.eval (.tmp 40) = _ := (h.v (j := 17) hr (by rw [show deps ops8 32 = [17, 31, 0, 1, 2, 3, 4, 5, 6, 7, 8, 9, 10, 11, 12, 13, 14, 15, 16, 17, 30, 31] from by kernel_rfl]; simp) (by omega))
  rw [e]
  exact h.step (i := 32) (by omega) (Below.refl _ _) rfl (fun j hj e => by
    obtain rfl : j = 2 := by omega
    exact ready_dep hr (by rw [show deps ops8 32 = [17, 31, 0, 1, 2, 3, 4, 5, 6, 7, 8, 9, 10, 11, 12, 13, 14, 15, 16, 17, 30, 31] from by kernel_rfl]; simp))
theorem st33 (hr : 33 ∈ Region.ready .any ops8 l) (h : RI X x0 x1 x2 A B C D w0 t0 l a w) (q : Here X x0 x1 x2 w0 t0 A B C D) : wpOp Try.prog ops8 Q 33 (RI X x0 x1 x2 A B C D w0 t0 (l.setIfInBounds 33 true)) a w := by
  obtain ⟨o, ho, hg, hd, hop⟩ := opIs (i := 33) (d := some 6) (p := .assign (.tmp 52)) (by kernel_rfl)
  refine wpOp_of ho hg ?_
  refine k_assign hd hop ?_
  have e : a.eval (.tmp 52) = _ := (h.v (j := 29) hr (by rw [show deps ops8 33 = [29, 32, 0, 1, 2, 3, 4, 5, 6, 7, 8, 9, 10, 11, 12, 13, 14, 15, 16, 17, 18, 19, 20, 21, 22, 23, 24, 25, 26, 27, 28, 29, 30, 31, 32] from by kernel_rfl]; simp) (by omega))
  rw [e]
  exact h.step (i := 33) (by omega) (Below.refl _ _) rfl (fun j hj e => by
    obtain rfl : j = 3 := by omega
    exact ready_dep hr (by rw [show deps ops8 33 = [29, 32, 0, 1, 2, 3, 4, 5, 6, 7, 8, 9, 10, 11, 12, 13, 14, 15, 16, 17, 18, 19, 20, 21, 22, 23, 24, 25, 26, 27, 28, 29, 30, 31, 32] from by kernel_rfl]; simp))
theorem step_all (q : Here X x0 x1 x2 w0 t0 A B C D) (i : Nat) (l : Array Bool) (a : Act) (w : World) (hr : i ∈ Region.ready .any ops8 l) (h : RI X x0 x1 x2 A B C D w0 t0 l a w) : wpOp Try.prog ops8 Q i (RI X x0 x1 x2 A B C D w0 t0 (l.setIfInBounds i true)) a w := by
  have hi : i < 34 := by
    obtain ⟨_, o, ho, _⟩ := mem_ready.1 hr
    have := (Array.getElem?_eq_some_iff.1 ho).1
    rwa [show ops8.size = 34 from by kernel_rfl] at this
  match i, hi with
  | 0, _ => exact st0 hr h q
  | 1, _ => exact st1 hr h q
  | 2, _ => exact st2 hr h q
  | 3, _ => exact st3 hr h q
  | 4, _ => exact st4 hr h q
  | 5, _ => exact st5 hr h q
  | 6, _ => exact st6 hr h q
  | 7, _ => exact st7 hr h q
  | 8, _ => exact st8 hr h q
  | 9, _ => exact st9 hr h q
  | 10, _ => exact st10 hr h q
  | 11, _ => exact st11 hr h q
  | 12, _ => exact st12 hr h q
  | 13, _ => exact st13 hr h q
  | 14, _ => exact st14 hr h q
  | 15, _ => exact st15 hr h q
  | 16, _ => exact st16 hr h q
  | 17, _ => exact st17 hr h q
  | 18, _ => exact st18 hr h q
  | 19, _ => exact st19 hr h q
  | 20, _ => exact st20 hr h q
  | 21, _ => exact st21 hr h q
  | 22, _ => exact st22 hr h q
  | 23, _ => exact st23 hr h q
  | 24, _ => exact st24 hr h q
  | 25, _ => exact st25 hr h q
  | 26, _ => exact st26 hr h q
  | 27, _ => exact st27 hr h q
  | 28, _ => exact st28 hr h q
  | 29, _ => exact st29 hr h q
  | 30, _ => exact st30 hr h q
  | 31, _ => exact st31 hr h q
  | 32, _ => exact st32 hr h q
  | 33, _ => exact st33 hr h q
  | n + 34, h => exact absurd h (by omega)
/-- The slots of ls set. -/
def setAll (t : Array Value) : List (Nat × Value) → Array Value
  | [] => t
  | p :: ls => (setAll t ls).setIfInBounds p.1 p.2
theorem setAll_size (t : Array Value) (ls : List (Nat × Value)) : (setAll t ls).size = t.size := by
  induction ls with
  | nil => rfl
  | cons p ls ih => simp [setAll, ih]
theorem setAll_getD {t t0 : Array Value} (hs : t.size = t0.size) (ls : List (Nat × Value)) (h : ∀ p ∈ ls, t.getD p.1 undef = p.2) (s : Nat) : (setAll t0 ls).getD s undef = if s ∈ ls.map (·.1) ∧ s < t0.size then t.getD s undef else t0.getD s undef := by
  induction ls with
  | nil => simp [setAll]
  | cons p ls ih =>
    unfold setAll
    rw [getD_set, ih (fun q hq => h q (List.mem_cons_of_mem _ hq)), setAll_size]
    by_cases e : p.1 = s
    · subst e
      by_cases h2 : p.1 < t0.size
      · rw [if_pos ⟨rfl, h2⟩, if_pos ⟨by simp, h2⟩, h p (by simp)]
      · rw [if_neg (fun x => h2 x.2), if_neg (fun x => h2 x.2), if_neg (fun x => h2 x.2)]
    · rw [if_neg (fun x => e x.1)]
      have e2 : (s ∈ (p :: ls).map (·.1)) ↔ s ∈ ls.map (·.1) := by
        simp only [List.map_cons, List.mem_cons]
        exact ⟨fun x => x.resolve_left (fun y => e y.symm), .inr⟩
      simp only [e2]
theorem ext_getD {t t' : Array Value} (hs : t.size = t'.size) (h : ∀ s, t.getD s undef = t'.getD s undef) : t = t' := by
  apply Array.ext hs
  intro i h1 h2
  have h3 := h i
  rw [Array.getD_eq_getD_getElem?, Array.getD_eq_getD_getElem?, Array.getElem?_eq_getElem h1, Array.getElem?_eq_getElem h2] at h3
  exact h3
theorem all_listed {l : Array Bool} (hl : l.size = 34) (h : Region.ready .any ops8 l = []) : ∀ i, i < 34 → l.getD i false = true := by
  intro i
  induction i using Nat.strongRecOn with
  | _ i ih =>
    intro hi
    have hlt : (List.range 34).all (fun i => (deps ops8 i).all (fun d => decide (d < i))) = true := by kernel_rfl
    have hd : ∀ d ∈ deps ops8 i, d < i := fun d hd => by
      have h1 := List.all_eq_true.1 hlt i (by simpa using hi)
      have h2 := List.all_eq_true.1 h1 d hd
      simpa using h2
    cases hf : l.getD i true with
    | true =>
      rw [Array.getD_eq_getD_getElem?, Array.getElem?_eq_getElem (by omega)] at hf ⊢
      exact hf
    | false =>
      have hmem : i ∈ Region.ready .any ops8 l := by
        have hio : i < ops8.size := by rw [show ops8.size = 34 from by kernel_rfl]; exact hi
        refine mem_ready.2 ⟨hf, ops8[i], Array.getElem?_eq_getElem hio, fun e he hb => ?_⟩
        have hde : e.on ∈ deps ops8 i := by
          unfold deps
          rw [Array.getElem?_eq_getElem hio]
          simp only [Option.map_some, Option.getD_some, List.mem_filterMap]
          exact ⟨e, by simpa using he, by rw [if_pos hb]⟩
        exact ih _ (hd _ hde) (by have := hd _ hde; omega)
      rw [h] at hmem
      cases hmem
theorem region_done {W1 : World} (q : Here X x0 x1 x2 w0 t0 A B C D) (hb : Below w0.heap.size w0 W1) (hs : t0.size = 78) (h3 : t0.getD 3 undef = .string A) (h4 : t0.getD 4 undef = .string B) (h5 : t0.getD 5 undef = .string C) (h6 : t0.getD 6 undef = .string D)
    (hQ : ∀ (u23 u24 u25 u26 u27 u28 u29 u30 u31 u32 u33 u34 u35 u36 u37 u38 u39 u40 u41 u42 u43 u44 u45 u46 u47 u48 u49 u50 u51 u52 : Value) (W' : World), Below w0.heap.size w0 W' → Q .normal ⟨setAll t0 [(3, .string (A ++ one x0)), (4, .string (B ++ one x1)), (5, .string (C ++ one x2)), (6, .string (D ++ one (x0 ^^^ x1 ^^^ x2))), (23, u23), (24, u24), (25, u25), (26, u26), (27, u27), (28, u28), (29, u29), (30, u30), (31, u31), (32, u32), (33, u33), (34, u34), (35, u35), (36, u36), (37, u37), (38, u38), (39, u39), (40, u40), (41, u41), (42, u42), (43, u43), (44, u44), (45, u45), (46, u46), (47, u47), (48, u48), (49, u49), (50, u50), (51, u51), (52, u52)], []⟩ W') :
    wpAny Try.prog .any ops8 Q ops8.size (Array.replicate ops8.size false) ⟨t0, []⟩ W1 := by
  have h34 : ops8.size = 34 := by kernel_rfl
  rw [h34]
  have hrep : ∀ i, (Array.replicate 34 false).getD i false = false := fun i => by
    rw [Array.getD_eq_getD_getElem?]
    rcases Nat.lt_or_ge i 34 with h | h
    · rw [Array.getElem?_eq_getElem (by simpa using h)]; simp
    · rw [Array.getElem?_eq_none (by simpa using h)]; rfl
  refine wpAny_inv (RI X x0 x1 x2 A B C D w0 t0) (step_all q) (fun l a w hr h => ?_) 34 _ _ _ ⟨by simp, rfl, hs, fun _ _ _ => rfl, hb, (fun i _ hl => absurd hl (by rw [hrep]; decide)), fun j hj _ => ?_, (fun j _ hl => absurd hl (by rw [hrep]; decide))⟩ (by decide)
  · have hl := all_listed h.size hr
    obtain ⟨t, ds⟩ := a
    obtain rfl : ds = [] := h.defers
    have hts : t.size = 78 := h.tsize
    have e3 : t.getD 3 undef = .string (A ++ one x0) := h.val 30 (by omega) (hl 30 (by omega))
    have e4 : t.getD 4 undef = .string (B ++ one x1) := h.val 31 (by omega) (hl 31 (by omega))
    have e5 : t.getD 5 undef = .string (C ++ one x2) := h.val 32 (by omega) (hl 32 (by omega))
    have e6 : t.getD 6 undef = .string (D ++ one (x0 ^^^ x1 ^^^ x2)) := h.val 33 (by omega) (hl 33 (by omega))
    have key := hQ (t.getD 23 undef) (t.getD 24 undef) (t.getD 25 undef) (t.getD 26 undef) (t.getD 27 undef) (t.getD 28 undef) (t.getD 29 undef) (t.getD 30 undef) (t.getD 31 undef) (t.getD 32 undef) (t.getD 33 undef) (t.getD 34 undef) (t.getD 35 undef) (t.getD 36 undef) (t.getD 37 undef) (t.getD 38 undef) (t.getD 39 undef) (t.getD 40 undef) (t.getD 41 undef) (t.getD 42 undef) (t.getD 43 undef) (t.getD 44 undef) (t.getD 45 undef) (t.getD 46 undef) (t.getD 47 undef) (t.getD 48 undef) (t.getD 49 undef) (t.getD 50 undef) (t.getD 51 undef) (t.getD 52 undef) w h.below
    have e : t = setAll t0 [(3, .string (A ++ one x0)), (4, .string (B ++ one x1)), (5, .string (C ++ one x2)), (6, .string (D ++ one (x0 ^^^ x1 ^^^ x2))), (23, t.getD 23 undef), (24, t.getD 24 undef), (25, t.getD 25 undef), (26, t.getD 26 undef), (27, t.getD 27 undef), (28, t.getD 28 undef), (29, t.getD 29 undef), (30, t.getD 30 undef), (31, t.getD 31 undef), (32, t.getD 32 undef), (33, t.getD 33 undef), (34, t.getD 34 undef), (35, t.getD 35 undef), (36, t.getD 36 undef), (37, t.getD 37 undef), (38, t.getD 38 undef), (39, t.getD 39 undef), (40, t.getD 40 undef), (41, t.getD 41 undef), (42, t.getD 42 undef), (43, t.getD 43 undef), (44, t.getD 44 undef), (45, t.getD 45 undef), (46, t.getD 46 undef), (47, t.getD 47 undef), (48, t.getD 48 undef), (49, t.getD 49 undef), (50, t.getD 50 undef), (51, t.getD 51 undef), (52, t.getD 52 undef)] := by
      refine ext_getD (by rw [setAll_size]; omega) (fun s => ?_)
      rw [setAll_getD (t := t) (by omega) _ (fun p hp => ?_)]
      · by_cases hin : (3 ≤ s ∧ s ≤ 6) ∨ (23 ≤ s ∧ s ≤ 52)
        · rw [if_pos ⟨by simp only [List.map_cons, List.map_nil, List.mem_cons, List.not_mem_nil]; omega, by omega⟩]
        · rw [if_neg (fun hx => hin (by have h1 := hx.1; simp only [List.map_cons, List.map_nil, List.mem_cons, List.not_mem_nil, or_false] at h1; omega))]
          exact h.frame s (by omega) (by omega)
      · simp only [List.mem_cons, List.not_mem_nil, or_false] at hp
        rcases hp with rfl | rfl | rfl | rfl | rfl | rfl | rfl | rfl | rfl | rfl | rfl | rfl | rfl | rfl | rfl | rfl | rfl | rfl | rfl | rfl | rfl | rfl | rfl | rfl | rfl | rfl | rfl | rfl | rfl | rfl | rfl | rfl | rfl | rfl
        · exact e3
        · exact e4
        · exact e5
        · exact e6
        all_goals rfl
    rw [← e] at key
    exact key
  · match j, hj with
    | 0, _ => exact h3
    | 1, _ => exact h4
    | 2, _ => exact h5
    | 3, _ => exact h6
end
end Go.Proofs.Ytljncbbajhoocaa.Xors
