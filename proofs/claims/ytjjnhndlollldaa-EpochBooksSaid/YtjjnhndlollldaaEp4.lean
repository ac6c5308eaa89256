/-
A book of epochs as it lies in memory: two rows of epochs, each of which holds two lists of texts, all of them in memory of their own; what a new epoch and a new text leave. No condition but that.
-/
import Derived.Test.YtjjnhndlollldaaEp3
namespace Go.Proofs.Ytjjnhndlollldaa.Ep
open Go.RowKit Go.Proofs.Ytjjnhndlollldaa.Args

abbrev St := Nat → List EpT
/-- The i-th epoch's texts: k = 0: sent, else: got. -/
def cont (l : List EpT) (i k : Nat) : List ByteArray := if k = 0 then (l.getD i ([], [])).1 else (l.getD i ([], [])).2
def flat (f : Nat → Nat → Value) (n : Nat) : List Value := (List.range n).flatMap fun i => [f i 0, f i 1]
theorem flat_succ (f : Nat → Nat → Value) (n : Nat) : flat f (n + 1) = flat f n ++ [f n 0, f n 1] := by
  unfold flat
  rw [List.range_succ, List.flatMap_append]
  simp
theorem flat_len (f : Nat → Nat → Value) (n : Nat) : (flat f n).length = n * 2 := by
  induction n with
  | zero => rfl
  | succ n ih => rw [flat_succ, List.length_append, ih]; simp; omega
theorem flat_get (f : Nat → Nat → Value) (n i k : Nat) (hi : i < n) (hk : k < 2) : (flat f n)[i * 2 + k]? = some (f i k) := by
  induction n with
  | zero => omega
  | succ n ih =>
    rw [flat_succ]
    by_cases h : i < n
    · rw [List.getElem?_append_left (by rw [flat_len]; omega)]; exact ih h
    · obtain rfl : i = n := by omega
      rw [List.getElem?_append_right (by rw [flat_len]; omega), flat_len]
      match k, hk with
      | 0, _ => simp
      | 1, _ => simp
def upd (f : Nat → Nat → Value) (i k : Nat) (x : Value) : Nat → Nat → Value := fun i' k' => if i' = i ∧ k' = k then x else f i' k'
theorem flat_upd (f : Nat → Nat → Value) (n i k : Nat) (x : Value) (hi : i < n) (hk : k < 2) : flat (upd f i k x) n = (flat f n).set (i * 2 + k) x := by
  apply List.ext_getElem?
  intro j
  rw [List.getElem?_set]
  by_cases hj : j < n * 2
  · have e : j = j / 2 * 2 + j % 2 := by omega
    rw [e, flat_get _ _ _ _ (by omega) (by omega), flat_get _ _ _ _ (by omega) (by omega), flat_len, if_pos (show i * 2 + k < n * 2 by omega)]
    unfold upd
    by_cases h : i * 2 + k = j / 2 * 2 + j % 2
    · rw [if_pos h, if_pos (by omega)]
    · rw [if_neg h, if_neg (by omega)]
  · rw [List.getElem?_eq_none (by rw [flat_len]; omega), List.getElem?_eq_none (by rw [flat_len]; omega)]
    split
    · rw [flat_len, if_neg (by omega)]
    · rfl
theorem flat_congr {f f' : Nat → Nat → Value} {n : Nat} (h : ∀ i k, i < n → k < 2 → f i k = f' i k) : flat f n = flat f' n := by
  apply List.ext_getElem?
  intro j
  by_cases hj : j < n * 2
  · have e : j = j / 2 * 2 + j % 2 := by omega
    rw [e, flat_get _ _ _ _ (by omega) (by omega), flat_get _ _ _ _ (by omega) (by omega), h _ _ (by omega) (by omega)]
  · rw [List.getElem?_eq_none (by rw [flat_len]; omega), List.getElem?_eq_none (by rw [flat_len]; omega)]
/-- Where a part of the book lies: part 0 of an end is its row of epochs, part 1 + 2 * i + k a list of texts. -/
def pl (v : Nat → Value) (u : Nat → Nat → Nat → Value) (e p : Nat) : Option Nat := if p = 0 then (v e).ownBlock else (u e ((p - 1) / 2) ((p - 1) % 2)).ownBlock
/-- The book in block P, new since w. -/
structure Bk (w wr : World) (P : Nat) (v : Nat → Value) (u : Nat → Nat → Nat → Value) (st : St) : Prop where
  blk : wr.heap[P]? = some (.cells #[v 0, v 1] 27 (0, 0))
  newP : w.heap.size ≤ P
  below : Below w.heap.size w wr
  row : ∀ e, e < 2 → wr.ownsRow w.heap.size 49 2 (v e) (st e).length (flat (u e) (st e).length)
  txt : ∀ e i k, e < 2 → i < (st e).length → k < 2 → wr.ownsRow w.heap.size 9 1 (u e i k) (cont (st e) i k).length ((cont (st e) i k).map Value.string)
  far : ∀ e p, e < 2 → p < 1 + 2 * (st e).length → pl v u e p ≠ some P
  sep : ∀ e p e' p' b, e < 2 → p < 1 + 2 * (st e).length → e' < 2 → p' < 1 + 2 * (st e').length → pl v u e p = some b → pl v u e' p' = some b → e = e' ∧ p = p'
section
variable {w wr w' : World} {P : Nat} {v : Nat → Value} {u : Nat → Nat → Nat → Value} {st : St}
theorem Bk.on (h : Bk w wr P v u st) (hb : Below wr.heap.size wr w') : Bk w w' P v u st :=
  ⟨(hb.block P (Array.getElem?_eq_some_iff.1 h.blk).1).trans h.blk, h.newP, h.below.trans (hb.mono h.below.size), fun e he => row_on (h.row e he) hb, fun e i k he hi hk => row_on (h.txt e i k he hi hk) hb, h.far, h.sep⟩
theorem Bk.cell (h : Bk w wr P v u st) (e : Nat) (he : e < 2) : wr.cell? ⟨P, e, none⟩ = some (v e) := by
  rw [cell_of_row _ _ _ _ _ _ h.blk]
  match e, he with
  | 0, _ => rfl
  | 1, _ => rfl
theorem Bk.free (h : Bk w wr P v u st) (e : Nat) : wr.frozen? ⟨P, e, none⟩ = false := frozen_of_row _ _ _ _ _ h.blk
theorem Bk.lt (h : Bk w wr P v u st) : P < wr.heap.size := (Array.getElem?_eq_some_iff.1 h.blk).1
/-- A row and its blocks, when some other block has turned. -/
theorem row_keep {w w' : World} {base : Nat} {e : TypeId} {size : Nat} {v : Value} {n : Nat} {xs : List Value} (h : w.ownsRow base e size v n xs) (hk : ∀ b, v.ownBlock = some b → w'.heap[b]? = w.heap[b]?) : w'.ownsRow base e size v n xs := by
  refine ⟨h.1, ?_⟩
  rcases h.2 with h2 | ⟨g, cap, cur, rfl, hg, hh, r⟩
  · exact .inl h2
  · exact .inr ⟨g, cap, cur, rfl, hg, (hk g rfl).trans hh, r⟩
theorem row_form {w : World} {base : Nat} {e : TypeId} {size : Nat} {v : Value} {n : Nat} {xs : List Value} (h : w.ownsRow base e size v n xs) : ∃ sp sc, v = .slice sp n sc := by
  rcases h.2 with ⟨rfl, rfl⟩ | ⟨g, cap, cur, rfl, _⟩
  · exact ⟨_, _, rfl⟩
  · exact ⟨_, _, rfl⟩
/-- A row that is not empty, opened. -/
theorem row_open {w : World} {base : Nat} {e : TypeId} {size : Nat} {v : Value} {n : Nat} {xs : List Value} (h : w.ownsRow base e size v n xs) (hn : 0 < n) : ∃ g cap cur, v = .slice (some ⟨g, 0, none⟩) n cap ∧ base ≤ g ∧ w.heap[g]? = some (.cells cur e (0, 0)) ∧ n ≤ cap ∧ ∀ (j : Nat) (x : Value), xs[j]? = some x → cur[j]? = some x := by
  rcases h.2 with ⟨_, h2⟩ | ⟨g, cap, cur, rfl, hg, hh, h3, _, hsz, htk⟩
  · omega
  · refine ⟨g, cap, cur, rfl, hg, hh, h3, fun j x hx => ?_⟩
    rw [← htk] at hx
    have hj : j < n * size := by
      have := (List.getElem?_eq_some_iff.1 hx).1
      rw [List.length_take] at this; omega
    rw [List.getElem?_take_of_lt hj] at hx
    simpa using hx
theorem row_cell {w : World} {base : Nat} {e : TypeId} {size : Nat} {g n cap j : Nat} {xs : List Value} {x : Value} (h : w.ownsRow base e size (.slice (some ⟨g, 0, none⟩) n cap) n xs) (hn : 0 < n) (hx : xs[j]? = some x) : w.cell? ⟨g, j, none⟩ = some x ∧ w.frozen? ⟨g, j, none⟩ = false := by
  obtain ⟨g', cap', cur, hv, _, hh, _, hc⟩ := row_open h hn
  injection hv with hv1 hv2 hv3
  injection hv1 with hv1
  injection hv1 with hv1
  subst hv1
  exact ⟨by rw [cell_of_row _ _ _ _ _ _ hh]; exact hc j x hx, frozen_of_row _ _ _ _ _ hh⟩
theorem row_set {w : World} {base : Nat} {e : TypeId} {size : Nat} {g n cap j : Nat} {xs : List Value} {x : Value} (h : w.ownsRow base e size (.slice (some ⟨g, 0, none⟩) n cap) n xs) : (w.setCell ⟨g, j, none⟩ x).ownsRow base e size (.slice (some ⟨g, 0, none⟩) n cap) n (xs.set j x) := by
  refine ⟨by simpa using h.1, ?_⟩
  rcases h.2 with ⟨h2, _⟩ | ⟨g', cap', cur, hv, hg, hh, h3, h4, hsz, htk⟩
  · cases h2
  · injection hv with hv1 hv2 hv3
    injection hv1 with hv1
    injection hv1 with hv1
    subst hv1 hv3
    refine .inr ⟨g, cap, cur.setIfInBounds j x, rfl, hg, heap_setCell_same _ _ _ _ _ _ hh, h3, h4, by simpa using hsz, ?_⟩
    rw [Array.toList_setIfInBounds, List.take_set, htk]
theorem Bk.pl_lt (h : Bk w wr P v u st) {e p b : Nat} (he : e < 2) (hp : p < 1 + 2 * (st e).length) (hb : pl v u e p = some b) : w.heap.size ≤ b ∧ b < wr.heap.size := by
  unfold pl at hb
  split at hb
  · exact (h.row e he).lt b hb
  · exact (h.txt e _ _ he (by omega) (by omega)).lt b hb
/-- The places stay apart where one alone is new. -/
theorem Bk.apart (h : Bk w wr P v u st) {v' : Nat → Value} {u' : Nat → Nat → Nat → Value} {st' : St} (e1 p1 : Nat)
    (ho : ∀ e p, e < 2 → p < 1 + 2 * (st' e).length → ¬ (e = e1 ∧ p = p1) → pl v' u' e p = none ∨ (p < 1 + 2 * (st e).length ∧ pl v' u' e p = pl v u e p))
    (h1 : (e1 < 2 ∧ p1 < 1 + 2 * (st e1).length ∧ pl v' u' e1 p1 = pl v u e1 p1) ∨ ∃ b, pl v' u' e1 p1 = some b ∧ wr.heap.size ≤ b) :
    (∀ e p, e < 2 → p < 1 + 2 * (st' e).length → pl v' u' e p ≠ some P) ∧ (∀ e p e' p' b, e < 2 → p < 1 + 2 * (st' e).length → e' < 2 → p' < 1 + 2 * (st' e').length → pl v' u' e p = some b → pl v' u' e' p' = some b → e = e' ∧ p = p') := by
  have key : ∀ e p b, e < 2 → p < 1 + 2 * (st' e).length → pl v' u' e p = some b → (e < 2 ∧ p < 1 + 2 * (st e).length ∧ pl v u e p = some b) ∨ (e = e1 ∧ p = p1 ∧ wr.heap.size ≤ b) := by
    intro e p b he hp hb
    by_cases hc : e = e1 ∧ p = p1
    · obtain ⟨rfl, rfl⟩ := hc
      rcases h1 with ⟨a1, a2, a3⟩ | ⟨b', a1, a2⟩
      · exact .inl ⟨a1, a2, by rw [← a3]; exact hb⟩
      · rw [hb] at a1; injection a1 with a1; subst a1; exact .inr ⟨rfl, rfl, a2⟩
    · rcases ho e p he hp hc with a | ⟨a1, a2⟩
      · rw [a] at hb; cases hb
      · exact .inl ⟨he, a1, by rw [← a2]; exact hb⟩
  refine ⟨fun e p he hp hb => ?_, fun e p e' p' b he hp he' hp' hb hb' => ?_⟩
  · rcases key e p P he hp hb with ⟨a1, a2, a3⟩ | ⟨_, _, a⟩
    · exact h.far e p a1 a2 a3
    · have := h.lt; omega
  · rcases key e p b he hp hb with ⟨a1, a2, a3⟩ | ⟨a1, a2, a3⟩
    · rcases key e' p' b he' hp' hb' with ⟨b1, b2, b3⟩ | ⟨b1, b2, b3⟩
      · exact h.sep e p e' p' b a1 a2 b1 b2 a3 b3
      · have := (h.pl_lt a1 a2 a3).2; omega
    · rcases key e' p' b he' hp' hb' with ⟨b1, b2, b3⟩ | ⟨b1, b2, b3⟩
      · have := (h.pl_lt b1 b2 b3).2; omega
      · exact ⟨a1.trans b1.symm, a2.trans b2.symm⟩
def nilV : Value := .slice none 0 0
def setV (v : Nat → Value) (e : Nat) (x : Value) : Nat → Value := fun e' => if e' = e then x else v e'
def setU (u : Nat → Nat → Nat → Value) (e i k : Nat) (x : Value) : Nat → Nat → Nat → Value := fun e' i' k' => if e' = e ∧ i' = i ∧ k' = k then x else u e' i' k'
def newU (u : Nat → Nat → Nat → Value) (e i : Nat) : Nat → Nat → Nat → Value := fun e' i' k' => if e' = e ∧ i' = i then nilV else u e' i' k'
def addSt (st : St) (e : Nat) : St := fun e' => if e' = e then st e ++ [([], [])] else st e'
theorem addSt_self (st : St) (e : Nat) : addSt st e e = st e ++ [([], [])] := if_pos rfl
theorem addSt_other (st : St) {e e' : Nat} (h : e' ≠ e) : addSt st e e' = st e' := if_neg h
theorem cont_old {l : List EpT} {x : EpT} {i k : Nat} (hi : i < l.length) : cont (l ++ [x]) i k = cont l i k := by
  unfold cont
  simp only [List.getD_eq_getElem?_getD, List.getElem?_append_left hi]
theorem cont_new {l : List EpT} {k : Nat} : cont (l ++ [([], [])]) l.length k = [] := by
  unfold cont
  simp [List.getD_eq_getElem?_getD]
theorem setCell_keep (w : World) {P j b : Nat} (x : Value) (h : b ≠ P) : (w.setCell ⟨P, j, none⟩ x).heap[b]? = w.heap[b]? := Below.heap_setCell w ⟨P, j, none⟩ x b (fun e => h e)
/-- An epoch more. -/
theorem Bk.addEpoch (h : Bk w wr P v u st) {e0 : Nat} (he0 : e0 < 2) {nv : Value} {w1 : World} (hg : wr.grownBy w1 (v e0).ownBlock) (ho : w1.ownsRow w.heap.size 49 2 nv ((st e0).length + 1) (flat (u e0) (st e0).length ++ [nilV, nilV])) (ha : nv.ownBlock = (v e0).ownBlock ∨ ∃ b, nv.ownBlock = some b ∧ wr.heap.size ≤ b) :
    Bk w (w1.setCell ⟨P, e0, none⟩ nv) P (setV v e0 nv) (newU u e0 (st e0).length) (addSt st e0) := by
  have hself : ∀ e, e ≠ e0 → addSt st e0 e = st e := fun e he => addSt_other st he
  have hP : some P ≠ (v e0).ownBlock := fun e => h.far e0 0 he0 (by omega) (by unfold pl; rw [if_pos rfl]; exact e.symm)
  have hb0 : w1.heap[P]? = wr.heap[P]? := hg.block P h.lt hP
  obtain ⟨hfar, hsep⟩ := h.apart (v' := setV v e0 nv) (u' := newU u e0 (st e0).length) (st' := addSt st e0) e0 0 (fun e p he hp hc => by
      by_cases hp0 : p = 0
      · subst hp0
        have hne : e ≠ e0 := fun e' => hc ⟨e', rfl⟩
        exact .inr ⟨by omega, by simp only [pl, if_true, setV, if_neg hne]⟩
      · by_cases hx : e = e0 ∧ (p - 1) / 2 = (st e0).length
        · exact .inl (by simp only [pl, if_neg hp0, newU, if_pos hx, nilV]; rfl)
        · refine .inr ⟨?_, by simp only [pl, if_neg hp0, newU, if_neg hx]⟩
          by_cases hee : e = e0
          · subst hee
            rw [addSt_self, List.length_append] at hp
            simp at hp
            have : ¬ (p - 1) / 2 = (st e).length := fun q => hx ⟨rfl, q⟩
            omega
          · rw [addSt_other st hee] at hp; exact hp) (by
      rcases ha with ha | ⟨b, ha, hb⟩
      · exact .inl ⟨he0, by omega, by simp only [pl, if_true, setV]; exact ha⟩
      · exact .inr ⟨b, by simp only [pl, if_true, setV]; exact ha, hb⟩)
  have hkeep : ∀ e p b, e < 2 → p < 1 + 2 * (st e).length → ¬ (e = e0 ∧ p = 0) → pl v u e p = some b → (w1.setCell ⟨P, e0, none⟩ nv).heap[b]? = wr.heap[b]? := fun e p b he hp hc hb => by
    rw [setCell_keep _ _ (fun q => h.far e p he hp (by rw [hb, q]))]
    exact hg.block b (h.pl_lt he hp hb).2 (fun q => hc (h.sep e p e0 0 b he hp he0 (by omega) hb (by unfold pl; rw [if_pos rfl]; exact q.symm)))
  refine ⟨?_, h.newP, (h.below.grown hg h.below.size (fun b hb => ((h.row e0 he0).lt b hb).1)).setCell h.newP _, fun e he => ?_, fun e i k he hi hk => ?_, hfar, hsep⟩
  · rw [heap_setCell_same _ _ _ _ _ _ (hb0.trans h.blk)]
    match e0, he0 with
    | 0, _ => rfl
    | 1, _ => rfl
  · by_cases hee : e = e0
    · subst hee
      rw [addSt_self, List.length_append]
      have hf : flat (newU u e (st e).length e) ((st e).length + [(([], []) : EpT)].length) = flat (u e) (st e).length ++ [nilV, nilV] := by
        show flat _ ((st e).length + 1) = _
        rw [flat_succ]
        congr 1
        · exact flat_congr (fun i k hi hk => by simp only [newU]; rw [if_neg (by omega)])
        · simp [newU]
      rw [hf]
      have hv : setV v e nv e = nv := if_pos rfl
      rw [hv]
      refine row_keep ho (fun b hb => setCell_keep _ _ (fun q => ?_))
      subst q
      rcases ha with ha | ⟨b', ha, hb'⟩
      · exact hP (by rw [← ha]; exact hb.symm)
      · rw [ha] at hb; injection hb with hb; have := h.lt; omega
    · rw [addSt_other st hee]
      have hv : setV v e0 nv e = v e := if_neg hee
      have hf : flat (newU u e0 (st e0).length e) (st e).length = flat (u e) (st e).length := flat_congr (fun i k _ _ => by simp only [newU]; rw [if_neg (fun q => hee q.1)])
      rw [hv, hf]
      exact row_keep (h.row e he) (fun b hb => hkeep e 0 b he (by omega) (fun q => hee q.1) (by unfold pl; rw [if_pos rfl]; exact hb))
  · by_cases hx : e = e0 ∧ i = (st e0).length
    · obtain ⟨rfl, rfl⟩ := hx
      rw [addSt_self, cont_new]
      simp only [newU, and_self, if_true]
      exact World.ownsRow_nil _ _ _ _
    · have hi2 : i < (st e).length := by
        by_cases hee : e = e0
        · subst hee
          rw [addSt_self, List.length_append] at hi
          simp at hi
          have : ¬ i = (st e).length := fun q => hx ⟨rfl, q⟩
          omega
        · rw [addSt_other st hee] at hi; exact hi
      have hc : cont (addSt st e0 e) i k = cont (st e) i k := by
        by_cases hee : e = e0
        · subst hee; rw [addSt_self, cont_old hi2]
        · rw [addSt_other st hee]
      have hu : newU u e0 (st e0).length e i k = u e i k := if_neg hx
      rw [hc, hu]
      refine row_keep (h.txt e i k he hi2 hk) (fun b hb => hkeep e (1 + 2 * i + k) b he (by omega) (fun q => by omega) ?_)
      unfold pl
      rw [if_neg (by omega), show (1 + 2 * i + k - 1) / 2 = i by omega, show (1 + 2 * i + k - 1) % 2 = k by omega]
      exact hb
def addTx (k : Nat) (x : ByteArray) (q : EpT) : EpT := if k = 0 then (q.1 ++ [x], q.2) else (q.1, q.2 ++ [x])
def modSt (st : St) (e i k : Nat) (x : ByteArray) : St := fun e' => if e' = e then (st e).modify i (addTx k x) else st e'
theorem modSt_len (st : St) (e i k : Nat) (x : ByteArray) (e' : Nat) : (modSt st e i k x e').length = (st e').length := by
  unfold modSt
  split
  · rename_i h; subst h; simp
  · rfl
theorem cont_self {l : List EpT} {i k : Nat} {x : ByteArray} (hi : i < l.length) (hk : k < 2) : cont (l.modify i (addTx k x)) i k = cont l i k ++ [x] := by
  unfold cont
  simp only [List.getD_eq_getElem?_getD, List.getElem?_modify, List.getElem?_eq_getElem hi]
  match k, hk with
  | 0, _ => simp [addTx]
  | 1, _ => simp [addTx]
theorem cont_other {l : List EpT} {i k i' k' : Nat} {x : ByteArray} (hk : k < 2) (hk' : k' < 2) (h : ¬ (i' = i ∧ k' = k)) : cont (l.modify i (addTx k x)) i' k' = cont l i' k' := by
  unfold cont
  simp only [List.getD_eq_getElem?_getD, List.getElem?_modify]
  by_cases hi : i = i'
  · subst hi
    have hne : k' ≠ k := fun e => h ⟨rfl, e⟩
    cases l[i]? with
    | none => simp
    | some q =>
      match k, k', hk, hk' with
      | 0, 0, _, _ => exact absurd rfl hne
      | 0, 1, _, _ => simp [addTx]
      | 1, 0, _, _ => simp [addTx]
      | 1, 1, _, _ => exact absurd rfl hne
  · simp [hi]
/-- A text more, in one of the lists. -/
theorem Bk.addText (h : Bk w wr P v u st) {e0 i0 k0 : Nat} (he0 : e0 < 2) (hi0 : i0 < (st e0).length) (hk0 : k0 < 2) {nv : Value} {w1 : World} {x : ByteArray} {g cap : Nat} (hv : v e0 = .slice (some ⟨g, 0, none⟩) (st e0).length cap) (hg : wr.grownBy w1 (u e0 i0 k0).ownBlock) (ho : w1.ownsRow w.heap.size 9 1 nv ((cont (st e0) i0 k0).length + 1) ((cont (st e0) i0 k0).map Value.string ++ [Value.string x])) (ha : nv.ownBlock = (u e0 i0 k0).ownBlock ∨ ∃ b, nv.ownBlock = some b ∧ wr.heap.size ≤ b) :
    Bk w (w1.setCell ⟨g, i0 * 2 + k0, none⟩ nv) P v (setU u e0 i0 k0 nv) (modSt st e0 i0 k0 x) := by
  have hp1 : pl v u e0 (1 + 2 * i0 + k0) = (u e0 i0 k0).ownBlock := by
    unfold pl
    rw [if_neg (by omega), show (1 + 2 * i0 + k0 - 1) / 2 = i0 by omega, show (1 + 2 * i0 + k0 - 1) % 2 = k0 by omega]
  have hp0 : pl v u e0 0 = some g := by unfold pl; rw [if_pos rfl, hv]; rfl
  have hgP : g ≠ P := fun e => h.far e0 0 he0 (by omega) (by rw [hp0, e])
  have hgl := (h.pl_lt he0 (by omega) hp0)
  have hgx : some g ≠ (u e0 i0 k0).ownBlock := fun e => by
    have := (h.sep e0 0 e0 (1 + 2 * i0 + k0) g he0 (by omega) he0 (by omega) hp0 (by rw [hp1]; exact e.symm)).2
    omega
  have hPx : some P ≠ (u e0 i0 k0).ownBlock := fun e => h.far e0 (1 + 2 * i0 + k0) he0 (by omega) (by rw [hp1]; exact e.symm)
  obtain ⟨hfar, hsep⟩ := h.apart (v' := v) (u' := setU u e0 i0 k0 nv) (st' := modSt st e0 i0 k0 x) e0 (1 + 2 * i0 + k0) (fun e p he hp hc => by
      rw [modSt_len] at hp
      refine .inr ⟨hp, ?_⟩
      unfold pl
      by_cases h0 : p = 0
      · rw [if_pos h0, if_pos h0]
      · rw [if_neg h0, if_neg h0]
        have : ¬ (e = e0 ∧ (p - 1) / 2 = i0 ∧ (p - 1) % 2 = k0) := fun q => hc ⟨q.1, by omega⟩
        simp only [setU, if_neg this]) (by
      have hq : pl v (setU u e0 i0 k0 nv) e0 (1 + 2 * i0 + k0) = nv.ownBlock := by
        unfold pl
        rw [if_neg (by omega), show (1 + 2 * i0 + k0 - 1) / 2 = i0 by omega, show (1 + 2 * i0 + k0 - 1) % 2 = k0 by omega]
        simp only [setU, and_self, if_true]
      rcases ha with ha | ⟨b, ha, hb⟩
      · exact .inl ⟨he0, by omega, by rw [hq, hp1]; exact ha⟩
      · exact .inr ⟨b, by rw [hq]; exact ha, hb⟩)
  have hkeep : ∀ e p b, e < 2 → p < 1 + 2 * (st e).length → ¬ (e = e0 ∧ p = 0) → ¬ (e = e0 ∧ p = 1 + 2 * i0 + k0) → pl v u e p = some b → (w1.setCell ⟨g, i0 * 2 + k0, none⟩ nv).heap[b]? = wr.heap[b]? := fun e p b he hp hc hc2 hb => by
    rw [setCell_keep _ _ (fun q => hc (h.sep e p e0 0 b he hp he0 (by omega) hb (by rw [hp0, q])))]
    exact hg.block b (h.pl_lt he hp hb).2 (fun q => hc2 (h.sep e p e0 (1 + 2 * i0 + k0) b he hp he0 (by omega) hb (by rw [hp1]; exact q.symm)))
  refine ⟨?_, h.newP, (h.below.grown hg h.below.size (fun b hb => ((h.txt e0 i0 k0 he0 hi0 hk0).lt b hb).1)).setCell hgl.1 _, fun e he => ?_, fun e i k he hi hk => ?_, hfar, hsep⟩
  · rw [setCell_keep _ _ (Ne.symm hgP)]
    exact (hg.block P h.lt hPx).trans h.blk
  · rw [modSt_len]
    by_cases hee : e = e0
    · subst hee
      have hr := h.row e he
      rw [hv] at hr ⊢
      have hr1 : w1.ownsRow w.heap.size 49 2 (.slice (some ⟨g, 0, none⟩) (st e).length cap) (st e).length (flat (u e) (st e).length) := row_keep hr (fun b hb => by
        injection hb with hb
        subst hb
        exact hg.block _ hgl.2 hgx)
      have hf : flat (setU u e i0 k0 nv e) (st e).length = (flat (u e) (st e).length).set (i0 * 2 + k0) nv := by
        rw [← flat_upd _ _ _ _ _ hi0 hk0]
        exact flat_congr (fun i k _ _ => by simp only [setU, upd, true_and])
      rw [hf]
      exact row_set hr1
    · have hf : flat (setU u e0 i0 k0 nv e) (st e).length = flat (u e) (st e).length := flat_congr (fun i k _ _ => by simp only [setU]; rw [if_neg (fun q => hee q.1)])
      rw [hf]
      exact row_keep (h.row e he) (fun b hb => hkeep e 0 b he (by omega) (fun q => hee q.1) (fun q => hee q.1) (by unfold pl; rw [if_pos rfl]; exact hb))
  · rw [modSt_len] at hi
    by_cases hx : e = e0 ∧ i = i0 ∧ k = k0
    · obtain ⟨rfl, rfl, rfl⟩ := hx
      have hc : cont (modSt st e i k x e) i k = cont (st e) i k ++ [x] := by
        unfold modSt; rw [if_pos rfl]; exact cont_self hi hk
      rw [hc, List.length_append, List.map_append]
      have hu : setU u e i k nv e i k = nv := if_pos ⟨rfl, rfl, rfl⟩
      rw [hu]
      refine row_keep ho (fun b hb => setCell_keep _ _ (fun q => ?_))
      subst q
      rcases ha with ha | ⟨b', ha, hb'⟩
      · exact hgx (by rw [← ha]; exact hb.symm)
      · rw [ha] at hb; injection hb with hb; have := hgl.2; omega
    · have hc : cont (modSt st e0 i0 k0 x e) i k = cont (st e) i k := by
        unfold modSt
        split
        · rename_i hee
          subst hee
          exact cont_other hk0 hk (fun q => hx ⟨rfl, q⟩)
        · rfl
      have hu : setU u e0 i0 k0 nv e i k = u e i k := if_neg hx
      rw [hc, hu]
      refine row_keep (h.txt e i k he hi hk) (fun b hb => hkeep e (1 + 2 * i + k) b he (by omega) (fun q => by omega) (fun q => hx ⟨q.1, by omega, by omega⟩) ?_)
      unfold pl
      rw [if_neg (by omega), show (1 + 2 * i + k - 1) / 2 = i by omega, show (1 + 2 * i + k - 1) % 2 = k by omega]
      exact hb
end
end Go.Proofs.Ytjjnhndlollldaa.Ep
