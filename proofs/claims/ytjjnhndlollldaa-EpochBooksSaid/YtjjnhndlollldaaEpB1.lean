/-
What the law of books keeps beside the book: two rows for each end, of lists of texts, all of them in memory of their own. No condition but that.
-/
import Derived.Test.YtjjnhndlollldaaEp15
namespace Go.Proofs.Ytjjnhndlollldaa.Ep
set_option linter.unusedVariables false
open Go.RowKit Go.Proofs.Ytjjnhndlollldaa.Args

/-- Four rows of lists of texts: 0 and 1 of what was sent, 2 and 3 of what came. -/
abbrev Mt := Nat → List (List ByteArray)
def rowV (u : Nat → Nat → Value) (r n : Nat) : List Value := (List.range n).map (u r)
theorem rowV_len (u : Nat → Nat → Value) (r n : Nat) : (rowV u r n).length = n := by unfold rowV; simp
theorem rowV_get (u : Nat → Nat → Value) {r n i : Nat} (hi : i < n) : (rowV u r n)[i]? = some (u r i) := by unfold rowV; simp [hi]
theorem rowV_succ (u : Nat → Nat → Value) (r n : Nat) : rowV u r (n + 1) = rowV u r n ++ [u r n] := by unfold rowV; rw [List.range_succ]; simp
theorem rowV_congr {u u' : Nat → Nat → Value} {r n : Nat} (h : ∀ i, i < n → u r i = u' r i) : rowV u r n = rowV u' r n := by
  unfold rowV
  exact List.map_congr_left fun i hi => h i (List.mem_range.1 hi)
def tx (mt : Mt) (r i : Nat) : List ByteArray := (mt r).getD i []
def pm (v : Nat → Value) (u : Nat → Nat → Value) (r p : Nat) : Option Nat := if p = 0 then (v r).ownBlock else (u r (p - 1)).ownBlock
structure Mx (w wr : World) (S G : Nat) (v : Nat → Value) (u : Nat → Nat → Value) (mt : Mt) : Prop where
  blkS : wr.heap[S]? = some (.cells #[v 0, v 1] 29 (0, 0))
  blkG : wr.heap[G]? = some (.cells #[v 2, v 3] 29 (0, 0))
  ne : S ≠ G
  newS : w.heap.size ≤ S
  newG : w.heap.size ≤ G
  row : ∀ r, r < 4 → wr.ownsRow w.heap.size 45 1 (v r) (mt r).length (rowV u r (mt r).length)
  txt : ∀ r i, r < 4 → i < (mt r).length → wr.ownsRow w.heap.size 9 1 (u r i) (tx mt r i).length ((tx mt r i).map Value.string)
  far : ∀ r p, r < 4 → p < 1 + (mt r).length → pm v u r p ≠ some S ∧ pm v u r p ≠ some G
  sep : ∀ r p r' p' b, r < 4 → p < 1 + (mt r).length → r' < 4 → p' < 1 + (mt r').length → pm v u r p = some b → pm v u r' p' = some b → r = r' ∧ p = p'
/-- A block of these. -/
def MF (S G : Nat) (v : Nat → Value) (u : Nat → Nat → Value) (mt : Mt) (b : Nat) : Prop := b = S ∨ b = G ∨ ∃ r p, r < 4 ∧ p < 1 + (mt r).length ∧ pm v u r p = some b
section
variable {w wr wF : World} {S G : Nat} {v v' : Nat → Value} {u u' : Nat → Nat → Value} {mt mt' : Mt}
theorem Mx.pm_lt (h : Mx w wr S G v u mt) {r p b : Nat} (hr : r < 4) (hp : p < 1 + (mt r).length) (hb : pm v u r p = some b) : w.heap.size ≤ b ∧ b < wr.heap.size := by
  unfold pm at hb
  split at hb
  · exact (h.row r hr).lt b hb
  · exact (h.txt r _ hr (by omega)).lt b hb
theorem Mx.mf_lt (h : Mx w wr S G v u mt) {b : Nat} (hb : MF S G v u mt b) : b < wr.heap.size := by
  rcases hb with rfl | rfl | ⟨r, p, hr, hp, hb⟩
  · exact (Array.getElem?_eq_some_iff.1 h.blkS).1
  · exact (Array.getElem?_eq_some_iff.1 h.blkG).1
  · exact (h.pm_lt hr hp hb).2
theorem Mx.same (h : Mx w wr S G v u mt) (hk : ∀ b, MF S G v u mt b → wF.heap[b]? = wr.heap[b]?) : Mx w wF S G v u mt :=
  ⟨(hk S (.inl rfl)).trans h.blkS, (hk G (.inr (.inl rfl))).trans h.blkG, h.ne, h.newS, h.newG, fun r hr => row_keep (h.row r hr) fun b hb => hk b (.inr (.inr ⟨r, 0, hr, by omega, by unfold pm; rw [if_pos rfl]; exact hb⟩)),
    fun r i hr hi => row_keep (h.txt r i hr hi) fun b hb => hk b (.inr (.inr ⟨r, 1 + i, hr, by omega, by unfold pm; rw [if_neg (by omega), show 1 + i - 1 = i by omega]; exact hb⟩)), h.far, h.sep⟩
theorem Mx.on (h : Mx w wr S G v u mt) (hb : Below wr.heap.size wr wF) : Mx w wF S G v u mt := h.same fun b hb' => hb.block b (h.mf_lt hb')
/-- Built anew: each place is an old one, or a new block of its own. -/
theorem Mx.re (h : Mx w wr S G v u mt) (New : Nat → Nat → Nat → Prop) (hnew : ∀ r p b, New r p b → wr.heap.size ≤ b) (huniq : ∀ r p r' p' b, New r p b → New r' p' b → r = r' ∧ p = p')
    (hS : wF.heap[S]? = some (.cells #[v' 0, v' 1] 29 (0, 0))) (hG : wF.heap[G]? = some (.cells #[v' 2, v' 3] 29 (0, 0)))
    (hrow : ∀ r, r < 4 → wF.ownsRow w.heap.size 45 1 (v' r) (mt' r).length (rowV u' r (mt' r).length))
    (htxt : ∀ r i, r < 4 → i < (mt' r).length → wF.ownsRow w.heap.size 9 1 (u' r i) (tx mt' r i).length ((tx mt' r i).map Value.string))
    (hpl : ∀ r p b, r < 4 → p < 1 + (mt' r).length → pm v' u' r p = some b → (p < 1 + (mt r).length ∧ pm v u r p = some b) ∨ New r p b) :
    Mx w wF S G v' u' mt' ∧ ∀ b, MF S G v' u' mt' b → MF S G v u mt b ∨ wr.heap.size ≤ b := by
  have lS := h.mf_lt (b := S) (.inl rfl)
  have lG := h.mf_lt (b := G) (.inr (.inl rfl))
  refine ⟨⟨hS, hG, h.ne, h.newS, h.newG, hrow, htxt, fun r p hr hp => ⟨fun e => ?_, fun e => ?_⟩, fun r p r' p' b hr hp hr' hp' hb hb' => ?_⟩, fun b hb => ?_⟩
  · rcases hpl r p S hr hp e with ⟨a1, a2⟩ | a
    · exact (h.far r p hr a1).1 a2
    · have := hnew _ _ _ a; omega
  · rcases hpl r p G hr hp e with ⟨a1, a2⟩ | a
    · exact (h.far r p hr a1).2 a2
    · have := hnew _ _ _ a; omega
  · rcases hpl r p b hr hp hb with ⟨a1, a2⟩ | a
    · rcases hpl r' p' b hr' hp' hb' with ⟨b1, b2⟩ | b1
      · exact h.sep r p r' p' b hr a1 hr' b1 a2 b2
      · have := hnew _ _ _ b1; have := (h.pm_lt hr a1 a2).2; omega
    · rcases hpl r' p' b hr' hp' hb' with ⟨b1, b2⟩ | b1
      · have := hnew _ _ _ a; have := (h.pm_lt hr' b1 b2).2; omega
      · exact huniq _ _ _ _ _ a b1
  · rcases hb with rfl | rfl | ⟨r, p, hr, hp, hb⟩
    · exact .inl (.inl rfl)
    · exact .inl (.inr (.inl rfl))
    · rcases hpl r p b hr hp hb with ⟨a1, a2⟩ | a
      · exact .inl (.inr (.inr ⟨r, p, hr, a1, a2⟩))
      · exact .inr (hnew _ _ _ a)
/-- Where the array of row r lies. -/
def arr (S G r : Nat) : Nat := if r < 2 then S else G
def setM (u : Nat → Nat → Value) (r i : Nat) (x : Value) : Nat → Nat → Value := fun r' i' => if r' = r ∧ i' = i then x else u r' i'
def addTxt (mt : Mt) (r i : Nat) (d : ByteArray) : Mt := fun r' => if r' = r then (mt r).modify i (fun q => q ++ [d]) else mt r'
theorem addTxt_len (mt : Mt) (r i : Nat) (d : ByteArray) (r' : Nat) : (addTxt mt r i d r').length = (mt r').length := by
  unfold addTxt
  split
  · rename_i h; subst h; simp
  · rfl
theorem tx_self {mt : Mt} {r i : Nat} {d : ByteArray} (hi : i < (mt r).length) : tx (addTxt mt r i d) r i = tx mt r i ++ [d] := by
  unfold tx addTxt
  rw [if_pos rfl]
  simp [List.getD_eq_getElem?_getD, List.getElem?_eq_getElem hi]
theorem tx_other {mt : Mt} {r i r' i' : Nat} {d : ByteArray} (h : ¬ (r' = r ∧ i' = i)) : tx (addTxt mt r i d) r' i' = tx mt r' i' := by
  unfold tx addTxt
  split
  · rename_i hr
    subst hr
    have hne : i ≠ i' := fun e => h ⟨rfl, e.symm⟩
    simp [List.getD_eq_getElem?_getD, hne]
  · rfl
/-- A text more. -/
theorem Mx.addText (h : Mx w wr S G v u mt) {r i g cap : Nat} (hr : r < 4) (hi : i < (mt r).length) (hv : v r = .slice (some ⟨g, 0, none⟩) (mt r).length cap) {nv : Value} {w1 : World} {d : ByteArray} (hg : wr.grownBy w1 (u r i).ownBlock)
    (ho : w1.ownsRow w.heap.size 9 1 nv ((tx mt r i).length + 1) ((tx mt r i).map Value.string ++ [Value.string d])) (ha : nv.ownBlock = (u r i).ownBlock ∨ ∃ b, nv.ownBlock = some b ∧ wr.heap.size ≤ b) :
    (Mx w (w1.setCell ⟨g, i, none⟩ nv) S G v (setM u r i nv) (addTxt mt r i d) ∧ ∀ b, MF S G v (setM u r i nv) (addTxt mt r i d) b → MF S G v u mt b ∨ wr.heap.size ≤ b) ∧ ∀ b, b < wr.heap.size → ¬ MF S G v u mt b → (w1.setCell ⟨g, i, none⟩ nv).heap[b]? = wr.heap[b]? := by
  have hp0 : pm v u r 0 = some g := by unfold pm; rw [if_pos rfl, hv]; rfl
  have hp1 : ∀ r i, pm v u r (1 + i) = (u r i).ownBlock := fun r i => by unfold pm; rw [if_neg (by omega), show 1 + i - 1 = i by omega]
  have hgl := h.pm_lt hr (by omega) hp0
  have hgx : some g ≠ (u r i).ownBlock := fun e => by
    have := (h.sep r 0 r (1 + i) g hr (by omega) hr (by omega) hp0 (by rw [hp1]; exact e.symm)).2
    omega
  have hkeep : ∀ b, b < wr.heap.size → b ≠ g → some b ≠ (u r i).ownBlock → (w1.setCell ⟨g, i, none⟩ nv).heap[b]? = wr.heap[b]? := fun b hb h1 h2 => by
    rw [setCell_keep _ _ h1]; exact hg.block b hb h2
  have hpk : ∀ r' p b, r' < 4 → p < 1 + (mt r').length → ¬ (r' = r ∧ p = 0) → ¬ (r' = r ∧ p = 1 + i) → pm v u r' p = some b → (w1.setCell ⟨g, i, none⟩ nv).heap[b]? = wr.heap[b]? := fun r' p b hr' hp hc hc2 hb =>
    hkeep b (h.pm_lt hr' hp hb).2 (fun e => hc (h.sep r' p r 0 b hr' hp hr (by omega) hb (by rw [hp0, e]))) (fun e => hc2 (h.sep r' p r (1 + i) b hr' hp hr (by omega) hb (by rw [hp1]; exact e.symm)))
  refine ⟨h.re (fun r' p b => r' = r ∧ p = 1 + i ∧ wr.heap.size ≤ b) (fun _ _ _ a => a.2.2) (fun _ _ _ _ _ a b => ⟨a.1.trans b.1.symm, a.2.1.trans b.2.1.symm⟩) ?_ ?_ (fun r' hr' => ?_) (fun r' i' hr' hi' => ?_) (fun r' p b hr' hp hb => ?_), fun b hb hn => hkeep b hb (fun e => hn (.inr (.inr ⟨r, 0, hr, by omega, by rw [hp0, e]⟩))) (fun e => hn (.inr (.inr ⟨r, 1 + i, hr, by omega, by rw [hp1]; exact e.symm⟩)))⟩
  · exact (hkeep S (h.mf_lt (.inl rfl)) (fun e => (h.far r 0 hr (by omega)).1 (by rw [hp0, e])) (fun e => (h.far r (1 + i) hr (by omega)).1 (by rw [hp1]; exact e.symm))).trans h.blkS
  · exact (hkeep G (h.mf_lt (.inr (.inl rfl))) (fun e => (h.far r 0 hr (by omega)).2 (by rw [hp0, e])) (fun e => (h.far r (1 + i) hr (by omega)).2 (by rw [hp1]; exact e.symm))).trans h.blkG
  · rw [addTxt_len]
    by_cases hrr : r' = r
    · subst hrr
      have hrw := h.row r' hr
      rw [hv] at hrw ⊢
      have h1 : w1.ownsRow w.heap.size 45 1 (.slice (some ⟨g, 0, none⟩) (mt r').length cap) (mt r').length (rowV u r' (mt r').length) := row_keep hrw fun b hb => by
        injection hb with hb
        subst hb
        exact hg.block _ hgl.2 hgx
      have e : rowV (setM u r' i nv) r' (mt r').length = (rowV u r' (mt r').length).set i nv := by
        apply List.ext_getElem?
        intro j
        rw [List.getElem?_set]
        by_cases hj : j < (mt r').length
        · rw [rowV_get _ hj, rowV_get _ hj, rowV_len]
          unfold setM
          by_cases e : i = j
          · rw [if_pos ⟨rfl, e.symm⟩, if_pos e, if_pos (by omega)]
          · rw [if_neg (fun x => e x.2.symm), if_neg e]
        · rw [List.getElem?_eq_none (by rw [rowV_len]; omega), List.getElem?_eq_none (by rw [rowV_len]; omega), rowV_len]
          split <;> first | rfl | (exfalso; omega)
      rw [e]
      exact row_set h1
    · rw [rowV_congr (u' := u) (fun i' _ => by unfold setM; rw [if_neg (fun x => hrr x.1)])]
      exact row_keep (h.row r' hr') fun b hb => hpk r' 0 b hr' (by omega) (fun x => hrr x.1) (fun x => hrr x.1) (by unfold pm; rw [if_pos rfl]; exact hb)
  · rw [addTxt_len] at hi'
    by_cases hx : r' = r ∧ i' = i
    · obtain ⟨rfl, rfl⟩ := hx
      have e : setM u r' i' nv r' i' = nv := if_pos ⟨rfl, rfl⟩
      rw [e, tx_self hi, List.length_append, List.map_append]
      exact row_keep ho fun b hb => setCell_keep _ _ (fun e => by
        subst e
        rcases ha with ha | ⟨b', ha, hb'⟩
        · exact hgx (by rw [← ha]; exact hb.symm)
        · rw [ha] at hb; injection hb with hb; omega)
    · have e : setM u r i nv r' i' = u r' i' := if_neg hx
      rw [e, tx_other hx]
      exact row_keep (h.txt r' i' hr' hi') fun b hb => hpk r' (1 + i') b hr' (by omega) (fun x => by omega) (fun x => hx ⟨x.1, by omega⟩) (by rw [hp1]; exact hb)
  · rw [addTxt_len] at hp
    by_cases h0 : p = 0
    · subst h0
      exact .inl ⟨hp, hb⟩
    · unfold pm at hb
      rw [if_neg h0] at hb
      by_cases hx : r' = r ∧ p - 1 = i
      · obtain ⟨rfl, hpi⟩ := hx
        have e : setM u r' i nv r' (p - 1) = nv := if_pos ⟨rfl, hpi⟩
        rw [e] at hb
        rcases ha with ha | ⟨b', ha, hb'⟩
        · exact .inl ⟨hp, by unfold pm; rw [if_neg h0, hpi, ← ha]; exact hb⟩
        · rw [ha] at hb; injection hb with hb; exact .inr ⟨rfl, by omega, by omega⟩
      · have e : setM u r i nv r' (p - 1) = u r' (p - 1) := if_neg hx
        rw [e] at hb
        exact .inl ⟨hp, by unfold pm; rw [if_neg h0]; exact hb⟩
def addE (mt : Mt) (e : Nat) : Mt := fun r => if r = e ∨ r = 2 + e then mt r ++ [[]] else mt r
def vE (v : Nat → Value) (e : Nat) (ns ng : Value) : Nat → Value := fun r => if r = e then ns else if r = 2 + e then ng else v r
def uE (u : Nat → Nat → Value) (mt : Mt) (e : Nat) : Nat → Nat → Value := fun r i => if (r = e ∨ r = 2 + e) ∧ i = (mt r).length then nilV else u r i
theorem addE_new {mt : Mt} {e r : Nat} (h : r = e ∨ r = 2 + e) : addE mt e r = mt r ++ [[]] := if_pos h
theorem addE_old {mt : Mt} {e r : Nat} (h : ¬ (r = e ∨ r = 2 + e)) : addE mt e r = mt r := if_neg h
theorem tx_addE {mt : Mt} {e r i : Nat} (hi : i < (mt r).length) : tx (addE mt e) r i = tx mt r i := by
  unfold tx
  by_cases h : r = e ∨ r = 2 + e
  · rw [addE_new h]
    simp only [List.getD_eq_getElem?_getD, List.getElem?_append_left hi]
  · rw [addE_old h]
theorem tx_addE_new {mt : Mt} {e r : Nat} (h : r = e ∨ r = 2 + e) : tx (addE mt e) r (mt r).length = [] := by
  unfold tx
  rw [addE_new h]
  simp [List.getD_eq_getElem?_getD]
theorem rowV_uE {u : Nat → Nat → Value} {mt : Mt} {e r : Nat} (h : r = e ∨ r = 2 + e) : rowV (uE u mt e) r ((mt r).length + 1) = rowV u r (mt r).length ++ [nilV] := by
  rw [rowV_succ, rowV_congr (u' := u) (fun i hi => by unfold uE; rw [if_neg (fun x => by have := x.2; omega)])]
  congr 1
  unfold uE
  rw [if_pos ⟨h, rfl⟩]
/-- An epoch more, in both arrays. -/
theorem Mx.addTwo (h : Mx w wr S G v u mt) {e : Nat} (he : e < 2) {ns ng : Value}
    (hS : wF.heap[S]? = some (.cells ((#[v 0, v 1] : Array Value).setIfInBounds e ns) 29 (0, 0))) (hG : wF.heap[G]? = some (.cells ((#[v 2, v 3] : Array Value).setIfInBounds e ng) 29 (0, 0)))
    (hs : wF.ownsRow w.heap.size 45 1 ns ((mt e).length + 1) (rowV u e (mt e).length ++ [nilV])) (hg : wF.ownsRow w.heap.size 45 1 ng ((mt (2 + e)).length + 1) (rowV u (2 + e) (mt (2 + e)).length ++ [nilV]))
    (hk : ∀ b, b < wr.heap.size → b ≠ S → b ≠ G → some b ≠ (v e).ownBlock → some b ≠ (v (2 + e)).ownBlock → wF.heap[b]? = wr.heap[b]?)
    (as1 : ns.ownBlock = (v e).ownBlock ∨ ∃ b, ns.ownBlock = some b ∧ wr.heap.size ≤ b) (ag1 : ng.ownBlock = (v (2 + e)).ownBlock ∨ ∃ b, ng.ownBlock = some b ∧ wr.heap.size ≤ b)
    (hd : ∀ b, ns.ownBlock = some b → ng.ownBlock ≠ some b) :
    (Mx w wF S G (vE v e ns ng) (uE u mt e) (addE mt e) ∧ ∀ b, MF S G (vE v e ns ng) (uE u mt e) (addE mt e) b → MF S G v u mt b ∨ wr.heap.size ≤ b) ∧ ∀ b, b < wr.heap.size → ¬ MF S G v u mt b → wF.heap[b]? = wr.heap[b]? := by
  have hp0 : ∀ r, pm v u r 0 = (v r).ownBlock := fun r => by unfold pm; rw [if_pos rfl]
  have hpk : ∀ r p b, r < 4 → p < 1 + (mt r).length → ¬ (p = 0 ∧ (r = e ∨ r = 2 + e)) → pm v u r p = some b → wF.heap[b]? = wr.heap[b]? := fun r p b hr hp hc hb =>
    hk b (h.pm_lt hr hp hb).2 (fun e' => (h.far r p hr hp).1 (by rw [hb, e'])) (fun e' => (h.far r p hr hp).2 (by rw [hb, e']))
      (fun e' => by have := h.sep r p e 0 b hr hp (by omega) (by omega) hb (by rw [hp0]; exact e'.symm); exact hc ⟨this.2, .inl this.1⟩)
      (fun e' => by have := h.sep r p (2 + e) 0 b hr hp (by omega) (by omega) hb (by rw [hp0]; exact e'.symm); exact hc ⟨this.2, .inr this.1⟩)
  have hvo : ∀ r, r ≠ e → r ≠ 2 + e → vE v e ns ng r = v r := fun r h1 h2 => by unfold vE; rw [if_neg h1, if_neg h2]
  have hve : vE v e ns ng e = ns := if_pos rfl
  have hvg : vE v e ns ng (2 + e) = ng := by unfold vE; rw [if_neg (by omega), if_pos rfl]
  refine ⟨h.re (fun r p b => p = 0 ∧ wr.heap.size ≤ b ∧ ((r = e ∧ ns.ownBlock = some b) ∨ (r = 2 + e ∧ ng.ownBlock = some b))) (fun _ _ _ a => a.2.1) (fun r p r' p' b a c => ?_) ?_ ?_ (fun r hr => ?_) (fun r i hr hi => ?_) (fun r p b hr hp hb => ?_), fun b hb hn => hk b hb (fun e' => hn (.inl e')) (fun e' => hn (.inr (.inl e'))) (fun e' => hn (.inr (.inr ⟨e, 0, by omega, by omega, by rw [hp0]; exact e'.symm⟩))) (fun e' => hn (.inr (.inr ⟨2 + e, 0, by omega, by omega, by rw [hp0]; exact e'.symm⟩)))⟩
  · refine ⟨?_, a.1.trans c.1.symm⟩
    rcases a.2.2 with ⟨a1, a2⟩ | ⟨a1, a2⟩ <;> rcases c.2.2 with ⟨c1, c2⟩ | ⟨c1, c2⟩
    · omega
    · exact absurd c2 (hd b a2)
    · exact absurd a2 (hd b c2)
    · omega
  · rw [hS]
    match e, he with
    | 0, _ => rfl
    | 1, _ => rfl
  · rw [hG]
    match e, he with
    | 0, _ => rfl
    | 1, _ => rfl
  · by_cases h1 : r = e
    · subst h1
      rw [hve, addE_new (.inl rfl), List.length_append]
      show wF.ownsRow _ 45 1 ns ((mt r).length + 1) (rowV (uE u mt r) r ((mt r).length + 1))
      rw [rowV_uE (.inl rfl)]
      exact hs
    · by_cases h2 : r = 2 + e
      · subst h2
        rw [hvg, addE_new (.inr rfl), List.length_append]
        show wF.ownsRow _ 45 1 ng ((mt (2 + e)).length + 1) (rowV (uE u mt e) (2 + e) ((mt (2 + e)).length + 1))
        rw [rowV_uE (.inr rfl)]
        exact hg
      · rw [hvo r h1 h2, addE_old (by omega), rowV_congr (u' := u) (fun i _ => by unfold uE; rw [if_neg (fun x => by omega)])]
        exact row_keep (h.row r hr) fun b hb => hpk r 0 b hr (by omega) (fun x => by omega) (by rw [hp0]; exact hb)
  · by_cases hx : (r = e ∨ r = 2 + e) ∧ i = (mt r).length
    · obtain ⟨hx, rfl⟩ := hx
      rw [tx_addE_new hx]
      have e1 : uE u mt e r (mt r).length = nilV := if_pos ⟨hx, rfl⟩
      rw [e1]
      exact World.ownsRow_nil _ _ _ _
    · have hi2 : i < (mt r).length := by
        by_cases h1 : r = e ∨ r = 2 + e
        · rw [addE_new h1, List.length_append] at hi
          simp only [List.length_cons, List.length_nil] at hi
          have : ¬ i = (mt r).length := fun q => hx ⟨h1, q⟩
          omega
        · rw [addE_old h1] at hi; exact hi
      have e1 : uE u mt e r i = u r i := if_neg hx
      rw [e1, tx_addE hi2]
      exact row_keep (h.txt r i hr hi2) fun b hb => hpk r (1 + i) b hr (by omega) (fun x => by omega) (by unfold pm; rw [if_neg (by omega), show 1 + i - 1 = i by omega]; exact hb)
  · by_cases h0 : p = 0
    · subst h0
      unfold pm at hb
      rw [if_pos rfl] at hb
      by_cases h1 : r = e
      · subst h1
        rw [hve] at hb
        rcases as1 with as1 | ⟨b', as1, hb'⟩
        · exact .inl ⟨by omega, by rw [hp0, ← as1]; exact hb⟩
        · rw [as1] at hb; injection hb with hb; exact .inr ⟨rfl, by omega, .inl ⟨rfl, by rw [as1, hb]⟩⟩
      · by_cases h2 : r = 2 + e
        · subst h2
          rw [hvg] at hb
          rcases ag1 with ag1 | ⟨b', ag1, hb'⟩
          · exact .inl ⟨by omega, by rw [hp0, ← ag1]; exact hb⟩
          · rw [ag1] at hb; injection hb with hb; exact .inr ⟨rfl, by omega, .inr ⟨rfl, by rw [ag1, hb]⟩⟩
        · rw [hvo r h1 h2] at hb
          exact .inl ⟨by omega, by rw [hp0]; exact hb⟩
    · unfold pm at hb
      rw [if_neg h0] at hb
      by_cases hx : (r = e ∨ r = 2 + e) ∧ p - 1 = (mt r).length
      · have e1 : uE u mt e r (p - 1) = nilV := if_pos hx
        rw [e1] at hb
        cases hb
      · have e1 : uE u mt e r (p - 1) = u r (p - 1) := if_neg hx
        rw [e1] at hb
        refine .inl ⟨?_, by unfold pm; rw [if_neg h0]; exact hb⟩
        by_cases h1 : r = e ∨ r = 2 + e
        · rw [addE_new h1, List.length_append] at hp
          simp only [List.length_cons, List.length_nil] at hp
          have : ¬ p - 1 = (mt r).length := fun q => hx ⟨h1, q⟩
          omega
        · rw [addE_old h1] at hp; exact hp
end
end Go.Proofs.Ytjjnhndlollldaa.Ep
