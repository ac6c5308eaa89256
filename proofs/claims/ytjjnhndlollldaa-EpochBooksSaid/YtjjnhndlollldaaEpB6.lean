/-
EpochBooks, the plain law: what the law keeps beside the book is what the book has, whatever note comes. No condition.
-/
import Derived.Test.YtjjnhndlollldaaEpB1
namespace Go.Proofs.Ytjjnhndlollldaa.Ep
set_option linter.unusedVariables false
set_option linter.unusedSimpArgs false
open Go.RowKit Go.Proofs.Ytjjnhndlollldaa.Args

/-- What the law keeps of a book. -/
def mx (st : St) : Mt := fun r => if r < 2 then (st r).map (·.1) else (st (r - 2)).map (·.2)
theorem mx_sent {st : St} {e : Nat} (he : e < 2) : mx st e = (st e).map (·.1) := if_pos he
theorem mx_got {st : St} {e : Nat} : mx st (2 + e) = (st e).map (·.2) := by unfold mx; rw [if_neg (by omega), show 2 + e - 2 = e by omega]
theorem mx_len {st : St} {e r : Nat} (he : e < 2) (hr : r = e ∨ r = 2 + e) : (mx st r).length = (st e).length := by
  rcases hr with rfl | rfl
  · rw [mx_sent he]; simp
  · rw [mx_got]; simp
theorem tx_sent {st : St} {e i : Nat} (he : e < 2) : tx (mx st) e i = cont (st e) i 0 := by
  unfold tx cont
  rw [mx_sent he]
  simp only [List.getD_eq_getElem?_getD, List.getElem?_map]
  cases (st e)[i]? <;> rfl
theorem tx_got {st : St} {e i : Nat} : tx (mx st) (2 + e) i = cont (st e) i 1 := by
  unfold tx cont
  rw [mx_got]
  simp only [List.getD_eq_getElem?_getD, List.getElem?_map]
  cases (st e)[i]? <;> rfl
theorem mx_add {st : St} {e : Nat} (he : e < 2) : mx (addSt st e) = addE (mx st) e := by
  funext r
  unfold addE mx addSt
  by_cases h2 : r < 2
  · by_cases h : r = e
    · subst h; simp [h2]
    · simp [h2, h, show ¬ r = 2 + e by omega]
  · by_cases h : r = 2 + e
    · subst h; simp [show ¬ 2 + e < 2 by omega]
    · simp [h2, show ¬ (r = e ∨ r = 2 + e) by omega, show ¬ r - 2 = e by omega]
theorem map_mod0 (l : List EpT) (i : Nat) (d : ByteArray) : (l.modify i (addTx 0 d)).map (·.1) = (l.map (·.1)).modify i (fun q => q ++ [d]) := by
  apply List.ext_getElem?
  intro j
  simp only [List.getElem?_map, List.getElem?_modify]
  cases l[j]? with
  | none => simp
  | some x => by_cases h : i = j <;> simp [h, addTx]
theorem map_mod0' (l : List EpT) (i : Nat) (d : ByteArray) : (l.modify i (addTx 0 d)).map (·.2) = l.map (·.2) := by
  apply List.ext_getElem?
  intro j
  simp only [List.getElem?_map, List.getElem?_modify]
  cases l[j]? with
  | none => simp
  | some x => by_cases h : i = j <;> simp [h, addTx]
theorem map_mod1 (l : List EpT) (i : Nat) (d : ByteArray) : (l.modify i (addTx 1 d)).map (·.2) = (l.map (·.2)).modify i (fun q => q ++ [d]) := by
  apply List.ext_getElem?
  intro j
  simp only [List.getElem?_map, List.getElem?_modify]
  cases l[j]? with
  | none => simp
  | some x => by_cases h : i = j <;> simp [h, addTx]
theorem map_mod1' (l : List EpT) (i : Nat) (d : ByteArray) : (l.modify i (addTx 1 d)).map (·.1) = l.map (·.1) := by
  apply List.ext_getElem?
  intro j
  simp only [List.getElem?_map, List.getElem?_modify]
  cases l[j]? with
  | none => simp
  | some x => by_cases h : i = j <;> simp [h, addTx]
theorem mx_mod0 {st : St} {e i : Nat} {d : ByteArray} (he : e < 2) : mx (modSt st e i 0 d) = addTxt (mx st) e i d := by
  funext r
  unfold addTxt mx modSt
  by_cases h2 : r < 2
  · by_cases h : r = e
    · subst h; simp only [h2, if_true]; exact map_mod0 _ _ _
    · simp [h2, h]
  · by_cases h : r - 2 = e
    · simp only [h2, if_false, h, if_true, show ¬ r = e by omega]; exact map_mod0' _ _ _
    · simp [h2, h, show ¬ r = e by omega]
theorem mx_mod1 {st : St} {e i : Nat} {d : ByteArray} (he : e < 2) : mx (modSt st e i 1 d) = addTxt (mx st) (2 + e) i d := by
  funext r
  unfold addTxt mx modSt
  by_cases h2 : r < 2
  · by_cases h : r = e
    · subst h; simp only [h2, if_true, show ¬ r = 2 + r by omega, if_false]; exact map_mod1' _ _ _
    · simp [h2, h, show ¬ r = 2 + e by omega]
  · by_cases h : r - 2 = e
    · have h3 : r = 2 + e := by omega
      subst h3
      simp only [show ¬ 2 + e < 2 by omega, if_false, show 2 + e - 2 = e by omega, if_true]; exact map_mod1 _ _ _
    · simp [h2, h, show ¬ r = 2 + e by omega]
theorem recOf_end (y : NoteT) : (recOf y).1 = y.1 := by
  unfold recOf
  repeat' split
  all_goals rfl
theorem note_out {st : St} {y : NoteT} (h : y.1 < 0 ∨ 2 ≤ y.1) : addR st (recOf y) = st := by
  unfold addR
  rw [recOf_end, if_neg (by omega)]
theorem note_0 {st : St} {y : NoteT} {e : Nat} (he : e < 2) (hy : y.1 = (e : Int)) (h : y.2.1 = 0) : addR st (recOf y) = addSt st e := by
  have hb : bg (recOf y).2.1 (recOf y).2.2.1 (recOf y).2.2.2.2.1 = true := by
    unfold recOf
    rw [if_pos h]
    repeat' split
    all_goals rfl
  unfold addR
  rw [recOf_end, hy, if_pos (by omega), if_pos hb, Int.toNat_natCast]
theorem note_1 {st : St} {y : NoteT} {e : Nat} (he : e < 2) (hy : y.1 = (e : Int)) (h : y.2.1 = 1) : addR st (recOf y) = if (st e).length = 0 then st else modSt st e ((st e).length - 1) 0 y.2.2.2 := by
  have hr : recOf y = (y.1, 6, 0, ⟨#[]⟩, 7, y.2.2.2) := by
    unfold recOf
    rw [if_neg (by omega), if_pos h]
  rw [hr]
  unfold addR
  simp only [hy, Int.toNat_natCast]
  rw [if_pos (by omega), if_neg (by decide)]
  simp
theorem note_2 {st : St} {y : NoteT} {e : Nat} (he : e < 2) (hy : y.1 = (e : Int)) (h : y.2.1 = 2) : addR st (recOf y) = if (st e).length = 0 then st else modSt st e ((st e).length - 1) 1 y.2.2.2 := by
  have hr : recOf y = (y.1, 5, 8, y.2.2.2, 0, ⟨#[]⟩) := by
    unfold recOf
    rw [if_neg (by omega), if_neg (by omega), if_pos h]
  rw [hr]
  unfold addR
  simp only [hy, Int.toNat_natCast]
  rw [if_pos (by omega), if_neg (by decide)]
  simp
theorem note_x {st : St} {y : NoteT} {e : Nat} (he : e < 2) (hy : y.1 = (e : Int)) (h0 : y.2.1 ≠ 0) (h1 : y.2.1 ≠ 1) (h2 : y.2.1 ≠ 2) : addR st (recOf y) = st := by
  have hr : recOf y = (y.1, 1 + bits .and .i64 y.2.2.1 3, 3, ⟨#[]⟩, 3, ⟨#[]⟩) := by
    unfold recOf
    rw [if_neg h0, if_neg h1, if_neg h2]
  have h3 := and3 y.2.2.1
  obtain ⟨x, hx⟩ : ∃ x, bits .and .i64 y.2.2.1 3 = x := ⟨_, rfl⟩
  rw [hx] at h3 hr
  rw [hr]
  have hb : bg (1 + x) 3 3 = false := by
    have : x = 0 ∨ x = 1 ∨ x = 2 ∨ x = 3 := by omega
    rcases this with rfl | rfl | rfl | rfl <;> rfl
  unfold addR
  simp only [hy, Int.toNat_natCast, hb]
  rw [if_pos (by omega), if_neg (by decide)]
  split
  · rfl
  · rw [if_neg (by omega), if_neg (by omega)]
theorem mx_new {w wr : World} {S G : Nat} (hS : wr.heap[S]? = some (.cells #[.slice none 0 0, .slice none 0 0] 29 (0, 0))) (hG : wr.heap[G]? = some (.cells #[.slice none 0 0, .slice none 0 0] 29 (0, 0))) (ne : S ≠ G) (nS : w.heap.size ≤ S) (nG : w.heap.size ≤ G) : Mx w wr S G (fun _ => .slice none 0 0) (fun _ _ => .slice none 0 0) (mx st00) := by
  have hl : ∀ r, (mx st00 r).length = 0 := fun r => by unfold mx st00; split <;> rfl
  refine ⟨hS, hG, ne, nS, nG, fun r _ => by rw [hl]; exact World.ownsRow_nil _ _ _ _, fun r i _ hi => by rw [hl] at hi; omega, fun r p _ hp => ?_, fun r p r' p' b _ hp _ hp' hb _ => ?_⟩
  · rw [hl] at hp
    obtain rfl : p = 0 := by omega
    simp [pm, Value.ownBlock]
  · rw [hl] at hp
    obtain rfl : p = 0 := by omega
    simp [pm, Value.ownBlock] at hb
end Go.Proofs.Ytjjnhndlollldaa.Ep
