/-
One record more in a book: what the laws of layer 20 do over and over. Conditions: lengths within the machine's.
-/
import Derived.Test.YtjjnhndlollldaaEp11
namespace Go.Proofs.Ytjjnhndlollldaa.Ep
set_option linter.unusedVariables false
open Go.RowKit Go.Proofs.Ytjjnhndlollldaa.Args

theorem Cap.addR {st : St} {M : Nat} (h : Cap st M) (r : RecT) : Cap (addR st r) (M + 1) := by
  unfold Ep.addR
  split
  · split
    · exact h.add _
    · split
      · exact h.more
      · split
        · exact h.mod _ _ _ _
        · split
          · exact h.mod _ _ _ _
          · exact h.more
  · exact h.more
theorem Bk.bf_lt {w wr : World} {P : Nat} {v : Nat → Value} {u : Nat → Nat → Nat → Value} {st : St} (h : Bk w wr P v u st) {b : Nat} (hb : BF P v u st b) : b < wr.heap.size := by
  rcases hb with rfl | ⟨e, p, he, hp, hq⟩
  · exact h.lt
  · unfold pl at hq
    split at hq
    · exact ((h.row e he).lt b hq).2
    · exact ((h.txt e ((p - 1) / 2) ((p - 1) % 2) he (by omega) (by omega)).lt b hq).2
theorem add_one (w wr wr0 : World) (P M b : Nat) (v : Nat → Value) (u : Nat → Nat → Nat → Value) (st : St) (r : RecT) (h : Hid (Bk w wr0 P v u st)) (hw : Below wr0.heap.size wr0 wr) (hb : wr.heap[b]? = some (.cells (recA r) 43 (0, 0))) (hbn : wr0.heap.size ≤ b) (hM : Cap st M) (hM2 : M + 1 ≤ 1000000) (c : Nat) :
    Calls Try.prog 8 #[.pointer (some ⟨P, 0, none⟩), .slice (some ⟨b, 0, none⟩) 1 c] wr fun e w' => e = .returned (.tuple #[]) ∧ ∃ v' u', Bk w w' P v' u' (addR st r) ∧ Led P v u st wr0 w' v' u' (addR st r) := by
  refine (add_calls w wr P v u st (some ⟨b, 0, none⟩) 1 c M [r] (h.out.on hw) (arg_new hb rfl (by simp [recV])) (by
    unfold Hid
    intro b' off e
    injection e with e
    injection e with e
    rw [← e]
    intro hf
    have := h.out.bf_lt hf
    omega) hM (by omega)).mono ?_
  rintro e w' ⟨rfl, v', u', h1, h2⟩
  exact ⟨rfl, v', u', h1, (Led.of_below hw).trans h2⟩
theorem Bk.keep {w wr w' : World} {P : Nat} {v : Nat → Value} {u : Nat → Nat → Nat → Value} {st : St} (h : Bk w wr P v u st) {ob : Option Nat} (hg : wr.grownBy w' ob) (hn : ∀ b, ob = some b → ¬ BF P v u st b) (hbase : ∀ b, ob = some b → w.heap.size ≤ b) : Bk w w' P v u st := by
  have hk : ∀ b, BF P v u st b → w'.heap[b]? = wr.heap[b]? := fun b hb => hg.block b (h.bf_lt hb) (fun e => hn b e.symm hb)
  refine ⟨(hk P (.inl rfl)).trans h.blk, h.newP, h.below.grown hg h.below.size hbase, fun e he => row_keep (h.row e he) fun b hb => hk b (.inr ⟨e, 0, he, by omega, by unfold pl; rw [if_pos rfl]; exact hb⟩), fun e i k he hi hk2 => row_keep (h.txt e i k he hi hk2) fun b hb => hk b (.inr ⟨e, 1 + (i * 2 + k), he, by omega, ?_⟩), h.far, h.sep⟩
  unfold pl
  rw [if_neg (by omega), show (1 + (i * 2 + k) - 1) / 2 = i by omega, show (1 + (i * 2 + k) - 1) % 2 = k by omega]
  exact hb
end Go.Proofs.Ytjjnhndlollldaa.Ep
