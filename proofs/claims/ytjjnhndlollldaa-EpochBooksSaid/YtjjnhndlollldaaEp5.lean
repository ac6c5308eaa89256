/-
epoch.Book.Add's helpers: what begins an epoch, and the last one; and what a call leaves besides. No condition but the book's own.
-/
import Derived.Test.YtjjnhndlollldaaEp4
import Derived.Deep.RegionLaw
import Derived.BigRegion
import Derived.RegionTactic
namespace Go.Proofs.Ytjjnhndlollldaa.Ep
set_option linter.unusedVariables false
open Go.RowKit Go.Proofs.Ytjjnhndlollldaa.Args

/-- A record in short: its end, its kind, its signal's kind and data, its request's kind and data. -/
abbrev RecT := Int × Int × Int × ByteArray × Int × ByteArray
def recA (r : RecT) : Array Value := #[.int .i64 r.1, .int .i64 r.2.1, .int .i64 0, .int .i64 0, .int .u32 0, .int .u32 0, .int .u32 0, .slice none 0 0, .bool false, .string ⟨#[]⟩, .int .i64 r.2.2.1, .string r.2.2.2.1, .bool false, .int .u8 0, .int .i64 0, .int .i64 r.2.2.2.2.1, .string r.2.2.2.2.2, .int .i64 0]
def recV (r : RecT) : List Value := (recA r).toList
def bg (kind sk rk : Int) : Bool := (kind == 5 && (sk == 2 || sk == 6)) || (kind == 6 && (rk == 2 || rk == 5 || rk == 6))
set_option maxHeartbeats 2000000 in
set_option maxRecDepth 100000 in
theorem begins_calls (en kind sk rk : Int) (sd rd : ByteArray) (b : Bool) (w : World) (hb : Hid (bg kind sk rk = b)) :
    Calls Try.prog 15 #[.agg (recA (en, kind, sk, sd, rk, rd))] w (BelowR w (.bool b)) := by
  unfold recA
  have hal : ∀ o, Below w.heap.size w (w.alloc o) := fun o => (Below.refl _ _).alloc (Nat.le_refl _) _
  have HAL := Lib.hid hal
  clear hal
  have done : ∀ x o, bg kind sk rk = x → BelowR w (.bool b) (.returned (.bool x)) (w.alloc o) := fun x o hx => ⟨by rw [← hb.out, hx], HAL.out o⟩
  have DONE := Lib.hid done
  clear done
  by_cases h5 : kind = 5
  · subst h5
    by_cases h2 : sk = 2
    · subst h2
      go_enter Try.func15, Try.ntmps15
      go_wp2_with fail
      go_ret
      exact DONE.out true _ rfl
    · have e2 : (sk == 2) = false := beq_eq_false_iff_ne.2 h2
      by_cases h6 : sk = 6
      · subst h6
        go_enter Try.func15, Try.ntmps15
        go_wp2_with fail
        go_ret
        exact DONE.out true _ rfl
      · have e6 : (sk == 6) = false := beq_eq_false_iff_ne.2 h6
        go_enter Try.func15, Try.ntmps15
        go_wp2_with fail
        go_ret
        exact DONE.out false _ (by unfold bg; rw [e2, e6]; rfl)
  · have e5 : (kind == 5) = false := beq_eq_false_iff_ne.2 h5
    by_cases h6 : kind = 6
    · subst h6
      by_cases h2 : rk = 2
      · subst h2
        go_enter Try.func15, Try.ntmps15
        go_wp2_with fail
        go_ret
        exact DONE.out true _ rfl
      · have e2 : (rk == 2) = false := beq_eq_false_iff_ne.2 h2
        by_cases h5' : rk = 5
        · subst h5'
          go_enter Try.func15, Try.ntmps15
          go_wp2_with fail
          go_ret
          exact DONE.out true _ rfl
        · have e5' : (rk == 5) = false := beq_eq_false_iff_ne.2 h5'
          by_cases h6' : rk = 6
          · subst h6'
            go_enter Try.func15, Try.ntmps15
            go_wp2_with fail
            go_ret
            exact DONE.out true _ rfl
          · have e6' : (rk == 6) = false := beq_eq_false_iff_ne.2 h6'
            go_enter Try.func15, Try.ntmps15
            go_wp2_with fail
            go_ret
            exact DONE.out false _ (by unfold bg; rw [e2, e5', e6']; rfl)
    · have e6 : (kind == 6) = false := beq_eq_false_iff_ne.2 h6
      go_enter Try.func15, Try.ntmps15
      go_wp2_with fail
      go_ret
      exact DONE.out false _ (by unfold bg; rw [e5, e6]; rfl)
set_option maxHeartbeats 1000000 in
theorem last_none (s : Option Addr) (c : Nat) (w : World) : Calls Try.prog 16 #[.slice s 0 c] w fun e w' => e = .returned (.pointer none) ∧ w' = w := by
  go_enter Try.func16, Try.ntmps16
  go_wp2_with fail
  go_ret
  exact ⟨rfl, rfl⟩
set_option maxHeartbeats 1000000 in
theorem last_some (g n c : Nat) (w : World) (hn : n ≤ 1000000000000) : Calls Try.prog 16 #[.slice (some ⟨g, 0, none⟩) (n + 1) c] w fun e w' => e = .returned (.pointer (some ⟨g, n * 2, none⟩)) ∧ w' = w := by
  go_enter Try.func16, Try.ntmps16
  go_wp2_with fail
  go_ret
  exact ⟨rfl, rfl⟩
/-- A block of the book's. -/
def BF (P : Nat) (v : Nat → Value) (u : Nat → Nat → Nat → Value) (st : St) (b : Nat) : Prop := b = P ∨ ∃ e p, e < 2 ∧ p < 1 + 2 * (st e).length ∧ pl v u e p = some b
structure Led (P : Nat) (v : Nat → Value) (u : Nat → Nat → Nat → Value) (st : St) (wr w' : World) (v' : Nat → Value) (u' : Nat → Nat → Nat → Value) (st' : St) : Prop where
  os : w'.os = wr.os
  tape : w'.tape = wr.tape
  output : w'.output = wr.output
  size : wr.heap.size ≤ w'.heap.size
  block : ∀ b, b < wr.heap.size → ¬ BF P v u st b → w'.heap[b]? = wr.heap[b]?
  fresh : ∀ b, BF P v' u' st' b → BF P v u st b ∨ wr.heap.size ≤ b
section
variable {w wr w' w2 : World} {P : Nat} {v v' v2 : Nat → Value} {u u' u2 : Nat → Nat → Nat → Value} {st st' st2 : St}
theorem Led.of_below (hb : Below wr.heap.size wr w') : Led P v u st wr w' v u st := ⟨hb.os, hb.tape, hb.output, hb.size, fun b h _ => hb.block b h, fun b h => .inl h⟩
theorem Led.trans (h : Led P v u st wr w' v' u' st') (h2 : Led P v' u' st' w' w2 v2 u2 st2) : Led P v u st wr w2 v2 u2 st2 := by
  refine ⟨h2.os.trans h.os, h2.tape.trans h.tape, h2.output.trans h.output, Nat.le_trans h.size h2.size, fun b hb hn => (h2.block b (Nat.lt_of_lt_of_le hb h.size) (fun hk => ?_)).trans (h.block b hb hn), fun b hb => ?_⟩
  · rcases h.fresh b hk with h3 | h3
    · exact hn h3
    · omega
  · rcases h2.fresh b hb with h3 | h3
    · exact h.fresh b h3
    · exact .inr (Nat.le_trans h.size h3)
theorem Led.on (h : Led P v u st wr w' v' u' st') (hb : Below w'.heap.size w' w2) : Led P v u st wr w2 v' u' st' := h.trans (.of_below hb)
theorem Bk.ledEpoch (h : Bk w wr P v u st) {e0 : Nat} (he0 : e0 < 2) {nv : Value} {w1 : World} (hg : wr.grownBy w1 (v e0).ownBlock) (ha : nv.ownBlock = (v e0).ownBlock ∨ ∃ b, nv.ownBlock = some b ∧ wr.heap.size ≤ b) :
    Led P v u st wr (w1.setCell ⟨P, e0, none⟩ nv) (setV v e0 nv) (newU u e0 (st e0).length) (addSt st e0) := by
  refine ⟨hg.os, hg.tape, hg.output, by simpa [World.setCell] using hg.size, fun b hb hn => ?_, fun b hb => ?_⟩
  · rw [setCell_keep _ _ (fun q => hn (.inl q))]
    exact hg.block b hb (fun q => hn (.inr ⟨e0, 0, he0, by omega, by unfold pl; rw [if_pos rfl]; exact q.symm⟩))
  · rcases hb with hb | ⟨e, p, he, hp, hb⟩
    · exact .inl (.inl hb)
    · by_cases hp0 : p = 0
      · subst hp0
        by_cases hee : e = e0
        · subst hee
          have hq : nv.ownBlock = some b := by simpa [pl, setV] using hb
          rcases ha with ha | ⟨b', ha, hb'⟩
          · exact .inl (.inr ⟨e, 0, he, by omega, by unfold pl; rw [if_pos rfl, ← ha]; exact hq⟩)
          · rw [ha] at hq; injection hq with hq; exact .inr (by omega)
        · exact .inl (.inr ⟨e, 0, he, by omega, by simpa only [pl, if_true, setV, if_neg hee] using hb⟩)
      · by_cases hx : e = e0 ∧ (p - 1) / 2 = (st e0).length
        · simp only [pl, if_neg hp0, newU, if_pos hx, nilV] at hb
          cases hb
        · refine .inl (.inr ⟨e, p, he, ?_, by simpa only [pl, if_neg hp0, newU, if_neg hx] using hb⟩)
          by_cases hee : e = e0
          · subst hee
            rw [addSt_self, List.length_append] at hp
            simp at hp
            have : ¬ (p - 1) / 2 = (st e).length := fun q => hx ⟨rfl, q⟩
            omega
          · rw [addSt_other st hee] at hp; exact hp
theorem Bk.ledText (h : Bk w wr P v u st) {e0 i0 k0 : Nat} (he0 : e0 < 2) (hi0 : i0 < (st e0).length) (hk0 : k0 < 2) {nv : Value} {w1 : World} {x : ByteArray} {g cap : Nat} (hv : v e0 = .slice (some ⟨g, 0, none⟩) (st e0).length cap) (hg : wr.grownBy w1 (u e0 i0 k0).ownBlock) (ha : nv.ownBlock = (u e0 i0 k0).ownBlock ∨ ∃ b, nv.ownBlock = some b ∧ wr.heap.size ≤ b) :
    Led P v u st wr (w1.setCell ⟨g, i0 * 2 + k0, none⟩ nv) v (setU u e0 i0 k0 nv) (modSt st e0 i0 k0 x) := by
  have hp1 : pl v u e0 (1 + 2 * i0 + k0) = (u e0 i0 k0).ownBlock := by
    unfold pl
    rw [if_neg (by omega), show (1 + 2 * i0 + k0 - 1) / 2 = i0 by omega, show (1 + 2 * i0 + k0 - 1) % 2 = k0 by omega]
  have hp0 : pl v u e0 0 = some g := by unfold pl; rw [if_pos rfl, hv]; rfl
  refine ⟨hg.os, hg.tape, hg.output, by simpa [World.setCell] using hg.size, fun b hb hn => ?_, fun b hb => ?_⟩
  · rw [setCell_keep _ _ (fun q => hn (.inr ⟨e0, 0, he0, by omega, by rw [hp0, q]⟩))]
    exact hg.block b hb (fun q => hn (.inr ⟨e0, 1 + 2 * i0 + k0, he0, by omega, by rw [hp1]; exact q.symm⟩))
  · rcases hb with hb | ⟨e, p, he, hp, hb⟩
    · exact .inl (.inl hb)
    · rw [modSt_len] at hp
      by_cases hp0 : p = 0
      · subst hp0
        exact .inl (.inr ⟨e, 0, he, hp, by simpa only [pl, if_true] using hb⟩)
      · by_cases hx : e = e0 ∧ (p - 1) / 2 = i0 ∧ (p - 1) % 2 = k0
        · have hq : nv.ownBlock = some b := by simpa only [pl, if_neg hp0, setU, if_pos hx] using hb
          rcases ha with ha | ⟨b', ha, hb'⟩
          · exact .inl (.inr ⟨e0, 1 + 2 * i0 + k0, he0, by omega, by rw [hp1, ← ha]; exact hq⟩)
          · rw [ha] at hq; injection hq with hq; exact .inr (by omega)
        · exact .inl (.inr ⟨e, p, he, hp, by simpa only [pl, if_neg hp0, setU, if_neg hx] using hb⟩)
end
end Go.Proofs.Ytjjnhndlollldaa.Ep
