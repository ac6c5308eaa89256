/-
Rows that a call owns, beside one another and beside a ring: what each keeps when another turns; and an append of one row to another. No condition but the bounds of append.
-/
import Derived.Test.YtljncbbajhoocaaRingSOwn
import Derived.Maps.AppendAt
import Derived.Deep.Upon
namespace Go.Proofs.Ytljncbbajhoocaa.RingS
open Go.RowKit Go.Proofs.Ytljncbbajhoocaa.Args

theorem row_lt {w : World} {base : Nat} {e : TypeId} {size : Nat} {v : Value} {n : Nat} {xs : List Value} (h : w.ownsRow base e size v n xs) : ∀ b, v.ownBlock = some b → base ≤ b ∧ b < w.heap.size := fun b hb => h.lt b hb
theorem row_mod {w w' : World} {S : Nat → Prop} {base : Nat} {e : TypeId} {size : Nat} {v : Value} {n : Nat} {xs : List Value} (h : w.ownsRow base e size v n xs) (hm : Mod S w w') (hS : ∀ b, v.ownBlock = some b → ¬ S b) : w'.ownsRow base e size v n xs := by
  refine ⟨h.1, ?_⟩
  rcases h.2 with h2 | ⟨g, cap, cur, rfl, hb, hg, r⟩
  · exact .inl h2
  · exact .inr ⟨g, cap, cur, rfl, hb, (hm.block g (Array.getElem?_eq_some_iff.1 hg).1 (hS g rfl)).trans hg, r⟩
theorem row_form {w : World} {base : Nat} {e : TypeId} {size : Nat} {v : Value} {n : Nat} {xs : List Value} (h : w.ownsRow base e size v n xs) : ∃ sp sc, v = .slice sp n sc := by
  rcases h.2 with ⟨rfl, rfl⟩ | ⟨g, cap, cur, rfl, _⟩
  · exact ⟨_, _, rfl⟩
  · exact ⟨_, _, rfl⟩
theorem mod_grown {w w' : World} {row : Option Nat} (h : w.grownBy w' row) : Mod (fun k => some k = row) w w' := ⟨h.os, h.tape, h.output, h.size, fun k hk hs => h.block k hk hs⟩
theorem row_arg {α : Type} {f : α → Value} {e : TypeId} {w : World} {base : Nat} {sp : Option Addr} {sc n : Nat} {q : List α} (h : w.ownsRow base e 1 (.slice sp n sc) n (q.map f)) : ArgRow 1 (fun s => [f s]) w sp n q := by
  have hl : q.length = n := by have := h.1; simpa using this
  refine ⟨hl, fun hp => ?_⟩
  rcases h.2 with ⟨_, h2⟩ | ⟨b, cap, cur, h1, _, hg, _, _, _, ht⟩
  · omega
  · injection h1 with h1 _ _
    refine ⟨b, 0, h1, (Array.getElem?_eq_some_iff.1 hg).1, fun i hi j v hv => ?_⟩
    rw [cell_of_row _ _ _ _ _ _ hg, ← Array.getElem?_toList]
    cases j with
    | zero =>
      simp at hv
      have h2 : (cur.toList.take (n * 1))[i]? = cur.toList[i]? := List.getElem?_take_of_lt (by omega)
      rw [show 0 + i * 1 + 0 = i by omega, ← h2, ht, ← hv]
      simp [hi]
    | succ j => simp at hv
/-- An own row behind an own row. -/
theorem wpList_append_rows (w : World) {ops : Array Oper} {rest : List Oper} {o : Oper} {a : Act} {Q : Exit → Act → World → Prop} (hgd : o.guard = none) (s x : Operand) (t : TypeId)
    (ho : o.op = .call { callee := .builtin .append, args := #[s, x], argTypes := #[t, t] })
    (base : Nat) (e : TypeId) (i : TypeInfo) (z : Value) (size bytes : Nat) (ht : Try.prog.underlying t = some (.slice e)) (hi : Try.prog.info? e = some i) (hz : i.zero = some z)
    (hsize : i.size = size) (hby : i.bytes = bytes) (hzs : z.cells.size = size) (hsz : 0 < size)
    (v : Value) (n : Nat) (xs : List Value) (hs : a.eval s = v) (hown : w.ownsRow base e size v n xs)
    (base2 : Nat) (v2 : Value) (m : Nat) (ys : List Value) (hx : a.eval x = v2) (hown2 : w.ownsRow base2 e size v2 m ys) (h1 : ∀ u ∈ ys, u.oneCell' = true)
    (h63 : n + m ≤ maxLen) (hbytes : (n + m) * bytes ≤ 140737488355328) (hbase : base ≤ w.heap.size)
    (h : ∀ v' w', w'.ownsRow base e size v' (n + m) (xs ++ ys) → w.grownBy w' v.ownBlock → (v'.ownBlock = v.ownBlock ∨ v'.ownBlock = some w.heap.size) → wpList Try.prog ops Q rest (a.put o.dst v') w') : wpList Try.prog ops Q (o :: rest) a w := by
  rcases hown2.2 with ⟨rfl, rfl⟩ | ⟨g, cap, cur, rfl, _, hg, hmc, hcm, hcs, htk⟩
  · obtain rfl : ys = [] := List.eq_nil_of_length_eq_zero (by simpa using hown2.1)
    obtain ⟨sp, sc, rfl⟩ := row_form hown
    have hle : n ≤ sc := by
      rcases hown.2 with ⟨h2, h3⟩ | ⟨_, cap, _, h2, _, _, h3, _⟩
      · omega
      · injection h2 with _ _ h2; omega
    refine wpList_plain hgd fun K hK' => ?_
    have hrun := run_append_nothing (P := Try.prog) w t t o.type e i ht hi sp n sc hle (.slice none 0 0) ?_
    · unfold Oper.wp
      simp [execOp, ho, resolve, invoke, builtin, hs, hx, hrun, Result.andThen]
      exact hK' _ _ (h _ w (by simpa using hown) ⟨rfl, rfl, rfl, Nat.le_refl _, fun _ _ _ => rfl⟩ (.inl rfl))
    · exact Src.ofNil w ht 0
  · refine wpList_append_own_at w hgd s x t ho base e i z size bytes ht hi hz hsize hby hzs hsz v n xs hs hown ⟨g, 0, none⟩ m cap ys hx hown2.1 ?_ h1 h63 hbytes hbase fun v' w' a1 a2 _ a4 => h v' w' a1 a2 a4
    exact fun j u hu => hown2.cells (g := g) rfl j u hu
end Go.Proofs.Ytljncbbajhoocaa.RingS
