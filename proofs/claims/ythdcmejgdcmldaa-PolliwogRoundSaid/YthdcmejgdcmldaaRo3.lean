/-
slices.Clone of a row of spans: a row of its own with the same spans. Conditions: lengths within the machine's.
-/
import Derived.Test.YthdcmejgdcmldaaRo2
import Derived.Deep.Upon
import Derived.Deep.MidRow
namespace Go.Proofs.Ythdcmejgdcmldaa.Ro
set_option linter.unusedVariables false
open Go.RowKit Go.Proofs.Ythdcmejgdcmldaa.Args

theorem info42 : (Try.prog.info? 42).map (fun i => (i.zero, i.size, i.bytes)) = some (some (.agg #[.int .i64 0, .int .i64 0]), 2, 16) := by kernel_rfl
def SpsO (w : World) (q : List Sp) (e : Ending) (w' : World) : Prop := ∃ v, e = .returned v ∧ w'.ownsRow w.heap.size 42 2 v q.length (spL q) ∧ Below w.heap.size w w'
theorem sp_one (q : List Sp) : ∀ u ∈ spL q, u.oneCell' = true := by
  intro u hu
  unfold spL at hu
  obtain ⟨y, _, hy⟩ := List.mem_flatMap.1 hu
  simp at hy
  rcases hy with rfl | rfl <;> rfl
theorem wpList_none_more {ops : Array Oper} {rest : List Oper} {o : Oper} {a : Act} {w : World} {Q : Exit → Act → World → Prop} (r : Value) {v1 v2 : Value} {ty : TypeId} (hgd : o.guard = none) (s x : Operand) (ho : o.op = .call { callee := .builtin .append, args := #[s, x], argTypes := #[43, 43] }) (hs : a.eval s = v1) (hx : a.eval x = v2)
    (hrun : (Builtin.append_ #[43, 43] o.type #[v1, v2]).run Try.prog w = .ok r w) (h : wpList Try.prog ops Q rest (a.put o.dst r) w) : wpList Try.prog ops Q (o :: rest) a w :=
  wpList_plain hgd fun K hK' => by
    unfold Oper.wp
    simp only [execOp, ho, resolve, invoke, builtin, Sem.run_bind, Sem.run_pure, Result.andThen_ok, List.map_toArray, List.map_cons, List.map_nil, hs, hx, hrun]
    exact hK' _ _ h
set_option maxHeartbeats 1000000 in
set_option maxRecDepth 100000 in
theorem clone_nil (w : World) : Calls Try.prog 28 #[.slice none 0 0] w (SpsO w []) := by
  have hq : ∀ w' : World, (binOp .eql 43 (.slice none 0 0) (.slice none 0 0)).run Try.prog w' = .ok (.bool true) w' := fun w' => Lib.run_eql_slice_nil w' _ _ none 0 0 0 0 Try.underlying43
  go_enter Try.func28, Try.ntmps28
  go_wp2_with fail
  go_ret
  exact ⟨_, rfl, World.ownsRow_nil _ _ _ _, Below.refl _ _⟩
set_option maxHeartbeats 1000000 in
set_option maxRecDepth 100000 in
theorem clone_some (b off n c : Nat) (q : List Sp) (w : World) (h : Hid (ArgRow 2 spV w (some ⟨b, off, none⟩) n q)) (hn : n ≤ 1000000) (hn0 : 0 < n) : Calls Try.prog 28 #[.slice (some ⟨b, off, none⟩) n c] w (SpsO w q) := by
  obtain ⟨i0, hi0, hz0, hz1, hz2⟩ := info_parts info42
  have HI := Lib.hid hi0
  have HZ0 := Lib.hid hz0
  have HZ1 := Lib.hid hz1
  have HZ2 := Lib.hid hz2
  have hql : (spL q).length = n * 2 := by rw [spL_len, h.out.len]
  have HQL := Lib.hid hql
  have hq : ∀ w' : World, (binOp .eql 43 (.slice (some ⟨b, off, none⟩) n c) (.slice none 0 0)).run Try.prog w' = .ok (.bool false) w' := fun w' => Lib.run_eql_slice_nil w' _ _ (some ⟨b, off, none⟩) n c 0 0 Try.underlying43
  clear hi0 hz0 hz1 hz2 hql
  go_enter Try.func28, Try.ntmps28
  go_wp2_with (at_builtin; refine wpList_append_lies _ rfl _ _ 43 rfl w.heap.size 42 i0 (.agg #[.int .i64 0, .int .i64 0]) 2 16 Try.underlying43 HI.out HZ0.out HZ1.out HZ2.out rfl (by decide) _ 0 [] rfl ?c0 ⟨b, off, none⟩ n c (spL q) rfl HQL.out ?c1 ?c2 hn0 (by unfold maxLen; omega) (by omega) (by simp) _ rfl ?_)
  case c0 => exact ⟨rfl, .inr ⟨w.heap.size, 0, #[], rfl, Nat.le_refl _, by simpa using Go.heap_alloc_new w _, Nat.le_refl _, by decide, rfl, rfl⟩⟩
  case c1 =>
    intro j u hj
    have hjn : j < n * 2 := by have := (List.getElem?_eq_some_iff.1 hj).1; rw [HQL.out] at this; exact this
    obtain ⟨b2, off2, e, hlt, hc⟩ := h.out.form hn0
    injection e with e; injection e with e1 e2
    subst e1 e2
    have hjq : j / 2 < q.length := by rw [h.out.len]; omega
    have hm : ∃ v, (spV q[j / 2])[j % 2]? = some v := by
      have : j % 2 = 0 ∨ j % 2 = 1 := by omega
      rcases this with e | e <;> rw [e] <;> exact ⟨_, rfl⟩
    obtain ⟨v, hv⟩ := hm
    have h1 := spL_get q (j / 2) (j % 2) v hjq hv
    rw [show j / 2 * 2 + j % 2 = j by omega, hj] at h1
    injection h1 with h1
    rw [add_form, ((Below.refl w.heap.size w).alloc (Nat.le_refl _) (.cells #[] 42)).cell (p := ⟨b, off + j, none⟩) hlt, h1]
    have h2 := hc (j / 2) hjq (j % 2) v hv
    rwa [show off + j / 2 * 2 + j % 2 = off + j by omega] at h2
  case c2 => exact sp_one q
  intro g c4 w1 hown hgrow hat _
  have hbel := ((Below.refl w.heap.size w).alloc (Nat.le_refl _) (.cells #[] 42)).grown hgrow (by simp) (fun k hk => by simp [Value.ownBlock] at hk; omega)
  have HOWN : Hid (w1.ownsRow w.heap.size 42 2 (.slice (some ⟨g, 0, none⟩) n c4) q.length (spL q)) := by
    unfold Hid
    rw [h.out.len]
    simpa using hown
  have HBEL := Lib.hid hbel
  clear hown hgrow hat hbel
  go_wp2_with fail
  go_ret
  refine ⟨_, rfl, ?_, HBEL.out⟩
  simpa using HOWN.out
set_option maxHeartbeats 1000000 in
set_option maxRecDepth 100000 in
theorem clone_zero (b off c : Nat) (w : World) : Calls Try.prog 28 #[.slice (some ⟨b, off, none⟩) 0 c] w (SpsO w []) := by
  obtain ⟨i0, hi0, hz0, hz1, hz2⟩ := info_parts info42
  have HI := Lib.hid hi0
  have hq : ∀ w' : World, (binOp .eql 43 (.slice (some ⟨b, off, none⟩) 0 c) (.slice none 0 0)).run Try.prog w' = .ok (.bool false) w' := fun w' => Lib.run_eql_slice_nil w' _ _ (some ⟨b, off, none⟩) 0 c 0 0 Try.underlying43
  have hsrc : Src Try.prog i0.size 43 (.slice (some ⟨b, off, none⟩) 0 c) 0 [] (w.alloc (.cells #[] 42)) := Src.ofSlice _ Try.underlying43 ⟨b, off, none⟩ 0 c [] (by simp) (fun j u hu => by simp at hu) (fun u hu => by cases hu)
  have hrun := run_append_nothing (P := Try.prog) (w.alloc (.cells #[] 42)) 43 43 43 42 i0 Try.underlying43 hi0 (some ⟨w.heap.size, 0, none⟩) 0 0 (Nat.le_refl _) (.slice (some ⟨b, off, none⟩) 0 c) hsrc
  have HRUN := Lib.hid hrun
  clear hi0 hz0 hz1 hz2 hrun hsrc
  go_enter Try.func28, Try.ntmps28
  go_wp2_with (at_builtin; refine wpList_none_more _ rfl _ _ rfl rfl rfl HRUN.out ?_)
  go_wp2_with fail
  go_ret
  exact ⟨_, rfl, ⟨rfl, .inr ⟨w.heap.size, 0, #[], rfl, Nat.le_refl _, by simpa using Go.heap_alloc_new w _, Nat.le_refl _, by decide, rfl, rfl⟩⟩, (Below.refl _ _).alloc (Nat.le_refl _) _⟩
/-- Clone, of whatever row of spans. -/
theorem clone_any {base : Nat} {v : Value} {q : List Sp} {w : World} (h : w.ownsRow base 42 2 v q.length (spL q)) (hn : q.length ≤ 1000000) : Calls Try.prog 28 #[v] w (SpsO w q) := by
  rcases h.2 with ⟨rfl, h2⟩ | ⟨g, cap, cur, rfl, _⟩
  · obtain rfl : q = [] := List.eq_nil_of_length_eq_zero h2
    exact clone_nil w
  · rcases Nat.eq_zero_or_pos q.length with h0 | h0
    · obtain rfl : q = [] := List.eq_nil_of_length_eq_zero h0
      exact clone_zero g 0 cap w
    · exact clone_some g 0 q.length cap q w (arg_of_row rfl h) hn h0
end Go.Proofs.Ythdcmejgdcmldaa.Ro
