/-
slices.Clone of texts: the call answers the same list in memory of its own. Conditions: lengths within the machine's.
-/
import Derived.Test.YtjjnhndlollldaaEp5
import Derived.Deep.Upon
namespace Go.Proofs.Ytjjnhndlollldaa.Ep
set_option linter.unusedVariables false
open Go.RowKit Go.Proofs.Ytjjnhndlollldaa.Args

theorem info9c : (Try.prog.info? 9).map (fun i => (i.zero, i.size, i.bytes)) = some (some (.string ⟨#[]⟩), 1, 16) := by kernel_rfl
/-- A copy of a list of texts: nil, or in a new block. -/
def CloneO (w : World) (q : List ByteArray) (e : Ending) (w' : World) : Prop := ∃ v, e = .returned v ∧ w'.ownsRow w.heap.size 9 1 v q.length (q.map Value.string) ∧ Below w.heap.size w w'
theorem arg_of_row {w : World} {base n c : Nat} {s : Option Addr} {q : List ByteArray} (h : w.ownsRow base 9 1 (.slice s n c) n (q.map Value.string)) : ArgRow 1 strV w s n q := by
  have hl : q.length = n := by have := h.1; simpa using this
  refine ⟨hl, fun hp => ?_⟩
  rcases h.2 with ⟨_, h2⟩ | ⟨b, cap, cur, h1, _, hg, _, _, _, ht⟩
  · omega
  · injection h1 with h1 _ _
    refine ⟨b, 0, h1, (Array.getElem?_eq_some_iff.1 hg).1, fun i hi j v hv => ?_⟩
    rw [cell_of_row _ _ _ _ _ _ hg, ← Array.getElem?_toList]
    cases j with
    | zero =>
      simp at hv
      have h2 : (cur.toList.take (n * 1))[i]? = cur.toList[i]? := List.getElem?_take_of_lt (by omega)
      rw [show 0 + i * 1 + 0 = i by omega, ← h2, ht, ← hv]
      simp [hi]
    | succ j => simp at hv
theorem wpList_none_more {ops : Array Oper} {rest : List Oper} {o : Oper} {a : Act} {w : World} {Q : Exit → Act → World → Prop} (r : Value) {v1 v2 : Value} {ty : TypeId} (hgd : o.guard = none) (s x : Operand) (ho : o.op = .call { callee := .builtin .append, args := #[s, x], argTypes := #[45, 45] }) (hs : a.eval s = v1) (hx : a.eval x = v2)
    (hrun : (Builtin.append_ #[45, 45] o.type #[v1, v2]).run Try.prog w = .ok r w) (h : wpList Try.prog ops Q rest (a.put o.dst r) w) : wpList Try.prog ops Q (o :: rest) a w :=
  wpList_plain hgd fun K hK' => by
    unfold Oper.wp
    simp only [execOp, ho, resolve, invoke, builtin, Sem.run_bind, Sem.run_pure, Result.andThen_ok, List.map_toArray, List.map_cons, List.map_nil, hs, hx, hrun]
    exact hK' _ _ h
set_option maxHeartbeats 1000000 in
set_option maxRecDepth 100000 in
theorem clone_nil (w : World) : Calls Try.prog 17 #[.slice none 0 0] w (CloneO w []) := by
  have hq : ∀ w' : World, (binOp .eql 45 (.slice none 0 0) (.slice none 0 0)).run Try.prog w' = .ok (.bool true) w' := fun w' => Lib.run_eql_slice_nil w' _ _ none 0 0 0 0 Try.underlying45
  go_enter Try.func17, Try.ntmps17
  go_wp2_with fail
  go_ret
  exact ⟨_, rfl, World.ownsRow_nil _ _ _ _, Below.refl _ _⟩
set_option maxHeartbeats 1000000 in
set_option maxRecDepth 100000 in
theorem clone_some (b off n c : Nat) (q : List ByteArray) (w : World) (h : Hid (ArgRow 1 strV w (some ⟨b, off, none⟩) n q)) (hn : n ≤ 1000000000000) (hn0 : 0 < n) : Calls Try.prog 17 #[.slice (some ⟨b, off, none⟩) n c] w (CloneO w q) := by
  obtain ⟨i0, hi0, hz0, hz1, hz2⟩ := info_parts info9c
  have HI := Lib.hid hi0
  have HZ0 := Lib.hid hz0
  have HZ1 := Lib.hid hz1
  have HZ2 := Lib.hid hz2
  have hql : (q.map Value.string).length = n * 1 := by rw [List.length_map, h.out.len]; omega
  have HQL := Lib.hid hql
  have hq : ∀ w' : World, (binOp .eql 45 (.slice (some ⟨b, off, none⟩) n c) (.slice none 0 0)).run Try.prog w' = .ok (.bool false) w' := fun w' => Lib.run_eql_slice_nil w' _ _ (some ⟨b, off, none⟩) n c 0 0 Try.underlying45
  clear hi0 hz0 hz1 hz2 hql
  go_enter Try.func17, Try.ntmps17
  go_wp2_with (at_builtin; refine wpList_append_lies _ rfl _ _ 45 rfl w.heap.size 9 i0 (.string ⟨#[]⟩) 1 16 Try.underlying45 HI.out HZ0.out HZ1.out HZ2.out rfl (by decide) _ 0 [] rfl ?c0 ⟨b, off, none⟩ n c (q.map Value.string) rfl HQL.out ?c1 ?c2 hn0 (by unfold maxLen; omega) (by omega) (by simp) _ rfl ?_)
  case c0 => exact ⟨rfl, .inr ⟨w.heap.size, 0, #[], rfl, Nat.le_refl _, by simpa using Go.heap_alloc_new w _, Nat.le_refl _, by decide, rfl, rfl⟩⟩
  case c1 =>
    intro j u hj
    have hjn : j < q.length := by have := (List.getElem?_eq_some_iff.1 hj).1; simpa using this
    obtain ⟨b2, off2, e, hlt, hc⟩ := ArgRow.one h.out hn0
    injection e with e; injection e with e1 e2
    subst e1 e2
    rw [add_form, ((Below.refl w.heap.size w).alloc (Nat.le_refl _) (.cells #[] 9)).cell (p := ⟨b, off + j, none⟩) hlt, hc j hjn]
    rw [List.getElem?_map, List.getElem?_eq_getElem hjn] at hj
    exact hj
  case c2 =>
    intro u hu
    obtain ⟨y, _, rfl⟩ := List.mem_map.1 hu
    rfl
  intro g c4 w1 hown hgrow hat _
  have hbel := ((Below.refl w.heap.size w).alloc (Nat.le_refl _) (.cells #[] 9)).grown hgrow (by simp) (fun k hk => by simp [Value.ownBlock] at hk; omega)
  have HOWN : Hid (w1.ownsRow w.heap.size 9 1 (.slice (some ⟨g, 0, none⟩) n c4) q.length (q.map Value.string)) := by
    unfold Hid
    rw [h.out.len]
    simpa using hown
  have HBEL := Lib.hid hbel
  clear hown hgrow hat hbel
  go_wp2_with fail
  go_ret
  refine ⟨_, rfl, ?_, HBEL.out⟩
  simpa using HOWN.out
set_option maxHeartbeats 1000000 in
set_option maxRecDepth 100000 in
theorem clone_zero (b off c : Nat) (w : World) : Calls Try.prog 17 #[.slice (some ⟨b, off, none⟩) 0 c] w (CloneO w []) := by
  obtain ⟨i0, hi0, hz0, hz1, hz2⟩ := info_parts info9c
  have HI := Lib.hid hi0
  have hq : ∀ w' : World, (binOp .eql 45 (.slice (some ⟨b, off, none⟩) 0 c) (.slice none 0 0)).run Try.prog w' = .ok (.bool false) w' := fun w' => Lib.run_eql_slice_nil w' _ _ (some ⟨b, off, none⟩) 0 c 0 0 Try.underlying45
  have hsrc : Src Try.prog i0.size 45 (.slice (some ⟨b, off, none⟩) 0 c) 0 [] (w.alloc (.cells #[] 9)) := Src.ofSlice _ Try.underlying45 ⟨b, off, none⟩ 0 c [] (by simp) (fun j u hu => by simp at hu) (fun u hu => by cases hu)
  have hrun := run_append_nothing (P := Try.prog) (w.alloc (.cells #[] 9)) 45 45 45 9 i0 Try.underlying45 hi0 (some ⟨w.heap.size, 0, none⟩) 0 0 (Nat.le_refl _) (.slice (some ⟨b, off, none⟩) 0 c) hsrc
  have HRUN := Lib.hid hrun
  clear hi0 hz0 hz1 hz2 hrun hsrc
  go_enter Try.func17, Try.ntmps17
  go_wp2_with (at_builtin; refine wpList_none_more _ rfl _ _ rfl rfl rfl HRUN.out ?_)
  go_wp2_with fail
  go_ret
  exact ⟨_, rfl, ⟨rfl, .inr ⟨w.heap.size, 0, #[], rfl, Nat.le_refl _, by simpa using Go.heap_alloc_new w _, Nat.le_refl _, by decide, rfl, rfl⟩⟩, (Below.refl _ _).alloc (Nat.le_refl _) _⟩
/-- Clone, of whatever row of texts. -/
theorem clone_any {base : Nat} {v : Value} {q : List ByteArray} {w : World} (h : w.ownsRow base 9 1 v q.length (q.map Value.string)) (hn : q.length ≤ 1000000000000) : Calls Try.prog 17 #[v] w (CloneO w q) := by
  rcases h.2 with ⟨rfl, h2⟩ | ⟨g, cap, cur, rfl, _⟩
  · obtain rfl : q = [] := List.eq_nil_of_length_eq_zero h2
    exact clone_nil w
  · rcases Nat.eq_zero_or_pos q.length with h0 | h0
    · obtain rfl : q = [] := List.eq_nil_of_length_eq_zero h0
      exact clone_zero g 0 cap w
    · exact clone_some g 0 q.length cap q w (arg_of_row h) hn h0
end Go.Proofs.Ytjjnhndlollldaa.Ep
