/-
A pipe and a list beside it, as PipePlays holds them: what each call leaves. No condition but that.
-/
import Derived.Test.YtljncbbajhoocaaPipe4
import Derived.Laws.Slices
namespace Go.Proofs.Ytljncbbajhoocaa.Pipe
open Go.RowKit Go.Proofs.Ytljncbbajhoocaa.Args Go.Proofs.Ytljncbbajhoocaa.RingS Go.Proofs.Ytljncbbajhoocaa.Crc

abbrev strV (x : ByteArray) : List Value := [Value.string x]
/-- The pipe holds q; v is a row with ql, in memory of its own. -/
structure PL (w wr : World) (P R : Nat) (B : Option Nat) (k : Nat) (q : List ByteArray) (a b c : Nat) (v : Value) (ql : List ByteArray) : Prop where
  pw : POwn w wr P R B k q a b c
  row : ∃ sp sc, v = .slice sp ql.length sc ∧ ql.length ≤ sc ∧ ArgRow 1 strV wr sp ql.length ql ∧ (0 < ql.length → ∀ b off, sp = some ⟨b, off, none⟩ → ¬ (b = P ∨ b = R ∨ some b = B))
section
variable {w wr w' : World} {P R : Nat} {B B' : Option Nat} {k : Nat} {q q' ql qn : List ByteArray} {a b c a' b' c' : Nat} {v : Value}
theorem PL.chg (h : PL w wr P R B k q a b c v ql) (hp : POwn w w' P R B' k q' a' b' c') (hc : Chg P R B wr w' B') : PL w w' P R B' k q' a' b' c' v ql := by
  obtain ⟨sp, sc, hv, hl, ha, hd⟩ := h.row
  refine ⟨hp, sp, sc, hv, hl, ⟨ha.len, fun hn => ?_⟩, fun hn b off e hk => ?_⟩
  · obtain ⟨b, off, e, hlt, hcc⟩ := ha.form hn
    refine ⟨b, off, e, Nat.lt_of_lt_of_le hlt hc.mod.size, fun i hi j u hu => ?_⟩
    exact (World.cell?_of_block (a := ⟨b, off + i * 1 + j, none⟩) (hc.mod.block b hlt (hd hn b off e))).trans (hcc i hi j u hu)
  · obtain ⟨b2, off2, e2, hlt, _⟩ := ha.form hn
    rw [e] at e2; injection e2 with e2; injection e2 with e2
    subst e2
    rcases hk with hk | hk | hk
    · exact hd hn b off e (.inl hk)
    · exact hd hn b off e (.inr (.inl hk))
    · rcases hc.fresh with hf | ⟨d, hf, hdd⟩
      · exact hd hn b off e (.inr (.inr (by rw [← hf]; exact hk)))
      · rw [hf] at hk; injection hk with hk; omega
theorem PL.on (h : PL w wr P R B k q a b c v ql) (hb : Below wr.heap.size wr w') : PL w w' P R B k q a b c v ql := h.chg (h.pw.on hb) (.of_below hb)
theorem PL.below (h : PL w wr P R B k q a b c v ql) : Below w.heap.size w wr := h.pw.own.below
theorem PL.new (h : PL w wr P R B k q a b c v ql) (hb : Below wr.heap.size wr w') {sp : Option Addr} {sc : Nat} (ho : w'.ownsRow wr.heap.size 9 1 (.slice sp qn.length sc) qn.length (qn.map Value.string)) : PL w w' P R B k q a b c (.slice sp qn.length sc) qn := by
  refine ⟨h.pw.on hb, sp, sc, rfl, ?_, row_arg ho, fun hn b off e hc => ?_⟩
  · rcases ho.2 with ⟨h1, h2⟩ | ⟨g, c, cur, h1, _, _, h2, _⟩
    · omega
    · injection h1 with _ _ h1; omega
  · have hb2 := (row_lt ho b (by rw [e]; rfl)).1
    rcases hc with hc | hc | hc
    · have := h.pw.lt; omega
    · have := h.pw.own.ring.lt.1; omega
    · have := (h.pw.own.ring.lt.2 _ hc.symm).1; omega
theorem PL.nil (h : POwn w wr P R B k q a b c) : PL w wr P R B k q a b c (.slice none 0 0) [] :=
  ⟨h, none, 0, rfl, Nat.le_refl _, ⟨rfl, fun hn => by simp at hn⟩, fun hn => by simp at hn⟩
theorem PL.form (h : PL w wr P R B k q a b c v ql) : ∃ sp sc, v = .slice sp ql.length sc := by
  obtain ⟨sp, sc, hv, _⟩ := h.row
  exact ⟨sp, sc, hv⟩
theorem PL.arg {sp : Option Addr} {n sc : Nat} (h : PL w wr P R B k q a b c (.slice sp n sc) ql) : ArgRow 1 strV wr sp ql.length ql := by
  obtain ⟨sp2, sc2, hv, hl, ha, hd⟩ := h.row
  injection hv with hv1 hv2 hv3
  subst hv1
  exact ha
theorem PL.at {sp : Option Addr} {n sc : Nat} (h : PL w wr P R B k q a b c (.slice sp n sc) ql) (hp : 0 < ql.length) : ∃ b off, sp = some ⟨b, off, none⟩ ∧ ∀ i (hi : i < ql.length), wr.cell? ⟨b, off + i, none⟩ = some (.string ql[i]) := by
  obtain ⟨b, off, e, _, hc⟩ := ArgRow.one h.arg hp
  exact ⟨b, off, e, hc⟩
theorem PL.tail {x : ByteArray} {sp : Option Addr} {sc : Nat} (h : PL w wr P R B k q a b c (.slice sp (ql.length + 1) sc) (x :: ql)) :
    ∃ sp2, (∀ w' : World, (Instr.slice 33 (.slice sp (ql.length + 1) sc) (some (.int .i64 1)) none none).run Try.prog w' = .ok (.slice sp2 ql.length (sc - 1)) w') ∧ PL w wr P R B k q a b c (.slice sp2 ql.length (sc - 1)) ql := by
  obtain ⟨sp2, sc2, hv, hl, ha, hd⟩ := h.row
  injection hv with hv1 hv2 hv3
  subst hv1 hv3
  obtain ⟨b, off, rfl, hlt, hc⟩ := ArgRow.one ha (by simp)
  simp only [List.length_cons] at hl
  refine ⟨if sc = 1 then some ⟨b, off, none⟩ else some ⟨b, off + 1, none⟩, fun w' => ?_, h.pw, _, _, rfl, by omega, ⟨rfl, fun hn => ?_⟩, fun hn b2 off2 e => ?_⟩
  · obtain ⟨i0, hi0, _, hz1, _⟩ := info_parts infoE
    have he : Try.prog.elem 33 = 9 := by kernel_rfl
    have hsz : (sizeOf (Try.prog.elem 33)).run Try.prog w' = .ok 1 w' := by rw [he]; simp [sizeOf, typeInfo, hi0, hz1]
    rw [run_slice_l w' 33 (some ⟨b, off, none⟩) (ql.length + 1) sc (by rw [he]; exact Try.underlying33) .i64 1 (by omega) (by omega), hsz]
    have hs : (some (⟨b, off, none⟩ : Addr)).map (·.add (1 * 1)) = some ⟨b, off + 1, none⟩ := by simp [Addr.add]
    show Result.ok (Value.slice (if sc = 1 then some ⟨b, off, none⟩ else (some (⟨b, off, none⟩ : Addr)).map (·.add (1 * 1))) (ql.length + 1 - 1) (sc - 1)) w' = _
    rw [hs]
    rfl
  · rw [if_neg (by omega)]
    refine ⟨b, off + 1, rfl, hlt, fun i hi j u hu => ?_⟩
    have h1 := hc (i + 1) (by simpa using hi)
    cases j with
    | zero =>
      simp at hu
      rw [show off + 1 + i * 1 + 0 = off + (i + 1) by omega, h1, ← hu]
      simp
    | succ j => simp at hu
  · rw [if_neg (by omega)] at e
    injection e with e; injection e with e
    subst e
    exact hd (by simp) b off rfl
/-- All, and the list beside. -/
def AllL (w : World) (P R : Nat) (B : Option Nat) (k : Nat) (q : List ByteArray) (a b c : Nat) (v : Value) (ql : List ByteArray) (e : Ending) (w' : World) : Prop := ∃ sp sc, e = .returned (.slice sp q.length sc) ∧ ArgRow 1 strV w' sp q.length q ∧ PL w w' P R B k q a b c v ql
theorem pl_all (h : PL w wr P R B k q a b c v ql) : Calls Try.prog 55 #[.pointer (some ⟨R, 0, none⟩)] wr (AllL w P R B k q a b c v ql) :=
  (all_form R B k q wr h.pw.own.ring).mono fun _ _ ⟨sp, sc, he, ho, hb⟩ => ⟨sp, sc, he, row_arg ho, h.on hb⟩
end
/-- A list copied into a new, empty row; and one text more. -/
theorem wpList_copy_new {ops : Array Oper} {rest : List Oper} {o : Oper} {a : Act} {Q : Exit → Act → World → Prop} (w3 : World) (hgd : o.guard = none) (s x : Operand)
    (ho : o.op = .call { callee := .builtin .append, args := #[s, x], argTypes := #[33, 33] }) (sp : Option Addr) (sc : Nat) (q : List ByteArray)
    (hs : a.eval s = .slice (some ⟨w3.heap.size, 0, none⟩) 0 0) (hx : a.eval x = .slice sp q.length sc) (hr : ArgRow 1 strV w3 sp q.length q) (hq : q.length ≤ 4096)
    (h : ∀ v W, W.ownsRow w3.heap.size 9 1 v q.length (q.map Value.string) → Below w3.heap.size w3 W → wpList Try.prog ops Q rest (a.put o.dst v) W) : wpList Try.prog ops Q (o :: rest) a (w3.alloc (.cells #[] 9)) := by
  obtain ⟨i0, hi0, hz0, hz1, hz2⟩ := info_parts infoE
  have hown : (w3.alloc (.cells #[] 9)).ownsRow w3.heap.size 9 1 (.slice (some ⟨w3.heap.size, 0, none⟩) 0 0) 0 [] := ⟨rfl, .inr ⟨w3.heap.size, 0, #[], rfl, Nat.le_refl _, by simpa using Go.heap_alloc_new w3 _, Nat.le_refl _, by decide, rfl, rfl⟩⟩
  have hb0 : Below w3.heap.size w3 (w3.alloc (.cells #[] 9)) := (Below.refl _ _).alloc (Nat.le_refl _) _
  rcases Nat.eq_zero_or_pos q.length with hq0 | hq0
  · obtain rfl : q = [] := List.eq_nil_of_length_eq_zero hq0
    have hsrc : Src Try.prog i0.size 33 (.slice sp 0 sc) 0 [] (w3.alloc (.cells #[] 9)) := by
      cases sp with
      | none => exact Src.ofNil _ Try.underlying33 sc
      | some ad => exact Src.ofSlice _ Try.underlying33 ad 0 sc [] (by simp) (fun j u hu => by simp at hu) (fun u hu => by cases hu)
    have hrun := run_append_nothing (P := Try.prog) (w3.alloc (.cells #[] 9)) 33 33 o.type 9 i0 Try.underlying33 hi0 (some ⟨w3.heap.size, 0, none⟩) 0 0 (Nat.le_refl _) (.slice sp 0 sc) hsrc
    refine wpList_plain hgd fun K hK' => ?_
    unfold Oper.wp
    simp only [execOp, ho, resolve, invoke, builtin, Sem.run_bind, Sem.run_pure, Result.andThen_ok, List.map_toArray, List.map_cons, List.map_nil, hs, hx, List.length_nil, hrun]
    exact hK' _ _ (h _ _ hown hb0)
  · obtain ⟨b, off, rfl, hbl, hcl⟩ := ArgRow.one hr hq0
    refine wpList_append_own_at _ hgd s x 33 ho w3.heap.size 9 i0 (.string ⟨#[]⟩) 1 16 Try.underlying33 hi0 hz0 hz1 hz2 rfl (by decide) _ 0 [] hs hown ⟨b, off, none⟩ q.length sc (q.map Value.string) hx (by simp) (fun j u hu => ?_) (fun u hu => ?_) (by unfold maxLen; omega) (by omega) (by simp) fun v' w' a1 a2 _ a4 => h v' w' ?_ ?_
    · rw [add_form, hb0.cell (p := ⟨b, off + j, none⟩) hbl]
      have hj : j < q.length := by have := (List.getElem?_eq_some_iff.1 hu).1; simpa using this
      rw [hcl j hj]
      rw [List.getElem?_map, List.getElem?_eq_getElem hj] at hu
      exact hu
    · obtain ⟨y, _, rfl⟩ := List.mem_map.1 hu; rfl
    · simpa using a1
    · exact hb0.grown a2 (by simp) (fun k hk => (row_lt hown k hk).1)
end Go.Proofs.Ytljncbbajhoocaa.Pipe
