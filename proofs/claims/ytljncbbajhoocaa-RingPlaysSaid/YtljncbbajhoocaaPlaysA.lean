/-
A ring and a list beside it, as RingPlays holds them: what each call leaves. No condition but that.
-/
import Derived.Test.YtljncbbajhoocaaPlay
import Derived.Laws.Slices
namespace Go.Proofs.Ytljncbbajhoocaa.RingI
open Go.RowKit Go.Proofs.Ytljncbbajhoocaa.Args

/-- First, of whatever row. -/
theorem first_ring (R : Nat) (B : Option Nat) (most : Nat) (q : List Int) (x : Int) (w : World) (h : Ring w R B most (x :: q)) :
    Calls Try.prog 45 #[.pointer (some ⟨R, 0, none⟩)] w fun e w' => e = .returned (.tuple #[.int .i64 x, .int .i64 0]) ∧ ∃ m, w' = w.drewN m := by
  obtain ⟨h1, h2, h3⟩ := h
  rcases h3 with ⟨_, h, _⟩ | ⟨b, at_, n, cap, cur, e1, e2, e3, e4, e5, e6, e7, e8, e9⟩
  · cases h
  · have h9 := e9 0 (by simp)
    rw [Nat.add_zero, Nat.mod_eq_of_lt e6] at h9
    exact first_some R b n cap at_ _ most _ w e3 (by simp) e6 (by rw [cell_of_row w b at_ cur 3 (0, 0) e4, h9]; rfl)
theorem first_ring_none (R : Nat) (B : Option Nat) (most : Nat) (w : World) (h : Ring w R B most []) :
    Calls Try.prog 45 #[.pointer (some ⟨R, 0, none⟩)] w fun e w' => e = .returned (.tuple #[.int .i64 0, .int .i64 9]) ∧ w = w' := by
  obtain ⟨lv, at_, hF⟩ := h.fields
  exact first_none R at_ most lv w hF
/-- The ring holds q; v is a row with ql, in memory of its own. -/
structure Pl (w wr : World) (R : Nat) (B : Option Nat) (k : Nat) (X : Option (Nat × Array Value)) (q : List Int) (v : Value) (ql : List Int) : Prop where
  own : Own w wr R B k q
  row : ∃ sp sc, v = .slice sp ql.length sc ∧ ql.length ≤ sc ∧ ArgRow 1 (fun x => [Value.int .i64 x]) wr sp ql.length ql ∧ (0 < ql.length → ∀ b off, sp = some ⟨b, off, none⟩ → ¬ (b = R ∨ some b = B))
  box : ∀ p, X = some p → wr.heap[p.1]? = some (.cells p.2 67 (0, 0)) ∧ ¬ (p.1 = R ∨ some p.1 = B)
theorem Pl.on {w wr w' : World} {R : Nat} {B : Option Nat} {k : Nat} {X : Option (Nat × Array Value)} {q ql : List Int} {v : Value} (h : Pl w wr R B k X q v ql) (hb : Below wr.heap.size wr w') : Pl w w' R B k X q v ql := by
  obtain ⟨sp, sc, hv, hl, ha, hd⟩ := h.row
  exact ⟨h.own.on hb, ⟨sp, sc, hv, hl, ha.below hb (Nat.le_refl _), hd⟩, fun p hp => ⟨(hb.block _ (Array.getElem?_eq_some_iff.1 (h.box p hp).1).1).trans (h.box p hp).1, (h.box p hp).2⟩⟩
theorem Pl.ring {w wr w' : World} {R : Nat} {B B' : Option Nat} {k : Nat} {X : Option (Nat × Array Value)} {q q' ql : List Int} {v : Value} (h : Pl w wr R B k X q v ql) (hm : Mod (fun j => j = R ∨ some j = B) wr w') (hr : Ring w' R B' k q') (hB : B' = B ∨ ∃ b, B' = some b ∧ wr.heap.size ≤ b) : Pl w w' R B' k X q' v ql := by
  obtain ⟨sp, sc, hv, hl, ha, hd⟩ := h.row
  refine ⟨h.own.mod hm hr hB, ⟨sp, sc, hv, hl, ⟨ha.len, fun hn => ?_⟩, fun hn b off e hc => ?_⟩, fun p hp => ⟨(hm.block _ (Array.getElem?_eq_some_iff.1 (h.box p hp).1).1 (h.box p hp).2).trans (h.box p hp).1, fun hc => ?_⟩⟩
  · obtain ⟨b, off, e, hlt, hc⟩ := ha.form hn
    refine ⟨b, off, e, Nat.lt_of_lt_of_le hlt hm.size, fun i hi j u hu => ?_⟩
    exact (World.cell?_of_block (a := ⟨b, off + i * 1 + j, none⟩) (hm.block b hlt (hd hn b off e))).trans (hc i hi j u hu)
  · obtain ⟨b2, off2, e2, hlt, _⟩ := ha.form hn
    rw [e] at e2; injection e2 with e2; injection e2 with e2
    subst e2
    rcases hB with hB | ⟨c, hB, hc2⟩
    · exact hd hn b off e (by rw [← hB]; exact hc)
    · rcases hc with hc | hc
      · exact hd hn b off e (.inl hc)
      · rw [hB] at hc; injection hc with hc; omega
  · have hlt := (Array.getElem?_eq_some_iff.1 (h.box p hp).1).1
    rcases hB with hB | ⟨c, hB, hc2⟩
    · exact (h.box p hp).2 (by rw [← hB]; exact hc)
    · rcases hc with hc | hc
      · exact (h.box p hp).2 (.inl hc)
      · rw [hB] at hc; injection hc with hc; omega
theorem Pl.drop {w wr : World} {R : Nat} {B : Option Nat} {k : Nat} {X : Option (Nat × Array Value)} {q ql : List Int} {v : Value} (h : Pl w wr R B k X q v ql) : Pl w wr R B k none q v ql := ⟨h.own, h.row, fun p hp => by cases hp⟩
theorem Pl.aside {w wr : World} {R : Nat} {B : Option Nat} {k : Nat} {X : Option (Nat × Array Value)} {q ql : List Int} {v : Value} (h : Pl w wr R B k X q v ql) {w' : World} (hb : Below wr.heap.size wr w') (xs : Array Value) (hx : w'.heap[wr.heap.size]? = some (.cells xs 67 (0, 0))) : Pl w w' R B k (some (wr.heap.size, xs)) q v ql :=
  ⟨(h.on hb).own, (h.on hb).row, fun p hp => by
    injection hp with hp
    subst hp
    refine ⟨hx, fun hc => ?_⟩
    rcases hc with hc | hc
    · have := h.own.ring.lt.1; simp only at hc; omega
    · have := (h.own.ring.lt.2 _ hc.symm).1; simp only at this; omega⟩
theorem Pl.new {w wr w' : World} {R : Nat} {B : Option Nat} {k : Nat} {X : Option (Nat × Array Value)} {q ql qn : List Int} {v : Value} (h : Pl w wr R B k X q v ql) (hb : Below wr.heap.size wr w') {sp : Option Addr} {sc : Nat} (ho : w'.ownsRow wr.heap.size 3 1 (.slice sp qn.length sc) qn.length (qn.map (Value.int .i64))) : Pl w w' R B k X q (.slice sp qn.length sc) qn := by
  refine ⟨(h.on hb).own, ⟨sp, sc, rfl, ?_, row_arg ho, fun hn b off e hc => ?_⟩, (h.on hb).box⟩
  · rcases ho.2 with ⟨h1, h2⟩ | ⟨g, c, cur, h1, _, _, h2, _⟩
    · omega
    · injection h1 with _ _ h1; omega
  · have hb2 := (row_lt ho b (by rw [e]; rfl)).1
    rcases hc with hc | hc
    · have := h.own.ring.lt.1; omega
    · have := (h.own.ring.lt.2 _ hc.symm).1; omega
theorem Pl.nil {w wr : World} {R : Nat} {B : Option Nat} {k : Nat} {X : Option (Nat × Array Value)} {q : List Int} (h : Own w wr R B k q) (hx : ∀ p, X = some p → wr.heap[p.1]? = some (.cells p.2 67 (0, 0)) ∧ ¬ (p.1 = R ∨ some p.1 = B)) : Pl w wr R B k X q (.slice none 0 0) [] :=
  ⟨h, ⟨none, 0, rfl, Nat.le_refl _, ⟨rfl, fun hn => by simp at hn⟩, fun hn => by simp at hn⟩, hx⟩
def PlO (w : World) (R k : Nat) (X : Option (Nat × Array Value)) (q : List Int) (v : Value) (ql : List Int) (r : Value) (e : Ending) (w' : World) : Prop := e = .returned r ∧ ∃ B, Pl w w' R B k X q v ql
section
variable {w wr : World} {R : Nat} {B : Option Nat} {k : Nat} {X : Option (Nat × Array Value)} {q ql : List Int} {v : Value}
theorem pl_put (x : Int) (h : Pl w wr R B k X q v ql) (hl : q.length < k) : Calls Try.prog 35 #[.pointer (some ⟨R, 0, none⟩), .int .i64 x] wr (PlO w R k X (q ++ [x]) v ql (.int .i64 0)) :=
  (put_calls R B k q x wr h.own.ring hl).mono fun _ _ ⟨he, _, hr, hB, hm⟩ => ⟨he, _, h.ring hm hr hB⟩
theorem pl_put_full (x : Int) (h : Pl w wr R B k X q v ql) (hl : q.length = k) : Calls Try.prog 35 #[.pointer (some ⟨R, 0, none⟩), .int .i64 x] wr (PlO w R k X q v ql (.int .i64 7)) :=
  (put_calls_full R B k q x wr h.own.ring hl).mono fun _ _ ⟨he, m, hw⟩ => ⟨he, B, by rw [hw]; exact h.on (below_drewN (Below.refl _ _) _)⟩
theorem pl_take {x : Int} (h : Pl w wr R B k X (x :: q) v ql) : Calls Try.prog 36 #[.pointer (some ⟨R, 0, none⟩)] wr (PlO w R k X q v ql (.tuple #[.int .i64 x, .int .i64 0])) :=
  (take_calls R B k q x wr h.own.ring).mono fun _ _ ⟨he, hr, hm⟩ => ⟨he, B, h.ring hm hr (.inl rfl)⟩
theorem pl_take_none (h : Pl w wr R B k X [] v ql) : Calls Try.prog 36 #[.pointer (some ⟨R, 0, none⟩)] wr (PlO w R k X [] v ql (.tuple #[.int .i64 0, .int .i64 9])) :=
  (take_none R k B wr h.own.ring).mono fun _ _ ⟨he, hw⟩ => ⟨he, B, by rw [← hw]; exact h⟩
theorem pl_first {x : Int} (h : Pl w wr R B k X (x :: q) v ql) : Calls Try.prog 45 #[.pointer (some ⟨R, 0, none⟩)] wr (PlO w R k X (x :: q) v ql (.tuple #[.int .i64 x, .int .i64 0])) :=
  (first_ring R B k q x wr h.own.ring).mono fun _ _ ⟨he, m, hw⟩ => ⟨he, B, by rw [hw]; exact h.on (below_drewN (Below.refl _ _) _)⟩
theorem pl_first_none (h : Pl w wr R B k X [] v ql) : Calls Try.prog 45 #[.pointer (some ⟨R, 0, none⟩)] wr (PlO w R k X [] v ql (.tuple #[.int .i64 0, .int .i64 9])) :=
  (first_ring_none R B k wr h.own.ring).mono fun _ _ ⟨he, hw⟩ => ⟨he, B, by rw [← hw]; exact h⟩
theorem pl_at_in (i : Nat) (x : Int) (h : Pl w wr R B k X q v ql) (hi : i < q.length) (hx : q[i] = x) : Calls Try.prog 46 #[.pointer (some ⟨R, 0, none⟩), .int .i64 (i : Int)] wr (PlO w R k X q v ql (.tuple #[.int .i64 x, .bool true])) :=
  (at_in R B k q i x wr h.own.ring hi hx).mono fun _ _ ⟨he, m, hw⟩ => ⟨he, B, by rw [hw]; exact h.on (below_drewN (Below.refl _ _) _)⟩
theorem pl_at_out (i : Int) (h : Pl w wr R B k X q v ql) (hi : i < 0 ∨ (q.length : Int) ≤ i) : Calls Try.prog 46 #[.pointer (some ⟨R, 0, none⟩), .int .i64 i] wr (PlO w R k X q v ql (.tuple #[.int .i64 0, .bool false])) :=
  (at_out R B k q i wr h.own.ring hi).mono fun _ _ ⟨he, hw⟩ => ⟨he, B, by rw [← hw]; exact h⟩
theorem pl_len (h : Pl w wr R B k X q v ql) : Calls Try.prog 37 #[.pointer (some ⟨R, 0, none⟩)] wr (PlO w R k X q v ql (.int .i64 (q.length : Int))) :=
  (len_ring R B k q wr h.own.ring).mono fun _ _ ⟨he, hw⟩ => ⟨he, B, by rw [← hw]; exact h⟩
theorem pl_most (h : Pl w wr R B k X q v ql) : Calls Try.prog 44 #[.pointer (some ⟨R, 0, none⟩)] wr (PlO w R k X q v ql (.int .i64 (k : Int))) :=
  (most_ring R B k q wr h.own.ring).mono fun _ _ ⟨he, hw⟩ => ⟨he, B, by rw [← hw]; exact h⟩
theorem pl_room (h : Pl w wr R B k X q v ql) : Calls Try.prog 38 #[.pointer (some ⟨R, 0, none⟩)] wr (PlO w R k X q v ql (.int .i64 ((k : Int) - (q.length : Int)))) :=
  (room_ring R B k q wr h.own.ring).mono fun _ _ ⟨he, m, hw⟩ => ⟨by rw [he]; have := h.own.ring.1; congr 2; omega, B, by rw [hw]; exact h.on (below_drewN (Below.refl _ _) _)⟩
/-- A new row beside them. -/
def PlRow (w wr : World) (R k : Nat) (X : Option (Nat × Array Value)) (q : List Int) (v : Value) (ql qn : List Int) (e : Ending) (w' : World) : Prop := ∃ sp sc, e = .returned (.slice sp qn.length sc) ∧ ArgRow 1 (fun x => [Value.int .i64 x]) w' sp qn.length qn ∧ wr.heap.size ≤ w'.heap.size ∧ ∃ B, Pl w w' R B k X q v ql
theorem pl_all (h : Pl w wr R B k X q v ql) : Calls Try.prog 43 #[.pointer (some ⟨R, 0, none⟩)] wr (PlRow w wr R k X q v ql q) :=
  (all_form R B k q wr h.own.ring).mono fun _ _ ⟨sp, sc, he, ho, hb⟩ => ⟨sp, sc, he, row_arg ho, hb.size, B, h.on hb⟩
theorem pl_clear (h : Pl w wr R B k X q v ql) : Calls Try.prog 47 #[.pointer (some ⟨R, 0, none⟩)] wr (PlRow w wr R k X [] v ql q) :=
  (clear_calls R B k q wr h.own.ring).mono fun _ w' ⟨sp, sc, he, ho, hr, hm⟩ => by
    refine ⟨sp, sc, he, row_arg ho, hm.size, none, ?_⟩
    obtain ⟨sp2, sc2, hv, hl, ha, hd⟩ := h.row
    refine ⟨⟨hr, h.own.below.trans (hm.below h.own.below.size (fun j hj => by rw [hj]; exact h.own.newR)), h.own.newR, fun b hb => by cases hb⟩, ⟨sp2, sc2, hv, hl, ⟨ha.len, fun hn => ?_⟩, fun hn b off e hc => ?_⟩, fun p hp => ⟨(hm.block _ (Array.getElem?_eq_some_iff.1 (h.box p hp).1).1 (fun hb => (h.box p hp).2 (.inl hb))).trans (h.box p hp).1, fun hc => ?_⟩⟩
    · obtain ⟨b, off, e, hlt, hc⟩ := ha.form hn
      refine ⟨b, off, e, Nat.lt_of_lt_of_le hlt hm.size, fun i hi j u hu => ?_⟩
      exact (World.cell?_of_block (a := ⟨b, off + i * 1 + j, none⟩) (hm.block b hlt (fun hb => hd hn b off e (.inl hb)))).trans (hc i hi j u hu)
    · rcases hc with hc | hc
      · exact hd hn b off e (.inl hc)
      · cases hc
    · rcases hc with hc | hc
      · exact (h.box p hp).2 (.inl hc)
      · cases hc
/-- The list is the ring's. -/
theorem Pl.same {sp : Option Addr} {n sc : Nat} (h : Pl w wr R B k X q v ql) (hr : ArgRow 1 (fun x => [Value.int .i64 x]) wr sp n ql) (hn : n = ql.length) (hz : ql.length ≤ 4096) : Calls Try.prog 42 #[.slice sp n sc, v] wr (PlO w R k X q v ql (.bool true)) := by
  obtain ⟨sp2, sc2, hv, hl, ha, hd⟩ := h.row
  have h2 := h
  rw [hv] at h2 ⊢
  subst hn
  exact (same_calls sp sp2 ql.length sc sc2 ql wr hr ha (by omega)).mono fun _ _ ⟨he, m, hw⟩ => ⟨he, B, by rw [hw]; exact h2.on (below_drewN (Below.refl _ _) _)⟩
theorem Pl.same_drew {sp : Option Addr} {n sc : Nat} (h : Pl w wr R B k X q v ql) (hr : ArgRow 1 (fun x => [Value.int .i64 x]) wr sp n ql) (hn : n = ql.length) (hz : ql.length ≤ 4096) : Calls Try.prog 42 #[.slice sp n sc, v] wr fun e w' => e = .returned (.bool true) ∧ ∃ m, w' = wr.drewN m := by
  obtain ⟨sp2, sc2, hv, hl, ha, hd⟩ := h.row
  rw [hv]
  subst hn
  exact same_calls sp sp2 ql.length sc sc2 ql wr hr ha (by omega)
end
/-- One just like it, beside. -/
theorem clone_own (R : Nat) (B : Option Nat) (most : Nat) (q : List Int) (wr : World) (h : Ring wr R B most q) : Calls Try.prog 41 #[.pointer (some ⟨R, 0, none⟩)] wr fun e w' => ∃ R2 B2, e = .returned (.pointer (some ⟨R2, 0, none⟩)) ∧ Own wr w' R2 B2 most q :=
  (clone_calls R B most q wr h).mono fun _ _ ⟨R2, B2, he, hr, hb, h1, h2⟩ => ⟨R2, B2, he, ⟨hr, hb, h1, h2⟩⟩
theorem Pl.tail {w wr : World} {R : Nat} {B : Option Nat} {k : Nat} {X : Option (Nat × Array Value)} {q ql : List Int} {x : Int} {sp : Option Addr} {sc : Nat} (h : Pl w wr R B k X q (.slice sp (ql.length + 1) sc) (x :: ql)) :
    ∃ sp2, (∀ w' : World, (Instr.slice 53 (.slice sp (ql.length + 1) sc) (some (.int .i64 1)) none none).run Try.prog w' = .ok (.slice sp2 ql.length (sc - 1)) w') ∧ Pl w wr R B k X q (.slice sp2 ql.length (sc - 1)) ql := by
  obtain ⟨sp2, sc2, hv, hl, ha, hd⟩ := h.row
  injection hv with hv1 hv2 hv3
  subst hv1 hv3
  obtain ⟨b, off, rfl, hlt, hc⟩ := ArgRow.one ha (by simp)
  simp only [List.length_cons] at hl
  refine ⟨if sc = 1 then some ⟨b, off, none⟩ else some ⟨b, off + 1, none⟩, fun w' => ?_, h.own, ⟨_, _, rfl, by omega, ⟨rfl, fun hn => ?_⟩, fun hn b2 off2 e => ?_⟩, h.box⟩
  · obtain ⟨i0, hi0, _, hz1, _⟩ := info_parts infoE
    have he : Try.prog.elem 53 = 3 := by kernel_rfl
    have hsz : (sizeOf (Try.prog.elem 53)).run Try.prog w' = .ok 1 w' := by rw [he]; simp [sizeOf, typeInfo, hi0, hz1]
    rw [run_slice_l w' 53 (some ⟨b, off, none⟩) (ql.length + 1) sc (by rw [he]; exact Try.underlying53) .i64 1 (by omega) (by omega), hsz]
    have hs : (some (⟨b, off, none⟩ : Addr)).map (·.add (1 * 1)) = some ⟨b, off + 1, none⟩ := by simp [Addr.add]
    show Result.ok (Value.slice (if sc = 1 then some ⟨b, off, none⟩ else (some (⟨b, off, none⟩ : Addr)).map (·.add (1 * 1))) (ql.length + 1 - 1) (sc - 1)) w' = _
    rw [hs]
    rfl
  · rw [if_neg (by omega)]
    refine ⟨b, off + 1, rfl, hlt, fun i hi j u hu => ?_⟩
    have h1 := hc (i + 1) (by simpa using hi)
    cases j with
    | zero =>
      simp at hu
      rw [show off + 1 + i * 1 + 0 = off + (i + 1) by omega, h1, ← hu]
      simp
    | succ j => simp at hu
  · rw [if_neg (by omega)] at e
    injection e with e; injection e with e
    subst e
    exact hd (by simp) b off rfl
theorem Pl.x0 {w wr : World} {R X : Nat} {B : Option Nat} {k : Nat} {q ql : List Int} {v a b : Value} (h : Pl w wr R B k (some (X, #[a, b])) q v ql) : wr.cell? ⟨X, 0, none⟩ = some a := by rw [cell_of_row _ _ _ _ _ _ (h.box _ rfl).1]; rfl
theorem Pl.x1 {w wr : World} {R X : Nat} {B : Option Nat} {k : Nat} {q ql : List Int} {v a b : Value} (h : Pl w wr R B k (some (X, #[a, b])) q v ql) : wr.cell? ⟨X, 1, none⟩ = some b := by rw [cell_of_row _ _ _ _ _ _ (h.box _ rfl).1]; rfl
theorem Pl.form {w wr : World} {R : Nat} {B : Option Nat} {k : Nat} {X : Option (Nat × Array Value)} {q ql : List Int} {v : Value} (h : Pl w wr R B k X q v ql) : ∃ sp sc, v = .slice sp ql.length sc := by
  obtain ⟨sp, sc, hv, _⟩ := h.row
  exact ⟨sp, sc, hv⟩
theorem Pl.at {w wr : World} {R : Nat} {B : Option Nat} {k : Nat} {X : Option (Nat × Array Value)} {q ql : List Int} {sp : Option Addr} {n sc : Nat} (h : Pl w wr R B k X q (.slice sp n sc) ql) (hp : 0 < ql.length) : ∃ b off, sp = some ⟨b, off, none⟩ ∧ ∀ i (hi : i < ql.length), wr.cell? ⟨b, off + i, none⟩ = some (.int .i64 ql[i]) := by
  obtain ⟨sp2, sc2, hv, hl, ha, hd⟩ := h.row
  injection hv with hv1 hv2 hv3
  subst hv1
  obtain ⟨b, off, e, _, hc⟩ := ArgRow.one ha hp
  exact ⟨b, off, e, hc⟩
end Go.Proofs.Ytljncbbajhoocaa.RingI
