/-
Package pipe: what a pipe's calls leave of other memory: nothing has turned but the pipe, its row and its cells. Conditions: the counts within a million, texts of at most 1000 bytes where bits are turned.
-/
import Derived.Test.YtljncbbajhoocaaPipe2
import Derived.Test.YtljncbbajhoocaaLists
namespace Go.Proofs.Ytljncbbajhoocaa.Pipe
open Go.RowKit Go.Proofs.Ytljncbbajhoocaa.Args Go.Proofs.Ytljncbbajhoocaa.RingS Go.Proofs.Ytljncbbajhoocaa.Crc
open Go.Proofs.YtljncbbajhoocaaW.PrintMore
attribute [local go_sem] max2_int min2_int max_two min_two

structure Chg (P R : Nat) (B : Option Nat) (wr w' : World) (B' : Option Nat) : Prop where
  mod : Mod (fun j => j = P ∨ j = R ∨ some j = B) wr w'
  fresh : B' = B ∨ ∃ b, B' = some b ∧ wr.heap.size ≤ b
section
variable {w wr w' w2 : World} {P R : Nat} {B B' B2 : Option Nat} {k : Nat} {q q' : List ByteArray} {a b c : Nat}
theorem Chg.of_below (h : Below wr.heap.size wr w') : Chg P R B wr w' B := ⟨Mod.of_below h _, .inl rfl⟩
theorem Chg.of_ring (h : Mod (fun j => j = R ∨ some j = B) wr w') (hB : B' = B ∨ ∃ b, B' = some b ∧ wr.heap.size ≤ b) : Chg P R B wr w' B' := ⟨h.mono (fun _ _ hj => .inr hj), hB⟩
theorem Chg.trans (h : Chg P R B wr w' B') (h2 : Chg P R B' w' w2 B2) : Chg P R B wr w2 B2 := by
  refine ⟨⟨h2.mod.os.trans h.mod.os, h2.mod.tape.trans h.mod.tape, h2.mod.output.trans h.mod.output, Nat.le_trans h.mod.size h2.mod.size, fun i hi hn => (h2.mod.block i (Nat.lt_of_lt_of_le hi h.mod.size) (fun hk => hn ?_)).trans (h.mod.block i hi hn)⟩, ?_⟩
  · rcases hk with hk | hk | hk
    · exact .inl hk
    · exact .inr (.inl hk)
    · rcases h.fresh with hf | ⟨b, hf, hb⟩
      · exact .inr (.inr (by rw [← hf]; exact hk))
      · rw [hf] at hk; injection hk with hk; omega
  · rcases h2.fresh with h2f | ⟨b2, h2f, hb2⟩
    · rw [h2f]; exact h.fresh
    · exact .inr ⟨b2, h2f, Nat.le_trans h.mod.size hb2⟩
theorem Chg.on (h : Chg P R B wr w' B') (hb : Below w'.heap.size w' w2) : Chg P R B wr w2 B' := h.trans (.of_below hb)
theorem Chg.set (h : Chg P R B wr w' B') (j : Nat) (v : Value) : Chg P R B wr (w'.setCell ⟨P, j, none⟩ v) B' := ⟨h.mod.setCell v (.inl (.inl rfl)), h.fresh⟩
/-- What a call leaves, what it answers, and what has turned. -/
def PX (w wr : World) (P R : Nat) (B : Option Nat) (k : Nat) (q : List ByteArray) (a b c : Nat) (v : Value) (e : Ending) (w' : World) : Prop := e = .returned v ∧ ∃ B', POwn w w' P R B' k q a b c ∧ Chg P R B wr w' B'
theorem ring_put' (x : ByteArray) (h : POwn w wr P R B k q a b c) (hl : q.length < k) : Calls Try.prog 29 #[.pointer (some ⟨R, 0, none⟩), .string x] wr (PX w wr P R B k (q ++ [x]) a b c (.int .i64 0)) :=
  (put_calls R B k q x wr h.own.ring hl).mono fun _ _ ⟨he, _, hr, hB, hm⟩ => ⟨he, _, h.ring hm hr hB, .of_ring hm hB⟩
theorem ring_put_full' (x : ByteArray) (h : POwn w wr P R B k q a b c) (hl : q.length = k) : Calls Try.prog 29 #[.pointer (some ⟨R, 0, none⟩), .string x] wr (PX w wr P R B k q a b c (.int .i64 7)) :=
  (put_calls_full R B k q x wr h.own.ring hl).mono fun _ _ ⟨he, m, hw⟩ => ⟨he, B, by rw [hw]; exact h.on (below_drewN (Below.refl _ _) _), by rw [hw]; exact .of_below (below_drewN (Below.refl _ _) _)⟩
theorem ring_take_none' (h : POwn w wr P R B k [] a b c) : Calls Try.prog 27 #[.pointer (some ⟨R, 0, none⟩)] wr (PX w wr P R B k [] a b c (.tuple #[.string ⟨#[]⟩, .int .i64 9])) :=
  (take_none R k B wr h.own.ring).mono fun _ _ ⟨he, hw⟩ => ⟨he, B, by rw [← hw]; exact h, by rw [← hw]; exact .of_below (Below.refl _ _)⟩
theorem ring_take_x' {x : ByteArray} {X : Nat} {cs : Array Value} (h : POwn w wr P R B k (x :: q) a b c) (hx : wr.heap[X]? = some (.cells cs 77 (0, 0))) (hf : ¬ (X = R ∨ some X = B)) : Calls Try.prog 27 #[.pointer (some ⟨R, 0, none⟩)] wr (fun e w' => e = .returned (.tuple #[.string x, .int .i64 0]) ∧ ∃ B', (POwn w w' P R B' k q a b c ∧ Chg P R B wr w' B') ∧ w'.heap[X]? = some (.cells cs 77 (0, 0))) :=
  (take_calls R B k q x wr h.own.ring).mono fun _ _ ⟨he, hr, hm⟩ => ⟨he, B, ⟨h.ring hm hr (.inl rfl), .of_ring hm (.inl rfl)⟩, (hm.block X (Array.getElem?_eq_some_iff.1 hx).1 hf).trans hx⟩
theorem pipe_len' (l : Nat) (h : POwn w wr P R B k q a b c) (hl : q.length = l) : Calls Try.prog 39 #[.pointer (some ⟨R, 0, none⟩)] wr (fun e w' => e = .returned (.int .i64 (l : Int)) ∧ wr = w') := by
  subst hl; exact len_ring R B k q wr h.own.ring
theorem pipe_room' (l : Nat) (h : POwn w wr P R B k q a b c) (hl : q.length = l) : Calls Try.prog 26 #[.pointer (some ⟨R, 0, none⟩)] wr (fun e w' => e = .returned (.int .i64 ((k : Int) - (l : Int))) ∧ ∃ m, w' = wr.drewN m) := by
  subst hl; exact (room_ring R B k q wr h.own.ring).mono fun _ _ ⟨he, hw⟩ => ⟨by rw [he]; have := h.own.ring.1; congr 2; omega, hw⟩
end
def TakeX (w wr : World) (P R : Nat) (B : Option Nat) (k : Nat) (q : List ByteArray) (a b c : Nat) (x y : ByteArray) (e : Ending) (w' : World) : Prop :=
  e = .returned (.tuple #[.string y, .bool true, .bool true]) ∧ ∃ B', Chg P R B wr w' B' ∧ ((y = x ∧ POwn w w' P R B' k q a (b + 1) c) ∨ (y ≠ x ∧ POwn w w' P R B' k q a b (c + 1)))
set_option maxHeartbeats 1000000 in
set_option maxRecDepth 100000 in
theorem pipe_put' (w wr : World) (P R : Nat) (B : Option Nat) (k : Nat) (q : List ByteArray) (a b c : Nat) (x : ByteArray) (h : POwn w wr P R B k q a b c) (hl : q.length < k) (ha : a ≤ 1000000) :
    Calls Try.prog 51 #[.pointer (some ⟨P, 0, none⟩), .string x] wr (PX w wr P R B k (q ++ [x]) (a + 1) b c (.int .i64 0)) := by
  have H := Lib.hid h
  have c0 := h.c0
  clear h
  go_enter Try.func51, Try.ntmps51
  go_wp2_with fail
  refine (ring_put' x H.out hl).mono ?_
  rintro e w1 ⟨rfl, B1, h1, g1⟩
  have H1 := Lib.hid h1
  have G1 := Lib.hid g1
  have k1 := h1.c1
  have f1 := h1.free 1
  clear g1 h1 c0
  go_wp2_with fail
  go_ret
  exact ⟨rfl, B1, H1.out.set 1 _ (a + 1) b c rfl, (G1.out).set 1 _⟩
set_option maxHeartbeats 1000000 in
set_option maxRecDepth 100000 in
theorem pipe_put_full' (w wr : World) (P R : Nat) (B : Option Nat) (k : Nat) (q : List ByteArray) (a b c : Nat) (x : ByteArray) (h : POwn w wr P R B k q a b c) (hl : q.length = k) :
    Calls Try.prog 51 #[.pointer (some ⟨P, 0, none⟩), .string x] wr (PX w wr P R B k q a b c (.int .i64 7)) := by
  have H := Lib.hid h
  have HL := Lib.hid hl
  have c0 := h.c0
  clear h hl
  go_enter Try.func51, Try.ntmps51
  go_wp2_with fail
  refine (ring_put_full' x H.out HL.out).mono ?_
  rintro e w1 ⟨rfl, B1, h1, g1⟩
  have H1 := Lib.hid h1
  have G1 := Lib.hid g1
  clear g1 h1 c0
  go_wp2_with fail
  go_ret
  exact ⟨rfl, B1, H1.out, G1.out⟩
set_option maxHeartbeats 1000000 in
set_option maxRecDepth 100000 in
theorem pipe_take_none' (w wr : World) (P R : Nat) (B : Option Nat) (k : Nat) (a b c : Nat) (kind at_ mask : Int) (h : POwn w wr P R B k [] a b c) :
    Calls Try.prog 52 #[.pointer (some ⟨P, 0, none⟩), .agg #[.int .i64 kind, .int .i64 at_, .int .u32 mask]] wr (PX w wr P R B k [] a b c (.tuple #[.string ⟨#[]⟩, .bool false, .bool false])) := by
  have H0 := Lib.hid (h.on ((Below.refl _ _).alloc (Nat.le_refl _) (.cells #[.int .i64 kind, .int .i64 at_, .int .u32 mask] 77)))
  have c0 := h.c0
  have hlt := h.lt
  clear h
  go_enter Try.func52, Try.ntmps52
  go_wp2_with fail
  refine (ring_take_none' H0.out).mono ?_
  rintro e w1 ⟨rfl, B1, h1, g1⟩
  have H1 := Lib.hid h1
  have G1 := Lib.hid g1
  clear g1 h1 c0
  go_wp2_with fail
  go_ret3
  exact ⟨rfl, B1, H1.out, (Chg.of_below ((Below.refl _ _).alloc (Nat.le_refl _) _)).trans G1.out⟩
set_option maxHeartbeats 1000000 in
set_option maxRecDepth 100000 in
theorem pipe_take_lose' (w wr : World) (P R : Nat) (B : Option Nat) (k : Nat) (q : List ByteArray) (a b c : Nat) (x : ByteArray) (at_ mask : Int) (h : POwn w wr P R B k (x :: q) a b c) (hc : c ≤ 1000000) :
    Calls Try.prog 52 #[.pointer (some ⟨P, 0, none⟩), .agg #[.int .i64 1, .int .i64 at_, .int .u32 mask]] wr (PX w wr P R B k q a b (c + 1) (.tuple #[.string ⟨#[]⟩, .bool true, .bool false])) := by
  have H0 := Lib.hid (h.on ((Below.refl _ _).alloc (Nat.le_refl _) (.cells #[.int .i64 1, .int .i64 at_, .int .u32 mask] 77)))
  have c0 := h.c0
  have hlt := h.lt
  have hfar := Lib.hid (box_far h)
  clear h
  go_enter Try.func52, Try.ntmps52
  go_wp2_with fail
  refine (ring_take_x' H0.out (Go.heap_alloc_new _ _) hfar.out).mono ?_
  rintro e w1 ⟨rfl, B1, ⟨h1, g1⟩, hx⟩
  obtain ⟨X, hX⟩ : ∃ X, X = wr.heap.size := ⟨_, rfl⟩
  rw [← hX] at hx ⊢
  have x0 : w1.cell? ⟨X, 0, none⟩ = some (.int .i64 1) := by rw [cell_of_row _ _ _ _ _ _ hx]; rfl
  have x1 : w1.cell? ⟨X, 1, none⟩ = some (.int .i64 at_) := by rw [cell_of_row _ _ _ _ _ _ hx]; rfl
  have x2 : w1.cell? ⟨X, 2, none⟩ = some (.int .u32 mask) := by rw [cell_of_row _ _ _ _ _ _ hx]; rfl
  have H1 := Lib.hid h1
  have G1 := Lib.hid g1
  have k3 := h1.c3
  have f3 := h1.free 3
  clear g1 h1 c0 hx hX x1 x2 hlt
  go_wp2_with fail
  go_ret3
  exact ⟨rfl, B1, H1.out.set 3 _ a b (c + 1) rfl, ((Chg.of_below ((Below.refl _ _).alloc (Nat.le_refl _) _)).trans G1.out).set 3 _⟩
set_option maxHeartbeats 1000000 in
set_option maxRecDepth 100000 in
theorem pipe_take_carry' (w wr : World) (P R : Nat) (B : Option Nat) (k : Nat) (q : List ByteArray) (a b c : Nat) (x : ByteArray) (kind at_ mask : Int) (h : POwn w wr P R B k (x :: q) a b c) (hc : b ≤ 1000000) (hk1 : (kind == 1) = false) (hk2 : (kind == 2) = false) :
    Calls Try.prog 52 #[.pointer (some ⟨P, 0, none⟩), .agg #[.int .i64 kind, .int .i64 at_, .int .u32 mask]] wr (PX w wr P R B k q a (b + 1) c (.tuple #[.string x, .bool true, .bool true])) := by
  have H0 := Lib.hid (h.on ((Below.refl _ _).alloc (Nat.le_refl _) (.cells #[.int .i64 kind, .int .i64 at_, .int .u32 mask] 77)))
  have c0 := h.c0
  have hlt := h.lt
  have hfar := Lib.hid (box_far h)
  clear h
  go_enter Try.func52, Try.ntmps52
  go_wp2_with fail
  refine (ring_take_x' H0.out (Go.heap_alloc_new _ _) hfar.out).mono ?_
  rintro e w1 ⟨rfl, B1, ⟨h1, g1⟩, hx⟩
  obtain ⟨X, hX⟩ : ∃ X, X = wr.heap.size := ⟨_, rfl⟩
  rw [← hX] at hx ⊢
  have x0 : w1.cell? ⟨X, 0, none⟩ = some (.int .i64 kind) := by rw [cell_of_row _ _ _ _ _ _ hx]; rfl
  have x1 : w1.cell? ⟨X, 1, none⟩ = some (.int .i64 at_) := by rw [cell_of_row _ _ _ _ _ _ hx]; rfl
  have x2 : w1.cell? ⟨X, 2, none⟩ = some (.int .u32 mask) := by rw [cell_of_row _ _ _ _ _ _ hx]; rfl
  have H1 := Lib.hid h1
  have G1 := Lib.hid g1
  have k2 := h1.c2
  have f2 := h1.free 2
  have hxx : (x.toList == x.toList) = true := beq_iff_eq.2 rfl
  clear g1 h1 c0 hx hX x1 x2 hlt
  go_wp2_with fail
  go_ret3
  exact ⟨rfl, B1, H1.out.set 2 _ a (b + 1) c rfl, ((Chg.of_below ((Below.refl _ _).alloc (Nat.le_refl _) _)).trans G1.out).set 2 _⟩
set_option maxHeartbeats 1000000 in
set_option maxRecDepth 100000 in
theorem pipe_take_spoil' (w wr : World) (P R : Nat) (B : Option Nat) (k : Nat) (q : List ByteArray) (a b c : Nat) (x : ByteArray) (at_ mask : Int) (h : POwn w wr P R B k (x :: q) a b c) (hb : b ≤ 1000000) (hc : c ≤ 1000000) (hs : x.size ≤ 1000) (ha : -1000000 ≤ at_) (ha1 : at_ ≤ 1000000) (y : ByteArray) (hy : Hid (y = ⟨(turnTo x at_ mask 32).toArray⟩)) :
    Calls Try.prog 52 #[.pointer (some ⟨P, 0, none⟩), .agg #[.int .i64 2, .int .i64 at_, .int .u32 mask]] wr (TakeX w wr P R B k q a b c x y) := by
  have H0 := Lib.hid (h.on ((Below.refl _ _).alloc (Nat.le_refl _) (.cells #[.int .i64 2, .int .i64 at_, .int .u32 mask] 77)))
  have c0 := h.c0
  have hlt := h.lt
  have hfar := Lib.hid (box_far h)
  clear h
  go_enter Try.func52, Try.ntmps52
  go_wp2_with fail
  refine (ring_take_x' H0.out (Go.heap_alloc_new _ _) hfar.out).mono ?_
  rintro e w1 ⟨rfl, B1, ⟨h1, g1⟩, hx⟩
  obtain ⟨X, hX⟩ : ∃ X, X = wr.heap.size := ⟨_, rfl⟩
  rw [← hX] at hx ⊢
  have x0 : w1.cell? ⟨X, 0, none⟩ = some (.int .i64 2) := by rw [cell_of_row _ _ _ _ _ _ hx]; rfl
  have x1 : w1.cell? ⟨X, 1, none⟩ = some (.int .i64 at_) := by rw [cell_of_row _ _ _ _ _ _ hx]; rfl
  have x2 : w1.cell? ⟨X, 2, none⟩ = some (.int .u32 mask) := by rw [cell_of_row _ _ _ _ _ _ hx]; rfl
  have H1 := Lib.hid h1
  have G1 := Lib.hid g1
  clear g1 h1 c0 hx hX hlt
  go_wp2_with fail
  refine (flip_calls x at_ mask _ hs ha ha1).mono ?_
  rintro e w2 ⟨rfl, hb2⟩
  have h2 := H1.out.on hb2
  rw [← hy.out]
  have H2 := Lib.hid h2
  have k2 := h2.c2
  have f2 := h2.free 2
  have k3 := h2.c3
  have f3 := h2.free 3
  have x0 : True := trivial
  have HB2 := Lib.hid hb2
  clear hb2 h2 x1 x2
  by_cases hxy : y.toList = x.toList
  · have hE : (y.toList == x.toList) = true := beq_iff_eq.2 hxy
    have HYX : Hid (y = x) := toList_inj hxy
    clear hxy
    go_wp2_with fail
    go_ret3
    exact ⟨rfl, B1, ((((Chg.of_below ((Below.refl _ _).alloc (Nat.le_refl _) _)).trans G1.out).on HB2.out).set 2 _), .inl ⟨HYX.out, H2.out.set 2 _ a (b + 1) c rfl⟩⟩
  · have hE : (y.toList == x.toList) = false := beq_eq_false_iff_ne.2 hxy
    have HYX : Hid (y ≠ x) := fun e => hxy (by rw [e])
    clear hxy
    go_wp2_with fail
    go_ret3
    exact ⟨rfl, B1, ((((Chg.of_below ((Below.refl _ _).alloc (Nat.le_refl _) _)).trans G1.out).on HB2.out).set 3 _), .inr ⟨HYX.out, H2.out.set 3 _ a b (c + 1) rfl⟩⟩
set_option maxHeartbeats 1000000 in
set_option maxRecDepth 100000 in
theorem pipe_counts' (w wr : World) (P R : Nat) (B : Option Nat) (k : Nat) (q : List ByteArray) (a b c : Nat) (h : POwn w wr P R B k q a b c) :
    Calls Try.prog 53 #[.pointer (some ⟨P, 0, none⟩)] wr (fun e w' => e = .returned (.tuple #[.int .i64 a, .int .i64 b, .int .i64 c]) ∧ ∃ m, w' = wr.drewN m) := by
  have c1 := h.c1
  have c2 := h.c2
  have c3 := h.c3
  clear h
  go_enter Try.func53, Try.ntmps53
  go_wp2_with fail
  go_quiet (fail)
  go_wp2_with fail
  go_ret3
  exact ⟨rfl, _, rfl⟩
/-- A pipe, and a list of texts beside it in memory of its own. -/
structure PW (w wr : World) (P R : Nat) (B : Option Nat) (k : Nat) (q : List ByteArray) (a b c : Nat) (v : Value) (ws : List ByteArray) : Prop where
  pw : POwn w wr P R B k q a b c
  row : wr.ownsRow w.heap.size 9 1 v ws.length (ws.map Value.string)
  far : ∀ j, v.ownBlock = some j → ¬ (j = P ∨ j = R ∨ some j = B)
section
variable {w wr w' w2 : World} {P R : Nat} {B B' B2 : Option Nat} {k : Nat} {q q' ws : List ByteArray} {a b c a' b' c' : Nat} {v : Value}
theorem PW.chg (h : PW w wr P R B k q a b c v ws) (hp : POwn w w' P R B' k q' a' b' c') (hc : Chg P R B wr w' B') : PW w w' P R B' k q' a' b' c' v ws := by
  refine ⟨hp, row_mod h.row hc.mod h.far, fun j hj hk => ?_⟩
  rcases hk with hk | hk | hk
  · exact h.far j hj (.inl hk)
  · exact h.far j hj (.inr (.inl hk))
  · rcases hc.fresh with hf | ⟨d, hf, hd⟩
    · exact h.far j hj (.inr (.inr (by rw [← hf]; exact hk)))
    · have := (row_lt h.row j hj).2; rw [hf] at hk; injection hk with hk; omega
theorem PW.on (h : PW w wr P R B k q a b c v ws) (hb : Below wr.heap.size wr w') : PW w w' P R B k q a b c v ws := h.chg (h.pw.on hb) (.of_below hb)
theorem PW.below (h : PW w wr P R B k q a b c v ws) : Below w.heap.size w wr := h.pw.own.below
/-- The list grows. -/
theorem PW.app {ys : List ByteArray} {v' : Value} (h : PW w wr P R B k q a b c v ws) (hg : wr.grownBy w' v.ownBlock) (ho : w'.ownsRow w.heap.size 9 1 v' (ws.length + ys.length) (ws.map Value.string ++ ys.map Value.string)) (ha : v'.ownBlock = v.ownBlock ∨ v'.ownBlock = some wr.heap.size) : PW w w' P R B k q a b c v' (ws ++ ys) := by
  have hR := h.pw.own.ring.lt
  have hP := h.pw.lt
  have hkeep : ∀ j, j < wr.heap.size → (j = P ∨ j = R ∨ some j = B) → w'.heap[j]? = wr.heap[j]? := fun j hj hs => hg.block j hj (fun e => h.far j e.symm hs)
  refine ⟨⟨⟨h.pw.own.ring.on (hkeep R hR.1 (.inr (.inl rfl))) (fun d hd => hkeep d (hR.2 d hd).1 (.inr (.inr hd.symm))), h.pw.own.below.grown hg h.pw.own.below.size (fun j hj => (row_lt h.row j hj).1), h.pw.own.newR, h.pw.own.newB⟩, (hkeep P hP (.inl rfl)).trans h.pw.blk, h.pw.newP, h.pw.far⟩, by rw [List.length_append, List.map_append]; exact ho, fun j hj hk => ?_⟩
  rcases ha with ha | ha
  · exact h.far j (by rw [← ha]; exact hj) hk
  · rw [ha] at hj; injection hj with hj
    rcases hk with hk | hk | hk
    · omega
    · have := hR.1; omega
    · have := (hR.2 _ hk.symm).1; omega
end
end Go.Proofs.Ytljncbbajhoocaa.Pipe
