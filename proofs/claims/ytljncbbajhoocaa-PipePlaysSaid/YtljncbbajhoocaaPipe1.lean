/-
Package pipe: a pipe that a call owns: the row of texts and three counts; what each call leaves. Conditions: the counts within a million, texts of at most 1000 bytes where bits are turned.
-/
import Derived.Test.YtljncbbajhoocaaRingSClone
import Derived.Test.YtljncbbajhoocaaFlip
namespace Go.Proofs.Ytljncbbajhoocaa.Pipe
open Go.RowKit Go.Proofs.Ytljncbbajhoocaa.Args Go.Proofs.Ytljncbbajhoocaa.RingS Go.Proofs.Ytljncbbajhoocaa.Crc
open Go.Proofs.YtljncbbajhoocaaW.PrintMore
attribute [local go_sem] max2_int min2_int max_two min_two

/-- The pipe in block P: its row in block R holds q; so many were put, came, and did not. It is new since w. -/
structure POwn (w wr : World) (P R : Nat) (B : Option Nat) (k : Nat) (q : List ByteArray) (a b c : Nat) : Prop where
  own : Own w wr R B k q
  blk : wr.heap[P]? = some (.cells #[.pointer (some ⟨R, 0, none⟩), .int .i64 a, .int .i64 b, .int .i64 c] 87 (0, 0))
  newP : w.heap.size ≤ P
  far : ¬ (P = R ∨ some P = B)
section
variable {w wr w' : World} {P R : Nat} {B B' : Option Nat} {k : Nat} {q q' : List ByteArray} {a b c : Nat}
theorem POwn.lt (h : POwn w wr P R B k q a b c) : P < wr.heap.size := (Array.getElem?_eq_some_iff.1 h.blk).1
theorem POwn.on (h : POwn w wr P R B k q a b c) (hb : Below wr.heap.size wr w') : POwn w w' P R B k q a b c :=
  ⟨h.own.on hb, (hb.block P h.lt).trans h.blk, h.newP, h.far⟩
theorem POwn.ring (h : POwn w wr P R B k q a b c) (hm : Mod (fun j => j = R ∨ some j = B) wr w') (hr : Ring w' R B' k q') (hB : B' = B ∨ ∃ b, B' = some b ∧ wr.heap.size ≤ b) : POwn w w' P R B' k q' a b c := by
  refine ⟨h.own.mod hm hr hB, (hm.block P h.lt h.far).trans h.blk, h.newP, fun hc => ?_⟩
  have hlt := h.lt
  rcases hB with hB | ⟨d, hB, hd⟩
  · rw [hB] at hc; exact h.far hc
  · rcases hc with hc | hc
    · exact h.far (.inl hc)
    · rw [hB] at hc; injection hc with hc; omega
theorem POwn.c0 (h : POwn w wr P R B k q a b c) : wr.cell? ⟨P, 0, none⟩ = some (.pointer (some ⟨R, 0, none⟩)) := by rw [cell_of_row _ _ _ _ _ _ h.blk]; rfl
theorem POwn.c1 (h : POwn w wr P R B k q a b c) : wr.cell? ⟨P, 1, none⟩ = some (.int .i64 a) := by rw [cell_of_row _ _ _ _ _ _ h.blk]; rfl
theorem POwn.c2 (h : POwn w wr P R B k q a b c) : wr.cell? ⟨P, 2, none⟩ = some (.int .i64 b) := by rw [cell_of_row _ _ _ _ _ _ h.blk]; rfl
theorem POwn.c3 (h : POwn w wr P R B k q a b c) : wr.cell? ⟨P, 3, none⟩ = some (.int .i64 c) := by rw [cell_of_row _ _ _ _ _ _ h.blk]; rfl
theorem POwn.free (h : POwn w wr P R B k q a b c) (j : Nat) : wr.frozen? ⟨P, j, none⟩ = false := frozen_of_row _ _ _ _ _ h.blk
theorem POwn.set (h : POwn w wr P R B k q a b c) (j : Nat) (v : Value) (a' b' c' : Nat) (he : (#[.pointer (some ⟨R, 0, none⟩), .int .i64 a, .int .i64 b, .int .i64 c] : Array Value).setIfInBounds j v = #[.pointer (some ⟨R, 0, none⟩), .int .i64 a', .int .i64 b', .int .i64 c']) : POwn w (wr.setCell ⟨P, j, none⟩ v) P R B k q a' b' c' := by
  have hb : ∀ i, i ≠ P → (wr.setCell ⟨P, j, none⟩ v).heap[i]? = wr.heap[i]? := fun i hi => Below.heap_setCell wr ⟨P, j, none⟩ v i (fun e => hi e)
  refine ⟨⟨h.own.ring.on (hb R (fun e => h.far (.inl e.symm))) (fun d hd => hb d (fun e => h.far (.inr (by rw [hd, e])))), h.own.below.setCell h.newP _, h.own.newR, h.own.newB⟩, ?_, h.newP, h.far⟩
  rw [heap_setCell_same _ _ _ _ _ _ h.blk, he]
/-- What a call leaves, and what it answers. -/
def PO (w : World) (P R k : Nat) (q : List ByteArray) (a b c : Nat) (v : Value) (e : Ending) (w' : World) : Prop := e = .returned v ∧ ∃ B', POwn w w' P R B' k q a b c
theorem ring_put (x : ByteArray) (h : POwn w wr P R B k q a b c) (hl : q.length < k) : Calls Try.prog 29 #[.pointer (some ⟨R, 0, none⟩), .string x] wr (PO w P R k (q ++ [x]) a b c (.int .i64 0)) :=
  (put_calls R B k q x wr h.own.ring hl).mono fun _ _ ⟨he, _, hr, hB, hm⟩ => ⟨he, _, h.ring hm hr hB⟩
theorem ring_put_full (x : ByteArray) (h : POwn w wr P R B k q a b c) (hl : q.length = k) : Calls Try.prog 29 #[.pointer (some ⟨R, 0, none⟩), .string x] wr (PO w P R k q a b c (.int .i64 7)) :=
  (put_calls_full R B k q x wr h.own.ring hl).mono fun _ _ ⟨he, m, hw⟩ => ⟨he, B, by rw [hw]; exact h.on (below_drewN (Below.refl _ _) _)⟩
theorem ring_take {x : ByteArray} (h : POwn w wr P R B k (x :: q) a b c) : Calls Try.prog 27 #[.pointer (some ⟨R, 0, none⟩)] wr (PO w P R k q a b c (.tuple #[.string x, .int .i64 0])) :=
  (take_calls R B k q x wr h.own.ring).mono fun _ _ ⟨he, hr, hm⟩ => ⟨he, B, h.ring hm hr (.inl rfl)⟩
theorem ring_take_none (h : POwn w wr P R B k [] a b c) : Calls Try.prog 27 #[.pointer (some ⟨R, 0, none⟩)] wr (PO w P R k [] a b c (.tuple #[.string ⟨#[]⟩, .int .i64 9])) :=
  (take_none R k B wr h.own.ring).mono fun _ _ ⟨he, hw⟩ => ⟨he, B, by rw [← hw]; exact h⟩
theorem pipe_len (h : POwn w wr P R B k q a b c) : Calls Try.prog 39 #[.pointer (some ⟨R, 0, none⟩)] wr (PO w P R k q a b c (.int .i64 (q.length : Int))) :=
  (len_ring R B k q wr h.own.ring).mono fun _ _ ⟨he, hw⟩ => ⟨he, B, by rw [← hw]; exact h⟩
theorem pipe_room (h : POwn w wr P R B k q a b c) : Calls Try.prog 26 #[.pointer (some ⟨R, 0, none⟩)] wr (PO w P R k q a b c (.int .i64 ((k : Int) - (q.length : Int)))) :=
  (room_ring R B k q wr h.own.ring).mono fun _ _ ⟨he, m, hw⟩ => ⟨by rw [he]; have := h.own.ring.1; congr 2; omega, B, by rw [hw]; exact h.on (below_drewN (Below.refl _ _) _)⟩
end
set_option maxHeartbeats 1000000 in
set_option maxRecDepth 100000 in
theorem pipe_put (w wr : World) (P R : Nat) (B : Option Nat) (k : Nat) (q : List ByteArray) (a b c : Nat) (x : ByteArray) (h : POwn w wr P R B k q a b c) (hl : q.length < k) (ha : a ≤ 1000000) :
    Calls Try.prog 51 #[.pointer (some ⟨P, 0, none⟩), .string x] wr (PO w P R k (q ++ [x]) (a + 1) b c (.int .i64 0)) := by
  have H := Lib.hid h
  have c0 := h.c0
  clear h
  go_enter Try.func51, Try.ntmps51
  go_wp2_with fail
  refine (ring_put x H.out hl).mono ?_
  rintro e w1 ⟨rfl, B1, h1⟩
  have H1 := Lib.hid h1
  have k1 := h1.c1
  have f1 := h1.free 1
  clear h1 c0
  go_wp2_with fail
  go_ret
  exact ⟨rfl, B1, H1.out.set 1 _ (a + 1) b c rfl⟩
set_option maxHeartbeats 1000000 in
set_option maxRecDepth 100000 in
theorem pipe_put_full (w wr : World) (P R : Nat) (B : Option Nat) (k : Nat) (q : List ByteArray) (a b c : Nat) (x : ByteArray) (h : POwn w wr P R B k q a b c) (hl : q.length = k) :
    Calls Try.prog 51 #[.pointer (some ⟨P, 0, none⟩), .string x] wr (PO w P R k q a b c (.int .i64 7)) := by
  have H := Lib.hid h
  have HL := Lib.hid hl
  have c0 := h.c0
  clear h hl
  go_enter Try.func51, Try.ntmps51
  go_wp2_with fail
  refine (ring_put_full x H.out HL.out).mono ?_
  rintro e w1 ⟨rfl, B1, h1⟩
  have H1 := Lib.hid h1
  clear h1 c0
  go_wp2_with fail
  go_ret
  exact ⟨rfl, B1, H1.out⟩
set_option maxHeartbeats 1000000 in
set_option maxRecDepth 100000 in
theorem pipe_counts (w wr : World) (P R : Nat) (B : Option Nat) (k : Nat) (q : List ByteArray) (a b c : Nat) (h : POwn w wr P R B k q a b c) :
    Calls Try.prog 53 #[.pointer (some ⟨P, 0, none⟩)] wr (PO w P R k q a b c (.tuple #[.int .i64 a, .int .i64 b, .int .i64 c])) := by
  have H := Lib.hid h
  have c1 := h.c1
  have c2 := h.c2
  have c3 := h.c3
  clear h
  go_enter Try.func53, Try.ntmps53
  go_wp2_with fail
  go_quiet (fail)
  go_wp2_with fail
  go_ret3
  exact ⟨rfl, B, H.out.on (below_drewN (Below.refl _ _) _)⟩
set_option maxHeartbeats 1000000 in
set_option maxRecDepth 100000 in
theorem near_calls (kind at_ mask r1 r2 : Int) (w : World) (h1 : (if (400 : Int) < at_ then 400 else at_) = r1) (h2 : (if (-40 : Int) < r1 then r1 else -40) = r2) :
    Calls Try.prog 49 #[.agg #[.int .i64 kind, .int .i64 at_, .int .u32 mask]] w fun e w' => e = .returned (.agg #[.int .i64 kind, .int .i64 r2, .int .u32 mask]) ∧ Below w.heap.size w w' := by
  go_enter Try.func49, Try.ntmps49
  go_wp2_with fail
  refine bodyPost_ret (v := .agg #[.int .i64 kind, .int .i64 r2, .int .u32 mask]) (by simp [results, Try.results49, go_sem]) rfl ⟨rfl, ?_⟩
  repeat (first | exact Below.refl _ _ | (refine Below.setCell ?_ (by simp) _) | (refine Below.alloc ?_ (by simp) _))
/-- What comes of the first one: the choice's kind, the text as it comes. -/
def TakeO (w : World) (P R k : Nat) (q : List ByteArray) (a b c : Nat) (x y : ByteArray) (e : Ending) (w' : World) : Prop :=
  e = .returned (.tuple #[.string y, .bool true, .bool true]) ∧ ∃ B', (y = x ∧ POwn w w' P R B' k q a (b + 1) c) ∨ (y ≠ x ∧ POwn w w' P R B' k q a b (c + 1))
set_option maxHeartbeats 1000000 in
set_option maxRecDepth 100000 in
theorem pipe_take_none (w wr : World) (P R : Nat) (B : Option Nat) (k : Nat) (a b c : Nat) (kind at_ mask : Int) (h : POwn w wr P R B k [] a b c) :
    Calls Try.prog 52 #[.pointer (some ⟨P, 0, none⟩), .agg #[.int .i64 kind, .int .i64 at_, .int .u32 mask]] wr (PO w P R k [] a b c (.tuple #[.string ⟨#[]⟩, .bool false, .bool false])) := by
  have H0 := Lib.hid (h.on ((Below.refl _ _).alloc (Nat.le_refl _) (.cells #[.int .i64 kind, .int .i64 at_, .int .u32 mask] 77)))
  have c0 := h.c0
  have hlt := h.lt
  clear h
  go_enter Try.func52, Try.ntmps52
  go_wp2_with fail
  refine (ring_take_none H0.out).mono ?_
  rintro e w1 ⟨rfl, B1, h1⟩
  have H1 := Lib.hid h1
  clear h1 c0
  go_wp2_with fail
  go_ret3
  exact ⟨rfl, B1, H1.out⟩
theorem box_far {w wr : World} {P R : Nat} {B : Option Nat} {k : Nat} {q : List ByteArray} {a b c : Nat} (h : POwn w wr P R B k q a b c) : ¬ (wr.heap.size = R ∨ some wr.heap.size = B) := fun hc => by
  rcases hc with hc | hc
  · have := h.own.ring.lt.1; omega
  · have := (h.own.ring.lt.2 _ hc.symm).1; omega
theorem ring_take_x {w wr : World} {P R : Nat} {B : Option Nat} {k : Nat} {q : List ByteArray} {a b c : Nat} {x : ByteArray} {X : Nat} {cs : Array Value} (h : POwn w wr P R B k (x :: q) a b c) (hx : wr.heap[X]? = some (.cells cs 77 (0, 0))) (hf : ¬ (X = R ∨ some X = B)) : Calls Try.prog 27 #[.pointer (some ⟨R, 0, none⟩)] wr (fun e w' => e = .returned (.tuple #[.string x, .int .i64 0]) ∧ ∃ B', POwn w w' P R B' k q a b c ∧ w'.heap[X]? = some (.cells cs 77 (0, 0))) :=
  (take_calls R B k q x wr h.own.ring).mono fun _ _ ⟨he, hr, hm⟩ => ⟨he, B, h.ring hm hr (.inl rfl), (hm.block X (Array.getElem?_eq_some_iff.1 hx).1 hf).trans hx⟩
set_option maxHeartbeats 1000000 in
set_option maxRecDepth 100000 in
theorem pipe_take_lose (w wr : World) (P R : Nat) (B : Option Nat) (k : Nat) (q : List ByteArray) (a b c : Nat) (x : ByteArray) (at_ mask : Int) (h : POwn w wr P R B k (x :: q) a b c) (hc : c ≤ 1000000) :
    Calls Try.prog 52 #[.pointer (some ⟨P, 0, none⟩), .agg #[.int .i64 1, .int .i64 at_, .int .u32 mask]] wr (PO w P R k q a b (c + 1) (.tuple #[.string ⟨#[]⟩, .bool true, .bool false])) := by
  have H0 := Lib.hid (h.on ((Below.refl _ _).alloc (Nat.le_refl _) (.cells #[.int .i64 1, .int .i64 at_, .int .u32 mask] 77)))
  have c0 := h.c0
  have hlt := h.lt
  have hfar := Lib.hid (box_far h)
  clear h
  go_enter Try.func52, Try.ntmps52
  go_wp2_with fail
  refine (ring_take_x H0.out (Go.heap_alloc_new _ _) hfar.out).mono ?_
  rintro e w1 ⟨rfl, B1, h1, hx⟩
  obtain ⟨X, hX⟩ : ∃ X, X = wr.heap.size := ⟨_, rfl⟩
  rw [← hX] at hx ⊢
  have x0 : w1.cell? ⟨X, 0, none⟩ = some (.int .i64 1) := by rw [cell_of_row _ _ _ _ _ _ hx]; rfl
  have x1 : w1.cell? ⟨X, 1, none⟩ = some (.int .i64 at_) := by rw [cell_of_row _ _ _ _ _ _ hx]; rfl
  have x2 : w1.cell? ⟨X, 2, none⟩ = some (.int .u32 mask) := by rw [cell_of_row _ _ _ _ _ _ hx]; rfl
  have H1 := Lib.hid h1
  have k3 := h1.c3
  have f3 := h1.free 3
  clear h1 c0 hx hX x1 x2 hlt
  go_wp2_with fail
  go_ret3
  exact ⟨rfl, B1, H1.out.set 3 _ a b (c + 1) rfl⟩
set_option maxHeartbeats 1000000 in
set_option maxRecDepth 100000 in
theorem pipe_take_carry (w wr : World) (P R : Nat) (B : Option Nat) (k : Nat) (q : List ByteArray) (a b c : Nat) (x : ByteArray) (kind at_ mask : Int) (h : POwn w wr P R B k (x :: q) a b c) (hc : b ≤ 1000000) (hk1 : (kind == 1) = false) (hk2 : (kind == 2) = false) :
    Calls Try.prog 52 #[.pointer (some ⟨P, 0, none⟩), .agg #[.int .i64 kind, .int .i64 at_, .int .u32 mask]] wr (PO w P R k q a (b + 1) c (.tuple #[.string x, .bool true, .bool true])) := by
  have H0 := Lib.hid (h.on ((Below.refl _ _).alloc (Nat.le_refl _) (.cells #[.int .i64 kind, .int .i64 at_, .int .u32 mask] 77)))
  have c0 := h.c0
  have hlt := h.lt
  have hfar := Lib.hid (box_far h)
  clear h
  go_enter Try.func52, Try.ntmps52
  go_wp2_with fail
  refine (ring_take_x H0.out (Go.heap_alloc_new _ _) hfar.out).mono ?_
  rintro e w1 ⟨rfl, B1, h1, hx⟩
  obtain ⟨X, hX⟩ : ∃ X, X = wr.heap.size := ⟨_, rfl⟩
  rw [← hX] at hx ⊢
  have x0 : w1.cell? ⟨X, 0, none⟩ = some (.int .i64 kind) := by rw [cell_of_row _ _ _ _ _ _ hx]; rfl
  have x1 : w1.cell? ⟨X, 1, none⟩ = some (.int .i64 at_) := by rw [cell_of_row _ _ _ _ _ _ hx]; rfl
  have x2 : w1.cell? ⟨X, 2, none⟩ = some (.int .u32 mask) := by rw [cell_of_row _ _ _ _ _ _ hx]; rfl
  have H1 := Lib.hid h1
  have k2 := h1.c2
  have f2 := h1.free 2
  have hxx : (x.toList == x.toList) = true := beq_iff_eq.2 rfl
  clear h1 c0 hx hX x1 x2 hlt
  go_wp2_with fail
  go_ret3
  exact ⟨rfl, B1, H1.out.set 2 _ a (b + 1) c rfl⟩
set_option maxHeartbeats 1000000 in
set_option maxRecDepth 100000 in
theorem pipe_take_spoil (w wr : World) (P R : Nat) (B : Option Nat) (k : Nat) (q : List ByteArray) (a b c : Nat) (x : ByteArray) (at_ mask : Int) (h : POwn w wr P R B k (x :: q) a b c) (hb : b ≤ 1000000) (hc : c ≤ 1000000) (hs : x.size ≤ 1000) (ha : -1000000 ≤ at_) (ha1 : at_ ≤ 1000000) (y : ByteArray) (hy : Hid (y = ⟨(turnTo x at_ mask 32).toArray⟩)) :
    Calls Try.prog 52 #[.pointer (some ⟨P, 0, none⟩), .agg #[.int .i64 2, .int .i64 at_, .int .u32 mask]] wr (TakeO w P R k q a b c x y) := by
  have H0 := Lib.hid (h.on ((Below.refl _ _).alloc (Nat.le_refl _) (.cells #[.int .i64 2, .int .i64 at_, .int .u32 mask] 77)))
  have c0 := h.c0
  have hlt := h.lt
  have hfar := Lib.hid (box_far h)
  clear h
  go_enter Try.func52, Try.ntmps52
  go_wp2_with fail
  refine (ring_take_x H0.out (Go.heap_alloc_new _ _) hfar.out).mono ?_
  rintro e w1 ⟨rfl, B1, h1, hx⟩
  obtain ⟨X, hX⟩ : ∃ X, X = wr.heap.size := ⟨_, rfl⟩
  rw [← hX] at hx ⊢
  have x0 : w1.cell? ⟨X, 0, none⟩ = some (.int .i64 2) := by rw [cell_of_row _ _ _ _ _ _ hx]; rfl
  have x1 : w1.cell? ⟨X, 1, none⟩ = some (.int .i64 at_) := by rw [cell_of_row _ _ _ _ _ _ hx]; rfl
  have x2 : w1.cell? ⟨X, 2, none⟩ = some (.int .u32 mask) := by rw [cell_of_row _ _ _ _ _ _ hx]; rfl
  have H1 := Lib.hid h1
  clear h1 c0 hx hX hlt
  go_wp2_with fail
  refine (flip_calls x at_ mask _ hs ha ha1).mono ?_
  rintro e w2 ⟨rfl, hb2⟩
  have h2 := H1.out.on hb2
  rw [← hy.out]
  have H2 := Lib.hid h2
  have k2 := h2.c2
  have f2 := h2.free 2
  have k3 := h2.c3
  have f3 := h2.free 3
  have x0 : True := trivial
  clear hb2 h2 x1 x2
  by_cases hxy : y.toList = x.toList
  · have hE : (y.toList == x.toList) = true := beq_iff_eq.2 hxy
    have HYX : Hid (y = x) := toList_inj hxy
    clear hxy
    go_wp2_with fail
    go_ret3
    exact ⟨rfl, B1, .inl ⟨HYX.out, H2.out.set 2 _ a (b + 1) c rfl⟩⟩
  · have hE : (y.toList == x.toList) = false := beq_eq_false_iff_ne.2 hxy
    have HYX : Hid (y ≠ x) := fun e => hxy (by rw [e])
    clear hxy
    go_wp2_with fail
    go_ret3
    exact ⟨rfl, B1, .inr ⟨HYX.out, H2.out.set 3 _ a b (c + 1) rfl⟩⟩
set_option maxHeartbeats 1000000 in
set_option maxRecDepth 100000 in
theorem new_calls2 (m r1 : Int) (k : Nat) (w wr : World) (hb : Below w.heap.size w wr) (h1 : (if (256 : Int) < m then 256 else m) = r1) (h2 : (if (1 : Int) < r1 then r1 else 1) = (k : Int)) (hk : k ≤ 256) :
    Calls Try.prog 50 #[.int .i64 m] wr fun e w' => ∃ P R, e = .returned (.pointer (some ⟨P, 0, none⟩)) ∧ POwn w w' P R none k [] 0 0 0 := by
  have HB := Lib.hid hb
  have e3 : Hid ((if (4096 : Int) < (k : Int) then 4096 else (k : Int)) = (k : Int)) := if_neg (by omega)
  have e4 : Hid ((if (0 : Int) < (k : Int) then (k : Int) else 0) = (k : Int)) := by unfold Hid; split <;> omega
  clear hb
  go_enter Try.func50, Try.ntmps50
  go_wp2_with fail
  refine (own_new w k k k wr HB.out (by omega) e3.out e4.out).mono ?_
  rintro e w1 ⟨rfl, h1⟩
  have H1 := Lib.hid h1
  clear h1
  go_wp2_with fail
  go_ret
  refine ⟨_, _, rfl, H1.out.on ((Below.refl _ _).alloc (Nat.le_refl _) _), Go.heap_alloc_new _ _, H1.out.below.size, fun hc => ?_⟩
  have := H1.out.ring.lt.1
  rcases hc with hc | hc
  · omega
  · cases hc
def CloneP (wr : World) (k : Nat) (q : List ByteArray) (a b c : Nat) (e : Ending) (w' : World) : Prop := ∃ P2 R2 B2, e = .returned (.pointer (some ⟨P2, 0, none⟩)) ∧ POwn wr w' P2 R2 B2 k q a b c
set_option maxHeartbeats 2000000 in
set_option maxRecDepth 100000 in
theorem pipe_clone (w wr : World) (P R : Nat) (B : Option Nat) (k : Nat) (q : List ByteArray) (a b c : Nat) (h : POwn w wr P R B k q a b c) :
    Calls Try.prog 54 #[.pointer (some ⟨P, 0, none⟩)] wr (CloneP wr k q a b c) := by
  have hk : ∀ W, Below wr.heap.size wr W → W.cell? ⟨P, 0, none⟩ = some (.pointer (some ⟨R, 0, none⟩)) ∧ W.cell? ⟨P, 1, none⟩ = some (.int .i64 a) ∧ W.cell? ⟨P, 2, none⟩ = some (.int .i64 b) ∧ W.cell? ⟨P, 3, none⟩ = some (.int .i64 c) := fun W hW => by
    have hF := h.on hW
    exact ⟨hF.c0, hF.c1, hF.c2, hF.c3⟩
  have hcl : ∀ W, Below wr.heap.size wr W → Calls Try.prog 64 #[.pointer (some ⟨R, 0, none⟩)] W (CloneO W k q) := fun W hW => clone_calls R B k q W (h.own.ring.below hW)
  have HK := Lib.hid hk
  have HCL := Lib.hid hcl
  clear hk hcl h
  go_enter Try.func54, Try.ntmps54
  go_wp2_with fail
  go_region_held3 (fun W => W.cell? ⟨P, 0, none⟩ = some (.pointer (some ⟨R, 0, none⟩)) ∧ W.cell? ⟨P, 1, none⟩ = some (.int .i64 a) ∧ W.cell? ⟨P, 2, none⟩ = some (.int .i64 b) ∧ W.cell? ⟨P, 3, none⟩ = some (.int .i64 c))
    (first | exact HK.out _ ((Below.refl _ _).drew) | exact HK.out _ (below_drewN (Below.refl _ _) _) | exact HK.out _ HBW.out | exact HK.out _ (HBW.out.drew) | exact HK.out _ (below_drewN HBW.out _) | exact HK.out _ (HBW.out.alloc HBW.out.size _) | exact HK.out _ ((below_drewN HBW.out _).alloc HBW.out.size _) | exact HK.out _ ((HBW.out.alloc HBW.out.size _).drew) | exact HK.out _ (((below_drewN HBW.out _).alloc HBW.out.size _).drew) | exact HK.out _ (below_drewN ((below_drewN HBW.out _).alloc HBW.out.size _) _) | exact HK.out _ (below_drewN (HBW.out.alloc HBW.out.size _) _) | fail)
    (first | (go_at_call 64; ((with_reducible refine (HCL.out _ ?_).mono ?_); (exact (below_drewN (Below.refl _ _) _)); rintro e w1 ⟨R2, B2, rfl, hr, hbel, hg, hgB⟩; have HBW := Lib.hid ((below_drewN (Below.refl wr.heap.size wr) _).trans hbel); have HG : Hid (wr.heap.size ≤ R2) := hg; have HGB : Hid (∀ b, B2 = some b → wr.heap.size ≤ b) := hgB; have HR := Lib.hid hr; clear hg hr hgB hbel)))
  go_wp2_with fail
  go_ret
  refine ⟨_, R2, B2, rfl, ⟨⟨HR.out.below ((Below.refl _ _).alloc (Nat.le_refl _) _), HBW.out.alloc HBW.out.size _, HG.out, HGB.out⟩, Go.heap_alloc_new _ _, HBW.out.size, fun hc => ?_⟩⟩
  rcases hc with hc | hc
  · have := HR.out.lt.1; omega
  · have := (HR.out.lt.2 _ hc.symm).1; omega
end Go.Proofs.Ytljncbbajhoocaa.Pipe
