/-
Package ring at one instance, part 7: its calls, of a row that a call owns: what is in memory from the call's begin on is as it was. No condition but that the row holds a list.
-/
import Derived.Test.YtljncbbajhoocaaRingSNew
namespace Go.Proofs.Ytljncbbajhoocaa.RingS
open Go.RowKit Go.Proofs.Ytljncbbajhoocaa.Args

/-- The row in block R holds q, it and its cells are new since w; what was in memory at w is as it was. -/
structure Own (w wr : World) (R : Nat) (B : Option Nat) (most : Nat) (q : List ByteArray) : Prop where
  ring : Ring wr R B most q
  below : Below w.heap.size w wr
  newR : w.heap.size ≤ R
  newB : ∀ b, B = some b → w.heap.size ≤ b
theorem Own.on {w wr w' : World} {R : Nat} {B : Option Nat} {most : Nat} {q : List ByteArray} (h : Own w wr R B most q) (hb : Below wr.heap.size wr w') : Own w w' R B most q :=
  ⟨h.ring.below hb, h.below.trans (hb.mono h.below.size), h.newR, h.newB⟩
theorem Own.mod {w wr w' : World} {R : Nat} {B B' : Option Nat} {most : Nat} {q q' : List ByteArray} (h : Own w wr R B most q) (hm : Mod (fun k => k = R ∨ some k = B) wr w') (hr : Ring w' R B' most q') (hB : B' = B ∨ ∃ b, B' = some b ∧ wr.heap.size ≤ b) : Own w w' R B' most q' := by
  refine ⟨hr, h.below.trans (hm.below h.below.size (fun k hk => ?_)), h.newR, fun b hb => ?_⟩
  · rcases hk with hk | hk
    · rw [hk]; exact h.newR
    · exact h.newB k hk.symm
  · rcases hB with hB | ⟨c, hc, hcs⟩
    · exact h.newB b (by rw [← hB]; exact hb)
    · rw [hc] at hb; cases hb
      exact Nat.le_trans h.below.size hcs
theorem own_new (w : World) (m r : Int) (k : Nat) (wr : World) (hb : Below w.heap.size w wr) (hk : k ≤ 4096) (h1 : (if (4096 : Int) < m then 4096 else m) = r) (h2 : (if 0 < r then r else 0) = (k : Int)) :
    Calls Try.prog 25 #[.int .i64 m] wr fun e w' => e = .returned (.pointer (some ⟨wr.heap.size, 0, none⟩)) ∧ Own w w' wr.heap.size none k [] :=
  (new_calls m r k wr hk h1 h2).mono fun _ _ ⟨he, hr, hbe⟩ => ⟨he, hr, hb.trans (hbe.mono hb.size), hb.size, fun b h => by cases h⟩
def PutO (w : World) (R : Nat) (most : Nat) (q : List ByteArray) (e : Ending) (w' : World) : Prop := e = .returned (.int .i64 0) ∧ ∃ B', Own w w' R B' most q
theorem own_put (w : World) (R : Nat) (B : Option Nat) (most : Nat) (q : List ByteArray) (x : ByteArray) (wr : World) (h : Own w wr R B most q) (hlt : q.length < most) :
    Calls Try.prog 29 #[.pointer (some ⟨R, 0, none⟩), Value.string x] wr (PutO w R most (q ++ [x])) :=
  (put_calls R B most q x wr h.ring hlt).mono fun _ _ ⟨he, B', hr, hB, hm⟩ => ⟨he, B', h.mod hm hr hB⟩
theorem own_put_full (w : World) (R : Nat) (B : Option Nat) (most : Nat) (q : List ByteArray) (x : ByteArray) (wr : World) (h : Own w wr R B most q) (hlt : q.length = most) :
    Calls Try.prog 29 #[.pointer (some ⟨R, 0, none⟩), Value.string x] wr fun e w' => e = .returned (.int .i64 7) ∧ Own w w' R B most q :=
  (put_calls_full R B most q x wr h.ring hlt).mono fun _ _ ⟨he, m, hw⟩ => ⟨he, by rw [hw]; exact h.on (below_drewN (Below.refl _ _) _)⟩
theorem own_take (w : World) (R : Nat) (B : Option Nat) (most : Nat) (q : List ByteArray) (x : ByteArray) (wr : World) (h : Own w wr R B most (x :: q)) :
    Calls Try.prog 27 #[.pointer (some ⟨R, 0, none⟩)] wr fun e w' => e = .returned (.tuple #[Value.string x, .int .i64 0]) ∧ Own w w' R B most q :=
  (take_calls R B most q x wr h.ring).mono fun _ _ ⟨he, hr, hm⟩ => ⟨he, h.mod hm hr (.inl rfl)⟩
theorem own_take_none (w : World) (R : Nat) (B : Option Nat) (most : Nat) (wr : World) (h : Own w wr R B most ([] : List ByteArray)) :
    Calls Try.prog 27 #[.pointer (some ⟨R, 0, none⟩)] wr fun e w' => e = .returned (.tuple #[(.string ⟨#[]⟩), .int .i64 9]) ∧ Own w w' R B most ([] : List ByteArray) :=
  (take_none R most B wr h.ring).mono fun _ _ ⟨he, hw⟩ => ⟨he, by rw [← hw]; exact h⟩
theorem own_len (w : World) (R : Nat) (B : Option Nat) (most : Nat) (q : List ByteArray) (wr : World) (h : Own w wr R B most q) :
    Calls Try.prog 39 #[.pointer (some ⟨R, 0, none⟩)] wr fun e w' => e = .returned (.int .i64 (q.length : Int)) ∧ Own w w' R B most q :=
  (len_ring R B most q wr h.ring).mono fun _ _ ⟨he, hw⟩ => ⟨he, by rw [← hw]; exact h⟩
theorem own_room (w : World) (R : Nat) (B : Option Nat) (most : Nat) (q : List ByteArray) (wr : World) (h : Own w wr R B most q) :
    Calls Try.prog 26 #[.pointer (some ⟨R, 0, none⟩)] wr fun e w' => e = .returned (.int .i64 ((most - q.length : Nat) : Int)) ∧ Own w w' R B most q :=
  (room_ring R B most q wr h.ring).mono fun _ _ ⟨he, m, hw⟩ => ⟨he, by rw [hw]; exact h.on (below_drewN (Below.refl _ _) _)⟩
end Go.Proofs.Ytljncbbajhoocaa.RingS
