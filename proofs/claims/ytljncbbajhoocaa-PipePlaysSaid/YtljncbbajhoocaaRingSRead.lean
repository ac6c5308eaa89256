/-
Package ring at one instance, part 1: the calls that only read: where the i-th one is, how many there are, how many more may be, the first one. Conditions: the row's four fields lie in memory as they are named.
-/
import Derived.Test.YtljncbbajhoocaaArgs
import Derived.Deep.QuietTactic
import Derived.BigQuiet
import Derived.WalkLawsBesides
import Derived.WalkSpells
import Derived.Outline
namespace Go.Proofs.Ytljncbbajhoocaa.RingS
open Go.RowKit Go.Proofs.Ytljncbbajhoocaa.Args

/-- The four fields of a row, in block R. -/
structure Fields (w : World) (R : Nat) (lv : Value) (at_ len most : Nat) : Prop where
  blk : w.heap[R]? = some (.cells #[lv, .int .i64 at_, .int .i64 len, .int .i64 most] 96 (0, 0))
theorem Fields.c0 {w : World} {R : Nat} {lv : Value} {at_ len most : Nat} (h : Fields w R lv at_ len most) : w.cell? ⟨R, 0, none⟩ = some lv := by rw [cell_of_row _ _ _ _ _ _ h.blk]; rfl
theorem Fields.c1 {w : World} {R : Nat} {lv : Value} {at_ len most : Nat} (h : Fields w R lv at_ len most) : w.cell? ⟨R, 1, none⟩ = some (.int .i64 at_) := by rw [cell_of_row _ _ _ _ _ _ h.blk]; rfl
theorem Fields.c2 {w : World} {R : Nat} {lv : Value} {at_ len most : Nat} (h : Fields w R lv at_ len most) : w.cell? ⟨R, 2, none⟩ = some (.int .i64 len) := by rw [cell_of_row _ _ _ _ _ _ h.blk]; rfl
theorem Fields.c3 {w : World} {R : Nat} {lv : Value} {at_ len most : Nat} (h : Fields w R lv at_ len most) : w.cell? ⟨R, 3, none⟩ = some (.int .i64 most) := by rw [cell_of_row _ _ _ _ _ _ h.blk]; rfl
theorem Fields.free {w : World} {R : Nat} {lv : Value} {at_ len most : Nat} (h : Fields w R lv at_ len most) (j : Nat) : w.frozen? ⟨R, j, none⟩ = false := frozen_of_row _ _ _ _ _ h.blk

set_option maxHeartbeats 1000000 in
theorem place_calls (R b n cap at_ len most i : Nat) (w : World) (h : Fields w R (.slice (some ⟨b, 0, none⟩) n cap) at_ len most) (hn : 0 < n) (hs : at_ + i ≤ 1000000) (hn2 : n ≤ 1000000) :
    Calls Try.prog 58 #[.pointer (some ⟨R, 0, none⟩), .int .i64 (i : Int)] w fun e w' => e = .returned (.int .i64 (((at_ + i) % n : Nat) : Int)) ∧ ∃ m, w' = w.drewN m := by
  have h0 := h.c0
  have h1 := h.c1
  have hw : IntKind.i64.wrap ((at_ : Int) + (i : Int)) = (at_ : Int) + (i : Int) := IntWalk.i64_in _ (by omega)
  have hp : (0 : Int) ≤ (at_ : Int) + (i : Int) := by omega
  have hq : ((n : Int) == 0) = false := by rw [beq_eq_false_iff_ne]; omega
  have hr : ((at_ : Int) + (i : Int)).tmod (n : Int) = (((at_ + i) % n : Nat) : Int) := by rw [Int.tmod_eq_emod_of_nonneg hp]; norm_cast
  have hr2 : ((at_ : Int) + (i : Int)) % (n : Int) = (((at_ + i) % n : Nat) : Int) := by norm_cast
  have hb : (((at_ + i) % n : Nat) : Int) < 1000000 := by have := Nat.mod_lt (at_ + i) hn; omega
  generalize hv : (((at_ + i) % n : Nat) : Int) = v at hr hr2 hb ⊢
  have hv0 : 0 ≤ v := by omega
  have hwv : IntKind.i64.wrap v = v := IntWalk.i64_in _ (by omega)
  clear hv
  go_enter Try.func58, Try.ntmps58
  go_wp2
  go_quiet (fail)
  go_wp2
  go_ret
  exact ⟨rfl, _, rfl⟩
set_option maxHeartbeats 1000000 in
theorem room_calls (R at_ len most : Nat) (lv : Value) (w : World) (h : Fields w R lv at_ len most) (hl : len ≤ most) (hm : most ≤ 1000000) :
    Calls Try.prog 26 #[.pointer (some ⟨R, 0, none⟩)] w fun e w' => e = .returned (.int .i64 ((most - len : Nat) : Int)) ∧ ∃ m, w' = w.drewN m := by
  have h2 := h.c2
  have h3 := h.c3
  obtain ⟨d, hd⟩ : ∃ d, d = most - len := ⟨_, rfl⟩
  have hw : IntKind.i64.wrap ((most : Int) - (len : Int)) = (d : Int) := by rw [IntWalk.i64_in _ (by omega)]; omega
  rw [← hd]
  clear hd
  go_enter Try.func26, Try.ntmps26
  go_wp2
  go_quiet (fail)
  go_wp2
  go_ret
  exact ⟨rfl, _, rfl⟩
set_option maxHeartbeats 1000000 in
theorem len_calls (R at_ len most : Nat) (lv : Value) (w : World) (h : Fields w R lv at_ len most) :
    Calls Try.prog 39 #[.pointer (some ⟨R, 0, none⟩)] w fun e w' => e = .returned (.int .i64 (len : Int)) ∧ w = w' := by
  have h2 := h.c2
  go_enter Try.func39, Try.ntmps39
  go_wp2
  go_ret
  exact ⟨rfl, rfl⟩
set_option maxHeartbeats 1000000 in
theorem first_none (R at_ most : Nat) (lv : Value) (w : World) (h : Fields w R lv at_ 0 most) :
    Calls Try.prog 57 #[.pointer (some ⟨R, 0, none⟩)] w fun e w' => e = .returned (.tuple #[(.string ⟨#[]⟩), .int .i64 9]) ∧ w = w' := by
  have h2 := h.c2
  go_enter Try.func57, Try.ntmps57
  go_wp2
  go_ret2
  exact ⟨rfl, rfl⟩
set_option maxHeartbeats 1000000 in
theorem first_some (R b n cap at_ len most : Nat) (v : Value) (w : World) (h : Fields w R (.slice (some ⟨b, 0, none⟩) n cap) at_ len most) (hl : 0 < len) (ha : at_ < n) (hv : w.cell? ⟨b, at_, none⟩ = some v) :
    Calls Try.prog 57 #[.pointer (some ⟨R, 0, none⟩)] w fun e w' => e = .returned (.tuple #[v, .int .i64 0]) ∧ ∃ m, w' = w.drewN m := by
  have h0 := h.c0
  have h1 := h.c1
  have h2 := h.c2
  have hz : ((len : Int) == 0) = false := by rw [beq_eq_false_iff_ne]; omega
  have ha0 : (0 : Int) ≤ (at_ : Int) := by omega
  have ha1 : (at_ : Int) < (n : Int) := by omega
  go_enter Try.func57, Try.ntmps57
  go_wp2
  go_quiet (fail)
  go_wp2
  go_ret2
  exact ⟨rfl, _, rfl⟩
end Go.Proofs.Ytljncbbajhoocaa.RingS
