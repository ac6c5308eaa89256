/-
Package ring at one instance, part 9: the i-th one, how many may be; and the references' Same. No condition but that the row holds a list.
-/
import Derived.Test.YtljncbbajhoocaaRingIClone
import Derived.Test.YtljncbbajhoocaaListsI
namespace Go.Proofs.Ytljncbbajhoocaa.RingI
open Go.RowKit Go.Proofs.Ytljncbbajhoocaa.Args

set_option maxHeartbeats 1000000 in
theorem most_ring (R : Nat) (B : Option Nat) (most : Nat) (q : List Int) (w : World) (h : Ring w R B most q) : Calls Try.prog 44 #[.pointer (some ⟨R, 0, none⟩)] w fun e w' => e = .returned (.int .i64 (most : Int)) ∧ w = w' := by
  obtain ⟨lv, at_, hF⟩ := h.fields
  have h3 := hF.c3
  clear hF h
  go_enter Try.func44, Try.ntmps44
  go_wp2
  go_ret
  exact ⟨rfl, rfl⟩
set_option maxHeartbeats 1000000 in
theorem at_out (R : Nat) (B : Option Nat) (most : Nat) (q : List Int) (i : Int) (w : World) (h : Ring w R B most q) (hi : i < 0 ∨ (q.length : Int) ≤ i) :
    Calls Try.prog 46 #[.pointer (some ⟨R, 0, none⟩), .int .i64 i] w fun e w' => e = .returned (.tuple #[.int .i64 0, .bool false]) ∧ w = w' := by
  obtain ⟨lv, at_, hF⟩ := h.fields
  have h2 := hF.c2
  clear hF h
  by_cases h0 : i < 0
  · clear hi
    go_enter Try.func46, Try.ntmps46
    go_wp2
    go_ret2
    exact ⟨rfl, rfl⟩
  · have hi2 : (q.length : Int) ≤ i := by omega
    clear hi
    go_enter Try.func46, Try.ntmps46
    go_wp2
    go_ret2
    exact ⟨rfl, rfl⟩
set_option maxHeartbeats 2000000 in
set_option maxRecDepth 100000 in
theorem at_in (R : Nat) (B : Option Nat) (most : Nat) (q : List Int) (i : Nat) (x : Int) (w : World) (h : Ring w R B most q) (hi : i < q.length) (hx : q[i] = x) :
    Calls Try.prog 46 #[.pointer (some ⟨R, 0, none⟩), .int .i64 (i : Int)] w fun e w' => e = .returned (.tuple #[.int .i64 x, .bool true]) ∧ ∃ m, w' = w.drewN m := by
  obtain ⟨h1, h2, h3⟩ := h
  rcases h3 with ⟨_, rfl, e3⟩ | ⟨b, at_, n, cap, cur, e1, e2, e3, e4, e5, e6, e7, e8, e9⟩
  · simp at hi
  · obtain ⟨p, hp⟩ : ∃ p, p = (at_ + i) % n := ⟨_, rfl⟩
    have hpn : p < n := by rw [hp]; exact Nat.mod_lt _ (by omega)
    have hcell : w.cell? ⟨b, p, none⟩ = some (.int .i64 x) := by
      rw [cell_of_row w b p cur 3 (0, 0) e4, hp, e9 i hi, hx]
    have hplace : ∀ m, Calls Try.prog 61 #[.pointer (some ⟨R, 0, none⟩), .int .i64 (i : Int)] (w.drewN m) fun e w' => e = .returned (.int .i64 (p : Int)) ∧ ∃ k, w' = (w.drewN m).drewN k := fun m => by
      have h := place_calls R b n cap at_ q.length most i (w.drewN m) (e3.drewN m) (by omega) (by omega) (by omega)
      rw [← hp] at h
      exact h
    have HPL := Lib.hid hplace
    have k0 := e3.c0
    have k2 := e3.c2
    have p0 : (0 : Int) ≤ (p : Int) := by omega
    have p1 : (p : Int) < (n : Int) := by omega
    clear hplace hp hx e3 e4 e5 e9
    go_enter Try.func46, Try.ntmps46
    go_wp2
    go_quiet (first | (go_at_call 61; refine Calls.quiet_of (HPL.out _)))
    go_wp2
    go_ret2
    exact ⟨rfl, _, rfl⟩
theorem drewN_more {w wr : World} (h : ∃ m, wr = w.drewN m) (k : Nat) : ∃ m, wr.drewN k = w.drewN m := by
  obtain ⟨m, rfl⟩ := h
  exact ⟨m + k, by simp [World.drewN, Nat.add_comm, Nat.add_left_comm]⟩
set_option maxHeartbeats 2000000 in
set_option maxRecDepth 100000 in
theorem same_calls (a a2 : Option Addr) (n c c2 : Nat) (q : List Int) (w : World) (h : ArgRow 1 (fun x => [Value.int .i64 x]) w a n q) (h2 : ArgRow 1 (fun x => [Value.int .i64 x]) w a2 n q) (hn : n ≤ 140737488355328) :
    Calls Try.prog 42 #[.slice a n c, .slice a2 n c2] w fun e w' => e = .returned (.bool true) ∧ ∃ m, w' = w.drewN m := by
  have H1 := Lib.hid h
  have H2 := Lib.hid h2
  clear h h2
  go_enter Try.func42, Try.ntmps42
  go_wp2
  go_loopw [5, 13] (fun _ jv wr => ∃ j : Nat, j ≤ n ∧ jv = .int .i64 j ∧ Hid (∃ m, wr = w.drewN m)) (fun _ jv _ => n - (intOf jv).toNat)
  case atStart => exact ⟨0, by omega, rfl, 0, rfl⟩
  case round =>
    obtain ⟨j, hj, rfl, HM⟩ := hrel
    by_cases hjl : j < n
    · obtain ⟨b8, off8, rfl, hbw8, hc8⟩ := ArgRow.one H1.out (by omega)
      obtain ⟨b9, off9, rfl, hbw9, hc9⟩ := ArgRow.one H2.out (by omega)
      have hjq : j < q.length := by rw [H1.out.len]; exact hjl
      obtain ⟨x, hx⟩ : ∃ x, q[j] = x := ⟨_, rfl⟩
      have e8 : wr.cell? ⟨b8, off8 + j, none⟩ = some (.int .i64 x) := by obtain ⟨m, rfl⟩ := HM.out; exact (hc8 j hjq).trans (congrArg (fun q => some (Value.int .i64 q)) hx)
      have e9 : wr.cell? ⟨b9, off9 + j, none⟩ = some (.int .i64 x) := by obtain ⟨m, rfl⟩ := HM.out; exact (hc9 j hjq).trans (congrArg (fun q => some (Value.int .i64 q)) hx)
      clear hc8 hc9 hx hjq
      go_wp2_with fail
      go_quiet (fail)
      go_wp2_with fail
      go_roundw
      case rel => exact ⟨j + 1, by omega, by go_num, drewN_more HM.out _⟩
      case measure => simp [intOf]; omega
    · go_wp2_with fail
      go_ret
      exact ⟨rfl, HM.out⟩
/-- All, of a row that the call owns. -/
def AllO (w wr : World) (R : Nat) (B : Option Nat) (most : Nat) (q : List Int) (e : Ending) (w' : World) : Prop := ∃ sp sc, e = .returned (.slice sp q.length sc) ∧ ArgRow 1 (fun x => [Value.int .i64 x]) w' sp q.length q ∧ Own w w' R B most q ∧ Below wr.heap.size wr w'
theorem own_all (w : World) (R : Nat) (B : Option Nat) (most : Nat) (q : List Int) (wr : World) (h : Own w wr R B most q) : Calls Try.prog 43 #[.pointer (some ⟨R, 0, none⟩)] wr (AllO w wr R B most q) :=
  (all_form R B most q wr h.ring).mono fun _ _ ⟨sp, sc, he, ho, hb⟩ => ⟨sp, sc, he, row_arg ho, h.on hb, hb⟩
def CloneW (w wr : World) (most : Nat) (q : List Int) (e : Ending) (w' : World) : Prop := ∃ R2 B2, e = .returned (.pointer (some ⟨R2, 0, none⟩)) ∧ Own w w' R2 B2 most q ∧ Below wr.heap.size wr w' ∧ wr.heap.size ≤ R2 ∧ (∀ b, B2 = some b → wr.heap.size ≤ b)
theorem own_clone (w : World) (R : Nat) (B : Option Nat) (most : Nat) (q : List Int) (wr : World) (h : Own w wr R B most q) : Calls Try.prog 41 #[.pointer (some ⟨R, 0, none⟩)] wr (CloneW w wr most q) :=
  (clone_calls R B most q wr h.ring).mono fun _ _ ⟨R2, B2, he, hr, hb, h1, h2⟩ => ⟨R2, B2, he, ⟨hr, h.below.trans (hb.mono h.below.size), Nat.le_trans h.below.size h1, fun b hb => Nat.le_trans h.below.size (h2 b hb)⟩, hb, h1, h2⟩
end Go.Proofs.Ytljncbbajhoocaa.RingI
