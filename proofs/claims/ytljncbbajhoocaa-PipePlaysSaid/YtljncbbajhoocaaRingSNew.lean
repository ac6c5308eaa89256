/-
Package ring at one instance, part 6: New, Clear, how many there are and may be. No condition but that the row holds a list.
-/
import Derived.Test.YtljncbbajhoocaaRingSOps
namespace Go.Proofs.Ytljncbbajhoocaa.RingS
open Go.RowKit Go.Proofs.Ytljncbbajhoocaa.Args Go.Proofs.YtljncbbajhoocaaW.PrintMore
attribute [local go_sem] max2_int min2_int max_two min_two

theorem Ring.fields {w : World} {R : Nat} {B : Option Nat} {most : Nat} {q : List ByteArray} (h : Ring w R B most q) : ∃ lv at_, Fields w R lv at_ q.length most := by
  obtain ⟨_, _, h3⟩ := h
  rcases h3 with ⟨_, rfl, e3⟩ | ⟨b, at_, n, cap, cur, _, _, e3, _⟩
  · exact ⟨_, _, e3⟩
  · exact ⟨_, _, e3⟩
theorem Ring.drewN {w : World} {R : Nat} {B : Option Nat} {most : Nat} {q : List ByteArray} (h : Ring w R B most q) (m : Nat) : Ring (w.drewN m) R B most q := h.below (below_drewN (Below.refl _ _) _)
theorem len_ring (R : Nat) (B : Option Nat) (most : Nat) (q : List ByteArray) (w : World) (h : Ring w R B most q) : Calls Try.prog 39 #[.pointer (some ⟨R, 0, none⟩)] w fun e w' => e = .returned (.int .i64 (q.length : Int)) ∧ w = w' := by
  obtain ⟨lv, at_, hF⟩ := h.fields
  exact len_calls R at_ q.length most lv w hF
theorem room_ring (R : Nat) (B : Option Nat) (most : Nat) (q : List ByteArray) (w : World) (h : Ring w R B most q) : Calls Try.prog 26 #[.pointer (some ⟨R, 0, none⟩)] w fun e w' => e = .returned (.int .i64 ((most - q.length : Nat) : Int)) ∧ ∃ m, w' = w.drewN m := by
  obtain ⟨lv, at_, hF⟩ := h.fields
  exact room_calls R at_ q.length most lv w hF h.1 (by have := h.2.1; omega)

set_option maxHeartbeats 1000000 in
theorem new_calls (m r : Int) (k : Nat) (w : World) (hk : k ≤ 4096) (h1 : (if (4096 : Int) < m then 4096 else m) = r) (h2 : (if 0 < r then r else 0) = (k : Int)) :
    Calls Try.prog 25 #[.int .i64 m] w fun e w' => e = .returned (.pointer (some ⟨w.heap.size, 0, none⟩)) ∧ Ring w' w.heap.size none k [] ∧ Below w.heap.size w w' := by
  go_enter Try.func25, Try.ntmps25
  go_wp2
  go_ret
  exact ⟨rfl, ⟨by simp, hk, .inl ⟨rfl, rfl, ⟨by simpa using Go.heap_alloc_new w _⟩⟩⟩, (Below.refl _ _).alloc (Nat.le_refl _) _⟩

theorem Mod.setR {w0 W : World} {R : Nat} (h : Mod (fun k => k = R) w0 W) (j : Nat) (v : Value) : Mod (fun k => k = R) w0 (W.setCell ⟨R, j, none⟩ v) := h.setCell v (.inl rfl)
/-- What Clear leaves. -/
def Cleared (w : World) (R most : Nat) (q : List ByteArray) (e : Ending) (w' : World) : Prop :=
  ∃ sp sc, e = .returned (.slice sp q.length sc) ∧ w'.ownsRow w.heap.size 9 1 (.slice sp q.length sc) q.length (q.map Value.string) ∧ Ring w' R none most ([] : List ByteArray) ∧ Mod (fun k => k = R) w w'
theorem ownsRow_other {w : World} {base : Nat} {e : TypeId} {size : Nat} {v : Value} {n : Nat} {xs : List Value} (h : w.ownsRow base e size v n xs) {a : Addr} (u : Value) (ha : a.block < base) : (w.setCell a u).ownsRow base e size v n xs := ownsRow_setCell_below h ha u
set_option maxHeartbeats 2000000 in
set_option maxRecDepth 100000 in
theorem clear_calls (R : Nat) (B : Option Nat) (most : Nat) (q : List ByteArray) (w : World) (h : Ring w R B most q) :
    Calls Try.prog 30 #[.pointer (some ⟨R, 0, none⟩)] w (Cleared w R most q) := by
  have HA := Lib.hid (all_form R B most q w h)
  have HH := Lib.hid h
  clear h
  go_enter Try.func30, Try.ntmps30
  go_wp2_with fail
  refine HA.out.mono ?_
  rintro e w1 ⟨sp, sc, rfl, ho, hb⟩
  obtain ⟨lv, at_, hF⟩ := (HH.out.below hb).fields
  have k0 := hF.c0
  have k1 := hF.c1
  have k2 := hF.c2
  have f0 := hF.free 0
  have f1 := hF.free 1
  have f2 := hF.free 2
  have HF := Lib.hid hF
  have HO := Lib.hid ho
  have HB := Lib.hid hb
  clear hF ho hb
  go_wp2_with fail
  go_ret
  have hR := HH.out.lt.1
  refine ⟨sp, sc, rfl, ?_, ⟨by simp, HH.out.2.1, .inl ⟨rfl, rfl, ?_⟩⟩, ?_⟩
  · exact ownsRow_other (ownsRow_other (ownsRow_other HO.out _ hR) _ hR) _ hR
  · constructor
    rw [heap_setCell_same _ _ _ _ _ _ (heap_setCell_same _ _ _ _ _ _ (heap_setCell_same _ _ _ _ _ _ HF.out.blk))]
    rfl
  · exact Mod.setR (Mod.setR (Mod.setR (Mod.of_below HB.out _) _ _) _ _) _ _
end Go.Proofs.Ytljncbbajhoocaa.RingS
