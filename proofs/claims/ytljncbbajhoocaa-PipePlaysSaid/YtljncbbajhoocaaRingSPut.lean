/-
Package ring at one instance, part 3: what is written: grow, Put, Take. No condition but that the row holds a list.
-/
import Derived.Test.YtljncbbajhoocaaRingSHold
import Derived.Test.YtljncbbajhoocaaWMore
import Derived.Laws.CopyOwn
import Derived.RegionTactic
import Derived.BigRegion
namespace Go.Proofs.Ytljncbbajhoocaa.RingS
open Go.RowKit Go.Proofs.Ytljncbbajhoocaa.Args Go.Proofs.YtljncbbajhoocaaW.PrintMore
attribute [local go_sem] max2_int min2_int max_two min_two

set_option maxHeartbeats 1000000 in
theorem all_none (R most : Nat) (w : World) (h : Fields w R (.slice none 0 0) 0 0 most) :
    Calls Try.prog 55 #[.pointer (some ⟨R, 0, none⟩)] w fun e w' => e = .returned (.slice none 0 0) ∧ w = w' := by
  have h2 := h.c2
  go_enter Try.func55, Try.ntmps55
  go_wp2
  go_loop [3, 4, 9] (fun v _ i => i = .int .i64 0 ∧ v = .slice none 0 0) (fun _ _ _ => 0)
  case atStart => exact ⟨rfl, rfl⟩
  case round =>
    obtain ⟨rfl, rfl⟩ := hrel
    go_wp2
    go_ret
    exact ⟨rfl, rfl⟩
/-- All, of whatever row. -/
theorem all_calls (R : Nat) (B : Option Nat) (most : Nat) (q : List ByteArray) (w : World) (h : Ring w R B most q) :
    Calls Try.prog 55 #[.pointer (some ⟨R, 0, none⟩)] w fun e w' => ∃ v, e = .returned v ∧ w'.ownsRow w.heap.size 9 1 v q.length (q.map Value.string) ∧ Below w.heap.size w w' := by
  obtain ⟨h1, h2, h3⟩ := h
  rcases h3 with ⟨_, rfl, e3⟩ | ⟨b, at_, n, cap, cur, _, e2, e3, e4, e5, e6, e7, e8, e9⟩
  · exact (all_none R most w e3).mono fun e w' ⟨he, hw⟩ => ⟨_, he, by rw [← hw]; exact World.ownsRow_nil _ _ _ _, by rw [← hw]; exact Below.refl _ _⟩
  · exact all_some R b n cap at_ most cur q w e3 e4 (by omega) e6 e8 e9

/-- A world may be forgotten but for what is known of it. -/
theorem end_world {F : World → Prop} {Q : Exit → Act → World → Prop} {e : Exit} {a : Act} {X : World} (hX : F X) (h : ∀ W, F W → Q e a W) : Q e a X := h X hX
theorem code_world {F : World → Prop} {P : Program} {c : Code} {Q : Exit → Act → World → Prop} {a : Act} {X : World} (hX : F X) (h : ∀ W, F W → Code.wp P c Q a W) : Code.wp P c Q a X := h X hX
theorem calls_world {F : World → Prop} {P : Program} {f : FuncId} {args : Array Value} {Q : Ending → World → Prop} {X : World} (hX : F X) (h : ∀ W, F W → Calls P f args W Q) : Calls P f args X Q := h X hX

/-- The row's block and its cells', and what has turned since the world w0. -/
structure St (S : Nat → Prop) (w0 : World) (R b : Nat) (lv : Value) (at_ len most : Nat) (cur : Array Value) (W : World) : Prop where
  fld : Fields W R lv at_ len most
  blk : W.heap[b]? = some (.cells cur 9 (0, 0))
  mod : Mod S w0 W
theorem St.drewN {S : Nat → Prop} {w0 W : World} {R b : Nat} {lv : Value} {at_ len most : Nat} {cur : Array Value} (h : St S w0 R b lv at_ len most cur W) (m : Nat) : St S w0 R b lv at_ len most cur (W.drewN m) :=
  ⟨⟨h.fld.blk⟩, h.blk, ⟨h.mod.os, h.mod.tape, h.mod.output, h.mod.size, h.mod.block⟩⟩
theorem St.drew {S : Nat → Prop} {w0 W : World} {R b : Nat} {lv : Value} {at_ len most : Nat} {cur : Array Value} (h : St S w0 R b lv at_ len most cur W) : St S w0 R b lv at_ len most cur W.drew := h.drewN 1
theorem Mod.setCell {S : Nat → Prop} {w0 W : World} (h : Mod S w0 W) {a : Addr} (v : Value) (ha : S a.block ∨ w0.heap.size ≤ a.block) : Mod S w0 (W.setCell a v) :=
  ⟨h.os, h.tape, h.output, by simpa using h.size, fun k hk hs => by
    have hne : k ≠ a.block := by
      intro e
      rcases ha with ha | ha
      · exact hs (e ▸ ha)
      · omega
    rw [heap_setCell_other W a k v hne]
    exact h.block k hk hs⟩
theorem St.setb {S : Nat → Prop} {w0 W : World} {R b : Nat} {lv : Value} {at_ len most : Nat} {cur : Array Value} (h : St S w0 R b lv at_ len most cur W) (i : Nat) (v : Value) (hne : b ≠ R) (hS : S b ∨ w0.heap.size ≤ b) :
    St S w0 R b lv at_ len most (cur.setIfInBounds i v) (W.setCell ⟨b, i, none⟩ v) :=
  ⟨h.fld.on (heap_setCell_other _ _ _ _ (fun e => hne e.symm)), heap_setCell_same _ _ _ _ _ _ h.blk, h.mod.setCell _ hS⟩
theorem St.set0 {S : Nat → Prop} {w0 W : World} {R b : Nat} {lv : Value} {at_ len most : Nat} {cur : Array Value} (h : St S w0 R b lv at_ len most cur W) (v : Value) (hne : b ≠ R) (hS : S R ∨ w0.heap.size ≤ R) :
    St S w0 R b v at_ len most cur (W.setCell ⟨R, 0, none⟩ v) :=
  ⟨⟨by rw [heap_setCell_same _ _ _ _ _ _ h.fld.blk]; rfl⟩, (heap_setCell_other _ _ _ _ hne).trans h.blk, h.mod.setCell _ hS⟩
theorem St.set1 {S : Nat → Prop} {w0 W : World} {R b : Nat} {lv : Value} {at_ len most : Nat} {cur : Array Value} (h : St S w0 R b lv at_ len most cur W) (a : Nat) (hne : b ≠ R) (hS : S R ∨ w0.heap.size ≤ R) :
    St S w0 R b lv a len most cur (W.setCell ⟨R, 1, none⟩ (.int .i64 (a : Int))) :=
  ⟨⟨by rw [heap_setCell_same _ _ _ _ _ _ h.fld.blk]; rfl⟩, (heap_setCell_other _ _ _ _ hne).trans h.blk, h.mod.setCell _ hS⟩
theorem St.set2 {S : Nat → Prop} {w0 W : World} {R b : Nat} {lv : Value} {at_ len most : Nat} {cur : Array Value} (h : St S w0 R b lv at_ len most cur W) (l : Nat) (hne : b ≠ R) (hS : S R ∨ w0.heap.size ≤ R) :
    St S w0 R b lv at_ l most cur (W.setCell ⟨R, 2, none⟩ (.int .i64 (l : Int))) :=
  ⟨⟨by rw [heap_setCell_same _ _ _ _ _ _ h.fld.blk]; rfl⟩, (heap_setCell_other _ _ _ _ hne).trans h.blk, h.mod.setCell _ hS⟩
theorem St.free {S : Nat → Prop} {w0 W : World} {R b : Nat} {lv : Value} {at_ len most : Nat} {cur : Array Value} (h : St S w0 R b lv at_ len most cur W) (i : Nat) : W.frozen? ⟨b, i, none⟩ = false := frozen_of_row _ _ _ _ _ h.blk

set_option maxHeartbeats 2000000 in
set_option maxRecDepth 100000 in
/-- Take where there is one, on the row's own cells. -/
theorem take_cells (R b n cap at_ len most a1 : Nat) (cur : Array Value) (x : ByteArray) (w : World) (h : St (fun k => k = R ∨ k = b) w R b (.slice (some ⟨b, 0, none⟩) n cap) at_ (len + 1) most cur w) (hne : b ≠ R) (ha : at_ < n) (hn : n ≤ 4096) (hl : len ≤ 4096)
    (hx : cur[at_]? = some (Value.string x)) (ha1 : a1 = (at_ + 1) % n) :
    Calls Try.prog 27 #[.pointer (some ⟨R, 0, none⟩)] w fun e w' => e = .returned (.tuple #[Value.string x, .int .i64 0]) ∧ St (fun k => k = R ∨ k = b) w R b (.slice (some ⟨b, 0, none⟩) n cap) a1 len most (cur.setIfInBounds at_ (.string ⟨#[]⟩)) w' := by
  have hS := Lib.hid h
  have hcell : w.cell? ⟨b, at_, none⟩ = some (Value.string x) := by rw [cell_of_row _ _ _ _ _ _ h.blk]; exact hx
  have HC := Lib.hid hcell
  have HA := Lib.hid ha1
  clear h hcell hx ha1
  go_enter Try.func27, Try.ntmps27
  go_wp2_with fail
  refine (first_some R b n cap at_ (len + 1) most (Value.string x) w hS.out.fld (by omega) ha HC.out).mono ?_
  rintro e w' ⟨rfl, m, rfl⟩
  go_wp2_with fail
  have h0 := hS.out.fld.c0
  have h1 := hS.out.fld.c1
  have hfr := hS.out.free at_
  have hc := HC.out
  have i0 : (0 : Int) ≤ (at_ : Int) := by omega
  have i1 : (at_ : Int) < (n : Int) := by omega
  go_region
  clear h0 h1 hfr hc i0 i1
  refine end_world (F := St (fun k => k = R ∨ k = b) w R b (.slice (some ⟨b, 0, none⟩) n cap) at_ (len + 1) most (cur.setIfInBounds at_ (.string ⟨#[]⟩))) ?_ ?_
  · first | exact (hS.out.setb at_ _ hne (.inl (.inr rfl))).drewN _ | exact (hS.out.setb at_ _ hne (.inl (.inr rfl))).drew | exact ((hS.out.drewN _).setb at_ _ hne (.inl (.inr rfl)))
  intro W1 hS1
  have HS1 := Lib.hid hS1
  clear hS1
  go_wp2_with fail
  refine (place_calls R b n cap at_ (len + 1) most 1 W1 HS1.out.fld (by omega) (by omega) (by omega)).mono ?_
  rintro e w' ⟨rfl, m2, rfl⟩
  rw [← HA.out]
  have f1 := HS1.out.fld.free 1
  have k1 := HS1.out.fld.c1
  have f2 := HS1.out.fld.free 2
  have k2 := HS1.out.fld.c2
  go_wp2_with fail
  go_ret2
  refine ⟨rfl, ?_⟩
  first | exact (((HS1.out.set1 a1 hne (.inl (.inl rfl))).set2 len hne (.inl (.inl rfl))).drewN _) | exact (((HS1.out.drewN _).set1 a1 hne (.inl (.inl rfl))).set2 len hne (.inl (.inl rfl)))
end Go.Proofs.Ytljncbbajhoocaa.RingS
