/-
(span.Set).Add: of a row of spans and one more what span.Of makes of them. Conditions: spans within bounds, fewer than a thousand.
-/
import Derived.Test.YthdcmejgdcmldaaRo5
import Derived.Deep.RegionHeld3
import Derived.Deep.RegionLaw
import Derived.BigRegion
import Derived.RegionTactic
namespace Go.Proofs.Ythdcmejgdcmldaa.Ro
set_option linter.unusedVariables false
open Go.RowKit Go.Proofs.Ythdcmejgdcmldaa.Args

def AddO (w : World) (q : List Sp) (x : Sp) (e : Ending) (w' : World) : Prop := OfO w (q ++ [x]) e w'
theorem below_up {B : Nat} {w w1 w2 : World} (h : Below B w w1) (h2 : Below w1.heap.size w1 w2) (hB : B ≤ w.heap.size) : Below B w w2 := h.trans (h2.mono (Nat.le_trans hB h.size))
theorem two_cells (x y : Int) : ∀ u ∈ [Value.int .i64 x, Value.int .i64 y], u.oneCell' = true := by
  intro u hu
  simp at hu
  rcases hu with rfl | rfl <;> rfl
theorem arg_app {w : World} {base c : Nat} {s : Option Addr} {q : List Sp} {x y : Int} (h : w.ownsRow base 42 2 (.slice s (q.length + 1) c) (q.length + 1) (spL q ++ [.int .i64 x, .int .i64 y])) : ArgRow 2 spV w s (q.length + 1) (q ++ [(x, y)]) :=
  arg_of_row (base := base) (c := c) (by simp) (by rw [spL_app]; exact h)
set_option maxHeartbeats 4000000 in
set_option maxRecDepth 100000 in
theorem add_calls1 (base : Nat) (v : Value) (q : List Sp) (x y : Int) (w : World) (h : Hid (w.ownsRow base 42 2 v q.length (spL q))) (hn : q.length ≤ 500) (hq : Hid (∀ x ∈ q, bdB x)) (hx : Hid (bdB (x, y))) :
    Calls Try.prog 21 #[v, .agg #[.int .i64 x, .int .i64 y]] w (AddO w q (x, y)) := by
  obtain ⟨i0, hi, hz0, hz1, hz2⟩ := info_parts info42
  have HI := Lib.hid hi
  have HZ0 := Lib.hid hz0
  have HZ1 := Lib.hid hz1
  have HZ2 := Lib.hid hz2
  clear hi hz0 hz1 hz2
  go_enter Try.func21, Try.ntmps21
  go_wp2_with fail
  refine code_worldB (F := fun W => Below w.heap.size w W ∧ ∃ X, X = w.heap.size ∧ W.heap[X]? = some (.cells #[.int .i64 x, .int .i64 y] 42 (0, 0))) ⟨(Below.refl _ _).alloc (Nat.le_refl _) _, _, rfl, Go.heap_alloc_new _ _⟩ ?_
  rintro W ⟨hW, X, hX, hXA⟩
  rw [← hX]
  have HW := Lib.hid hW
  have HK : Hid (∀ W', Below W.heap.size W W' → W'.cell? ⟨X, 0, none⟩ = some (.int .i64 x) ∧ W'.cell? ⟨X, 1, none⟩ = some (.int .i64 y)) := fun W' hW' => by
    have h1 : W'.heap[X]? = _ := (hW'.block X (Array.getElem?_eq_some_iff.1 hXA).1).trans hXA
    exact ⟨by rw [cell_of_row _ _ _ _ _ _ h1]; rfl, by rw [cell_of_row _ _ _ _ _ _ h1]; rfl⟩
  have HC : Hid (∀ W', Below W.heap.size W W' → Calls Try.prog 28 #[v] W' (fun e w5 => ∃ z0, e = .returned z0 ∧ w5.ownsRow W.heap.size 42 2 z0 q.length (spL q) ∧ Below W.heap.size W w5 ∧ (∀ C, W'.heap[W.heap.size]? = some C → w5.heap[W.heap.size]? = some C))) := fun W' hW' => (clone_any (row_on (row_on h.out hW) hW') (by omega)).mono fun e w5 ⟨z0, he, ho, hb⟩ => ⟨z0, he, row_base ho hW'.size, hW'.trans (hb.mono hW'.size), fun C hC => (hb.block _ (Array.getElem?_eq_some_iff.1 hC).1).trans hC⟩
  have HBD : Hid (∀ x' ∈ q ++ [(x, y)], bdB x') := fun x' hx' => by
    rcases List.mem_append.1 hx' with h1 | h1
    · exact hq.out x' h1
    · simp at h1; subst h1; exact hx.out
  have HXE := Lib.hid hX
  have hbs : w.heap.size ≤ W.heap.size := hW.size
  clear hW hX hXA
  go_region_held3 (fun W' => W'.cell? ⟨X, 0, none⟩ = some (.int .i64 x) ∧ W'.cell? ⟨X, 1, none⟩ = some (.int .i64 y))
    (first | exact HK.out _ (Below.refl _ _).drew | exact HK.out _ (below_drewN (Below.refl _ _) _) | exact HK.out _ ((Below.refl _ _).drew.alloc (Nat.le_refl _) _) | exact HK.out _ ((below_drewN (Below.refl _ _) _).alloc (Nat.le_refl _) _) | exact HK.out _ HB5.out | exact HK.out _ HB7.out | exact HK.out _ HF8.out.2.2.2 | exact HK.out _ (HB5.out.alloc HB5.out.size _) | fail)
    (first
      | (go_at_call_of 28 v; ((with_reducible refine (HC.out _ ?_).mono ?_); (first | exact (Below.refl _ _).drew | exact below_drewN (Below.refl _ _) _ | exact (Below.refl _ _).drew.alloc (Nat.le_refl _) _ | exact (below_drewN (Below.refl _ _) _).alloc (Nat.le_refl _) _); rintro e w5 ⟨z0, rfl, ho5, hb5, hn5⟩; obtain ⟨sz0, cz0, rfl, hcz0⟩ := row_form ho5; have HO5 := Lib.hid ho5; have HB5 := Lib.hid hb5; have HN5 := Lib.hid hn5; clear ho5 hb5 hn5))
      | (refine step_append_lies (o := ⟨some 9, _, _, _, _, _⟩) _ (by rfl) _ _ 43 (by rfl) W.heap.size 42 i0 (.agg #[.int .i64 0, .int .i64 0]) 2 16 Try.underlying43 HI.out HZ0.out HZ1.out HZ2.out (by rfl) (by decide) (.slice sz0 q.length cz0) q.length (spL q) (by rfl) (HO5.out.alloc _) ⟨_, 0, none⟩ 1 1 [.int .i64 x, .int .i64 y] (by rfl) (by rfl) (World.news_of_block (cs := #[.int .i64 x, .int .i64 y]) (t := 42) (fr := (0, 0)) (Go.heap_alloc_new _ _)) (two_cells x y) (by omega) (by unfold maxLen; omega) (by omega) ((HB5.out.alloc HB5.out.size _).size) _ rfl ?_; intro g7 c7 w7 hown7 hgrow7 hat7 hlt7; have HB7 : Hid (Below W.heap.size W w7) := (HB5.out.alloc HB5.out.size _).grown hgrow7 (HB5.out.alloc HB5.out.size _).size (fun k hk => (HO5.out.lt k hk).1); have HO7 := Lib.hid (arg_app hown7); clear hown7 hgrow7 hat7)
      | (refine step_append_lies (o := ⟨some 9, _, _, _, _, _⟩) _ (by rfl) _ _ 43 (by rfl) W.heap.size 42 i0 (.agg #[.int .i64 0, .int .i64 0]) 2 16 Try.underlying43 HI.out HZ0.out HZ1.out HZ2.out (by rfl) (by decide) (.slice sz0 q.length cz0) q.length (spL q) (by rfl) HO5.out ⟨_, 0, none⟩ 1 1 [.int .i64 x, .int .i64 y] (by rfl) (by rfl) (World.news_of_block (cs := #[.int .i64 x, .int .i64 y]) (t := 42) (fr := (0, 0)) (HN5.out _ (Go.heap_alloc_new _ _))) (two_cells x y) (by omega) (by unfold maxLen; omega) (by omega) HB5.out.size _ rfl ?_; intro g7 c7 w7 hown7 hgrow7 hat7 hlt7; have HB7 : Hid (Below W.heap.size W w7) := HB5.out.grown hgrow7 HB5.out.size (fun k hk => (HO5.out.lt k hk).1); have HO7 := Lib.hid (arg_app hown7); clear hown7 hgrow7 hat7)
      | (go_at_call 19; ((with_reducible refine (of_calls _ _ _ _ w7 HO7 (by omega) HBD).mono ?_); rintro e w8 ⟨d, v8, hp, hs, rfl, ho8, hb8⟩; have HF8 := Lib.hid (And.intro hp (And.intro hs (And.intro (row_base ho8 HB7.out.size) (HB7.out.trans (hb8.mono HB7.out.size))))); clear hp hs ho8 hb8)))
  all_goals
    go_wp2_with fail
    go_ret
    exact ⟨d, v8, HF8.out.1, HF8.out.2.1, rfl, row_base HF8.out.2.2.1 hbs, HW.out.trans (HF8.out.2.2.2.mono hbs)⟩
end Go.Proofs.Ythdcmejgdcmldaa.Ro
