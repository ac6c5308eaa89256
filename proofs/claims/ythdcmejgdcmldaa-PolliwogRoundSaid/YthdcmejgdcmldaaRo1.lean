/-
Numbers of 24 bits in a walk: Low, Add, To, Within; a span cut to what may be, whether it is empty, and how two compare: the calls answer what plain numbers say. Conditions: the spans lie within what may be.
-/
import Derived.Test.YthdcmejgdcmldaaArgs
import Derived.Test.YthdcmejgdcmldaaRoMath
import Derived.Test.YthdcmejgdcmldaaMath
import Derived.WalkKit
import Derived.Outline
import Derived.OwnWalk
import Derived.LoopTactic
import Derived.WalkLawsBesides
import Derived.WalkSpells
import Derived.WalkSmall
import Derived.Laws.Rows
import Derived.Laws.Slices
import Derived.Lib.Hide
import Derived.Deep.QuietTactic
import Derived.BigQuiet
import Derived.KernelRfl
namespace Go.Proofs.Ythdcmejgdcmldaa.Ro
set_option linter.unusedVariables false
open Go.RowKit Go.Proofs.Ythdcmejgdcmldaa.Args Go.Proofs.Ythdcmejgdcmldaa.Math

theorem max2_i (k k' : IntKind) (x y : Int) : Builtin.max2 (.int k x) (.int k' y) = pure (.int k (if x < y then y else x)) := by simp only [Builtin.max2, gt_iff_lt]
theorem min2_i (k k' : IntKind) (x y : Int) : Builtin.min2 (.int k x) (.int k' y) = pure (.int k (if y < x then y else x)) := by simp only [Builtin.min2]
theorem max_2 (ats : Array TypeId) (ty : TypeId) (a b : Value) : Builtin.max_ ats ty #[a, b] = (Builtin.max2 a b >>= fun s => pure s) := by simp only [Builtin.max_, List.foldlM_cons, List.foldlM_nil]
theorem min_2 (ats : Array TypeId) (ty : TypeId) (a b : Value) : Builtin.min_ ats ty #[a, b] = (Builtin.min2 a b >>= fun s => pure s) := by simp only [Builtin.min_, List.foldlM_cons, List.foldlM_nil]
attribute [local go_sem] max2_i min2_i max_2 min_2
/-- A number that a call answers, in another spelling. -/
theorem ret_i {k : IntKind} {a b : Int} (h : a = b) : Ending.returned (.int k a) = .returned (.int k b) := by rw [h]
theorem low_calls (a r : Int) (w : World) (h : Hid (a % 16777216 = r)) : Calls Try.prog 12 #[.int .u32 a] w fun e w' => e = .returned (.int .u32 r) ∧ w = w' := by
  go_enter Try.func12, Try.ntmps12
  go_wp2_with fail
  go_ret
  exact ⟨ret_i (by rw [and24_u32]; exact h.out), rfl⟩
theorem of24_calls (a r : Int) (w : World) (h : Hid (a % 16777216 = r)) : Calls Try.prog 11 #[.int .i64 a] w fun e w' => e = .returned (.int .u32 r) ∧ w = w' := by
  go_enter Try.func11, Try.ntmps11
  go_wp2_with fail
  go_ret
  exact ⟨ret_i (by rw [and24_u32]; have := h.out; omega), rfl⟩
theorem to_calls (a b r : Int) (w : World) (h : Hid ((b - a) % 16777216 = r)) : Calls Try.prog 14 #[.int .u32 a, .int .u32 b] w fun e w' => e = .returned (.int .i64 r) ∧ w = w' := by
  go_enter Try.func14, Try.ntmps14
  go_wp2_with fail
  go_ret
  exact ⟨ret_i (by rw [and24_u32]; have := h.out; unfold wrap64; omega), rfl⟩
set_option maxHeartbeats 1000000 in
theorem add_calls (a n p r : Int) (w : World) (hn : 0 ≤ n) (hn2 : n ≤ 1000) (hp : 0 ≤ p) (hp2 : p ≤ 16777215) (h1 : Hid (a % 16777216 = p)) (h : Hid ((a + n) % 16777216 = r)) : Calls Try.prog 13 #[.int .u32 a, .int .i64 n] w fun e w' => e = .returned (.int .u32 r) ∧ w = w' := by
  go_enter Try.func13, Try.ntmps13
  go_wp2_with fail
  refine (low_calls a p w h1).mono ?_
  rintro e w' ⟨rfl, rfl⟩
  go_wp2_with fail
  refine (of24_calls _ r w ?_).mono ?_
  · unfold Hid
    rw [and24_i64]
    have := h.out
    have := h1.out
    unfold wrap64
    omega
  rintro e w' ⟨rfl, rfl⟩
  go_wp2_with fail
  go_ret
  exact ⟨rfl, rfl⟩
set_option maxHeartbeats 1000000 in
theorem within_calls (a x b p q : Int) (w : World) (hpq : p ≤ q) (h1 : Hid ((x - a) % 16777216 = p)) (h2 : Hid ((b - a) % 16777216 = q)) : Calls Try.prog 17 #[.int .u32 a, .int .u32 x, .int .u32 b] w fun e w' => e = .returned (.bool true) ∧ w = w' := by
  go_enter Try.func17, Try.ntmps17
  go_wp2_with fail
  refine (to_calls a x p w h1).mono ?_
  rintro e w' ⟨rfl, rfl⟩
  go_wp2_with fail
  refine (to_calls a b q w h2).mono ?_
  rintro e w' ⟨rfl, rfl⟩
  go_wp2_with fail
  go_ret
  exact ⟨rfl, rfl⟩
def BelowR (w : World) (v : Value) (e : Ending) (w' : World) : Prop := e = .returned v ∧ Below w.heap.size w w'
set_option maxHeartbeats 1000000 in
theorem empty_calls (a b : Int) (r : Bool) (w : World) (h : Hid (decide (b ≤ a) = r)) : Calls Try.prog 24 #[.agg #[.int .i64 a, .int .i64 b]] w (BelowR w (.bool r)) := by
  obtain rfl := h.out
  clear h
  go_enter Try.func24, Try.ntmps24
  go_wp2_with fail
  go_ret
  exact ⟨rfl, (Below.refl _ _).alloc (Nat.le_refl _) _⟩
set_option maxHeartbeats 1000000 in
theorem near_calls (a b : Int) (w : World) (h1 : -1000 ≤ a) (h2 : a ≤ 1000) (h3 : -1000 ≤ b) (h4 : b ≤ 1000) : Calls Try.prog 23 #[.agg #[.int .i64 a, .int .i64 b]] w (BelowR w (.agg #[.int .i64 a, .int .i64 b])) := by
  go_enter Try.func23, Try.ntmps23
  go_wp2_with fail
  refine bodyPost_ret (v := .agg #[.int .i64 a, .int .i64 b]) (by simp [results, Try.results23, go_sem]) rfl ⟨rfl, ?_⟩
  exact ((Below.refl _ _).alloc (Nat.le_refl _) _).alloc (by simp) _
/-- How two numbers compare. -/
def cmpI (a b : Int) : Int := if a < b then -1 else if b < a then 1 else 0
theorem cmpI_lt {a b : Int} (h : a < b) : cmpI a b = -1 := by unfold cmpI; rw [if_pos h]
theorem cmpI_gt {a b : Int} (h : b < a) : cmpI a b = 1 := by unfold cmpI; rw [if_neg (by omega), if_pos h]
theorem cmpI_eq {a b : Int} (h : a = b) : cmpI a b = 0 := by unfold cmpI; rw [if_neg (by omega), if_neg (by omega)]
set_option maxHeartbeats 1000000 in
theorem nan_calls (a : Int) (w : World) : Calls Try.prog 32 #[.int .i64 a] w fun e w' => e = .returned (.bool false) ∧ w = w' := by
  have hb : (a != a) = false := by rw [bne_eq_false_iff_eq]
  go_enter Try.func32, Try.ntmps32
  go_wp2_with fail
  go_ret
  exact ⟨rfl, rfl⟩
set_option maxHeartbeats 2000000 in
theorem cmp_calls (a b r : Int) (w : World) (h : Hid (cmpI a b = r)) : Calls Try.prog 27 #[.int .i64 a, .int .i64 b] w fun e w' => e = .returned (.int .i64 r) ∧ w = w' := by
  rcases Int.lt_trichotomy a b with hab | hab | hab
  · have hr := Lib.hid (h.out.symm.trans (cmpI_lt hab))
    clear h
    go_enter Try.func27, Try.ntmps27
    go_wp2_with fail
    refine (nan_calls a w).mono ?_
    rintro e w' ⟨rfl, rfl⟩
    go_wp2_with fail
    refine (nan_calls b w).mono ?_
    rintro e w' ⟨rfl, rfl⟩
    go_wp2_with fail
    go_ret
    exact ⟨ret_i hr.out.symm, rfl⟩
  · subst hab
    have hr := Lib.hid (h.out.symm.trans (cmpI_eq rfl))
    clear h
    go_enter Try.func27, Try.ntmps27
    go_wp2_with fail
    refine (nan_calls a w).mono ?_
    rintro e w' ⟨rfl, rfl⟩
    go_wp2_with fail
    refine (nan_calls a w).mono ?_
    rintro e w' ⟨rfl, rfl⟩
    go_wp2_with fail
    go_ret
    exact ⟨ret_i hr.out.symm, rfl⟩
  · have hr := Lib.hid (h.out.symm.trans (cmpI_gt hab))
    have hd : decide (a < b) = false := decide_eq_false (by omega)
    clear h
    go_enter Try.func27, Try.ntmps27
    go_wp2_with fail
    refine (nan_calls a w).mono ?_
    rintro e w' ⟨rfl, rfl⟩
    go_wp2_with fail
    refine (nan_calls b w).mono ?_
    rintro e w' ⟨rfl, rfl⟩
    go_wp2_with fail
    go_ret
    exact ⟨ret_i hr.out.symm, rfl⟩
set_option maxHeartbeats 1000000 in
theorem closure_calls (x y : Sp) (r : Int) (w : World) (h : Hid (cmpI x.1 y.1 = r)) : Calls Try.prog 26 #[.agg #[.int .i64 x.1, .int .i64 x.2], .agg #[.int .i64 y.1, .int .i64 y.2]] w fun e w' => e = .returned (.int .i64 r) ∧ w' = (w.alloc (.cells #[.int .i64 x.1, .int .i64 x.2] 42)).alloc (.cells #[.int .i64 y.1, .int .i64 y.2] 42) := by
  go_enter Try.func26, Try.ntmps26
  go_wp2_with fail
  refine (cmp_calls _ _ r _ h).mono ?_
  rintro e w' ⟨rfl, rfl⟩
  go_wp2_with fail
  go_ret
  exact ⟨rfl, rfl⟩
end Go.Proofs.Ythdcmejgdcmldaa.Ro
