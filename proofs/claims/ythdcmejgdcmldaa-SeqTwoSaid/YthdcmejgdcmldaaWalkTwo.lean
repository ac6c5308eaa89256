/-
The walk of SeqTwo and of what it calls, in three cases (the same number; less than half round; half round and more): the law returns true. No condition.
-/
import Derived.Test.YthdcmejgdcmldaaWalkOne
set_option linter.unusedVariables false
namespace Go.Proofs.Ythdcmejgdcmldaa.WalkTwo
open Go.RowKit Go.Proofs.YthdcmejgdcmldaaW.PrintWords Go.Proofs.YthdcmejgdcmldaaW.PrintLast Go.Proofs.YthdcmejgdcmldaaW.PrintMore Go.Proofs.Ythdcmejgdcmldaa.Math Go.Proofs.Ythdcmejgdcmldaa.WalkOne

theorem ahead_yes (a b d : Int) (w : World) (h : Hid ((b - a) % 16777216 = d)) (hd : Hid (0 < d ∧ d < 8388608)) : Calls Try.prog 16 #[.int .u32 a, .int .u32 b] w fun e w' => e = .returned (.bool true) ∧ Drawn0 w w' :=
  PSeqMoves.seq_Num_Ahead.calls a b true w (by rw [Pure.SeqMovesAid.ahead_eq, h.out, decide_eq_true hd.out])
theorem ahead_no (a b d : Int) (w : World) (h : Hid ((b - a) % 16777216 = d)) (hd : Hid (¬ (0 < d ∧ d < 8388608))) : Calls Try.prog 16 #[.int .u32 a, .int .u32 b] w fun e w' => e = .returned (.bool false) ∧ Drawn0 w w' :=
  PSeqMoves.seq_Num_Ahead.calls a b false w (by rw [Pure.SeqMovesAid.ahead_eq, h.out, decide_eq_false hd.out])
set_option maxHeartbeats 4000000 in
theorem refTo_core (a b p q d : Int) (w : World) (hp : 0 ≤ p) (hp1 : p < 16777216) (hq : 0 ≤ q) (hq1 : q < 16777216)
    (h1 : Hid (a % 16777216 = p)) (h2 : Hid (b % 16777216 = q)) (h3 : Hid ((q - p) % 16777216 = d)) : Calls Try.prog 15 #[.int .i64 a, .int .i64 b] w fun e w' => e = .returned (.int .i64 d) ∧ Drawn0 w w' := by
  go_enter Try.func15, Try.ntmps15
  go_wp2_with (first
    | (go_at_call 10; (with_reducible refine (ref_any a p _ h1).mono ?_); rintro e w' ⟨rfl, ⟨nd, rfl⟩⟩)
    | (go_at_call 10; (with_reducible refine (ref_any b q _ h2).mono ?_); rintro e w' ⟨rfl, ⟨nd, rfl⟩⟩)
    | (go_at_call 10; (with_reducible refine (ref_any (q - p) d _ h3).mono ?_); rintro e w' ⟨rfl, ⟨nd, rfl⟩⟩))
  go_ret
  exact ⟨rfl, by repeat (first | exact Drawn0.refl _ | apply Drawn0.step)⟩
theorem refTo_any (a b d : Int) (w : World) (h : Hid ((b - a) % 16777216 = d)) : Calls Try.prog 15 #[.int .i64 a, .int .i64 b] w fun e w' => e = .returned (.int .i64 d) ∧ Drawn0 w w' :=
  refTo_core a b (a % 16777216) (b % 16777216) d w (by omega) (by omega) (by omega) (by omega) (Lib.hid rfl) (Lib.hid rfl) (Lib.hid (by have := h.out; omega))

set_option maxHeartbeats 4000000 in
set_option maxRecDepth 100000 in
theorem two_same (a b d k l : Int) (w : World) (ha : 0 ≤ a) (ha1 : a ≤ 4294967295) (hb : 0 ≤ b) (hb1 : b ≤ 4294967295) (hd : 0 ≤ d) (hd1 : d < 16777216) (hk : 0 ≤ k) (hk1 : k < 16777216)
    (c1 : (d == 0) = true) (c2 : (k == 0) = true) (c3 : decide (0 < d) = false)
    (A1 : Hid ((b - a) % 16777216 = d)) (A2 : Hid ((a - b) % 16777216 = k)) (A3 : Hid ((a + d) % 16777216 = l)) (A4 : Hid (b % 16777216 = l)) (B1 : Hid (¬ (0 < d ∧ d < 8388608))) :
    Calls Try.prog 5 #[.int .u32 a, .int .u32 b] w fun e w' => e = .returned (.bool true) ∧ Drawn0 w w' := by
  go_enter Try.func5, Try.ntmps5
  go_wp2_with (first
    | (go_at_call 9; (with_reducible refine (awake_any _).mono ?_); rintro e w' ⟨rfl, ⟨nd, rfl⟩⟩)
    | (go_at_call 15; (with_reducible refine (refTo_any a b d _ A1).mono ?_); rintro e w' ⟨rfl, ⟨nd, rfl⟩⟩)
    | (go_at_call 14; (with_reducible refine (to_any b a k _ A2).mono ?_); rintro e w' ⟨rfl, ⟨nd, rfl⟩⟩)
    | (go_at_call 14; (with_reducible refine (to_any a b d _ A1).mono ?_); rintro e w' ⟨rfl, ⟨nd, rfl⟩⟩)
    | (go_at_call 16; (with_reducible refine (ahead_no a b d _ A1 B1).mono ?_); rintro e w' ⟨rfl, ⟨nd, rfl⟩⟩)
    | (go_at_call 13; (with_reducible refine (add_any a d l _ A3).mono ?_); rintro e w' ⟨rfl, ⟨nd, rfl⟩⟩)
    | (go_at_call 12; (with_reducible refine (low_any b l _ A4).mono ?_); rintro e w' ⟨rfl, ⟨nd, rfl⟩⟩))
  go_ret
  exact ⟨rfl, by repeat (first | exact Drawn0.refl _ | apply Drawn0.step)⟩

set_option maxHeartbeats 4000000 in
set_option maxRecDepth 100000 in
theorem two_near (a b d k l : Int) (w : World) (ha : 0 ≤ a) (ha1 : a ≤ 4294967295) (hb : 0 ≤ b) (hb1 : b ≤ 4294967295) (hd : 0 ≤ d) (hd1 : d < 16777216) (hk : 0 ≤ k) (hk1 : k < 16777216)
    (c1 : 0 < d) (c2 : d < 8388608) (c3 : d + k ≤ 16777216) (c4 : 16777216 ≤ d + k)
    (A1 : Hid ((b - a) % 16777216 = d)) (A2 : Hid ((a - b) % 16777216 = k)) (A3 : Hid ((a + d) % 16777216 = l)) (A4 : Hid (b % 16777216 = l)) (B1 : Hid (0 < d ∧ d < 8388608)) (B2 : Hid (¬ (0 < k ∧ k < 8388608))) :
    Calls Try.prog 5 #[.int .u32 a, .int .u32 b] w fun e w' => e = .returned (.bool true) ∧ Drawn0 w w' := by
  go_enter Try.func5, Try.ntmps5
  go_wp2_with (first
    | (go_at_call 9; (with_reducible refine (awake_any _).mono ?_); rintro e w' ⟨rfl, ⟨nd, rfl⟩⟩)
    | (go_at_call 15; (with_reducible refine (refTo_any a b d _ A1).mono ?_); rintro e w' ⟨rfl, ⟨nd, rfl⟩⟩)
    | (go_at_call 14; (with_reducible refine (to_any b a k _ A2).mono ?_); rintro e w' ⟨rfl, ⟨nd, rfl⟩⟩)
    | (go_at_call 14; (with_reducible refine (to_any a b d _ A1).mono ?_); rintro e w' ⟨rfl, ⟨nd, rfl⟩⟩)
    | (go_at_call 16; (with_reducible refine (ahead_yes a b d _ A1 B1).mono ?_); rintro e w' ⟨rfl, ⟨nd, rfl⟩⟩)
    | (go_at_call 16; (with_reducible refine (ahead_no b a k _ A2 B2).mono ?_); rintro e w' ⟨rfl, ⟨nd, rfl⟩⟩)
    | (go_at_call 13; (with_reducible refine (add_any a d l _ A3).mono ?_); rintro e w' ⟨rfl, ⟨nd, rfl⟩⟩)
    | (go_at_call 12; (with_reducible refine (low_any b l _ A4).mono ?_); rintro e w' ⟨rfl, ⟨nd, rfl⟩⟩))
  go_ret
  exact ⟨rfl, by repeat (first | exact Drawn0.refl _ | apply Drawn0.step)⟩

set_option maxHeartbeats 4000000 in
set_option maxRecDepth 100000 in
theorem two_far (a b d k l : Int) (w : World) (ha : 0 ≤ a) (ha1 : a ≤ 4294967295) (hb : 0 ≤ b) (hb1 : b ≤ 4294967295) (hd : 0 ≤ d) (hd1 : d < 16777216) (hk : 0 ≤ k) (hk1 : k < 16777216)
    (c1 : 8388608 ≤ d) (c2 : decide (d < 8388608) = false) (c5 : (d == 0) = false) (c3 : d + k ≤ 16777216) (c4 : 16777216 ≤ d + k)
    (A1 : Hid ((b - a) % 16777216 = d)) (A2 : Hid ((a - b) % 16777216 = k)) (A3 : Hid ((a + d) % 16777216 = l)) (A4 : Hid (b % 16777216 = l)) (B1 : Hid (¬ (0 < d ∧ d < 8388608))) :
    Calls Try.prog 5 #[.int .u32 a, .int .u32 b] w fun e w' => e = .returned (.bool true) ∧ Drawn0 w w' := by
  go_enter Try.func5, Try.ntmps5
  go_wp2_with (first
    | (go_at_call 9; (with_reducible refine (awake_any _).mono ?_); rintro e w' ⟨rfl, ⟨nd, rfl⟩⟩)
    | (go_at_call 15; (with_reducible refine (refTo_any a b d _ A1).mono ?_); rintro e w' ⟨rfl, ⟨nd, rfl⟩⟩)
    | (go_at_call 14; (with_reducible refine (to_any b a k _ A2).mono ?_); rintro e w' ⟨rfl, ⟨nd, rfl⟩⟩)
    | (go_at_call 14; (with_reducible refine (to_any a b d _ A1).mono ?_); rintro e w' ⟨rfl, ⟨nd, rfl⟩⟩)
    | (go_at_call 16; (with_reducible refine (ahead_no a b d _ A1 B1).mono ?_); rintro e w' ⟨rfl, ⟨nd, rfl⟩⟩)
    | (go_at_call 13; (with_reducible refine (add_any a d l _ A3).mono ?_); rintro e w' ⟨rfl, ⟨nd, rfl⟩⟩)
    | (go_at_call 12; (with_reducible refine (low_any b l _ A4).mono ?_); rintro e w' ⟨rfl, ⟨nd, rfl⟩⟩))
  go_ret
  exact ⟨rfl, by repeat (first | exact Drawn0.refl _ | apply Drawn0.step)⟩

theorem two_walk (a b : Int) (w : World) (w0 : (Lit.int .u32 a).wf = true) (w1 : (Lit.int .u32 b).wf = true) :
    Calls Try.prog 5 #[.int .u32 a, .int .u32 b] w fun e w' => e = .returned (.bool true) ∧ Below w.heap.size w w' := by
  obtain ⟨a0, a1⟩ := bounds_u32 w0
  obtain ⟨b0, b1⟩ := bounds_u32 w1
  have key : Calls Try.prog 5 #[.int .u32 a, .int .u32 b] w fun e w' => e = .returned (.bool true) ∧ Drawn0 w w' := by
    by_cases h : (b - a) % 16777216 = 0
    · exact two_same a b ((b - a) % 16777216) ((a - b) % 16777216) (b % 16777216) w a0 a1 b0 b1 (by omega) (by omega) (by omega) (by omega) (beq_iff_eq.2 h) (beq_iff_eq.2 (by omega)) (decide_eq_false (by omega))
        (Lib.hid rfl) (Lib.hid rfl) (Lib.hid (by omega)) (Lib.hid rfl) (Lib.hid (by omega))
    · by_cases h2 : (b - a) % 16777216 < 8388608
      · exact two_near a b ((b - a) % 16777216) ((a - b) % 16777216) (b % 16777216) w a0 a1 b0 b1 (by omega) (by omega) (by omega) (by omega) (by omega) (by omega) (by omega) (by omega)
          (Lib.hid rfl) (Lib.hid rfl) (Lib.hid (by omega)) (Lib.hid rfl) (Lib.hid (by omega)) (Lib.hid (by omega))
      · exact two_far a b ((b - a) % 16777216) ((a - b) % 16777216) (b % 16777216) w a0 a1 b0 b1 (by omega) (by omega) (by omega) (by omega) (by omega) (decide_eq_false h2) (beq_eq_false_iff_ne.2 h) (by omega) (by omega)
          (Lib.hid rfl) (Lib.hid rfl) (Lib.hid (by omega)) (Lib.hid rfl) (Lib.hid (by omega))
  refine key.mono ?_
  rintro e w' ⟨rfl, hd⟩
  exact ⟨rfl, hd.below⟩
end Go.Proofs.Ythdcmejgdcmldaa.WalkTwo
