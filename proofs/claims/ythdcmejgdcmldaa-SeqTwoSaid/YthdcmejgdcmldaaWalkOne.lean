/-
The walk of SeqOne and of what it calls: each call of package seq and of the reference, at any numbers, comes to the number that plain arithmetic modulo 2^24 gives; so the law returns true. No condition.
-/
import Derived.Test.YthdcmejgdcmldaaPureSeqMoves
import Derived.Test.YthdcmejgdcmldaaPureSeqAdds
import Derived.Lib.Hide
namespace Go.Proofs.Ythdcmejgdcmldaa.WalkOne
open Go.RowKit Go.Proofs.YthdcmejgdcmldaaW.PrintWords Go.Proofs.YthdcmejgdcmldaaW.PrintLast Go.Proofs.YthdcmejgdcmldaaW.PrintMore Go.Proofs.Ythdcmejgdcmldaa.Math

theorem of_any (x r : Int) (w : World) (h : Hid (x % 16777216 = r)) : Calls Try.prog 11 #[.int .i64 x] w fun e w' => e = .returned (.int .u32 r) ∧ Drawn0 w w' :=
  PSeqMoves.seq_Of.calls x r w (by rw [Pure.SeqMovesAid.of_eq, h.out])
theorem low_any (a r : Int) (w : World) (h : Hid (a % 16777216 = r)) : Calls Try.prog 12 #[.int .u32 a] w fun e w' => e = .returned (.int .u32 r) ∧ Drawn0 w w' :=
  PSeqMoves.seq_Num_Low.calls a r w (by rw [Pure.SeqMovesAid.low_eq, h.out])
theorem add_any (a n r : Int) (w : World) (h : Hid ((a + n) % 16777216 = r)) : Calls Try.prog 13 #[.int .u32 a, .int .i64 n] w fun e w' => e = .returned (.int .u32 r) ∧ Drawn0 w w' :=
  PSeqMoves.seq_Num_Add.calls a n r w (by rw [Pure.SeqMovesAid.add_eq, h.out])
theorem to_any (a b r : Int) (w : World) (h : Hid ((b - a) % 16777216 = r)) : Calls Try.prog 14 #[.int .u32 a, .int .u32 b] w fun e w' => e = .returned (.int .i64 r) ∧ Drawn0 w w' :=
  PSeqMoves.seq_Num_To.calls a b r w (by rw [Pure.SeqMovesAid.to_eq, h.out])
theorem awake_any (w : World) : Calls Try.prog 9 #[] w fun e w' => e = .returned (.bool true) ∧ Drawn0 w w' :=
  PSeqMoves.polliwoglaw01_awake.calls true w Pure.SeqMovesAid.awake_eq
theorem ref_any (x r : Int) (w : World) (h : Hid (x % 16777216 = r)) : Calls Try.prog 10 #[.int .i64 x] w fun e w' => e = .returned (.int .i64 r) ∧ Drawn0 w w' :=
  PSeqAdds.polliwogref01_Of.calls x r w (by rw [Pure.SeqAddsAid.ref_eq, h.out])

set_option maxHeartbeats 4000000 in
set_option maxRecDepth 100000 in
theorem one_calls (x n a p l s q : Int) (w : World) (ha : 0 ≤ a) (ha1 : a ≤ 4294967295) (hp : 0 ≤ p) (hp1 : p < 16777216) (hl : 0 ≤ l) (hl1 : l < 16777216)
    (hs : 0 ≤ s) (hs1 : s < 16777216) (hq : 0 ≤ q) (hq1 : q < 16777216)
    (A1 : Hid (x % 16777216 = p)) (A2 : Hid (a % 16777216 = l)) (A3 : Hid ((a + n) % 16777216 = s)) (A4 : Hid (n % 16777216 = q)) (A5 : Hid ((l + q) % 16777216 = s)) (A6 : Hid ((s - a) % 16777216 = q)) :
    Calls Try.prog 3 #[.int .i64 x, .int .i64 n, .int .u32 a] w fun e w' => e = .returned (.bool true) ∧ Drawn0 w w' := by
  go_enter Try.func3, Try.ntmps3
  go_wp2_with (first
    | (go_at_call 9; (with_reducible refine (awake_any _).mono ?_); rintro e w' ⟨rfl, ⟨nd, rfl⟩⟩)
    | (go_at_call 11; (with_reducible refine (of_any x p _ A1).mono ?_); rintro e w' ⟨rfl, ⟨nd, rfl⟩⟩)
    | (go_at_call 12; (with_reducible refine (low_any a l _ A2).mono ?_); rintro e w' ⟨rfl, ⟨nd, rfl⟩⟩)
    | (go_at_call 13; (with_reducible refine (add_any a n s _ A3).mono ?_); rintro e w' ⟨rfl, ⟨nd, rfl⟩⟩)
    | (go_at_call 14; (with_reducible refine (to_any a s q _ A6).mono ?_); rintro e w' ⟨rfl, ⟨nd, rfl⟩⟩)
    | (go_at_call 10; (with_reducible refine (ref_any x p _ A1).mono ?_); rintro e w' ⟨rfl, ⟨nd, rfl⟩⟩)
    | (go_at_call 10; (with_reducible refine (ref_any a l _ A2).mono ?_); rintro e w' ⟨rfl, ⟨nd, rfl⟩⟩)
    | (go_at_call 10; (with_reducible refine (ref_any n q _ A4).mono ?_); rintro e w' ⟨rfl, ⟨nd, rfl⟩⟩)
    | (go_at_call 10; (with_reducible refine (ref_any (l + q) s _ A5).mono ?_); rintro e w' ⟨rfl, ⟨nd, rfl⟩⟩))
  go_ret
  exact ⟨rfl, by repeat (first | exact Drawn0.refl _ | apply Drawn0.step)⟩

theorem one_walk (x n a : Int) (w : World) (_w0 : (Lit.int .i64 x).wf = true) (_w1 : (Lit.int .i64 n).wf = true) (w2 : (Lit.int .u32 a).wf = true) :
    Calls Try.prog 3 #[.int .i64 x, .int .i64 n, .int .u32 a] w fun e w' => e = .returned (.bool true) ∧ Below w.heap.size w w' := by
  obtain ⟨h0, h1⟩ := bounds_u32 w2
  refine (one_calls x n a (x % 16777216) (a % 16777216) ((a + n) % 16777216) (n % 16777216) w h0 h1 (by omega) (by omega) (by omega) (by omega) (by omega) (by omega) (by omega) (by omega)
    (Lib.hid rfl) (Lib.hid rfl) (Lib.hid rfl) (Lib.hid rfl) (Lib.hid (by omega)) (Lib.hid (by omega))).mono ?_
  rintro e w' ⟨rfl, hd⟩
  exact ⟨rfl, hd.below⟩
end Go.Proofs.Ythdcmejgdcmldaa.WalkOne
