/-
Whatever two numbers and however far both are moved on: how far it is from one to the other, who is ahead, and what is within stay as they were. It holds for all uint32 and every int.
-/
import Derived.Test.YthdcmejgdcmldaaPSeqMovesx1
import Derived.Test.YthdcmejgdcmldaaMath
import Derived.OpenShut
namespace Go.Proofs.Ythdcmejgdcmldaa.Pure
open Go.RowKit Go.Proofs.Ythdcmejgdcmldaa.PSeqMoves Go.Proofs.YthdcmejgdcmldaaW.PrintWords Go.Proofs.YthdcmejgdcmldaaW.PrintLast Go.Proofs.YthdcmejgdcmldaaW.PrintMore Go.Proofs.Ythdcmejgdcmldaa.Math
namespace SeqMovesAid

theorem of_eq (x : Int) : seq_Of.f x = some (x % 16777216) := by
  unfold seq_Of.f; rw [and24_u32]; congr 1; omega
theorem low_eq (a : Int) : seq_Num_Low.f a = some (a % 16777216) := by
  unfold seq_Num_Low.f; rw [and24_u32]
theorem add_eq (a n : Int) : seq_Num_Add.f a n = some ((a + n) % 16777216) := by
  unfold seq_Num_Add.f
  rw [low_eq]; simp only [Option.bind_some]
  rw [and24_i64, wrap_in (x := a % 16777216) (by omega) (by omega), wrap_in (by omega) (by omega), of_eq]
  simp only [Option.bind_some]; congr 1; omega
theorem to_eq (a b : Int) : seq_Num_To.f a b = some ((b - a) % 16777216) := by
  unfold seq_Num_To.f
  rw [and24_u32, wrap_in (by omega) (by omega)]; congr 1; omega
theorem within_eq (a x b : Int) : seq_Within.f a x b = some (decide ((x - a) % 16777216 ≤ (b - a) % 16777216)) := by
  unfold seq_Within.f; rw [to_eq, to_eq]; simp only [Option.bind_some]
theorem awake_eq : polliwoglaw01_awake.f = some true := by
  unfold polliwoglaw01_awake.f
  simp only [to_eq, of_eq, add_eq, within_eq, Option.bind_some]
  decide

theorem ahead_eq (a b : Int) : seq_Num_Ahead.f a b = some (decide (0 < (b - a) % 16777216 ∧ (b - a) % 16777216 < 8388608)) := by
  unfold seq_Num_Ahead.f; rw [to_eq]; simp only [Option.bind_some]
  by_cases h : (b - a) % 16777216 > 0
  · rw [if_pos h, Option.some.injEq, decide_eq_decide]; omega
  · rw [if_neg h, Option.some.injEq]; symm; rw [decide_eq_false_iff_not]; omega

end SeqMovesAid
open SeqMovesAid

theorem moved (a b n : Int) : ((b + n) % 16777216 - (a + n) % 16777216) % 16777216 = (b - a) % 16777216 := by omega
theorem moved7 (a n : Int) : (((a + n) % 16777216 + 7) % 16777216 - (a + n) % 16777216) % 16777216 = ((a + 7) % 16777216 - a) % 16777216 := by omega
theorem ahead_moved (a b n : Int) : seq_Num_Ahead.f ((a + n) % 16777216) ((b + n) % 16777216) = seq_Num_Ahead.f a b := by
  rw [ahead_eq, ahead_eq, moved]
theorem within_moved (a b n : Int) : seq_Within.f ((a + n) % 16777216) ((b + n) % 16777216) (((a + n) % 16777216 + 7) % 16777216) = seq_Within.f a b ((a + 7) % 16777216) := by
  rw [within_eq, within_eq, moved, moved7]
theorem SeqMoves : polliwoglaw01_SeqMoves.Pure := by
  intro a b n _ _ _
  unfold polliwoglaw01_SeqMoves.f
  obtain ⟨x, hx⟩ : ∃ x, seq_Num_Ahead.f a b = some x := ⟨_, ahead_eq a b⟩
  obtain ⟨y, hy⟩ : ∃ x, seq_Within.f a b ((a + 7) % 16777216) = some x := ⟨_, within_eq _ _ _⟩
  rw [bind_eq awake_eq, if_pos rfl, bind_eq (add_eq a n), bind_eq (add_eq b n), bind_eq (to_eq _ _), bind_eq (to_eq _ _), if_pos (moved a b n),
    ahead_moved, bind_eq hx, bind_eq hx, if_pos (beq_self_eq_true x), bind_eq (add_eq _ _), within_moved, bind_eq hy, bind_eq (add_eq _ _), bind_eq hy, beq_self_eq_true]

end Go.Proofs.Ythdcmejgdcmldaa.Pure
