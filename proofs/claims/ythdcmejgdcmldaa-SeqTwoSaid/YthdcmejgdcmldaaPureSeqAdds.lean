/-
Whatever the number and the list: numbers added one by one come to the same as their sum added at once, modulo 2^24, and back again. It holds for every uint32 and every list of ints.
-/
import Derived.Test.YthdcmejgdcmldaaPSeqAddsx1
import Derived.Test.YthdcmejgdcmldaaMath
import Derived.OpenShut
namespace Go.Proofs.Ythdcmejgdcmldaa.Pure
open Go.RowKit Go.Proofs.Ythdcmejgdcmldaa.PSeqAdds Go.Proofs.YthdcmejgdcmldaaW.PrintWords Go.Proofs.YthdcmejgdcmldaaW.PrintLast Go.Proofs.YthdcmejgdcmldaaW.PrintMore Go.Proofs.Ythdcmejgdcmldaa.Math
namespace SeqAddsAid

theorem of_eq (x : Int) : seq_Of.f x = some (x % 16777216) := by
  unfold seq_Of.f; rw [and24_u32]; congr 1; omega
theorem low_eq (a : Int) : seq_Num_Low.f a = some (a % 16777216) := by
  unfold seq_Num_Low.f; rw [and24_u32]
theorem add_eq (a n : Int) : seq_Num_Add.f a n = some ((a + n) % 16777216) := by
  unfold seq_Num_Add.f
  rw [low_eq]; simp only [Option.bind_some]
  rw [and24_i64, wrap_in (x := a % 16777216) (by omega) (by omega), wrap_in (by omega) (by omega), of_eq]
  simp only [Option.bind_some]; congr 1; omega
theorem to_eq (a b : Int) : seq_Num_To.f a b = some ((b - a) % 16777216) := by
  unfold seq_Num_To.f
  rw [and24_u32, wrap_in (by omega) (by omega)]; congr 1; omega
theorem within_eq (a x b : Int) : seq_Within.f a x b = some (decide ((x - a) % 16777216 ≤ (b - a) % 16777216)) := by
  unfold seq_Within.f; rw [to_eq, to_eq]; simp only [Option.bind_some]
theorem awake_eq : polliwoglaw01_awake.f = some true := by
  unfold polliwoglaw01_awake.f
  simp only [to_eq, of_eq, add_eq, within_eq, Option.bind_some]
  decide

theorem ref_eq {x : Int} : polliwogref01_Of.f x = some (x % 16777216) := by
  unfold polliwogref01_Of.f
  have hl := tmod_lo x
  by_cases h : x.tmod 16777216 < 0
  · rw [if_pos h, wrap_in (by omega) (by omega), tmod_neg h]
  · rw [if_neg h, tmod_pos h]

theorem j1_true (a s : Int) (k : Nat) (h0 : 0 ≤ a) (h1 : a ≤ 4294967295) (hs : -70368744177664 ≤ s) (hs1 : s ≤ 70368744177664) :
    polliwoglaw01_SeqAdds.j1 (k + 1) a ((a + s) % 16777216) s = some true := by
  simp only [polliwoglaw01_SeqAdds.j1]
  rw [add_eq]; simp only [Option.bind_some, if_true]
  rw [wrap_in (x := -s) (by omega) (by omega), add_eq]; simp only [Option.bind_some]
  rw [low_eq]; simp only [Option.bind_some]
  rw [if_pos (by omega), wrap_in (x := a) (by omega) (by omega), ref_eq]; simp only [Option.bind_some]
  rw [wrap_in (x := a % 16777216 + s) (by omega) (by omega), ref_eq]; simp only [Option.bind_some]
  rw [wrap_in (by omega) (by omega)]
  congr 1; rw [beq_iff_eq]; omega
theorem cut_lo (x : Int) : -1099511627776 ≤ mx (-1099511627776) (mn x 1099511627776) := by unfold mx mn; split <;> split at * <;> omega
theorem cut_hi (x : Int) : mx (-1099511627776) (mn x 1099511627776) ≤ 1099511627776 := by unfold mx mn; split <;> split at * <;> omega
theorem l0_true (a : Int) (l : List Int) (h0 : 0 ≤ a) (h1 : a ≤ 4294967295) (d : Nat) : ∀ (k : Nat) (s i : Int), 0 ≤ i → 30 - i = d →
    -(i * 1099511627776) ≤ s → s ≤ i * 1099511627776 → d + 1 < k → polliwoglaw01_SeqAdds.l0 k a l ((a + s) % 16777216) s i = some true := by
  induction d with
  | zero =>
    intro k s i hi hd hs hs1 hk
    obtain ⟨k, rfl⟩ : ∃ m, k = m + 2 := ⟨k - 2, by omega⟩
    simp only [polliwoglaw01_SeqAdds.l0]
    by_cases c : i < (l.length : Int)
    · rw [if_pos c, if_neg (by omega)]; exact j1_true a s k h0 h1 (by omega) (by omega)
    · rw [if_neg c]; exact j1_true a s k h0 h1 (by omega) (by omega)
  | succ d ih =>
    intro k s i hi hd hs hs1 hk
    obtain ⟨k, rfl⟩ : ∃ m, k = m + 2 := ⟨k - 2, by omega⟩
    by_cases c : i < (l.length : Int)
    · simp only [polliwoglaw01_SeqAdds.l0]
      rw [if_pos c, if_pos (by omega), if_pos hi]
      have hl := cut_lo (rd l i)
      have hh := cut_hi (rd l i)
      generalize mx (-1099511627776) (mn (rd l i) 1099511627776) = m at hl hh ⊢
      rw [add_eq]; simp only [Option.bind_some]
      rw [wrap_in (x := s + m) (by omega) (by omega), wrap_in (x := i + 1) (by omega) (by omega)]
      have e : ((a + s) % 16777216 + m) % 16777216 = (a + (s + m)) % 16777216 := by omega
      rw [e]
      exact ih (k + 1) (s + m) (i + 1) (by omega) (by omega) (by omega) (by omega) (by omega)
    · simp only [polliwoglaw01_SeqAdds.l0]
      rw [if_neg c]; exact j1_true a s k h0 h1 (by omega) (by omega)

end SeqAddsAid
open SeqAddsAid

theorem SeqAdds : polliwoglaw01_SeqAdds.Pure := by
  intro a l ha _ _ _
  obtain ⟨h0, h1⟩ := bounds_u32 ha
  refine ⟨40, ?_⟩
  unfold polliwoglaw01_SeqAdds.f
  rw [awake_eq]; simp only [Option.bind_some, if_true]
  rw [low_eq]; simp only [Option.bind_some]
  have h := l0_true a l h0 h1 30 40 0 0 (by omega) (by omega) (by omega) (by omega) (by omega)
  rw [show (a + 0) % 16777216 = a % 16777216 by omega] at h
  exact h

end Go.Proofs.Ythdcmejgdcmldaa.Pure
