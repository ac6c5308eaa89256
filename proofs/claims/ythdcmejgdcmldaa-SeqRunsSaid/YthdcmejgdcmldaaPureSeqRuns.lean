/-
Whatever the number and the count: a run is its numbers, one behind the other, modulo 2^24. It holds for every uint32 and every int.
-/
import Derived.Test.YthdcmejgdcmldaaPSeqRunsx1
import Derived.Test.YthdcmejgdcmldaaMath
import Derived.OpenShut
namespace Go.Proofs.Ythdcmejgdcmldaa.Pure
open Go.RowKit Go.Proofs.Ythdcmejgdcmldaa.PSeqRuns Go.Proofs.YthdcmejgdcmldaaW.PrintWords Go.Proofs.YthdcmejgdcmldaaW.PrintLast Go.Proofs.YthdcmejgdcmldaaW.PrintMore Go.Proofs.Ythdcmejgdcmldaa.Math
namespace SeqRunsAid

theorem of_eq (x : Int) : seq_Of.f x = some (x % 16777216) := by
  unfold seq_Of.f; rw [and24_u32]; congr 1; omega
theorem low_eq (a : Int) : seq_Num_Low.f a = some (a % 16777216) := by
  unfold seq_Num_Low.f; rw [and24_u32]
theorem add_eq (a n : Int) : seq_Num_Add.f a n = some ((a + n) % 16777216) := by
  unfold seq_Num_Add.f
  rw [low_eq]; simp only [Option.bind_some]
  rw [and24_i64, wrap_in (x := a % 16777216) (by omega) (by omega), wrap_in (by omega) (by omega), of_eq]
  simp only [Option.bind_some]; congr 1; omega
theorem to_eq (a b : Int) : seq_Num_To.f a b = some ((b - a) % 16777216) := by
  unfold seq_Num_To.f
  rw [and24_u32, wrap_in (by omega) (by omega)]; congr 1; omega
theorem within_eq (a x b : Int) : seq_Within.f a x b = some (decide ((x - a) % 16777216 ≤ (b - a) % 16777216)) := by
  unfold seq_Within.f; rw [to_eq, to_eq]; simp only [Option.bind_some]
theorem awake_eq : polliwoglaw01_awake.f = some true := by
  unfold polliwoglaw01_awake.f
  simp only [to_eq, of_eq, add_eq, within_eq, Option.bind_some]
  decide

theorem ref_eq {x : Int} : polliwogref01_Of.f x = some (x % 16777216) := by
  unfold polliwogref01_Of.f
  have hl := tmod_lo x
  by_cases h : x.tmod 16777216 < 0
  · rw [if_pos h, wrap_in (by omega) (by omega), tmod_neg h]
  · rw [if_neg h, tmod_pos h]

theorem run_l0 (a n : Int) (hn : n ≤ 65536) (d : Nat) : ∀ (k : Nat) (i : Int) (xs : List Int), 0 ≤ i → i ≤ n ∨ n ≤ 0 ∧ i = 0 → n - i ≤ d → d < k → (xs.length : Int) = i →
    (∀ j : Nat, j < xs.length → xs.getD j 0 = (a + j) % 16777216) →
    ∃ ys, seq_Run.l0 k a xs n i = some ys ∧ (ys.length : Int) = max n 0 ∧ ∀ j : Nat, j < ys.length → ys.getD j 0 = (a + j) % 16777216 := by
  induction d with
  | zero =>
    intro k i xs hi hin hd hk hl hx
    obtain ⟨k, rfl⟩ : ∃ m, k = m + 1 := ⟨k - 1, by omega⟩
    refine ⟨xs, ?_, by omega, hx⟩
    simp only [seq_Run.l0]; rw [if_neg (by omega)]
  | succ d ih =>
    intro k i xs hi hin hd hk hl hx
    obtain ⟨k, rfl⟩ : ∃ m, k = m + 1 := ⟨k - 1, by omega⟩
    by_cases c : i < n
    · simp only [seq_Run.l0]
      rw [if_pos c, add_eq]; simp only [Option.bind_some]
      rw [if_pos (by omega), wrap_in (by omega) (by omega)]
      refine ih k (i + 1) _ (by omega) (by omega) (by omega) (by omega) (by simp; omega) ?_
      intro j hj
      simp only [List.length_append, List.length_cons, List.length_nil] at hj
      by_cases hj2 : j < xs.length
      · have := hx j hj2
        simp only [List.getD_eq_getElem?_getD] at this ⊢
        rw [List.getElem?_append_left hj2]; exact this
      · obtain rfl : j = xs.length := by omega
        simp [hl]
    · refine ⟨xs, ?_, by omega, hx⟩
      simp only [seq_Run.l0]; rw [if_neg c]
theorem law_l0 (a : Int) (xs : List Int) (h0 : 0 ≤ a) (h1 : a ≤ 4294967295) (hl : xs.length ≤ 2000)
    (hx : ∀ j : Nat, j < xs.length → xs.getD j 0 = (a + j) % 16777216) (d : Nat) : ∀ (k : Nat) (i : Int), 0 ≤ i → (xs.length : Int) - i ≤ d → d < k →
    polliwoglaw01_SeqRuns.l0 k a xs xs.length i = some true := by
  induction d with
  | zero =>
    intro k i hi hd hk
    obtain ⟨k, rfl⟩ : ∃ m, k = m + 1 := ⟨k - 1, by omega⟩
    simp only [polliwoglaw01_SeqRuns.l0]; rw [if_neg (by omega)]
  | succ d ih =>
    intro k i hi hd hk
    obtain ⟨k, rfl⟩ : ∃ m, k = m + 1 := ⟨k - 1, by omega⟩
    simp only [polliwoglaw01_SeqRuns.l0]
    by_cases c : i < (xs.length : Int)
    · have hr : rd xs i = (a + i) % 16777216 := by
        have := hx i.toNat (by omega)
        unfold rd; rw [this]; congr 1; omega
      rw [if_pos c, if_pos hi, if_pos c, hr, wrap_in (x := a) (by omega) (by omega), ref_eq]; simp only [Option.bind_some]
      rw [wrap_in (x := a % 16777216 + i) (by omega) (by omega), ref_eq]; simp only [Option.bind_some]
      rw [wrap_in (x := (a + i) % 16777216) (by omega) (by omega), if_pos (by omega), to_eq]; simp only [Option.bind_some]
      rw [if_pos (by omega), wrap_in (by omega) (by omega)]
      exact ih k (i + 1) (by omega) (by omega) (by omega)
    · rw [if_neg c]
theorem j0_true (a n : Int) (h0 : 0 ≤ a) (h1 : a ≤ 4294967295) (hn : n ≤ 2000) : polliwoglaw01_SeqRuns.j0 2003 a n = some true := by
  simp only [polliwoglaw01_SeqRuns.j0, seq_Run.f]
  have hm : mx 0 (mn n 65536) = max 0 n := by unfold mx mn; split <;> split at * <;> omega
  rw [hm]
  obtain ⟨ys, hy, hl, hx⟩ := run_l0 a (max 0 n) (by omega) 2000 2002 0 [] (by omega) (by omega) (by omega) (by omega) rfl (by intro j hj; simp at hj)
  rw [hy]; simp only [Option.bind_some]
  have hm2 : mx n 0 = max n 0 := by unfold mx; split <;> omega
  rw [hm2, if_pos (by omega)]
  exact law_l0 a ys h0 h1 (by omega) hx 2000 2002 0 (by omega) (by omega) (by omega)

end SeqRunsAid
open SeqRunsAid

theorem SeqRuns : polliwoglaw01_SeqRuns.Pure := by
  intro a n ha _
  obtain ⟨h0, h1⟩ := bounds_u32 ha
  refine ⟨2003, ?_⟩
  unfold polliwoglaw01_SeqRuns.f
  rw [awake_eq]; simp only [Option.bind_some, if_true]
  by_cases c : n > 2000
  · rw [if_pos c]; exact j0_true a 2000 h0 h1 (by omega)
  · rw [if_neg c]; exact j0_true a n h0 h1 (by omega)

end Go.Proofs.Ythdcmejgdcmldaa.Pure
