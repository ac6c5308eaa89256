/-
EpochForged, the plain law: what a book holds that got texts of one end and gives texts to the other, and when it is sound. No condition.
-/
import Derived.Test.YtjjnhndlollldaaEp12
namespace Go.Proofs.Ytjjnhndlollldaa.Ep
set_option linter.unusedVariables false
set_option linter.unusedSimpArgs false
open Go.RowKit Go.Proofs.Ytjjnhndlollldaa.Args

/-- A book with one epoch at each end. -/
def stF (e : Nat) (s g : List ByteArray) : St := fun x => if x = e then [(s, [])] else if x = 1 - e then [([], g)] else []
theorem b37 : bits .and .i64 3 7 = 3 := by decide +kernel
theorem b07 : bits .and .i64 0 7 = 0 := by decide +kernel
theorem stF_new (e : Nat) (he : e < 2) : [recOf ((e : Int), 0, 0, ⟨#[]⟩), recOf (1 - (e : Int), 0, 3, ⟨#[]⟩)].foldl addR st00 = stF e [] [] := by
  match e, he with
  | 0, _ =>
    funext x
    rcases x with _ | _ | x
    · decide +kernel
    · decide +kernel
    · simp [stF, addR, recOf, bg, addSt, st00, b37, b07]
  | 1, _ =>
    funext x
    rcases x with _ | _ | x
    · decide +kernel
    · decide +kernel
    · simp [stF, addR, recOf, bg, addSt, st00, b37, b07]
theorem stF_sent (e : Nat) (he : e < 2) (s g : List ByteArray) (d : ByteArray) : addR (stF e s g) (recOf ((e : Int), 1, 0, d)) = stF e (s ++ [d]) g := by
  match e, he with
  | 0, _ => funext x; rcases x with _ | _ | x <;> simp [stF, addR, recOf, bg, modSt, addTx]
  | 1, _ => funext x; rcases x with _ | _ | x <;> simp [stF, addR, recOf, bg, modSt, addTx]
theorem stF_got (e : Nat) (he : e < 2) (s g : List ByteArray) (d : ByteArray) : addR (stF e s g) (recOf (1 - (e : Int), 2, 0, d)) = stF e s (g ++ [d]) := by
  match e, he with
  | 0, _ => funext x; rcases x with _ | _ | x <;> simp [stF, addR, recOf, bg, modSt, addTx]
  | 1, _ => funext x; rcases x with _ | _ | x <;> simp [stF, addR, recOf, bg, modSt, addTx]
theorem stF_sound (e : Nat) (he : e < 2) (s g : List ByteArray) : soundB (stF e s g) = (g.length == 0 || preB s g) := by
  match e, he with
  | 0, _ =>
    unfold soundB stF
    simp [matchL]
    by_cases hg : g.length = 0
    · simp [List.length_eq_zero_iff.1 hg]
    · cases g with
      | nil => simp at hg
      | cons a g => cases h : preB s (a :: g) <;> simp [List.findIdx?, List.findIdx?.go, h]
  | 1, _ =>
    unfold soundB stF
    simp [matchL]
    by_cases hg : g.length = 0
    · simp [List.length_eq_zero_iff.1 hg]
    · cases g with
      | nil => simp at hg
      | cons a g => cases h : preB s (a :: g) <;> simp [List.findIdx?, List.findIdx?.go, h]
theorem stF_cap (e : Nat) (s g : List ByteArray) (M : Nat) (hM : 1 ≤ M) (hs : s.length ≤ M) (hg : g.length ≤ M) : Cap (stF e s g) M := by
  intro x
  unfold stF
  split
  · refine ⟨by simpa using hM, fun i k => ?_⟩
    unfold cont
    rcases i with _ | i <;> split <;> simp [hs]
  · split
    · refine ⟨by simpa using hM, fun i k => ?_⟩
      unfold cont
      rcases i with _ | i <;> split <;> simp [hg]
    · refine ⟨by simp, fun i k => ?_⟩
      unfold cont
      split <;> simp
end Go.Proofs.Ytjjnhndlollldaa.Ep
