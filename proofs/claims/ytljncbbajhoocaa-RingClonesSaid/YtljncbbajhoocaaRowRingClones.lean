/-
The row of RingClones: whatever the input, the law's call returns true and leaves its arguments as they were. No condition beside the row's own.
-/
import Derived.Test.YtljncbbajhoocaaRows
import Derived.Test.YtljncbbajhoocaaClonesLaw
import Derived.WalkKit
import Derived.ProofKit
import Derived.OpenShut
import Derived.ShutString
import Derived.ChangeOld
import Derived.Below
import Derived.SizedLaws
import Derived.SliceStrings
import Derived.Test.YtljncbbajhoocaaArgs
import Derived.Test.YtljncbbajhoocaaArgs3
namespace Go.Proofs.Ytljncbbajhoocaa.ringClones
open Go.ChangeShapes Go.WideShapes Go.ChangeAt Go.RowKit
open Go.ChangeMaps (open_string shut_string)
set_option linter.unusedVariables false
theorem own : ownKnob Try.prog.godebug = none := by kernel_rfl
theorem laidOut : laidOutB Try.prog = true := by kernel_rfl
set_option maxRecDepth 100000 in
theorem lifted (os : Os) (started : os.Started) (H : Type) (enc : TypeId × Value → H) :
    ReturnsInHanded {} Try.checked os 12 .any (Rows.ringClonesSpec.pre6 enc Try.prog Try.f12 Rows.ringClonesRow.domain false) (Rows.ringClonesSpec.post enc Try.prog Try.f12 false true false false) := by
  refine returnsInHanded_of_change_sized (C := Try.checked) own started (by kernel_rfl) Try.func12
    (ChangeSpec.witness6 (enc := enc) (C := Try.checked) false ⟨#[], #[.agg #[.int .i64 0, .slice none 0 0, .slice none 0 0, .slice none 0 0]], []⟩ 8 (by kernel_rfl) (by kernel_rfl) (by kernel_rfl) (by kernel_rfl)) ?_
  intro W base args ds gs before hval0 hW hcnd hsz0 _
  have hsz : (DataW.weightsEach Try.prog (Try.f12.params.toList ++ Rows.ringClonesSpec.plain.varTypes Try.prog) (ds ++ gs)).all (· ≤ reachBytes) = true := hsz0
  have hval : ∀ (j : Nat) t v, Try.f12.params[j]? = some t → args[j]? = some v → Value.okWide Try.prog W .any base t v := hval0
  have hW' := hW
  obtain ⟨p, q, hA0, hV, rfl, hfz, hnd⟩ := hW
  have hA : DataW.TrodAll enc Try.prog W 0 (fun _ => true) true Try.f12.params.toList args.toList ds p := hA0
  rw [Try.params12] at hA hval hsz
  obtain ⟨v0, vs0, d0, ds0, p0, q0, hargs, rfl, rfl, h0, r0⟩ := trodAll_cons hA
  obtain ⟨rfl, rfl, rfl⟩ := trodAll_nil r0
  obtain rfl : args = #[v0] := by cases args; simp_all
  obtain ⟨rfl, rfl⟩ := trodVars_none hV
  have k0 := h0
  have lt0 : ∀ x ∈ p0, x.block < W.heap.size := by obtain ⟨m, hm⟩ := k0; exact DataW.trod_lt m _ _ _ hm
  obtain ⟨u0, u1, u2, u3, y0, y1, y2, y3, n0, rfl, rfl, rfl, t0, t1, t2, t3⟩ := Joins.open_agg4 Try.underlying65 (by kernel_rfl) (by kernel_rfl) (hval 0 65 v0 rfl rfl) h0
  obtain ⟨g0, e0, _, _⟩ := DataW.trod_int Try.underlying3 t0
  obtain rfl : u0 = .int .i64 g0 := by simpa using e0
  obtain ⟨a1, len1, cap1, rfl, q1'⟩ := Args.slice_of Try.underlying63 t1
  obtain ⟨z1, w1, _, l1⟩ := Args.open_pairs Try.underlying63 Try.underlying67 (by kernel_rfl) (by kernel_rfl) Try.underlying3 Try.underlying3 q1'
  obtain ⟨a2, len2, cap2, rfl, q2'⟩ := Args.slice_of Try.underlying63 t2
  obtain ⟨z2, w2, _, l2⟩ := Args.open_pairs Try.underlying63 Try.underlying67 (by kernel_rfl) (by kernel_rfl) Try.underlying3 Try.underlying3 q2'
  obtain ⟨a3, len3, cap3, rfl, q3'⟩ := Args.slice_of Try.underlying63 t3
  obtain ⟨z3, w3, _, l3⟩ := Args.open_pairs Try.underlying63 Try.underlying67 (by kernel_rfl) (by kernel_rfl) Try.underlying3 Try.underlying3 q3'
  clear hA0 hval0 hsz0 hsz
  refine (ClonesLaw.clones_law W g0 a1 a2 a3 len1 len2 len3 cap1 cap2 cap3 z1 z2 z3 w1 w2 w3 l1 l2 l3).mono fun e W' ⟨he, bel⟩ => ?_
  subst he
  exact ⟨_, rfl, _, _, _, [], _, [], hW', trodAll_mk1 (shut_bool Try.underlying4 _), (trodAll_cons_mk (Below.trod laidOut (by kernel_rfl) (of_decide_eq_true (by kernel_rfl)) k0 bel lt0) trodAll_mk0), rfl, bel.frame _, fun h => by cases h⟩
theorem over : Rows.ringClonesRow.holds Try.pinned (OpenSpec.ofChange Rows.ringClonesSpec) :=
  OpenClaim.holds_of_wide 12 Try.f12 rfl rfl rfl rfl rfl rfl rfl ⟨rfl, rfl, rfl, rfl, rfl⟩ rfl rfl rfl rfl rfl (by kernel_rfl) Try.func12 (by kernel_rfl)
    (of_decide_eq_true (by kernel_rfl)) (by unfold Func.isWrapper; first | (rw [if_pos (by decide +kernel)]; kernel_rfl) | (rw [if_neg (by decide +kernel)]; exact ⟨rfl, rfl⟩))
    (fun os started H enc _ => lifted os started H enc)
theorem proved : Rows.RingClonesSaid := over
#print axioms proved
end Go.Proofs.Ytljncbbajhoocaa.ringClones
namespace Go.Proofs.Ytljncbbajhoocaa
/-- The row, under a short name, for the claim. -/
theorem ringClones_holds : Rows.RingClonesSaid := ringClones.proved
end Go.Proofs.Ytljncbbajhoocaa
