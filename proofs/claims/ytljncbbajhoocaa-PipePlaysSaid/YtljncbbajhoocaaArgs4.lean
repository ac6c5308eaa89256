/-
How a list of structs of three whole numbers that came in is read in a walk. No condition.
-/
import Derived.Test.YtljncbbajhoocaaArgs2
import Derived.Lib.SmallJoins
namespace Go.Proofs.Ytljncbbajhoocaa.Args
open Go.RowKit Go.ChangeShapes Go.WideShapes Go.Deep

section
variable {H : Type} {enc : TypeId × Value → H} {P : Program} {W : World} {base : Nat} {spare : Nat → Bool} {held : Bool}
theorem dec_trip {e : TypeId} {f0 f1 f2 : Field} {k0 k1 k2 : IntKind} (he : P.underlying e = some (.struct #[f0, f1, f2])) (hone : oneCellFields P #[f0, f1, f2] = true) (u0 : P.underlying f0.type = some (.int k0)) (u1 : P.underlying f1.type = some (.int k1)) (u2 : P.underlying f2.type = some (.int k2))
    (n : Nat) (cs : List Value) (y : DataW H × List MemPlace) (hl : cs.length = 3) (hy : DataW.trod enc P W base spare held n e cs = some y) :
    ∃ x : Int × Int × Int, ((Lit.int k0 x.1).wf = true ∧ (Lit.int k1 x.2.1).wf = true ∧ (Lit.int k2 x.2.2).wf = true) ∧ ∀ (j : Nat) (v : Value), ([Value.int k0 x.1, Value.int k1 x.2.1, Value.int k2 x.2.2] : List Value)[j]? = some v → cs[j]? = some v := by
  match cs, hl with
  | [c0, c1, c2], _ =>
    obtain ⟨ys, n', hn', hy', hlen, hyl, hf⟩ := DataW.trod_struct he hy
    obtain ⟨o0, q0⟩ := hone_of hone 0 f0 rfl
    obtain ⟨o1, q1⟩ := hone_of hone 1 f1 rfl
    obtain ⟨o2, q2⟩ := hone_of hone 2 f2 rfl
    have h0 := hf 0 f0 rfl
    have h1 := hf 1 f1 rfl
    have h2 := hf 2 f2 rfl
    rw [o0, q0] at h0
    rw [o1, q1] at h1
    rw [o2, q2] at h2
    have l2 : ys.length = 3 := hyl
    have g0 : ys[0]? = some (ys[0]'(by omega)) := List.getElem?_eq_getElem (by omega)
    have g1 : ys[1]? = some (ys[1]'(by omega)) := List.getElem?_eq_getElem (by omega)
    have g2 : ys[2]? = some (ys[2]'(by omega)) := List.getElem?_eq_getElem (by omega)
    rw [g0] at h0
    rw [g1] at h1
    rw [g2] at h2
    obtain ⟨z0, e0, _, w0⟩ := DataW.trod_int u0 h0
    obtain ⟨z1, e1, _, w1⟩ := DataW.trod_int u1 h1
    obtain ⟨z2, e2, _, w2⟩ := DataW.trod_int u2 h2
    have e0' : c0 = .int k0 z0 := by simpa using e0
    have e1' : c1 = .int k1 z1 := by simpa using e1
    have e2' : c2 = .int k2 z2 := by simpa using e2
    exact ⟨(z0, z1, z2), ⟨w0, w1, w2⟩, fun j v hv => by rw [e0', e1', e2']; exact hv⟩
/-- Of structs of three numbers. -/
theorem open_trips {t e : TypeId} {f0 f1 f2 : Field} {k0 k1 k2 : IntKind} {a : Option Addr} {len cap : Nat} {d : DataW H} {ps : List MemPlace} (ht : P.underlying t = some (.slice e)) (he : P.underlying e = some (.struct #[f0, f1, f2])) (hone : oneCellFields P #[f0, f1, f2] = true) (hC : P.cellsOf e = 3)
    (u0 : P.underlying f0.type = some (.int k0)) (u1 : P.underlying f1.type = some (.int k1)) (u2 : P.underlying f2.type = some (.int k2)) (h : DataW.Trod enc P W base spare held t (.slice a len cap) d ps) :
    ∃ xs : List (Int × Int × Int), ArgRow 3 (fun x => [Value.int k0 x.1, Value.int k1 x.2.1, Value.int k2 x.2.2]) W a len xs ∧ (∀ x ∈ xs, (Lit.int k0 x.1).wf = true ∧ (Lit.int k1 x.2.1).wf = true ∧ (Lit.int k2 x.2.2).wf = true) ∧ len ≤ maxLen :=
  open_any 3 (fun x : Int × Int × Int => [Value.int k0 x.1, Value.int k1 x.2.1, Value.int k2 x.2.2]) (fun x => (Lit.int k0 x.1).wf = true ∧ (Lit.int k1 x.2.1).wf = true ∧ (Lit.int k2 x.2.2).wf = true) ht hC (fun _ => by simp) (fun n cs y hl hy => dec_trip he hone u0 u1 u2 n cs y hl hy) h
end
end Go.Proofs.Ytljncbbajhoocaa.Args
