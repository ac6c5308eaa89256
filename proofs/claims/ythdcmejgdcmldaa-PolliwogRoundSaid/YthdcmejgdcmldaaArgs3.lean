/-
How a list of pairs of whole numbers that came in is read in a walk; and a list inside a struct. No condition.
-/
import Derived.Test.YthdcmejgdcmldaaArgs2
import Derived.Lib.SmallJoins
namespace Go.Proofs.Ythdcmejgdcmldaa.Args
open Go.RowKit Go.ChangeShapes Go.WideShapes Go.Deep

section
variable {H : Type} {enc : TypeId × Value → H} {P : Program} {W : World} {base : Nat} {spare : Nat → Bool} {held : Bool}
/-- A slice's form. -/
theorem slice_of {t e : TypeId} {n : Nat} {v : Value} {y : DataW H × List MemPlace} (ht : P.underlying t = some (.slice e)) (h : DataW.trod enc P W base spare held n t [v] = some y) : ∃ a len cap, v = .slice a len cap ∧ DataW.Trod enc P W base spare held t (.slice a len cap) y.1 y.2 := by
  rcases open_slice ht h with ⟨hcs, _⟩ | ⟨x, l, c, m, n2, D, Pl, hcs, _⟩
  · injection hcs with hcs _
    subst hcs
    exact ⟨none, 0, 0, rfl, n, by simpa [Value.cells] using h⟩
  · injection hcs with hcs _
    subst hcs
    exact ⟨some x, l, c, rfl, n, by simpa [Value.cells] using h⟩
theorem dec_pair {e : TypeId} {f0 f1 : Field} {k0 k1 : IntKind} (he : P.underlying e = some (.struct #[f0, f1])) (hone : oneCellFields P #[f0, f1] = true) (u0 : P.underlying f0.type = some (.int k0)) (u1 : P.underlying f1.type = some (.int k1))
    (n : Nat) (cs : List Value) (y : DataW H × List MemPlace) (hl : cs.length = 2) (hy : DataW.trod enc P W base spare held n e cs = some y) :
    ∃ x : Int × Int, ((Lit.int k0 x.1).wf = true ∧ (Lit.int k1 x.2).wf = true) ∧ ∀ (j : Nat) (v : Value), ([Value.int k0 x.1, Value.int k1 x.2] : List Value)[j]? = some v → cs[j]? = some v := by
  match cs, hl with
  | [c0, c1], _ =>
    obtain ⟨ys, n', hn', hy', hlen, hyl, hf⟩ := DataW.trod_struct he hy
    obtain ⟨o0, q0⟩ := hone_of hone 0 f0 rfl
    obtain ⟨o1, q1⟩ := hone_of hone 1 f1 rfl
    have h0 := hf 0 f0 rfl
    have h1 := hf 1 f1 rfl
    rw [o0, q0] at h0
    rw [o1, q1] at h1
    have l2 : ys.length = 2 := hyl
    have g0 : ys[0]? = some (ys[0]'(by omega)) := List.getElem?_eq_getElem (by omega)
    have g1 : ys[1]? = some (ys[1]'(by omega)) := List.getElem?_eq_getElem (by omega)
    rw [g0] at h0
    rw [g1] at h1
    obtain ⟨z0, e0, _, w0⟩ := DataW.trod_int u0 h0
    obtain ⟨z1, e1, _, w1⟩ := DataW.trod_int u1 h1
    have e0' : c0 = .int k0 z0 := by simpa using e0
    have e1' : c1 = .int k1 z1 := by simpa using e1
    exact ⟨(z0, z1), ⟨w0, w1⟩, fun j v hv => by rw [e0', e1']; exact hv⟩
theorem open_pairs {t e : TypeId} {f0 f1 : Field} {k0 k1 : IntKind} {a : Option Addr} {len cap : Nat} {d : DataW H} {ps : List MemPlace} (ht : P.underlying t = some (.slice e)) (he : P.underlying e = some (.struct #[f0, f1])) (hone : oneCellFields P #[f0, f1] = true) (hC : P.cellsOf e = 2)
    (u0 : P.underlying f0.type = some (.int k0)) (u1 : P.underlying f1.type = some (.int k1)) (h : DataW.Trod enc P W base spare held t (.slice a len cap) d ps) :
    ∃ xs : List (Int × Int), ArgRow 2 (fun x => [Value.int k0 x.1, Value.int k1 x.2]) W a len xs ∧ (∀ x ∈ xs, (Lit.int k0 x.1).wf = true ∧ (Lit.int k1 x.2).wf = true) ∧ len ≤ maxLen :=
  open_any 2 (fun x : Int × Int => [Value.int k0 x.1, Value.int k1 x.2]) (fun x => (Lit.int k0 x.1).wf = true ∧ (Lit.int k1 x.2).wf = true) ht hC (fun _ => by simp) (fun n cs y hl hy => dec_pair he hone u0 u1 n cs y hl hy) h
end
end Go.Proofs.Ythdcmejgdcmldaa.Args
