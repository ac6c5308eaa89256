/-
How a list of acts that came in (a number, a text, and a struct of three numbers) is read in a walk. No condition.
-/
import Derived.Test.YtljncbbajhoocaaArgs4
namespace Go.Proofs.Ytljncbbajhoocaa.Args
open Go.RowKit Go.ChangeShapes Go.WideShapes Go.Deep

section
variable {H : Type} {enc : TypeId × Value → H} {P : Program} {W : World} {base : Nat} {spare : Nat → Bool} {held : Bool}
theorem dec_act {e : TypeId} {f0 f1 f2 g0 g1 g2 : Field} {k0 k1 k2 k3 : IntKind} (he : P.underlying e = some (.struct #[f0, f1, f2])) (hs : (f0.offset, P.cellsOf f0.type, f1.offset, P.cellsOf f1.type, f2.offset, P.cellsOf f2.type) = (0, 1, 1, 1, 2, 3)) (hone : oneCellFields P #[g0, g1, g2] = true)
    (u0 : P.underlying f0.type = some (.int k0)) (u1 : P.underlying f1.type = some .string) (u2 : P.underlying f2.type = some (.struct #[g0, g1, g2])) (v0 : P.underlying g0.type = some (.int k1)) (v1 : P.underlying g1.type = some (.int k2)) (v2 : P.underlying g2.type = some (.int k3))
    (n : Nat) (cs : List Value) (y : DataW H × List MemPlace) (hl : cs.length = 5) (hy : DataW.trod enc P W base spare held n e cs = some y) :
    ∃ x : Int × ByteArray × Int × Int × Int, True ∧ ∀ (j : Nat) (v : Value), ([Value.int k0 x.1, .string x.2.1, Value.int k1 x.2.2.1, Value.int k2 x.2.2.2.1, Value.int k3 x.2.2.2.2] : List Value)[j]? = some v → cs[j]? = some v := by
  match cs, hl with
  | [c0, c1, c2, c3, c4], _ =>
    obtain ⟨ys, n', hn', hy', hlen, hyl, hf⟩ := DataW.trod_struct he hy
    simp only [Prod.mk.injEq] at hs
    obtain ⟨o0, q0, o1, q1, o2, q2⟩ := hs
    have h0 := hf 0 f0 rfl
    have h1 := hf 1 f1 rfl
    have h2 := hf 2 f2 rfl
    rw [o0, q0] at h0
    rw [o1, q1] at h1
    rw [o2, q2] at h2
    have l2 : ys.length = 3 := hyl
    have g0' : ys[0]? = some (ys[0]'(by omega)) := List.getElem?_eq_getElem (by omega)
    have g1' : ys[1]? = some (ys[1]'(by omega)) := List.getElem?_eq_getElem (by omega)
    have g2' : ys[2]? = some (ys[2]'(by omega)) := List.getElem?_eq_getElem (by omega)
    rw [g0'] at h0
    rw [g1'] at h1
    rw [g2'] at h2
    obtain ⟨z0, e0, _, w0⟩ := DataW.trod_int u0 h0
    obtain ⟨s1, e1, _⟩ := DataW.trod_string u1 h1
    have e0' : c0 = .int k0 z0 := by simpa using e0
    have e1' : c1 = .string s1 := by simpa using e1
    obtain ⟨x, _, hx⟩ := dec_trip u2 hone v0 v1 v2 n' _ _ (by simp) h2
    refine ⟨(z0, s1, x.1, x.2.1, x.2.2), trivial, fun j v hv => ?_⟩
    match j with
    | 0 => rw [e0']; exact hv
    | 1 => rw [e1']; exact hv
    | j + 2 => exact hx j v (by simpa using hv)
/-- Of acts. -/
theorem open_acts {t e : TypeId} {f0 f1 f2 g0 g1 g2 : Field} {k0 k1 k2 k3 : IntKind} {a : Option Addr} {len cap : Nat} {d : DataW H} {ps : List MemPlace} (ht : P.underlying t = some (.slice e)) (he : P.underlying e = some (.struct #[f0, f1, f2]))
    (hs : (f0.offset, P.cellsOf f0.type, f1.offset, P.cellsOf f1.type, f2.offset, P.cellsOf f2.type) = (0, 1, 1, 1, 2, 3)) (hC : P.cellsOf e = 5) (hone : oneCellFields P #[g0, g1, g2] = true)
    (u0 : P.underlying f0.type = some (.int k0)) (u1 : P.underlying f1.type = some .string) (u2 : P.underlying f2.type = some (.struct #[g0, g1, g2])) (v0 : P.underlying g0.type = some (.int k1)) (v1 : P.underlying g1.type = some (.int k2)) (v2 : P.underlying g2.type = some (.int k3)) (h : DataW.Trod enc P W base spare held t (.slice a len cap) d ps) :
    ∃ xs : List (Int × ByteArray × Int × Int × Int), ArgRow 5 (fun x => [Value.int k0 x.1, .string x.2.1, Value.int k1 x.2.2.1, Value.int k2 x.2.2.2.1, Value.int k3 x.2.2.2.2]) W a len xs ∧ (∀ x ∈ xs, True) ∧ len ≤ maxLen :=
  open_any 5 (fun x : Int × ByteArray × Int × Int × Int => [Value.int k0 x.1, .string x.2.1, Value.int k1 x.2.2.1, Value.int k2 x.2.2.2.1, Value.int k3 x.2.2.2.2]) (fun _ => True) ht hC (fun _ => by simp) (fun n cs y hl hy => dec_act he hs hone u0 u1 u2 v0 v1 v2 n cs y hl hy) h
end
end Go.Proofs.Ytljncbbajhoocaa.Args
