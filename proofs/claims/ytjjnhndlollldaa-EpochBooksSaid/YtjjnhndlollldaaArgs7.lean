/-
How a list of notes that came in (three numbers and a text) is read in a walk. No condition.
-/
import Derived.Test.YtjjnhndlollldaaArgs2
import Derived.Lib.SmallJoins
namespace Go.Proofs.Ytjjnhndlollldaa.Args
open Go.RowKit Go.ChangeShapes Go.WideShapes Go.Deep

section
variable {H : Type} {enc : TypeId × Value → H} {P : Program} {W : World} {base : Nat} {spare : Nat → Bool} {held : Bool}
theorem dec_note {e : TypeId} {f0 f1 f2 f3 : Field} (he : P.underlying e = some (.struct #[f0, f1, f2, f3])) (hone : oneCellFields P #[f0, f1, f2, f3] = true) (u0 : P.underlying f0.type = some (.int .i64)) (u1 : P.underlying f1.type = some (.int .i64)) (u2 : P.underlying f2.type = some (.int .i64)) (u3 : P.underlying f3.type = some .string)
    (n : Nat) (cs : List Value) (y : DataW H × List MemPlace) (hl : cs.length = 4) (hy : DataW.trod enc P W base spare held n e cs = some y) :
    ∃ x : Int × Int × Int × ByteArray, True ∧ ∀ (j : Nat) (v : Value), ([Value.int .i64 x.1, Value.int .i64 x.2.1, Value.int .i64 x.2.2.1, Value.string x.2.2.2] : List Value)[j]? = some v → cs[j]? = some v := by
  match cs, hl with
  | [c0, c1, c2, c3], _ =>
    obtain ⟨ys, n', hn', hy', hlen, hyl, hf⟩ := DataW.trod_struct he hy
    obtain ⟨o0, q0⟩ := hone_of hone 0 f0 rfl
    obtain ⟨o1, q1⟩ := hone_of hone 1 f1 rfl
    obtain ⟨o2, q2⟩ := hone_of hone 2 f2 rfl
    obtain ⟨o3, q3⟩ := hone_of hone 3 f3 rfl
    have h0 := hf 0 f0 rfl
    have h1 := hf 1 f1 rfl
    have h2 := hf 2 f2 rfl
    have h3 := hf 3 f3 rfl
    rw [o0, q0] at h0
    rw [o1, q1] at h1
    rw [o2, q2] at h2
    rw [o3, q3] at h3
    have l2 : ys.length = 4 := hyl
    have g0 : ys[0]? = some (ys[0]'(by omega)) := List.getElem?_eq_getElem (by omega)
    have g1 : ys[1]? = some (ys[1]'(by omega)) := List.getElem?_eq_getElem (by omega)
    have g2 : ys[2]? = some (ys[2]'(by omega)) := List.getElem?_eq_getElem (by omega)
    have g3 : ys[3]? = some (ys[3]'(by omega)) := List.getElem?_eq_getElem (by omega)
    rw [g0] at h0
    rw [g1] at h1
    rw [g2] at h2
    rw [g3] at h3
    obtain ⟨z0, e0, _, w0⟩ := DataW.trod_int u0 h0
    obtain ⟨z1, e1, _, w1⟩ := DataW.trod_int u1 h1
    obtain ⟨z2, e2, _, w2⟩ := DataW.trod_int u2 h2
    obtain ⟨s3, e3, _⟩ := DataW.trod_string u3 h3
    have e0' : c0 = .int .i64 z0 := by simpa using e0
    have e1' : c1 = .int .i64 z1 := by simpa using e1
    have e2' : c2 = .int .i64 z2 := by simpa using e2
    have e3' : c3 = .string s3 := by simpa using e3
    exact ⟨(z0, z1, z2, s3), trivial, fun j v hv => by rw [e0', e1', e2', e3']; exact hv⟩
theorem open_notes {t e : TypeId} {f0 f1 f2 f3 : Field} {a : Option Addr} {len cap : Nat} {d : DataW H} {ps : List MemPlace} (ht : P.underlying t = some (.slice e)) (he : P.underlying e = some (.struct #[f0, f1, f2, f3])) (hone : oneCellFields P #[f0, f1, f2, f3] = true) (hC : P.cellsOf e = 4)
    (u0 : P.underlying f0.type = some (.int .i64)) (u1 : P.underlying f1.type = some (.int .i64)) (u2 : P.underlying f2.type = some (.int .i64)) (u3 : P.underlying f3.type = some .string) (h : DataW.Trod enc P W base spare held t (.slice a len cap) d ps) :
    ∃ xs : List (Int × Int × Int × ByteArray), ArgRow 4 (fun x => [Value.int .i64 x.1, Value.int .i64 x.2.1, Value.int .i64 x.2.2.1, Value.string x.2.2.2]) W a len xs ∧ (∀ x ∈ xs, True) ∧ len ≤ maxLen :=
  open_any 4 (fun x : Int × Int × Int × ByteArray => [Value.int .i64 x.1, Value.int .i64 x.2.1, Value.int .i64 x.2.2.1, Value.string x.2.2.2]) (fun _ => True) ht hC (fun _ => by simp) (fun n cs y hl hy => dec_note he hone u0 u1 u2 u3 n cs y hl hy) h
end
end Go.Proofs.Ytjjnhndlollldaa.Args
