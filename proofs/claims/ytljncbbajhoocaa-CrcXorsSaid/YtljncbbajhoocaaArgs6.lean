/-
How a list of arrays of three bytes that came in is read in a walk. No condition.
-/
import Derived.Test.YtljncbbajhoocaaArgs2
import Derived.OpenShut
namespace Go.Proofs.Ytljncbbajhoocaa.Args
open Go.RowKit Go.ChangeShapes Go.WideShapes Go.Deep

section
variable {H : Type} {enc : TypeId × Value → H} {P : Program} {W : World} {base : Nat} {spare : Nat → Bool} {held : Bool}
theorem byte_of {z : Int} (h : (Lit.int .u8 z).wf = true) : ∃ b : UInt8, z = (b.toNat : Int) := by
  have h1 : 0 ≤ z ∧ z < 256 := by
    have e0 : IntKind.u8.min = 0 := rfl
    have e1 : IntKind.u8.max = 255 := rfl
    simp only [Lit.wf, e0, e1, Bool.and_eq_true, decide_eq_true_eq] at h
    omega
  refine ⟨UInt8.ofNat z.toNat, ?_⟩
  rw [UInt8.toNat_ofNat', Nat.mod_eq_of_lt (by omega)]
  omega
theorem dec_tri {e f : TypeId} (he : P.underlying e = some (.array 3 f)) (hf : P.underlying f = some (.int .u8)) (hC : P.cellsOf f = 1)
    (n : Nat) (cs : List Value) (y : DataW H × List MemPlace) (hl : cs.length = 3) (hy : DataW.trod enc P W base spare held n e cs = some y) :
    ∃ x : UInt8 × UInt8 × UInt8, True ∧ ∀ (j : Nat) (v : Value), ([Value.int .u8 x.1.toNat, .int .u8 x.2.1.toNat, .int .u8 x.2.2.toNat] : List Value)[j]? = some v → cs[j]? = some v := by
  match cs, hl with
  | [c0, c1, c2], _ =>
    obtain ⟨ys, n', hn', hy', hlen, hyl, hg⟩ := DataW.trod_array he hy
    rw [hC] at hg
    have h0 := hg 0 (by omega)
    have h1 := hg 1 (by omega)
    have h2 := hg 2 (by omega)
    rw [List.getElem?_eq_getElem (by omega)] at h0 h1 h2
    obtain ⟨z0, e0, _, w0⟩ := DataW.trod_int hf h0
    obtain ⟨z1, e1, _, w1⟩ := DataW.trod_int hf h1
    obtain ⟨z2, e2, _, w2⟩ := DataW.trod_int hf h2
    have e0' : c0 = .int .u8 z0 := by simpa using e0
    have e1' : c1 = .int .u8 z1 := by simpa using e1
    have e2' : c2 = .int .u8 z2 := by simpa using e2
    obtain ⟨b0, rfl⟩ := byte_of w0
    obtain ⟨b1, rfl⟩ := byte_of w1
    obtain ⟨b2, rfl⟩ := byte_of w2
    exact ⟨(b0, b1, b2), trivial, fun j v hv => by rw [e0', e1', e2']; exact hv⟩
/-- Of arrays of three bytes; and that the length is within the capacity. -/
theorem open_tris {t e f : TypeId} {a : Option Addr} {len cap : Nat} {d : DataW H} {ps : List MemPlace} (ht : P.underlying t = some (.slice e)) (he : P.underlying e = some (.array 3 f)) (hC : P.cellsOf e = 3) (hC1 : P.cellsOf f = 1) (hf : P.underlying f = some (.int .u8)) (h : DataW.Trod enc P W base spare held t (.slice a len cap) d ps) :
    ∃ xs : List (UInt8 × UInt8 × UInt8), (ArgRow 3 (fun x => [Value.int .u8 x.1.toNat, .int .u8 x.2.1.toNat, .int .u8 x.2.2.toNat]) W a len xs ∧ len ≤ cap) ∧ (∀ x ∈ xs, True) ∧ len ≤ maxLen := by
  obtain ⟨xs, h1, h2, h3⟩ := open_any 3 (fun x : UInt8 × UInt8 × UInt8 => [Value.int .u8 x.1.toNat, .int .u8 x.2.1.toNat, .int .u8 x.2.2.toNat]) (fun _ => True) ht hC (fun _ => by simp) (fun n cs y hl hy => dec_tri he hf hC1 n cs y hl hy) h
  refine ⟨xs, ⟨h1, ?_⟩, h2, h3⟩
  obtain ⟨fuel, hf⟩ := h
  rcases open_slice ht hf with ⟨hcs, _⟩ | ⟨x, l, c, m, n, D, Pl, hcs, _, hl, _⟩
  · simp [Value.cells] at hcs
    obtain ⟨rfl, rfl, rfl⟩ := hcs
    omega
  · simp [Value.cells] at hcs
    obtain ⟨rfl, rfl, rfl⟩ := hcs
    exact hl
end
end Go.Proofs.Ytljncbbajhoocaa.Args
