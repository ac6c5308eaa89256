/-
How a list that came in is read in a walk, whatever its elements: an element's cells from its reading. No condition but the elements' own.
-/
import Derived.Test.YtjjnhndlollldaaArgs
import Derived.Deep.Fields
namespace Go.Proofs.Ytjjnhndlollldaa.Args
open Go.RowKit Go.ChangeShapes Go.WideShapes Go.Deep

theorem open_any {α : Type} [Inhabited α] {H : Type} {enc : TypeId × Value → H} {P : Program} {W : World} {base : Nat} {spare : Nat → Bool} {held : Bool} {t e : TypeId} {a : Option Addr} {len cap : Nat} {d : DataW H} {ps : List MemPlace}
    (size : Nat) (form : α → List Value) (Pr : α → Prop) (ht : P.underlying t = some (.slice e)) (hC : P.cellsOf e = size)
    (hform : ∀ x, 0 < (form x).length)
    (dec : ∀ (n : Nat) (cs : List Value) (y : DataW H × List MemPlace), cs.length = size → DataW.trod enc P W base spare held n e cs = some y → ∃ x : α, Pr x ∧ ∀ (j : Nat) (v : Value), (form x)[j]? = some v → cs[j]? = some v)
    (h : DataW.Trod enc P W base spare held t (.slice a len cap) d ps) : ∃ xs : List α, ArgRow size form W a len xs ∧ (∀ x ∈ xs, Pr x) ∧ len ≤ maxLen := by
  obtain ⟨fuel, hf⟩ := h
  rcases open_slice ht hf with ⟨hcs, _⟩ | ⟨x, l, c, m, n, D, Pl, hcs, _, hl, hmx, hz, hx, hi⟩
  · simp [Value.cells] at hcs
    obtain ⟨rfl, rfl, rfl⟩ := hcs
    exact ⟨[], ⟨rfl, (fun h => by omega)⟩, (fun _ h => by cases h), by decide⟩
  · simp [Value.cells] at hcs
    obtain ⟨rfl, rfl, rfl⟩ := hcs
    have hlm : len ≤ m := by rw [hz]; split <;> omega
    obtain ⟨f, hf2⟩ := choose_lt (α := α) (n := len) (p := fun i y => Pr y ∧ ∀ (j : Nat) (v : Value), (form y)[j]? = some v → W.cell? (x.add (i * size + j)) = some v) (fun i hil => by
      obtain ⟨cs', h1, h2⟩ := hi i (by omega)
      rw [hC] at h1
      obtain ⟨_, h3, h4⟩ := World.cells?_some h1
      obtain ⟨y, h5, h6⟩ := dec n cs' _ h3 h2
      refine ⟨y, h5, fun j v hv => ?_⟩
      have h7 := h6 j v hv
      have hj : j < size := by rw [← h3]; exact (List.getElem?_eq_some_iff.1 h7).1
      rw [← Go.Deep.add_add, h4 j hj, h7])
    refine ⟨(List.range len).map f, ⟨by simp, fun hn => ?_⟩, fun y hy => ?_, by omega⟩
    · have h0 := (hf2 0 hn).2 0
      have hf0 := hform (f 0)
      obtain ⟨b, off, rfl, hlt⟩ := addr_form (h0 _ (List.getElem?_eq_getElem hf0) |> fun z => by simpa using z)
      refine ⟨b, off, rfl, hlt, fun i hil j v hv => ?_⟩
      have hil2 : i < len := by simpa using hil
      have h1 := (hf2 i hil2).2 j v (by simpa using hv)
      rw [add_form] at h1
      rw [show off + i * size + j = off + (i * size + j) by omega]
      exact h1
    · obtain ⟨i, hi2, rfl⟩ := List.mem_map.1 hy
      exact (hf2 i (by simpa using hi2)).1
/-- Of truth values. -/
theorem open_boolrow {H : Type} {enc : TypeId × Value → H} {P : Program} {W : World} {base : Nat} {spare : Nat → Bool} {held : Bool} {t e : TypeId} {a : Option Addr} {len cap : Nat} {d : DataW H} {ps : List MemPlace}
    (ht : P.underlying t = some (.slice e)) (he : P.underlying e = some .bool) (hC : P.cellsOf e = 1)
    (h : DataW.Trod enc P W base spare held t (.slice a len cap) d ps) : ∃ xs : List Bool, ArgRow 1 (fun x => [Value.bool x]) W a len xs ∧ (∀ x ∈ xs, True) ∧ len ≤ maxLen :=
  open_any 1 (fun x => [Value.bool x]) (fun _ => True) ht hC (fun _ => by simp) (fun n cs y hl hy => by
    obtain ⟨b, h1, _⟩ := DataW.trod_bool he hy
    exact ⟨b, trivial, fun j v hv => by rw [h1]; exact hv⟩) h
end Go.Proofs.Ytjjnhndlollldaa.Args
