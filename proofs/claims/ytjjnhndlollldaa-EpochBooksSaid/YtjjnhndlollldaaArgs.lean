/-
How a list that came in is read in a walk: its cells one by one, whatever its spare room; of texts and of whole numbers.
-/
import Derived.Test.YtjjnhndlollldaaRows
import Derived.WalkKit
import Derived.SliceStrings
import Derived.ChangeSlices
import Derived.Below
import Derived.Lib.Hide
import Derived.Deep.Slices
import Derived.SizedLaws
namespace Go.Proofs.Ytjjnhndlollldaa.Args
open Go.RowKit

/-- The list xs came in as a slice of n elements at a: each element has 'size' cells. -/
structure ArgRow {α : Type} (size : Nat) (enc : α → List Value) (w : World) (a : Option Addr) (n : Nat) (xs : List α) : Prop where
  len : xs.length = n
  form : 0 < n → ∃ b off, a = some ⟨b, off, none⟩ ∧ b < w.heap.size ∧ ∀ i (h : i < xs.length) (j : Nat) (v : Value), (enc xs[i])[j]? = some v → w.cell? ⟨b, off + i * size + j, none⟩ = some v
theorem ArgRow.below {α : Type} {size : Nat} {enc : α → List Value} {w w' : World} {a : Option Addr} {n : Nat} {xs : List α} (h : ArgRow size enc w a n xs) {B : Nat} (hb : Below B w w') (hB : w.heap.size ≤ B) : ArgRow size enc w' a n xs := by
  refine ⟨h.len, fun hn => ?_⟩
  obtain ⟨b, off, he, hlt, hc⟩ := h.form hn
  refine ⟨b, off, he, Nat.lt_of_lt_of_le hlt hb.size, fun i hi j v hv => ?_⟩
  rw [hb.cell (p := ⟨b, off + i * size + j, none⟩) (by show b < B; omega)]
  exact hc i hi j v hv
/-- One cell an element. -/
theorem ArgRow.one {α : Type} {f : α → Value} {w : World} {a : Option Addr} {n : Nat} {xs : List α} (h : ArgRow 1 (fun x => [f x]) w a n xs) (hn : 0 < n) :
    ∃ b off, a = some ⟨b, off, none⟩ ∧ b < w.heap.size ∧ ∀ i (h : i < xs.length), w.cell? ⟨b, off + i, none⟩ = some (f xs[i]) := by
  obtain ⟨b, off, he, hlt, hc⟩ := h.form hn
  exact ⟨b, off, he, hlt, fun i hi => by have := hc i hi 0 (f xs[i]) rfl; simpa using this⟩
theorem addr_form {w : World} {a : Addr} {v : Value} (h : w.cell? (a.add 0) = some v) : ∃ b off, a = ⟨b, off, none⟩ ∧ b < w.heap.size := by
  obtain ⟨b, off, sp⟩ := a
  have hlt := block_lt_of_cell h
  cases sp with
  | none => exact ⟨b, off, rfl, by simpa [Addr.add] using hlt⟩
  | some s =>
    simp [World.cell?, Addr.add] at h
    split at h <;> cases h
theorem add_form (b off i : Nat) : (⟨b, off, none⟩ : Addr).add i = ⟨b, off + i, none⟩ := by unfold Addr.add; split <;> simp_all

def IsStrs (w : World) (a : Option Addr) (len cap : Nat) (zs : List ByteArray) : Prop :=
  (a = none ∧ len = 0 ∧ cap = 0 ∧ zs = []) ∨
  ∃ x, a = some x ∧ len ≤ cap ∧ cap ≤ maxLen ∧ zs.length = cap ∧ (∀ i, i < zs.length → w.cell? (x.add i) = some (.string (zs.getD i ByteArray.empty))) ∧ ∀ s ∈ zs, s.size ≤ maxLen
theorem IsStrs.row {w : World} {a : Option Addr} {len cap : Nat} {zs : List ByteArray} (h : IsStrs w a len cap zs) :
    ArgRow 1 (fun s => [Value.string s]) w a len (zs.take len) ∧ len ≤ maxLen ∧ ∀ s ∈ zs.take len, s.size ≤ maxLen := by
  rcases h with ⟨rfl, rfl, rfl, rfl⟩ | ⟨x, rfl, hl, hm, hz, hc, hs⟩
  · exact ⟨⟨rfl, fun h => by omega⟩, by decide, fun s h => by simp at h⟩
  · refine ⟨⟨by simp; omega, fun hn => ?_⟩, by omega, fun s h => hs s (List.mem_of_mem_take h)⟩
    obtain ⟨b, off, rfl, hlt⟩ := addr_form (hc 0 (by omega))
    refine ⟨b, off, rfl, hlt, fun i hi j v hv => ?_⟩
    have hi2 : i < zs.length := by simp at hi; omega
    have h1 := hc i hi2
    rw [add_form, List.getD_eq_getElem?_getD, List.getElem?_eq_getElem hi2] at h1
    cases j with
    | zero =>
      simp at hv
      subst hv
      simpa using h1
    | succ j => simp at hv
def IsInts (k : IntKind) (w : World) (a : Option Addr) (len cap : Nat) (zs : List Int) : Prop :=
  (a = none ∧ len = 0 ∧ cap = 0 ∧ zs = []) ∨
  ∃ x, a = some x ∧ len ≤ cap ∧ cap ≤ maxLen ∧ zs.length = cap ∧ (∀ i, i < zs.length → w.cell? (x.add i) = some (.int k (zs.getD i 0))) ∧ ∀ n ∈ zs, (Lit.int k n).wf = true
theorem IsInts.row {k : IntKind} {w : World} {a : Option Addr} {len cap : Nat} {zs : List Int} (h : IsInts k w a len cap zs) :
    ArgRow 1 (fun n => [Value.int k n]) w a len (zs.take len) ∧ len ≤ maxLen ∧ ∀ n ∈ zs.take len, (Lit.int k n).wf = true := by
  rcases h with ⟨rfl, rfl, rfl, rfl⟩ | ⟨x, rfl, hl, hm, hz, hc, hs⟩
  · exact ⟨⟨rfl, fun h => by omega⟩, by decide, fun s h => by simp at h⟩
  · refine ⟨⟨by simp; omega, fun hn => ?_⟩, by omega, fun s h => hs s (List.mem_of_mem_take h)⟩
    obtain ⟨b, off, rfl, hlt⟩ := addr_form (hc 0 (by omega))
    refine ⟨b, off, rfl, hlt, fun i hi j v hv => ?_⟩
    have hi2 : i < zs.length := by simp at hi; omega
    have h1 := hc i hi2
    rw [add_form, List.getD_eq_getElem?_getD, List.getElem?_eq_getElem hi2] at h1
    cases j with
    | zero =>
      simp at hv
      subst hv
      simpa using h1
    | succ j => simp at hv
/-- What the row's own reach says of a slice's length, whatever its elements. -/
theorem sized_any {H : Type} {enc : TypeId × Value → H} {P : Program} {W : World} {base : Nat} {spare : Nat → Bool} {held : Bool} {t e : TypeId} {a : Option Addr} {len cap : Nat} {d : DataW H} {ps : List MemPlace} {ts : List TypeId} {ds : List (DataW H)} {j : Nat}
    (hsz : (DataW.weightsEach P ts ds).all (· ≤ reachBytes) = true) (ht : ts[j]? = some t) (hd : ds[j]? = some d) (hu : P.underlying t = some (.slice e)) {B : Nat} (hB : P.bytesOf e = B)
    (h : DataW.Trod enc P W base spare held t (.slice a len cap) d ps) : len * B ≤ 140737488351232 := by
  obtain ⟨fuel, hf⟩ := h
  rcases Go.Deep.open_slice hu hf with ⟨hcs, _⟩ | ⟨x, l, c, m, n, D, Pl, hcs, _, hl, _, hz, hx, _⟩
  · simp [Value.cells] at hcs
    obtain ⟨rfl, rfl, rfl⟩ := hcs
    simp
  · simp [Value.cells] at hcs
    obtain ⟨rfl, rfl, rfl⟩ := hcs
    obtain ⟨hx, _⟩ := Prod.mk.inj hx
    subst hx
    have z := sized_slice hsz ht hd hu
    rw [hB] at z
    simp only [List.length_map, List.length_range] at z
    exact Nat.le_trans (Nat.mul_le_mul_right _ (by omega)) z
end Go.Proofs.Ytjjnhndlollldaa.Args
