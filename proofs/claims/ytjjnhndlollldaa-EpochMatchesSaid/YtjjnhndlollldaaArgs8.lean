/-
How a list of epochs that came in (two lists of texts each) is read in a walk, and that it is no longer than the machine's. Condition: what the row's own reach says of its size.
-/
import Derived.Test.YtjjnhndlollldaaArgs2
import Derived.Test.YtjjnhndlollldaaEp2
import Derived.Lib.SmallJoins
namespace Go.Proofs.Ytjjnhndlollldaa.Ep
open Go.RowKit Go.ChangeShapes Go.WideShapes Go.Deep Go.Proofs.Ytjjnhndlollldaa.Args

section
variable {H : Type} {enc : TypeId × Value → H} {P : Program} {W : World} {base : Nat} {spare : Nat → Bool} {held : Bool}
theorem slice_of {t e : TypeId} {n : Nat} {v : Value} {y : DataW H × List MemPlace} (ht : P.underlying t = some (.slice e)) (h : DataW.trod enc P W base spare held n t [v] = some y) : ∃ a len cap, v = .slice a len cap ∧ DataW.Trod enc P W base spare held t (.slice a len cap) y.1 y.2 := by
  rcases open_slice ht h with ⟨hcs, _⟩ | ⟨x, l, c, m, n2, D, Pl, hcs, _⟩
  · injection hcs with hcs _
    subst hcs
    exact ⟨none, 0, 0, rfl, n, by simpa [Value.cells] using h⟩
  · injection hcs with hcs _
    subst hcs
    exact ⟨some x, l, c, rfl, n, by simpa [Value.cells] using h⟩
/-- A list of texts that came in, wherever its cell lies. -/
theorem open_texts {t e : TypeId} {a : Option Addr} {len cap : Nat} {d : DataW H} {ps : List MemPlace} (ht : P.underlying t = some (.slice e)) (he : P.underlying e = some .string) (hc : P.cellsOf e = 1) (hB : P.bytesOf e = 16) (hw : ∀ n ∈ d.weights P t, n ≤ reachBytes)
    (h : DataW.Trod enc P W base spare held t (.slice a len cap) d ps) : ∃ q : List ByteArray, q.length = len ∧ ArgRow 1 strV W a len q ∧ len ≤ cap ∧ len ≤ 140737488355328 := by
  obtain ⟨fuel, hf⟩ := h
  rcases open_strings ht he hc hf with ⟨hcs, _⟩ | ⟨x, l, c, zs, hcs, _, hl, hm, hz, hx, hcell, hwz⟩
  · simp [Value.cells] at hcs
    obtain ⟨rfl, rfl, rfl⟩ := hcs
    exact ⟨[], rfl, ⟨rfl, fun h => by omega⟩, Nat.le_refl _, by decide⟩
  · simp [Value.cells] at hcs
    obtain ⟨rfl, rfl, rfl⟩ := hcs
    obtain ⟨hx, _⟩ := Prod.mk.inj hx
    subst hx
    have z := hw ((((strs (zs.take len) : List (DataW H)).length + (strs (zs.drop len) : List (DataW H)).length)) * P.bytesOf e) (by simp [DataW.weights, ht])
    rw [hB] at z
    have hlz : len ≤ zs.length := by rw [hz]; split <;> omega
    have z2 : (strs (zs.take len) : List (DataW H)).length = len := by simp [strs]; omega
    rw [z2] at z
    have z3 : reachBytes = 140737488351232 := rfl
    have hread : ArgRow 1 strV W (some x) len (zs.take len) := by
      refine ⟨by simp; omega, fun hn => ?_⟩
      obtain ⟨b, off, rfl, hlt⟩ := addr_form (hcell 0 (by omega))
      refine ⟨b, off, rfl, hlt, fun i hi j v hv => ?_⟩
      have hi2 : i < zs.length := by simp at hi; omega
      have h1 := hcell i hi2
      rw [add_form, List.getD_eq_getElem?_getD, List.getElem?_eq_getElem hi2] at h1
      cases j with
      | zero =>
        simp at hv
        subst hv
        simpa using h1
      | succ j => simp at hv
    exact ⟨zs.take len, by simp; omega, hread, hl, by omega⟩
theorem weights_all {P : Program} {e : TypeId} {l : List (DataW H)} {d : DataW H} (hd : d ∈ l) : ∀ n ∈ d.weights P e, n ∈ DataW.weightsAll P e l := by
  induction l with
  | nil => cases hd
  | cons x l ih =>
    intro n hn
    unfold DataW.weightsAll
    rw [List.mem_append]
    rcases List.mem_cons.1 hd with rfl | h
    · exact .inl hn
    · exact .inr (ih h n hn)
/-- One epoch's two cells. -/
theorem dec_epoch {e s : TypeId} {f0 f1 : Field} (he : P.underlying e = some (.struct #[f0, f1])) (hone : oneCellFields P #[f0, f1] = true) (u0 : P.underlying f0.type = some (.slice s)) (u1 : P.underlying f1.type = some (.slice s)) (us : P.underlying s = some .string) (hc : P.cellsOf s = 1) (hB : P.bytesOf s = 16)
    (n : Nat) (cs : List Value) (y : DataW H × List MemPlace) (hl : cs.length = 2) (hy : DataW.trod enc P W base spare held n e cs = some y) (hw : ∀ n ∈ y.1.weights P e, n ≤ reachBytes) :
    ∃ (x : EpT) (s0 s1 : Option Addr) (c0 c1 : Nat), cs = [.slice s0 x.1.length c0, .slice s1 x.2.length c1] ∧ (ArgRow 1 strV W s0 x.1.length x.1 ∧ x.1.length ≤ c0 ∧ x.1.length ≤ 140737488355328) ∧ (ArgRow 1 strV W s1 x.2.length x.2 ∧ x.2.length ≤ c1 ∧ x.2.length ≤ 140737488355328) := by
  match cs, hl with
  | [c0, c1], _ =>
    obtain ⟨ys, n', hn', hy', hlen, hyl, hf⟩ := DataW.trod_struct he hy
    obtain ⟨o0, q0⟩ := hone_of hone 0 f0 rfl
    obtain ⟨o1, q1⟩ := hone_of hone 1 f1 rfl
    have h0 := hf 0 f0 rfl
    have h1 := hf 1 f1 rfl
    rw [o0, q0] at h0
    rw [o1, q1] at h1
    match ys, hyl with
    | [y0, y1], _ =>
      have h0' : DataW.trod enc P W base spare held n' f0.type [c0] = some y0 := by simpa using h0
      have h1' : DataW.trod enc P W base spare held n' f1.type [c1] = some y1 := by simpa using h1
      obtain ⟨a0, l0, k0, rfl, t0⟩ := slice_of u0 h0'
      obtain ⟨a1, l1, k1, rfl, t1⟩ := slice_of u1 h1'
      have hwe : ∀ n ∈ DataW.weightsEach P [f0.type, f1.type] [y0.1, y1.1], n ≤ reachBytes := fun n hn => hw n (by
        rw [hy']
        simp only [DataW.weights, he, List.map_cons, List.map_nil]
        exact hn)
      obtain ⟨x0, e0, r0, b0, m0⟩ := open_texts u0 us hc hB (fun n hn => hwe n (DataW.weights_mem_each (j := 0) rfl rfl n hn)) t0
      obtain ⟨x1, e1, r1, b1, m1⟩ := open_texts u1 us hc hB (fun n hn => hwe n (DataW.weights_mem_each (j := 1) rfl rfl n hn)) t1
      subst e0 e1
      exact ⟨(x0, x1), a0, a1, k0, k1, rfl, ⟨r0, b0, m0⟩, ⟨r1, b1, m1⟩⟩
theorem open_epochs {t e s : TypeId} {f0 f1 : Field} {a : Option Addr} {len cap : Nat} {d : DataW H} {ps : List MemPlace} (ht : P.underlying t = some (.slice e)) (he : P.underlying e = some (.struct #[f0, f1])) (hone : oneCellFields P #[f0, f1] = true) (hC : P.cellsOf e = 2) (u0 : P.underlying f0.type = some (.slice s)) (u1 : P.underlying f1.type = some (.slice s)) (us : P.underlying s = some .string) (hc : P.cellsOf s = 1) (hB : P.bytesOf s = 16)
    (hw : ∀ n ∈ d.weights P t, n ≤ reachBytes) (h : DataW.Trod enc P W base spare held t (.slice a len cap) d ps) : ∃ l : List EpT, EpRd W a len l ∧ len ≤ cap := by
  obtain ⟨fuel, hf⟩ := h
  rcases open_slice ht hf with ⟨hcs, _⟩ | ⟨x, l, c, m, n, D, Pl, hcs, _, hl, hmx, hz, hx, hi⟩
  · simp [Value.cells] at hcs
    obtain ⟨rfl, rfl, rfl⟩ := hcs
    exact ⟨[], ⟨rfl, fun h => by omega⟩, Nat.le_refl _⟩
  · simp [Value.cells] at hcs
    obtain ⟨rfl, rfl, rfl⟩ := hcs
    obtain ⟨hx, _⟩ := Prod.mk.inj hx
    subst hx
    have hlm : len ≤ m := by rw [hz]; split <;> omega
    have key : ∀ i, i < len → ∃ (y : EpT) (s0 s1 : Option Addr) (c0 c1 : Nat), (W.cell? (x.add (i * 2)) = some (.slice s0 y.1.length c0) ∧ W.cell? (x.add (i * 2 + 1)) = some (.slice s1 y.2.length c1)) ∧ (ArgRow 1 strV W s0 y.1.length y.1 ∧ y.1.length ≤ c0 ∧ y.1.length ≤ 140737488355328) ∧ (ArgRow 1 strV W s1 y.2.length y.2 ∧ y.2.length ≤ c1 ∧ y.2.length ≤ 140737488355328) := fun i hil => by
      obtain ⟨cs', h1, h2⟩ := hi i (by omega)
      rw [hC] at h1
      obtain ⟨_, h3, h4⟩ := World.cells?_some h1
      obtain ⟨y, s0, s1, c0, c1, rfl, r0, r1⟩ := dec_epoch he hone u0 u1 us hc hB n cs' _ h3 h2 (fun k hk => hw k (by
        simp only [DataW.weights, ht]
        refine List.mem_cons_of_mem _ (List.mem_append_left _ ?_)
        exact weights_all (d := D i) (List.mem_map.2 ⟨i, List.mem_range.2 hil, rfl⟩) k hk))
      have k0 := h4 0 (by omega)
      have k1 := h4 1 (by omega)
      refine ⟨y, s0, s1, c0, c1, ⟨?_, ?_⟩, r0, r1⟩
      · rw [Go.Deep.add_add] at k0; simpa using k0
      · rw [Go.Deep.add_add] at k1; simpa using k1
    obtain ⟨f, hf2⟩ := choose_lt (α := EpT) (n := len) (p := fun i y => ∃ (s0 s1 : Option Addr) (c0 c1 : Nat), (W.cell? (x.add (i * 2)) = some (.slice s0 y.1.length c0) ∧ W.cell? (x.add (i * 2 + 1)) = some (.slice s1 y.2.length c1)) ∧ (ArgRow 1 strV W s0 y.1.length y.1 ∧ y.1.length ≤ c0 ∧ y.1.length ≤ 140737488355328) ∧ (ArgRow 1 strV W s1 y.2.length y.2 ∧ y.2.length ≤ c1 ∧ y.2.length ≤ 140737488355328)) key
    refine ⟨(List.range len).map f, ⟨by simp, fun hn => ?_⟩, hl⟩
    obtain ⟨_, _, _, _, ⟨g0, _⟩, _⟩ := hf2 0 hn
    obtain ⟨b, off, rfl, hlt⟩ := addr_form (by simpa using g0)
    refine ⟨b, off, rfl, hlt, fun i hil => ?_⟩
    have hil2 : i < len := by simpa using hil
    obtain ⟨s0, s1, c0, c1, ⟨k0, k1⟩, r0, r1⟩ := hf2 i hil2
    rw [add_form] at k0 k1
    have he2 : ((List.range len).map f)[i] = f i := by simp
    rw [he2]
    exact ⟨⟨s0, c0, k0, r0⟩, ⟨s1, c1, by rw [Nat.add_assoc]; exact k1, r1⟩⟩
end
end Go.Proofs.Ytjjnhndlollldaa.Ep
