/-
Package ring at one instance, part 4: grow: the row's cells stand in a new, greater block, the first one first. No condition but that the row holds a list and is full.
-/
import Derived.Test.YtljncbbajhoocaaRingSPut
import Derived.Deep.QuietTactic
namespace Go.Proofs.Ytljncbbajhoocaa.RingS
open Go.RowKit Go.Proofs.Ytljncbbajhoocaa.Args Go.Proofs.YtljncbbajhoocaaW.PrintMore
attribute [local go_sem] max2_int min2_int max_two min_two

theorem all_form (R : Nat) (B : Option Nat) (most : Nat) (q : List ByteArray) (w : World) (h : Ring w R B most q) :
    Calls Try.prog 55 #[.pointer (some ⟨R, 0, none⟩)] w fun e w' => ∃ sp sc, e = .returned (.slice sp q.length sc) ∧ w'.ownsRow w.heap.size 9 1 (.slice sp q.length sc) q.length (q.map Value.string) ∧ Below w.heap.size w w' := by
  refine (all_calls R B most q w h).mono ?_
  rintro e w' ⟨v, rfl, ho, hb⟩
  rcases ho.2 with ⟨h1, h2⟩ | ⟨g, cap, cur, h1, _⟩
  · refine ⟨none, 0, by rw [h1, h2], ?_, hb⟩
    rw [h1] at ho
    rw [h2] at ho ⊢
    exact ho
  · exact ⟨some ⟨g, 0, none⟩, cap, by rw [h1], by rw [← h1]; exact ho, hb⟩
theorem infoS : (Try.prog.info? 9).map (·.size) = some 1 := by kernel_rfl
theorem own_cells {w : World} {base : Nat} {sp : Option Addr} {sc : Nat} {q : List ByteArray} (h : w.ownsRow base 9 1 (.slice sp q.length sc) q.length (q.map Value.string)) (hp : 0 < (q.map Value.string).length) :
    ∃ ad, sp = some ad ∧ ∀ j v, (q.map Value.string)[j]? = some v → w.cell? (ad.add j) = some v := by
  rcases h.2 with ⟨h1, h2⟩ | ⟨g, cap, cur, h1, _, hg, _, _, _, ht⟩
  · simp at hp; omega
  · injection h1 with h1 _ _
    refine ⟨_, h1, fun j v hv => ?_⟩
    rw [add_form, cell_of_row _ _ _ _ _ _ hg, Nat.zero_add, ← Array.getElem?_toList]
    have hj : j < q.length := by have := (List.getElem?_eq_some_iff.1 hv).1; simpa using this
    have h2 : (cur.toList.take (q.length * 1))[j]? = cur.toList[j]? := List.getElem?_take_of_lt (by omega)
    rw [← h2, ht]; exact hv
theorem one_cells (q : List ByteArray) : ∀ v ∈ q.map Value.string, v.oneCell' = true := by
  intro v hv
  obtain ⟨x, _, rfl⟩ := List.mem_map.1 hv
  rfl
theorem made_one (n : Nat) : ∀ v ∈ (madeCells (Value.cells (.string ⟨#[]⟩)) (n * 1)), v.oneCell' = true := by
  intro v hv
  obtain ⟨i, hi, rfl⟩ := Array.mem_iff_getElem.1 hv
  simp only [madeCells, Value.cells, Array.getElem_map]
  rw [show ∀ k : Nat, k % (#[(.string ⟨#[]⟩)] : Array Value).size = 0 from fun k => Nat.mod_one k]
  rfl
theorem splice_one (z : List Value) (q : List ByteArray) (hz : ∀ v ∈ z, v.oneCell' = true) : One (splice z 0 (q.map Value.string)).toArray := by
  intro v hv
  simp only [splice, List.take_zero, List.nil_append, List.mem_append] at hv
  rcases hv with hv | hv
  · exact one_cells q v hv
  · exact hz v (List.mem_of_mem_drop hv)
/-- What grow leaves. -/
def Grown (w : World) (R most : Nat) (q : List ByteArray) (e : Ending) (w' : World) : Prop :=
  e = .returned (.tuple #[]) ∧ ∃ b n cur, w.heap.size ≤ b ∧ St (fun k => k = R) w R b (.slice (some ⟨b, 0, none⟩) n n) 0 q.length most cur w' ∧ q.length < n ∧ n ≤ most ∧ cur.size = n ∧ One cur ∧ ∀ i (h : i < q.length), cur[i]? = some (Value.string q[i])
theorem splice_get (z : List Value) (q : List ByteArray) (i : Nat) (h : i < q.length) : (splice z 0 (q.map Value.string))[i]? = some (Value.string q[i]) := by
  unfold splice
  simp only [List.take_zero, List.nil_append]
  rw [List.getElem?_append_left (by simpa using h)]
  simp [h]
set_option maxHeartbeats 2000000 in
set_option maxRecDepth 100000 in
theorem grow_calls (R : Nat) (B : Option Nat) (lp : Option Addr) (n0 cap0 at_ most m1 n1 : Nat) (q : List ByteArray) (w : World) (hR : Ring w R B most q) (hF : Fields w R (.slice lp n0 cap0) at_ q.length most) (hfull : q.length = n0) (hlt : q.length < most) (hm : most ≤ 4096)
    (hmx : (if (4 : Int) < 2 * (n0 : Int) then 2 * (n0 : Int) else 4) = (m1 : Int)) (hmn : (if m1 < most then (m1 : Int) else (most : Int)) = (n1 : Int)) :
    Calls Try.prog 59 #[.pointer (some ⟨R, 0, none⟩)] w (Grown w R most q) := by
  obtain ⟨i0, hi0, hz0, hz1, hz2⟩ := info_parts infoE
  have hn0 : n0 ≤ 4096 := by omega
  have hn1 : q.length < n1 ∧ n1 ≤ most := by
    split at hmx <;> split at hmn <;> omega
  have HN1 := Lib.hid hn1
  have h0 := hF.c0
  have h3 := hF.c3
  have hw : IntKind.i64.wrap (2 * (n0 : Int)) = 2 * (n0 : Int) := IntWalk.i64_in _ (by omega)
  have HRING := Lib.hid hR
  have HFF := Lib.hid hF
  have HFULL := Lib.hid hfull
  have HI := Lib.hid hi0
  have HZ0 := Lib.hid hz0
  have HZ1 := Lib.hid hz1
  have HZ2 := Lib.hid hz2
  have hn1b : n1 ≤ 4096 := by omega
  clear hR hF hfull hi0 hz0 hz1 hz2 hn1
  go_enter Try.func59, Try.ntmps59
  go_wp2_with fail
  go_quiet (fail)
  clear hmx hmn hw
  go_wp2_with (refine wpList_make_full _ rfl _ _ 33 rfl w.heap.size 9 i0 (.string ⟨#[]⟩) 1 Try.underlying33 HI.out HZ0.out HZ1.out .i64 .i64 (n1 : Int) (n1 : Int) n1 rfl rfl rfl rfl (by rw [HZ2.out]; omega) (by unfold maxLen; omega) (Nat.le_refl _) ?_; intro w1 hown hgrow)
  have hb1 : Below w.heap.size w w1 := (below_drewN (Below.refl _ _) nq).grown hgrow (Nat.le_refl _) (fun k hk => by cases hk)
  obtain ⟨cur, hg, hcz, hcone⟩ : ∃ cur : List Value, w1.heap[w.heap.size]? = some (.cells cur.toArray 9 (0, 0)) ∧ cur.length = n1 ∧ (∀ v ∈ cur, v.oneCell' = true) := by
    rcases hown.2 with ⟨h, _⟩ | ⟨g, cap, cur, hv, _, hg, _, _, hcs, htk⟩
    · cases h
    · injection hv with hv1 hv2 hv3
      injection hv1 with hv1
      injection hv1 with hv1
      subst hv1
      have hsz : cur.toList.length = n1 * 1 := by rw [Array.length_toList, hcs, ← hv3]
      refine ⟨cur.toList, by rw [Array.toArray_toList]; exact hg, by rw [hsz, Nat.mul_one], fun v hv => ?_⟩
      have e := htk
      rw [← hsz, List.take_length] at e
      rw [e] at hv
      exact made_one _ v (by simpa using hv)
  have HG := Lib.hid hg
  have HCZ := Lib.hid hcz
  have HCONE := Lib.hid hcone
  have HB1 := Lib.hid hb1
  have hs1 : w.heap.size < w1.heap.size := (Array.getElem?_eq_some_iff.1 hg).1
  clear hg hcz hcone hb1 hown hgrow h0 h3
  go_wp2_with fail
  refine (all_form R B most q w1 (HRING.out.below HB1.out)).mono ?_
  rintro e w2 ⟨sp, sc, rfl, hown2, hb2⟩
  have HOWN2 := Lib.hid hown2
  have HG2 : Hid (w2.heap[w.heap.size]? = some (.cells cur.toArray 9 (0, 0))) := (hb2.block _ hs1).trans HG.out
  have HB2 : Hid (Below w.heap.size w w2) := HB1.out.trans (hb2.mono HB1.out.size)
  clear hown2 hb2
  have hql : q.length ≤ n1 := by have := HN1.out; omega
  have hcs : (q.map Value.string).length = Nat.min q.length n1 := by rw [List.length_map]; exact (Nat.min_eq_left hql).symm
  have hfit : 0 + (q.map Value.string).length ≤ cur.length := by rw [List.length_map, HCZ.out]; omega
  have HCS := Lib.hid hcs
  clear hcs
  go_wp2_with (refine wpList_copy_splice rfl _ _ 33 33 rfl 9 Try.underlying33 infoS _ _ n1 n1 q.length sc rfl rfl w.heap.size 0 cur 9 HG2.out (q.map Value.string) HCS.out (fun hp => ⟨rfl, own_cells HOWN2.out hp⟩) hfit (one_cells q) w.heap.size w HB2.out (Nat.le_refl _) ?_; intro w3 hg3 hb3; have hF3 := HFF.out.on (hb3.block R HFF.out.lt); have f0 := hF3.free 0; have f1 := hF3.free 1; have k0 := hF3.c0; have k1 := hF3.c1; have HF3 := Lib.hid hF3; have HB3 := Lib.hid hb3; clear hF3 hb3)
  go_end0
  have hne : w.heap.size ≠ R := by have := HFF.out.lt; omega
  have hst : St (fun k => k = R) w R w.heap.size (.slice lp n0 cap0) at_ q.length most (splice cur 0 (q.map Value.string)).toArray w3 := ⟨HF3.out, hg3.out, Mod.of_below HB3.out _⟩
  refine ⟨rfl, w.heap.size, n1, (splice cur 0 (q.map Value.string)).toArray, Nat.le_refl _, ?_, HN1.out.1, HN1.out.2, ?_, ?_, ?_⟩
  · exact (hst.set0 _ hne (.inl rfl)).set1 0 hne (.inl rfl)
  · rw [List.size_toArray, length_splice _ _ _ hfit, HCZ.out]
  · exact splice_one cur q HCONE.out
  · intro i h
    rw [List.getElem?_toArray]
    exact splice_get cur q i h
end Go.Proofs.Ytljncbbajhoocaa.RingS
