/-
slices.SortFunc by where spans begin: the row holds a permutation of its spans, in order. Condition: at least one span, fewer than a million.
-/
import Derived.Test.YthdcmejgdcmldaaRo3
import Derived.Test.YthdcmejgdcmldaaRoLay
namespace Go.Proofs.Ythdcmejgdcmldaa.Ro
set_option linter.unusedVariables false
open Go.RowKit Go.Proofs.Ythdcmejgdcmldaa.Args Go.Sort Go.Lib Go.Shelf

theorem lt_cmp (x y : Sp) : ltOf (fun x y : Sp => cmpI x.1 y.1) x y = decide (x.1 < y.1) := by
  unfold ltOf cmpI
  by_cases h1 : x.1 < y.1
  · simp [h1]
  · by_cases h2 : y.1 < x.1 <;> simp [h1, h2]
theorem swo_cmp : SWO (ltOf fun x y : Sp => cmpI x.1 y.1) where
  irrefl x := by rw [lt_cmp]; simp
  trans x y z h1 h2 := by rw [lt_cmp] at *; simp at *; omega
  ntrans x y z h1 h2 := by rw [lt_cmp] at *; simp at *; omega
theorem cmp_lays (blk off size : Nat) (w : World) : CmpLays Try.prog 26 #[] spV 2 (fun x y => cmpI x.1 y.1) blk off size w := by
  intro m os dk _ x y
  refine (closure_calls x y _ _ (Lib.hid rfl)).mono ?_
  rintro e w' ⟨he, rfl⟩
  exact ⟨he, 0, _, by rw [alloc_eq_grow, alloc_eq_grow, grow_grow]; rfl⟩
theorem flat_get! (d : Array Sp) (t : Nat) (ht : t < d.size * 2) : (flatK spV 2 d)[t]! = (spL d.toList)[t]?.getD default := by
  rw [get_flatK _ _ _ _ ht]
  have hi : t / 2 < d.toList.length := by simp; omega
  have hi2 : t / 2 < d.size := by omega
  have hj : ∃ v, (spV d.toList[t / 2])[t % 2]? = some v := by
    have : t % 2 = 0 ∨ t % 2 = 1 := by omega
    rcases this with e | e <;> rw [e] <;> exact ⟨_, rfl⟩
  obtain ⟨v, hv⟩ := hj
  have h1 := spL_get d.toList (t / 2) (t % 2) v hi hv
  rw [show t / 2 * 2 + t % 2 = t by omega] at h1
  rw [h1]
  have h2 : d[t / 2]! = d.toList[t / 2] := by rw [getElem!_pos d (t / 2) hi2]; simp
  rw [h2]
  simp only [Option.getD_some]
  rw [List.getElem!_eq_getElem?_getD, hv]
  rfl
theorem sort_calls (g n cap : Nat) (base : Nat) (q : List Sp) (w : World) (h : w.ownsRow base 42 2 (.slice (some ⟨g, 0, none⟩) n cap) n (spL q)) (hq : q.length = n) (hn : n ≤ 1000000) :
    Calls Try.prog 25 #[.slice (some ⟨g, 0, none⟩) n cap, .func (.func 26) #[] #[]] w fun e w' => e = .returned (.tuple #[]) ∧ ∃ d : List Sp, d.Perm q ∧ d.Pairwise (fun a b => a.1 ≤ b.1) ∧ w'.ownsRow base 42 2 (.slice (some ⟨g, 0, none⟩) n cap) n (spL d) ∧ w.grownBy w' (some g) := by
  have eg : ∀ args w, (callFunc 26 args).run Try.prog w = .ok (.enter 26 args) w := enters_of Try.func26 (by kernel_rfl) rfl
  obtain ⟨cur, hb, hh, hnc, hcm, hcs, htk⟩ : ∃ cur, base ≤ g ∧ w.heap[g]? = some (.cells cur 42 (0, 0)) ∧ n ≤ cap ∧ cap ≤ maxLen ∧ cur.size = cap * 2 ∧ cur.toList.take (n * 2) = spL q := by
    rcases h.2 with ⟨h1, _⟩ | ⟨g', cap', cur, h1, h2⟩
    · cases h1
    · injection h1 with a1 a2 a3
      injection a1 with a1
      injection a1 with a1
      subst a1 a3
      exact ⟨cur, h2⟩
  have hgl : g < w.heap.size := (Array.getElem?_eq_some_iff.1 hh).1
  have hsz : q.toArray.size = n := by simpa using hq
  have hH : HoldsK spV 2 w g 0 q.toArray := by
    intro j hj
    rw [size_flatK] at hj
    rw [flat_get! _ _ hj]
    have hjl : j < (spL q).length := by rw [spL_len]; omega
    refine ⟨?_, frozen_of_row _ _ _ _ _ hh⟩
    rw [cell_of_row _ _ _ _ _ _ hh, Nat.zero_add]
    have h1 : (cur.toList.take (n * 2))[j]? = (spL q)[j]? := by rw [htk]
    rw [List.getElem?_take_of_lt (by omega)] at h1
    rw [← Array.getElem?_toList, h1, List.getElem?_eq_getElem hjl]
    simp
  have hcon := AnyQ.slices_SortFunc (P := Try.prog) Ythdcmejgdcmldaa.sortSp 2 Try.isAgg42 Try.sizeOf42 spV (fun _ => rfl) (fun x v hv => by simp at hv; rcases hv with rfl | rfl <;> rfl) (fun x y : Sp => cmpI x.1 y.1) swo_cmp 26 #[] g 0 cap q.toArray w eg (cmp_lays g 0 _ w) hH hgl (by omega)
  rw [hsz] at hcon
  change Calls Try.prog 25 _ _ _ at hcon
  refine hcon.mono ?_
  rintro e w' ⟨rfl, d', m, os, hp, hs, rfl⟩
  have hds : d'.size = n := hp.1.trans hsz
  refine ⟨rfl, d'.toList, ?_, ?_, ?_, ?_⟩
  · have h1 := hp.2.2
    rw [← hds, Array.extract_size, show (q.toArray.extract 0 d'.size) = q.toArray by rw [hds, ← hsz]; exact Array.extract_size] at h1
    simpa using h1
  · rw [List.pairwise_iff_getElem]
    intro i j hi hj hij
    have h1 := hs i j (Nat.zero_le _) hij (by simpa [hds] using hj)
    rw [lt_cmp] at h1
    simp at h1 hi hj
    rw [getElem!_pos d' i hi, getElem!_pos d' j hj] at h1
    simpa using h1
  · refine ⟨by rw [spL_len]; simp [hds], .inr ⟨g, cap, putCells id 0 (flatK spV 2 d') cur, rfl, hb, ?_, hnc, hcm, by simp [putCells, hcs], ?_⟩⟩
    · unfold sortWorldK grow putRowK putRow mapBlock
      simp only [Sort.ahead]
      rw [Array.getElem?_append_left (by simpa using hgl), Array.getElem?_modify]
      simp [hh, onCells]
    · apply List.ext_getElem?
      intro t
      have hlen : (spL d'.toList).length = n * 2 := by rw [spL_len]; simp [hds]
      by_cases ht : t < n * 2
      · have htl : t < (spL d'.toList).length := by omega
        rw [List.getElem?_take_of_lt ht, Array.getElem?_toList]
        have hcap : n * 2 ≤ cap * 2 := Nat.mul_le_mul_right _ hnc
        unfold putCells
        rw [Array.getElem?_mapIdx, Array.getElem?_eq_getElem (by omega)]
        simp only [Option.map_some]
        rw [if_pos (by rw [size_flatK]; omega)]
        show some ((flatK spV 2 d')[t - 0]!) = _
        rw [Nat.sub_zero, flat_get! _ _ (by omega), List.getElem?_eq_getElem htl]
        simp
      · rw [List.getElem?_eq_none (by rw [List.length_take]; omega), List.getElem?_eq_none (by omega)]
  · refine ⟨rfl, rfl, rfl, ?_, fun k hk hne => ?_⟩
    · unfold sortWorldK grow putRowK putRow mapBlock
      simp [Sort.ahead]
    · unfold sortWorldK grow putRowK putRow mapBlock
      simp only [Sort.ahead]
      rw [Array.getElem?_append_left (by simpa using hk), Array.getElem?_modify, if_neg (fun e => hne (by rw [e]))]
end Go.Proofs.Ythdcmejgdcmldaa.Ro
