/-
(*epoch.Book).Sound: the call answers what matchL says of both ends. Conditions: lengths within the machine's.
-/
import Derived.Test.YtjjnhndlollldaaEp3
import Derived.Test.YtjjnhndlollldaaEp9
namespace Go.Proofs.Ytjjnhndlollldaa.Ep
set_option linter.unusedVariables false
open Go.RowKit Go.Proofs.Ytjjnhndlollldaa.Args

theorem row_cap {w : World} {base : Nat} {e : TypeId} {size n c : Nat} {s : Option Addr} {xs : List Value} (h : w.ownsRow base e size (.slice s n c) n xs) : n ≤ c := by
  rcases h.2 with ⟨h1, h2⟩ | ⟨b, cap, cur, h1, _, _, h3, _⟩
  · omega
  · injection h1 with _ _ h1
    subst h1
    exact h3
theorem tx_of {w : World} {base b o : Nat} {v : Value} {q : List ByteArray} (hc : w.cell? ⟨b, o, none⟩ = some v) (h : w.ownsRow base 9 1 v q.length (q.map Value.string)) (hq : q.length ≤ 140737488355328) : TxAt w b o q := by
  obtain ⟨s, c, rfl⟩ := row_form h
  exact ⟨s, c, hc, arg_of_row h, row_cap h, hq⟩
theorem Bk.rd {w wr : World} {P M : Nat} {v : Nat → Value} {u : Nat → Nat → Nat → Value} {st : St} (h : Bk w wr P v u st) {e n c : Nat} {s : Option Addr} (he : e < 2) (hv : v e = .slice s n c) (hn : (st e).length = n) (hM : Cap st M) (hM2 : M ≤ 1000000) : EpRd wr s n (st e) := by
  refine ⟨hn, fun hp => ?_⟩
  obtain ⟨g, cap, cur, hvg, hgb, hgh, hgc, hgx⟩ := row_open (h.row e he) (by omega)
  rw [hv] at hvg
  injection hvg with h1 h2 h3
  refine ⟨g, 0, h1, (Array.getElem?_eq_some_iff.1 hgh).1, fun i hi => ?_⟩
  have hcell : ∀ k, k < 2 → wr.cell? ⟨g, 0 + i * 2 + k, none⟩ = some (u e i k) := fun k hk => by
    rw [cell_of_row _ _ _ _ _ _ hgh, show 0 + i * 2 + k = i * 2 + k by omega]; exact hgx _ _ (flat_get (u e) _ i k hi hk)
  obtain ⟨q0, q1⟩ := cont_at hi
  refine ⟨?_, ?_⟩
  · rw [← q0]
    exact tx_of (hcell 0 (by omega)) (h.txt e i 0 he hi (by omega)) (by have := (hM e).2 i 0; omega)
  · rw [← q1]
    exact tx_of (hcell 1 (by omega)) (h.txt e i 1 he hi (by omega)) (by have := (hM e).2 i 1; omega)
def soundB (st : St) : Bool := (matchL (st 0) 0 (st 1)).isSome && (matchL (st 1) 0 (st 0)).isSome
def BoolO (w : World) (r : Bool) (e : Ending) (w' : World) : Prop := e = .returned (.bool r) ∧ Below w.heap.size w w'
theorem matchO_form {w w' : World} {r : Option (List Nat)} {e : Ending} (h : MatchO w r e w') : ∃ v, e = .returned (.tuple #[v, .bool r.isSome]) ∧ Below w.heap.size w w' := by
  obtain ⟨hb, h2⟩ := h
  cases r with
  | none => exact ⟨_, h2, hb⟩
  | some os => obtain ⟨v, h3, _⟩ := h2; exact ⟨v, h3, hb⟩
set_option maxHeartbeats 4000000 in
set_option maxRecDepth 100000 in
theorem sound_calls (w wr0 : World) (P M : Nat) (v : Nat → Value) (u : Nat → Nat → Nat → Value) (st : St) (h : Hid (Bk w wr0 P v u st)) (hM : Hid (Cap st M)) (hM2 : M ≤ 1000000) :
    Calls Try.prog 13 #[.pointer (some ⟨P, 0, none⟩)] wr0 (BoolO wr0 (soundB st)) := by
  obtain ⟨n0, hn0⟩ : ∃ n, (st 0).length = n := ⟨_, rfl⟩
  obtain ⟨n1, hn1⟩ : ∃ n, (st 1).length = n := ⟨_, rfl⟩
  have hnM0 : n0 ≤ 1000000 := by rw [← hn0]; have := (hM.out 0).1; omega
  have hnM1 : n1 ≤ 1000000 := by rw [← hn1]; have := (hM.out 1).1; omega
  obtain ⟨s0, c0, hv0⟩ := row_form (h.out.row 0 (by omega))
  obtain ⟨s1, c1, hv1⟩ := row_form (h.out.row 1 (by omega))
  rw [hn0] at hv0
  rw [hn1] at hv1
  have R0 : Hid (EpRd wr0 s0 n0 (st 0)) := h.out.rd (by omega) hv0 hn0 hM.out hM2
  have R1 : Hid (EpRd wr0 s1 n1 (st 1)) := h.out.rd (by omega) hv1 hn1 hM.out hM2
  have k0 : n0 ≤ c0 := by have h1 := h.out.row 0 (by omega); rw [hv0, hn0] at h1; exact row_cap h1
  have k1 : n1 ≤ c1 := by have h1 := h.out.row 1 (by omega); rw [hv1, hn1] at h1; exact row_cap h1
  have HC0 : Hid (∀ W', Below wr0.heap.size wr0 W' → W'.cell? ⟨P, 0, none⟩ = some (.slice s0 n0 c0)) := fun W' hW' => by rw [← hv0]; exact (h.out.on hW').cell 0 (by omega)
  have HC1 : Hid (∀ W', Below wr0.heap.size wr0 W' → W'.cell? ⟨P, 1, none⟩ = some (.slice s1 n1 c1)) := fun W' hW' => by rw [← hv1]; exact (h.out.on hW').cell 1 (by omega)
  have HA : Hid (∀ W', Below wr0.heap.size wr0 W' → Calls Try.prog 12 #[.slice s0 n0 c0, .slice s1 n1 c1] W' (MatchO W' (matchL (st 0) 0 (st 1)))) := fun W' hW' => match_calls s0 s1 n0 c0 n1 c1 (st 0) (st 1) _ W' (R0.out.below hW') (R1.out.below hW') k0 (by omega) (by omega) rfl
  have HB : Hid (∀ W', Below wr0.heap.size wr0 W' → Calls Try.prog 12 #[.slice s1 n1 c1, .slice s0 n0 c0] W' (MatchO W' (matchL (st 1) 0 (st 0)))) := fun W' hW' => match_calls s1 s0 n1 c1 n0 c0 (st 1) (st 0) _ W' (R1.out.below hW') (R0.out.below hW') k1 (by omega) (by omega) rfl
  obtain ⟨o1, ho1⟩ : ∃ o, (matchL (st 0) 0 (st 1)).isSome = o := ⟨_, rfl⟩
  obtain ⟨o2, ho2⟩ : ∃ o, (matchL (st 1) 0 (st 0)).isSome = o := ⟨_, rfl⟩
  have HO1 := Lib.hid ho1
  have HO2 := Lib.hid ho2
  clear hv0 hv1 hn0 hn1 ho1 ho2
  go_enter Try.func13, Try.ntmps13
  go_wp2_with fail
  go_region_held3 (fun W' => W'.cell? ⟨P, 0, none⟩ = some (.slice s0 n0 c0) ∧ W'.cell? ⟨P, 1, none⟩ = some (.slice s1 n1 c1))
    (first | exact ⟨HC0.out _ (Below.refl _ _).drew, HC1.out _ (Below.refl _ _).drew⟩ | exact ⟨HC0.out _ HB5.out, HC1.out _ HB5.out⟩ | fail)
    ((go_at_call_of 12 (Value.slice s0 n0 c0); ((with_reducible refine (HA.out _ ?_).mono ?_); (first | exact (below_drewN (Below.refl _ _) _) | exact (Below.refl _ _).drew); rintro e w5 hm; obtain ⟨z0, rfl, hb5⟩ := matchO_form hm; rw [HO1.out]; have HB5 : Hid (Below wr0.heap.size wr0 w5) := ((below_drewN (Below.refl _ _) 1).trans hb5); clear hm hb5)))
  go_wp2_with fail
  go_region_held3 (fun W' => W'.cell? ⟨P, 0, none⟩ = some (.slice s0 n0 c0) ∧ W'.cell? ⟨P, 1, none⟩ = some (.slice s1 n1 c1))
    (first | exact ⟨HC0.out _ (HB5.out.trans ((Below.refl _ _).drew.mono HB5.out.size)), HC1.out _ (HB5.out.trans ((Below.refl _ _).drew.mono HB5.out.size))⟩ | exact ⟨HC0.out _ HB6.out, HC1.out _ HB6.out⟩ | fail)
    ((go_at_call_of 12 (Value.slice s1 n1 c1); ((with_reducible refine (HB.out _ ?_).mono ?_); (exact (HB5.out.trans (((Below.refl _ _).drew).mono HB5.out.size))); rintro e w6 hm; obtain ⟨z1, rfl, hb6⟩ := matchO_form hm; rw [HO2.out]; have HB6 : Hid (Below wr0.heap.size wr0 w6) := (HB5.out.trans ((Below.refl _ _).drew.mono HB5.out.size)).trans (hb6.mono (Nat.le_trans HB5.out.size (Nat.le_refl _))); clear hm hb6)))
  have HS : Hid ((o1 && o2) = soundB st) := by unfold Hid soundB; rw [HO1.out, HO2.out]
  cases o1
  all_goals
    go_wp2_with fail
    go_ret
    exact ⟨congrArg (fun b => Ending.returned (Value.bool b)) HS.out, HB6.out⟩
end Go.Proofs.Ytjjnhndlollldaa.Ep
