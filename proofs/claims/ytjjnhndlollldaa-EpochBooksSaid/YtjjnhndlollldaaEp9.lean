/-
epoch.Book.Epochs: the call answers the epochs of an end in memory of its own. Conditions: lengths within a million.
-/
import Derived.Test.YtjjnhndlollldaaEp8
import Derived.Test.YtjjnhndlollldaaEp7
import Derived.Test.YtjjnhndlollldaaEp6
import Derived.Deep.RegionHeld3
namespace Go.Proofs.Ytjjnhndlollldaa.Ep
set_option linter.unusedVariables false
open Go.RowKit Go.Proofs.Ytjjnhndlollldaa.Args

theorem info49c : (Try.prog.info? 49).map (fun i => (i.zero, i.size, i.bytes)) = some (some (.agg #[.slice none 0 0, .slice none 0 0]), 2, 48) := by kernel_rfl
/-- Epochs in memory of their own. -/
structure Dp (base : Nat) (w : World) (v : Value) (uu : Nat → Nat → Value) (l : List EpT) : Prop where
  row : w.ownsRow base 49 2 v l.length (flat uu l.length)
  txt : ∀ i k, i < l.length → k < 2 → w.ownsRow base 9 1 (uu i k) (cont l i k).length ((cont l i k).map Value.string)
  apart : ∀ i k b, i < l.length → k < 2 → (uu i k).ownBlock = some b → v.ownBlock ≠ some b
theorem Dp.on {base : Nat} {w w' : World} {v : Value} {uu : Nat → Nat → Value} {l : List EpT} (h : Dp base w v uu l) (hb : Below w.heap.size w w') : Dp base w' v uu l :=
  ⟨row_on h.row hb, fun i k hi hk => row_on (h.txt i k hi hk) hb, h.apart⟩
def uuN (uu : Nat → Nat → Value) (i : Nat) (a b : Value) : Nat → Nat → Value := fun i' k => if i' = i then (if k = 0 then a else b) else uu i' k
theorem cont_app_old {l : List EpT} {x : EpT} {i k : Nat} (hi : i < l.length) : cont (l ++ [x]) i k = cont l i k := by
  unfold cont
  simp only [List.getD_eq_getElem?_getD, List.getElem?_append_left hi]
theorem cont_app_new {l : List EpT} {x : EpT} {k : Nat} : cont (l ++ [x]) l.length k = if k = 0 then x.1 else x.2 := by
  unfold cont
  simp [List.getD_eq_getElem?_getD]
/-- An epoch more. -/
theorem Dp.more {base N0 : Nat} {w w1 : World} {v nv a b : Value} {uu : Nat → Nat → Value} {l : List EpT} {x : EpT} (h : Dp base w v uu l) (ha : w.ownsRow N0 9 1 a x.1.length (x.1.map Value.string)) (hb : w.ownsRow N0 9 1 b x.2.length (x.2.map Value.string)) (hN : base ≤ N0) (hv : ∀ k, v.ownBlock = some k → k < N0)
    (hg : w.grownBy w1 v.ownBlock) (ho : w1.ownsRow base 49 2 nv (l.length + 1) (flat uu l.length ++ [a, b])) (hat : nv.ownBlock = v.ownBlock ∨ ∃ k, nv.ownBlock = some k ∧ w.heap.size ≤ k) : Dp base w1 nv (uuN uu l.length a b) (l ++ [x]) := by
  have mono : ∀ {z : Value} {q : List ByteArray}, w.ownsRow N0 9 1 z q.length (q.map Value.string) → w.ownsRow base 9 1 z q.length (q.map Value.string) := fun hz => by
    refine ⟨hz.1, ?_⟩
    rcases hz.2 with h2 | ⟨g, cap, cur, e, hgb, r⟩
    · exact .inl h2
    · exact .inr ⟨g, cap, cur, e, Nat.le_trans hN hgb, r⟩
  have hnew : ∀ {z : Value} {q : List ByteArray}, w.ownsRow N0 9 1 z q.length (q.map Value.string) → ∀ k, z.ownBlock = some k → v.ownBlock ≠ some k ∧ k < w.heap.size := fun hz k hk => by
    have h1 := hz.lt k hk
    exact ⟨fun e => by have := hv k e; omega, h1.2⟩
  have hkeep : ∀ {z : Value} {q : List ByteArray}, w.ownsRow base 9 1 z q.length (q.map Value.string) → (∀ k, z.ownBlock = some k → v.ownBlock ≠ some k) → w1.ownsRow base 9 1 z q.length (q.map Value.string) := fun hz hne =>
    row_keep hz (fun k hk => hg.block k (hz.lt k hk).2 (fun e => hne k hk e.symm))
  refine ⟨?_, fun i k hi hk => ?_, fun i k b' hi hk hb' => ?_⟩
  · have hf : flat (uuN uu l.length a b) (l.length + 1) = flat uu l.length ++ [a, b] := by
      rw [flat_succ]
      congr 1
      · exact flat_congr (fun i k hi _ => by simp only [uuN]; rw [if_neg (by omega)])
      · simp [uuN]
    rw [List.length_append]
    show w1.ownsRow base 49 2 nv (l.length + 1) (flat _ (l.length + 1))
    rw [hf]; exact ho
  · by_cases hil : i < l.length
    · rw [cont_app_old hil]
      have e : uuN uu l.length a b i k = uu i k := if_neg (by omega)
      rw [e]
      exact hkeep (h.txt i k hil hk) (fun b' hb' => h.apart i k b' hil hk hb')
    · obtain rfl : i = l.length := by simp at hi; omega
      rw [cont_app_new]
      match k, hk with
      | 0, _ =>
        have e : uuN uu l.length a b l.length 0 = a := by simp [uuN]
        rw [e]; exact hkeep (mono ha) (fun k hk => (hnew ha k hk).1)
      | 1, _ =>
        have e : uuN uu l.length a b l.length 1 = b := by simp [uuN]
        rw [e]; exact hkeep (mono hb) (fun k hk => (hnew hb k hk).1)
  · have hlt : ∀ b', (uuN uu l.length a b i k).ownBlock = some b' → v.ownBlock ≠ some b' ∧ b' < w.heap.size := fun b' hb' => by
      by_cases hil : i < l.length
      · have e : uuN uu l.length a b i k = uu i k := if_neg (by omega)
        rw [e] at hb'
        exact ⟨h.apart i k b' hil hk hb', ((h.txt i k hil hk).lt b' hb').2⟩
      · obtain rfl : i = l.length := by simp at hi; omega
        match k, hk with
        | 0, _ =>
          have e : uuN uu l.length a b l.length 0 = a := by simp [uuN]
          rw [e] at hb'; exact hnew ha b' hb'
        | 1, _ =>
          have e : uuN uu l.length a b l.length 1 = b := by simp [uuN]
          rw [e] at hb'; exact hnew hb b' hb'
    obtain ⟨h1, h2⟩ := hlt b' hb'
    rcases hat with hat | ⟨c, hat, hc⟩
    · rw [hat]; exact h1
    · rw [hat]; intro e; injection e with e; omega
def EpsO (w : World) (l : List EpT) (e : Ending) (w' : World) : Prop := ∃ rv uu, e = .returned rv ∧ Dp w.heap.size w' rv uu l ∧ Below w.heap.size w w'
set_option maxHeartbeats 1000000 in
set_option maxRecDepth 100000 in
theorem row_base {w : World} {base b' : Nat} {e : TypeId} {size : Nat} {v : Value} {n : Nat} {xs : List Value} (h : w.ownsRow base e size v n xs) (hb : b' ≤ base) : w.ownsRow b' e size v n xs := by
  refine ⟨h.1, ?_⟩
  rcases h.2 with h2 | ⟨g, cap, cur, e, hg, r⟩
  · exact .inl h2
  · exact .inr ⟨g, cap, cur, e, Nat.le_trans hb hg, r⟩
theorem cont_at {l : List EpT} {i : Nat} (hi : i < l.length) : cont l i 0 = l[i].1 ∧ cont l i 1 = l[i].2 := by
  unfold cont
  simp [List.getD_eq_getElem?_getD, List.getElem?_eq_getElem hi]
theorem two_one {w w' : World} {b b' : Nat} {z0 z1 : Value} {q q' : List Value} {n n' : Nat} (h0 : w.ownsRow b 9 1 z0 n q) (h1 : w'.ownsRow b' 9 1 z1 n' q') : ∀ u ∈ [z0, z1], u.oneCell' = true := by
  intro u hu
  obtain ⟨s0, c0, rfl⟩ := row_form h0
  obtain ⟨s1, c1, rfl⟩ := row_form h1
  simp at hu
  rcases hu with rfl | rfl <;> rfl
theorem epochs_out (P : Nat) (e : Int) (w : World) (he : e < 0 ∨ 2 ≤ e) : Calls Try.prog 10 #[.pointer (some ⟨P, 0, none⟩), .int .i64 e] w fun r w' => r = .returned (.slice none 0 0) ∧ w' = w := by
  by_cases h0 : e < 0
  · clear he
    go_enter Try.func10, Try.ntmps10
    go_wp2_with fail
    go_ret
    exact ⟨rfl, rfl⟩
  · have h2 : 2 ≤ e := by omega
    clear he
    go_enter Try.func10, Try.ntmps10
    go_wp2_with fail
    go_ret
    exact ⟨rfl, rfl⟩
set_option maxHeartbeats 8000000 in
set_option maxRecDepth 100000 in
theorem epochs_calls (w wr0 : World) (P e0 M : Nat) (v : Nat → Value) (u : Nat → Nat → Nat → Value) (st : St) (h : Hid (Bk w wr0 P v u st)) (he0 : e0 < 2) (hM : Hid (Cap st M)) (hM2 : M ≤ 1000000) :
    Calls Try.prog 10 #[.pointer (some ⟨P, 0, none⟩), .int .i64 (e0 : Int)] wr0 (EpsO wr0 (st e0)) := by
  obtain ⟨nn, hnn⟩ : ∃ nn, (st e0).length = nn := ⟨_, rfl⟩
  have hnM : nn ≤ 1000000 := by rw [← hnn]; have := (hM.out e0).1; omega
  obtain ⟨sp, sc, hv⟩ := row_form (h.out.row e0 he0)
  rw [hnn] at hv
  have yP : wr0.cell? ⟨P, e0, none⟩ = some (.slice sp nn sc) := by rw [← hv]; exact h.out.cell e0 he0
  have hd1 : (0 : Int) ≤ (e0 : Int) := by omega
  have hd2 : (e0 : Int) < 2 := by omega
  have HV := Lib.hid hv
  have HNN := Lib.hid hnn
  have HE0 := Lib.hid he0
  obtain ⟨i0, hi0, hz0, hz1, hz2⟩ := info_parts info49c
  have HI := Lib.hid hi0
  have HZ0 := Lib.hid hz0
  have HZ1 := Lib.hid hz1
  have HZ2 := Lib.hid hz2
  clear hv hnn he0 hi0 hz0 hz1 hz2
  go_enter Try.func10, Try.ntmps10
  go_wp2_with fail
  clear yP
  go_loopw [5, 7, 21] (fun v5 _ iv wr => ∃ (i : Nat) (uu : Nat → Nat → Value), i ≤ nn ∧ iv = .int .i64 i ∧ Hid (Dp wr0.heap.size wr v5 uu ((st e0).take i)) ∧ Hid (Below wr0.heap.size wr0 wr)) (fun _ _ iv _ => nn - (intOf iv).toNat)
  case atStart => exact ⟨0, fun _ _ => nilV, by omega, rfl, ⟨World.ownsRow_nil _ _ _ _, (fun i k hi _ => by simp at hi), (fun i k b hi _ _ => by simp at hi)⟩, Below.refl _ _⟩
  case round =>
    obtain ⟨i, uu, hin, rfl, HD, HB⟩ := hrel
    by_cases hlt : i < nn
    · have hil : i < (st e0).length := by rw [HNN.out]; exact hlt
      have HIL := Lib.hid hil
      obtain ⟨g, cap, cur, hvg, hgb, hgh, hgc, hgx⟩ := row_open (h.out.row e0 HE0.out) (by rw [HNN.out]; omega)
      have hspg : sp = some ⟨g, 0, none⟩ ∧ sc = cap := by
        have h1 := HV.out
        rw [hvg] at h1
        injection h1 with h1 h2 h3
        exact ⟨h1.symm, h3.symm⟩
      obtain ⟨rfl, rfl⟩ := hspg
      have hgl : g < wr0.heap.size := (Array.getElem?_eq_some_iff.1 hgh).1
      have hcell : ∀ k, k < 2 → wr.cell? ⟨g, i * 2 + k, none⟩ = some (u e0 i k) := fun k hk => by
        rw [HB.out.cell (p := ⟨g, i * 2 + k, none⟩) hgl, cell_of_row _ _ _ _ _ _ hgh]; exact hgx _ _ (flat_get (u e0) _ i k hil hk)
      obtain ⟨s0, c0, hu0⟩ := row_form (h.out.txt e0 i 0 HE0.out hil (by omega))
      obtain ⟨s1, c1, hu1⟩ := row_form (h.out.txt e0 i 1 HE0.out hil (by omega))
      obtain ⟨n0, hn0⟩ : ∃ n0, (cont (st e0) i 0).length = n0 := ⟨_, rfl⟩
      obtain ⟨n1, hn1⟩ : ∃ n1, (cont (st e0) i 1).length = n1 := ⟨_, rfl⟩
      rw [hn0] at hu0
      rw [hn1] at hu1
      have e8 : wr.cell? ⟨g, i * 2, none⟩ = some (.slice s0 n0 c0) := by rw [← hu0]; exact hcell 0 (by omega)
      have e9 : wr.cell? ⟨g, i * 2 + 1, none⟩ = some (.slice s1 n1 c1) := by rw [← hu1]; exact hcell 1 (by omega)
      have HT0 : Hid (∀ W', Below wr.heap.size wr W' → Calls Try.prog 17 #[.slice s0 n0 c0] W' (CloneO W' (cont (st e0) i 0))) := fun W' hW' => by
        have h1 := row_on (row_on (h.out.txt e0 i 0 HE0.out HIL.out (by omega)) HB.out) hW'
        rw [hu0] at h1
        exact clone_any h1 (by have := (hM.out e0).2 i 0; omega)
      have HT1 : Hid (∀ W', Below wr.heap.size wr W' → Calls Try.prog 17 #[.slice s1 n1 c1] W' (CloneO W' (cont (st e0) i 1))) := fun W' hW' => by
        have h1 := row_on (row_on (h.out.txt e0 i 1 HE0.out HIL.out (by omega)) HB.out) hW'
        rw [hu1] at h1
        exact clone_any h1 (by have := (hM.out e0).2 i 1; omega)
      have HDP : Hid (∀ W', Below wr.heap.size wr W' → Dp wr0.heap.size W' u5 uu ((st e0).take i)) := fun W' hW' => HD.out.on hW'
      have hj0 : (0 : Int) ≤ (i : Int) := by omega
      have hj1 : (i : Int) < (nn : Int) := by omega
      clear hcell hu0 hu1 hn0 hn1 hvg hgb hgh hgc hgx hil
      go_upto_region 7 with fail
      refine code_worldA (F := fun W => Below wr.heap.size wr W ∧ ∃ X, X = wr.heap.size ∧ W.heap[X]? = some (.cells #[.slice s0 n0 c0, .slice s1 n1 c1] 49 (0, 0))) ⟨(Below.refl _ _).alloc (Nat.le_refl _) _, _, rfl, Go.heap_alloc_new _ _⟩ ?_
      rintro W ⟨hW, X, hX, hXA⟩
      rw [← hX]
      have HW := Lib.hid hW
      have HK : Hid (∀ W', Below W.heap.size W W' → W'.cell? ⟨X, 0, none⟩ = some (.slice s0 n0 c0) ∧ W'.cell? ⟨X, 1, none⟩ = some (.slice s1 n1 c1)) := fun W' hW' => by
        have h1 : W'.heap[X]? = _ := (hW'.block X (Array.getElem?_eq_some_iff.1 hXA).1).trans hXA
        exact ⟨by rw [cell_of_row _ _ _ _ _ _ h1]; rfl, by rw [cell_of_row _ _ _ _ _ _ h1]; rfl⟩
      have HXL : Hid (X < W.heap.size) := (Array.getElem?_eq_some_iff.1 hXA).1
      have HXE := Lib.hid hX
      clear hW hX hXA e8 e9 hgl
      have HDPW : Hid (∀ W', Below W.heap.size W W' → Dp wr0.heap.size W' u5 uu ((st e0).take i)) := fun W' hW' => HDP.out _ (HW.out.trans (hW'.mono HW.out.size))
      have HT0W : Hid (∀ W', Below W.heap.size W W' → Calls Try.prog 17 #[.slice s0 n0 c0] W' (CloneO W' (cont (st e0) i 0))) := fun W' hW' => HT0.out _ (HW.out.trans (hW'.mono HW.out.size))
      have HT1W : Hid (∀ W', Below W.heap.size W W' → Calls Try.prog 17 #[.slice s1 n1 c1] W' (CloneO W' (cont (st e0) i 1))) := fun W' hW' => HT1.out _ (HW.out.trans (hW'.mono HW.out.size))
      have htl : ((st e0).take i).length = i := by rw [List.length_take]; have := HIL.out; omega
      have HTL := Lib.hid htl
      have HKB : Hid (∀ W6 w7 o, Below W.heap.size W W6 → (W6.alloc o).grownBy w7 u5.ownBlock → (w7.cell? ⟨X, 0, none⟩ = some (.slice s0 n0 c0) ∧ w7.cell? ⟨X, 1, none⟩ = some (.slice s1 n1 c1))) := fun W6 w7 o h6 hg => by
        have h1 := HK.out _ (h6.alloc h6.size o)
        have hb : w7.heap[X]? = (W6.alloc o).heap[X]? := hg.block X (by have := HXL.out; have := h6.size; simp; omega) (fun e => by have := (HD.out.row.lt X e.symm).2; have := HXE.out; omega)
        exact ⟨(World.cell?_of_block (a := ⟨X, 0, none⟩) hb).trans h1.1, (World.cell?_of_block (a := ⟨X, 1, none⟩) hb).trans h1.2⟩
      have HROWLT : Hid (∀ k, u5.ownBlock = some k → wr0.heap.size ≤ k) := fun k hk => (HD.out.row.lt k hk).1
      clear htl
      go_region_held3 (fun W' => W'.cell? ⟨X, 0, none⟩ = some (.slice s0 n0 c0) ∧ W'.cell? ⟨X, 1, none⟩ = some (.slice s1 n1 c1))
        (first | exact HK.out _ (Below.refl _ _).drew | exact HK.out _ (below_drewN (Below.refl _ _) _) | exact HK.out _ HB5.out | exact HK.out _ HB6.out | exact HK.out _ (HB6.out.alloc HB6.out.size _) | (exact HKB.out _ _ _ HB6.out HF7.out.2.1) | fail)
        (first
          | (go_at_call_of 17 (Value.slice s0 n0 c0); ((with_reducible refine (HT0W.out _ ?_).mono ?_); (first | exact (below_drewN (Below.refl _ _) _) | exact (Below.refl _ _).drew); rintro e w5 ⟨z0, rfl, ho5, hb5⟩; obtain ⟨sz0, cz0, rfl⟩ := row_form ho5; have HB5 : Hid (Below W.heap.size W w5) := ((below_drewN (Below.refl _ _) 1).trans hb5); have HO5 := Lib.hid ho5; clear ho5 hb5))
          | (go_at_call_of 17 (Value.slice s1 n1 c1); ((with_reducible refine (HT1W.out _ ?_).mono ?_); (exact HB5.out); rintro e w6 ⟨z1, rfl, ho6, hb6⟩; obtain ⟨sz1, cz1, rfl⟩ := row_form ho6; have HB6 : Hid (Below W.heap.size W w6) := (HB5.out.trans (hb6.mono HB5.out.size)); have HO6 := Lib.hid ho6; have HO56 := Lib.hid (row_on HO5.out hb6); have HW56 : Hid (w5.heap.size ≤ w6.heap.size) := hb6.size; clear ho6 hb6 HO5))
          | (refine step_append_lies (o := ⟨some 34, _, _, _, _, _⟩) _ (by rfl) _ _ 24 (by rfl) wr0.heap.size 49 i0 (.agg #[.slice none 0 0, .slice none 0 0]) 2 48 Try.underlying24 HI.out HZ0.out HZ1.out HZ2.out (by rfl) (by decide) u5 ((st e0).take i).length (flat uu ((st e0).take i).length) (by rfl) (HDPW.out _ (HB6.out.alloc HB6.out.size _)).row ⟨_, 0, none⟩ 1 1 [(.slice sz0 (cont (st e0) i 0).length cz0), (.slice sz1 (cont (st e0) i 1).length cz1)] (by rfl) (by rfl) (World.news_of_block (cs := #[(.slice sz0 (cont (st e0) i 0).length cz0), (.slice sz1 (cont (st e0) i 1).length cz1)]) (t := 49) (fr := (0, 0)) (Go.heap_alloc_new _ _)) (two_one HO56.out HO6.out) (by omega) (by unfold maxLen; have := HTL.out; omega) (by have := HTL.out; omega) (by have h1 := HB6.out.size; have h2 := HW.out.size; have h3 := HB.out.size; simp; omega) _ rfl ?_; intro g7 c7 w7 hown7 hgrow7 hat7 hlt7; have HB7 : Hid (Below wr0.heap.size W w7) := ((HB6.out.alloc HB6.out.size _).mono (by have h2 := HW.out.size; have h3 := HB.out.size; omega)).grown hgrow7 (by have h1 := HB6.out.size; have h2 := HW.out.size; have h3 := HB.out.size; simp; omega) (fun k hk => HROWLT.out k hk); have HF7 := Lib.hid (And.intro hown7 (And.intro hgrow7 hat7)); clear hown7 hgrow7 hat7))
      all_goals
        have HFIN : Hid (Dp wr0.heap.size w7 (.slice (some ⟨g7, 0, none⟩) (((st e0).take i).length + 1) c7) (uuN uu ((st e0).take i).length (.slice sz0 (cont (st e0) i 0).length cz0) (.slice sz1 (cont (st e0) i 1).length cz1)) ((st e0).take (i + 1))) := by
          unfold Hid
          obtain ⟨q0, q1⟩ := cont_at HIL.out
          have hb6 : Below w6.heap.size w6 (w6.alloc (.cells #[.slice sz0 (cont (st e0) i 0).length cz0, .slice sz1 (cont (st e0) i 1).length cz1] 49)) := (Below.refl _ _).alloc (Nat.le_refl _) _
          have r0 := row_base (row_on HO56.out hb6) (b' := W.heap.size) (by simp)
          have r1 := row_base (row_on HO6.out hb6) (b' := W.heap.size) HB5.out.size
          have e : (st e0).take (i + 1) = (st e0).take i ++ [(st e0)[i]'HIL.out] := List.take_succ_eq_append_getElem HIL.out
          rw [e]
          refine (HDPW.out _ (HB6.out.alloc HB6.out.size _)).more (x := (st e0)[i]'HIL.out) (N0 := W.heap.size) (by rw [← q0]; exact r0) (by rw [← q1]; exact r1) (by have h2 := HW.out.size; have h3 := HB.out.size; omega) (fun k hk => by have := (HD.out.row.lt k hk).2; have h2 := HW.out.size; omega) HF7.out.2.1 HF7.out.1 ?_
          rcases HF7.out.2.2 with hq | hq
          · exact .inl hq.symm
          · exact .inr ⟨g7, rfl, Nat.le_of_eq hq.symm⟩
        have HBF : Hid (Below wr0.heap.size wr0 w7) := (HB.out.trans (HW.out.mono HB.out.size)).trans HB7.out
        have HFIM := HFIN
        rw [List.length_take] at HFIM
        clear HFIN
        go_wp2_with fail
        go_roundw
        case rel => exact ⟨i + 1, _, by omega, by go_num, HFIM, HBF⟩
        case measure => simp [intOf]; omega
    · have hie : i = nn := by omega
      have HDD : Hid (Dp wr0.heap.size wr u5 uu (st e0)) := by
        have h1 := HD.out
        rw [List.take_of_length_le (by rw [HNN.out]; omega)] at h1
        exact h1
      clear hie
      go_wp2_with fail
      go_ret
      exact ⟨_, uu, rfl, HDD.out, HB.out⟩
end Go.Proofs.Ytjjnhndlollldaa.Ep
