/-
EpochMatches: the walk. Conditions: lengths within the machine's.
-/
import Derived.Test.YtjjnhndlollldaaEp11
namespace Go.Proofs.Ytjjnhndlollldaa.Ep
set_option linter.unusedVariables false
open Go.RowKit Go.Proofs.Ytjjnhndlollldaa.Args

def mnI (x y : Int) : Int := if y < x then y else x
theorem min2_o (k k' : IntKind) (x y : Int) : Builtin.min2 (.int k x) (.int k' y) = pure (.int k (mnI x y)) := by simp only [Builtin.min2, mnI]
theorem min_2 (ats : Array TypeId) (ty : TypeId) (a b : Value) : Builtin.min_ ats ty #[a, b] = (Builtin.min2 a b >>= fun s => pure s) := by simp only [Builtin.min_, List.foldlM_cons, List.foldlM_nil]
attribute [local go_sem] min2_o min_2
theorem mnI_nat (n : Nat) : ∃ m : Nat, mnI (n : Int) 8 = (m : Int) ∧ m ≤ n ∧ m ≤ 8 := by
  unfold mnI
  by_cases h : 8 < n
  · exact ⟨8, by rw [if_pos (by omega)]; rfl, by omega, by omega⟩
  · exact ⟨n, by rw [if_neg (by omega)], by omega, by omega⟩
theorem run_upto24 (a : Option Addr) (n c k : Nat) (hk : k ≤ n) (hc : n ≤ c) (w : World) : (Instr.slice 24 (.slice a n c) none (some (.int .i64 (k : Int))) none).run Try.prog w = .ok (.slice a k c) w := by
  have he : Try.prog.elem 24 = 49 := by kernel_rfl
  have hsz : (sizeOf (Try.prog.elem 24)).run Try.prog w = .ok 2 w := by
    rw [he]
    have hi : (Try.prog.info? 49).map (·.size) = some 2 := by kernel_rfl
    obtain ⟨i, hi1, hi2⟩ := Option.map_eq_some_iff.1 hi
    simp [sizeOf, typeInfo, hi1, hi2]
  rw [run_slice_h w 24 a n c (by rw [he]; exact Try.underlying24) .i64 (k : Int) (by omega) (by omega), hsz]
  show Result.ok (Value.slice (if c = 0 then a else a.map (·.add (0 * 2))) ((k : Int).toNat - 0) (c - 0)) w = _
  have ha : a.map (·.add (0 * 2)) = a := by cases a <;> simp [Addr.add]
  rw [ha]
  simp
theorem EpRd.take {w : World} {a : Option Addr} {n k : Nat} {l : List EpT} (h : EpRd w a n l) (hk : k ≤ n) : EpRd w a k (l.take k) := by
  refine ⟨by rw [List.length_take, h.len]; omega, fun hp => ?_⟩
  obtain ⟨b, off, e, hl, hf⟩ := h.form (by omega)
  refine ⟨b, off, e, hl, fun i hi => ?_⟩
  have hi2 : i < l.length := by rw [List.length_take] at hi; omega
  rw [List.getElem_take]
  exact hf i hi2
theorem matchO_places {w w' : World} {r : Option (List Nat)} {e : Ending} (h : MatchO w r e w') : ∃ v pl, e = .returned (.tuple #[v, .bool r.isSome]) ∧ w'.ownsRow w.heap.size 3 1 v pl.length (pl.map fun (k : Nat) => Value.int .i64 (k : Int)) ∧ (r = some pl ∨ (r = none ∧ pl = [])) ∧ Below w.heap.size w w' := by
  obtain ⟨hb, h2⟩ := h
  cases r with
  | none => exact ⟨_, [], h2, World.ownsRow_nil _ _ _ _, .inr ⟨rfl, rfl⟩, hb⟩
  | some os => obtain ⟨v, h3, h4⟩ := h2; exact ⟨v, os, h3, h4, .inl rfl, hb⟩
theorem idx_end {ls : List EpT} {g : List ByteArray} {nx : Nat} (h : ∀ k (hk : k < ls.length), nx ≤ k → preB ls[k].1 g = false) : idxI (ls.drop nx) g = -1 := by
  unfold idxI
  rw [idx_none (fun i hi => by rw [List.length_drop] at hi; rw [List.getElem_drop]; exact h _ _ (by omega))]
theorem idx_at {ls : List EpT} {g : List ByteArray} {nx y : Nat} (hy : y < ls.length) (hny : nx ≤ y) (h : ∀ k (hk : k < ls.length), nx ≤ k → k < y → preB ls[k].1 g = false) (hp : preB ls[y].1 g = true) : idxI (ls.drop nx) g = ((y - nx : Nat) : Int) := by
  unfold idxI
  rw [idx_found (j := y - nx) (by rw [List.length_drop]; omega) (by rw [List.getElem_drop]; simpa [show nx + (y - nx) = y by omega] using hp) (fun i hi => by rw [List.getElem_drop]; exact h _ _ (by omega) (by omega))]
set_option maxHeartbeats 4000000 in
set_option maxRecDepth 100000 in
theorem matches_calls (a0 a1 : Option Addr) (n0 n1 c0 c1 : Nat) (ls0 lg0 : List EpT) (w0 : World) (h0 : Hid (EpRd w0 a0 n0 ls0)) (h1 : Hid (EpRd w0 a1 n1 lg0)) (hc0 : n0 ≤ c0) (hc1 : n1 ≤ c1) (hn0 : n0 ≤ 140737488355328) (hn1 : n1 ≤ 140737488355328) :
    Calls Try.prog 4 #[.slice a0 n0 c0, .slice a1 n1 c1] w0 (BoolO w0 true) := by
  obtain ⟨i0, hi, hz0, hz1, hz2⟩ := info_parts infoI
  have HI := Lib.hid hi
  have HZ0 := Lib.hid hz0
  have HZ1 := Lib.hid hz1
  have HZ2 := Lib.hid hz2
  clear hi hz0 hz1 hz2
  obtain ⟨m0, hm0, hm0n, hm08⟩ := mnI_nat n0
  obtain ⟨m1, hm1, hm1n, hm18⟩ := mnI_nat n1
  have hr0 := run_upto24 a0 n0 c0 m0 hm0n hc0
  have hr1 := run_upto24 a1 n1 c1 m1 hm1n hc1
  go_enter Try.func4, Try.ntmps4
  go_wp2_with fail
  refine (awake_calls w0).mono ?_
  rintro e wa ⟨rfl, ha⟩
  have HA := Lib.hid ha
  clear ha
  go_wp2_with fail
  go_quiet (fail)
  generalize hwq : World.drewN _ _ = wq
  have HQ : Hid (Below w0.heap.size w0 wq) := by unfold Hid; rw [← hwq]; exact below_drewN HA.out _
  clear hwq HA hr0 hr1
  obtain ⟨ls, hls⟩ : ∃ ls, ls0.take m0 = ls := ⟨_, rfl⟩
  obtain ⟨lg, hlg⟩ : ∃ lg, lg0.take m1 = lg := ⟨_, rfl⟩
  have R0q : Hid (EpRd wq a0 m0 ls) := by unfold Hid; rw [← hls]; exact (h0.out.below HQ.out).take hm0n
  have R1q : Hid (EpRd wq a1 m1 lg) := by unfold Hid; rw [← hlg]; exact (h1.out.below HQ.out).take hm1n
  have hmc0 : m0 ≤ c0 := by omega
  obtain ⟨r, hr⟩ : ∃ r, matchL ls 0 lg = r := ⟨_, rfl⟩
  have HR0 := Lib.hid hr
  clear hls hlg hr hm0 hm1
  go_wp2_with fail
  refine (match_calls a0 a1 m0 c0 m1 c1 ls lg r wq R0q R1q hmc0 (by omega) (by omega) HR0).mono ?_
  rintro e w5 hm
  obtain ⟨v5, pl, rfl, hpo, hpr, hb5⟩ := matchO_places hm
  obtain ⟨ok, hok⟩ : ∃ ok, r.isSome = ok := ⟨_, rfl⟩
  rw [hok]
  have HOK := Lib.hid hok
  have HPO := Lib.hid hpo
  have HPR := Lib.hid hpr
  have HB5 : Hid (Below w0.heap.size w0 w5) := HQ.out.trans (hb5.mono HQ.out.size)
  have R0 : Hid (EpRd w5 a0 m0 ls) := R0q.out.below hb5
  have R1 : Hid (EpRd w5 a1 m1 lg) := R1q.out.below hb5
  clear hm hok hpo hpr hb5 R0q R1q HQ h0 h1
  go_wp2_with fail
  go_loopw [7, 8, 9, 33] (fun v7 v8 v9 jv wr => ∃ (i nx : Nat) (gd : Bool) (os : List Nat), i ≤ m1 ∧ jv = .int .i64 i ∧ v7 = .int .i64 nx ∧ v8 = .bool gd ∧ nx ≤ m0 ∧ os.length ≤ i ∧ Hid (if gd = true then r = (matchL ls nx (lg.drop i)).map (fun t => os ++ t) else r = none) ∧ Hid (wr.ownsRow w5.heap.size 3 1 v9 os.length (os.map fun (k : Nat) => Value.int .i64 (k : Int))) ∧ Hid (Below w5.heap.size w5 wr)) (fun _ _ _ jv _ => m1 - (intOf jv).toNat)
  case atStart => exact ⟨0, 0, true, [], by omega, rfl, rfl, rfl, by omega, by simp, by unfold Hid; rw [if_pos rfl, ← HR0.out]; simp, World.ownsRow_nil _ _ _ _, Below.refl _ _⟩
  case round =>
    obtain ⟨i, nx, gd, os, him, rfl, rfl, rfl, hnx, hos, HR, HOWN, HB⟩ := hrel
    have hbs : w5.heap.size ≤ wr.heap.size := HB.out.size
    by_cases hlt : i < m1
    · obtain ⟨b, off, rfl, hbw, hc⟩ := R1.out.form (by omega)
      have hig : i < lg.length := by rw [R1.out.len]; exact hlt
      obtain ⟨⟨sv, sc, hs0, _⟩, ⟨gv, gc, hg0, hg1, hg2, hg3⟩⟩ := hc i hig
      obtain ⟨e0, he0⟩ : ∃ e0, lg[i] = e0 := ⟨_, rfl⟩
      rw [he0] at hs0 hg0 hg1 hg2 hg3
      obtain ⟨gl, hgl⟩ : ∃ gl, e0.2.length = gl := ⟨_, rfl⟩
      obtain ⟨sl, hsl⟩ : ∃ sl, e0.1.length = sl := ⟨_, rfl⟩
      rw [hgl] at hg0 hg1 hg2 hg3
      rw [hsl] at hs0
      have e8 : wr.cell? ⟨b, off + i * 2, none⟩ = some (.slice sv sl sc) := (HB.out.cell (p := ⟨b, off + i * 2, none⟩) hbw).trans hs0
      have e9 : wr.cell? ⟨b, off + i * 2 + 1, none⟩ = some (.slice gv gl gc) := (HB.out.cell (p := ⟨b, off + i * 2 + 1, none⟩) hbw).trans hg0
      have HG1 := Lib.hid hg1
      have HG3 := Lib.hid hg3
      have HE := Lib.hid he0
      have HGL := Lib.hid hgl
      have HBA : Hid (Below w5.heap.size w5 (wr.alloc (.cells #[.slice sv sl sc, .slice gv gl gc] 49))) := HB.out.alloc hbs _
      have HOA := Lib.hid (HOWN.out.alloc (.cells #[.slice sv sl sc, .slice gv gl gc] 49))
      have hi0 : (0 : Int) ≤ (i : Int) := by omega
      have hi1 : (i : Int) < (m1 : Int) := by omega
      clear hc hs0 hg0 hg1 hg2 hg3 he0 hgl hsl
      rcases Nat.eq_zero_or_pos gl with rfl | hpos
      · have HSK : Hid (if gd = true then r = (matchL ls nx (lg.drop (i + 1))).map (fun t => os ++ t) else r = none) := by
          have h2 := HR.out
          rwa [match_skip hig (by rw [HE.out]; exact HGL.out)] at h2
        go_wp2_with fail
        go_roundw
        case rel => exact ⟨i + 1, nx, gd, os, by omega, by go_num, rfl, rfl, hnx, by omega, HSK, HOA, HBA⟩
        case measure => simp [intOf]; omega
      · have hz1 : ((gl : Int) == 0) = false := by rw [beq_eq_false_iff_ne]; omega
        have hz2 : (gl == 0) = false := by rw [beq_eq_false_iff_ne]; omega
        cases gd with
        | false =>
          have HRF : Hid (r = none) := HR.out
          go_wp2_with fail
          go_roundw
          case rel => exact ⟨i + 1, nx, false, os, by omega, by go_num, rfl, rfl, hnx, by omega, HRF, HOA, HBA⟩
          case measure => simp [intOf]; omega
        | true =>
          have HRT : Hid (r = (matchL ls nx (lg.drop i)).map (fun t => os ++ t)) := HR.out
          have HNX := Lib.hid (show ¬ e0.2.length = 0 by rw [HGL.out]; omega)
          go_wp2_with fail
          refine code_worldA (F := fun W => Below w5.heap.size w5 W ∧ W.ownsRow w5.heap.size 3 1 u9 os.length (os.map fun (k : Nat) => Value.int .i64 (k : Int)) ∧ ∃ X, X = wr.heap.size ∧ W.heap[X]? = some (.cells #[.slice sv sl sc, .slice gv gl gc] 49 (0, 0))) ⟨HBA.out, HOA.out, _, rfl, Go.heap_alloc_new _ _⟩ ?_
          rintro W ⟨hW, hOW, X, hX, hXc⟩
          rw [← hX]
          have HW := Lib.hid hW
          have HOW := Lib.hid hOW
          have HXC : Hid (∀ W', Below W.heap.size W W' → W'.cell? ⟨X, 1, none⟩ = some (.slice gv gl gc)) := fun W' hW' => by
            rw [cell_of_row _ _ _ _ _ _ ((hW'.block X (Array.getElem?_eq_some_iff.1 hXc).1).trans hXc)]
            rfl
          have hbsW : w5.heap.size ≤ W.heap.size := hW.size
          have RW0 : Hid (EpRd W a0 m0 ls) := R0.out.below hW
          have HGW : Hid (ArgRow 1 strV W gv gl e0.2) := HG1.out.below hW (Nat.le_refl _)
          clear hW hOW hX hXc e8 e9 HBA HOA HR HOWN
          go_loopw [7] (fun v7 wr2 => ∃ y : Nat, nx ≤ y ∧ y ≤ m0 ∧ v7 = .int .i64 y ∧ Hid (∀ k (hk : k < ls.length), nx ≤ k → k < y → preB ls[k].1 e0.2 = false) ∧ Hid (Below W.heap.size W wr2)) (fun v7 _ => m0 - (intOf v7).toNat)
          case atStart => exact ⟨nx, by omega, hnx, rfl, fun k hk h1 h2 => by omega, Below.refl _ _⟩
          case round =>
            obtain ⟨y, hny, hym, rfl, HF, HB2⟩ := hrel
            have e9 : wr.cell? ⟨X, 1, none⟩ = some (.slice gv gl gc) := HXC.out wr HB2.out
            have hbs2 : W.heap.size ≤ wr.heap.size := HB2.out.size
            by_cases hyl : y < m0
            · obtain ⟨b2, off2, rfl, hbw2, hc2⟩ := RW0.out.form (by omega)
              have hyg : y < ls.length := by rw [RW0.out.len]; exact hyl
              obtain ⟨⟨sv2, sc2, k0, k1, k2, k3⟩, _⟩ := hc2 y hyg
              obtain ⟨tq, htq⟩ : ∃ tq, ls[y].1 = tq := ⟨_, rfl⟩
              rw [htq] at k0 k1 k2 k3
              obtain ⟨tl, htl⟩ : ∃ tl, tq.length = tl := ⟨_, rfl⟩
              rw [htl] at k0 k1 k2 k3
              have e8 : wr.cell? ⟨b2, off2 + y * 2, none⟩ = some (.slice sv2 tl sc2) := (HB2.out.cell (p := ⟨b2, off2 + y * 2, none⟩) hbw2).trans k0
              have HT1 := Lib.hid k1
              have HTQ := Lib.hid htq
              have HTL := Lib.hid htl
              have hy0 : (0 : Int) ≤ (y : Int) := by omega
              have hy1 : (y : Int) < (m0 : Int) := by omega
              clear hc2 k0 k1 htq htl
              by_cases hle : gl ≤ tl
              · have hrun := run_upto sv2 tl sc2 gl hle k2
                have hle2 : (gl : Int) ≤ (tl : Int) := by omega
                obtain ⟨rv, hrv⟩ : ∃ rv, eqB (tq.take gl) e0.2 = rv := ⟨_, rfl⟩
                have HPV : Hid (preB ls[y].1 e0.2 = rv) := by
                  unfold Hid preB
                  rw [HTQ.out, HGL.out, HTL.out, hrv, decide_eq_true hle]
                  rfl
                have HSAME : Hid (∀ nq, Calls Try.prog 11 #[.slice sv2 gl sc2, .slice gv gl gc] (wr.drewN nq) (Drawn (wr.drewN nq) (.bool rv))) := fun nq => same_calls sv2 gv gl gl sc2 gc (tq.take gl) e0.2 rv _ ((row_take HT1.out hle).below (below_drewN HB2.out nq) (Nat.le_refl _)) (HGW.out.below (below_drewN HB2.out nq) (Nat.le_refl _)) HG3.out HG3.out hrv
                clear hrv k2 k3
                cases rv with
                | false =>
                  have HF2 : Hid (∀ k (hk : k < ls.length), nx ≤ k → k < y + 1 → preB ls[k].1 e0.2 = false) := fun k hk h1 h2 => by
                    by_cases e : k = y
                    · subst e; exact HPV.out
                    · exact HF.out k hk h1 (by omega)
                  go_wp2_with fail
                  go_quiet ((go_at_call_of 11 (Value.slice sv2 gl sc2); exact Calls.quiet_of (HSAME.out _)))
                  go_wp2_with fail
                  go_roundw
                  case rel => exact ⟨y + 1, by omega, by omega, by go_num, HF2, below_drewN HB2.out _⟩
                  case measure => simp [intOf]; omega
                | true =>
                  have HX := Lib.hid (idx_at hyg hny HF.out HPV.out)
                  have HMS : Hid (r = (matchL ls (y + 1) (lg.drop (i + 1))).map (fun t => (os ++ [y]) ++ t)) := by
                    unfold Hid
                    rw [HRT.out, match_some hig (by rw [HE.out]; exact HNX.out) (by rw [HE.out]; exact HX.out), Option.map_map, show nx + (y - nx) + 1 = y + 1 by omega]
                    congr 1
                    funext t
                    simp [show nx + (y - nx) = y by omega]
                  go_wp2_with fail
                  go_quiet ((go_at_call_of 11 (Value.slice sv2 gl sc2); exact Calls.quiet_of (HSAME.out _)))
                  generalize hwz : World.drewN _ _ = wz
                  have HBZ : Hid (Below W.heap.size W wz) := by unfold Hid; rw [← hwz]; exact below_drewN HB2.out _
                  have HOZ := Lib.hid (row_on HOW.out HBZ.out)
                  have HBZ5 : Hid (Below w5.heap.size w5 wz) := HW.out.trans (HBZ.out.mono hbsW)
                  have hbsz : w5.heap.size ≤ wz.heap.size := HBZ5.out.size
                  clear hwz e8 e9 hrun
                  go_wp2_with (at_builtin; refine wpList_append_own_at _ rfl _ _ 51 rfl w5.heap.size 3 i0 (.int .i64 0) 1 8 Try.underlying51 HI.out HZ0.out HZ1.out HZ2.out rfl (by decide) _ _ _ rfl (HOZ.out.alloc _) ⟨wz.heap.size, 0, none⟩ 1 1 [.int .i64 (y : Int)] rfl rfl (World.news_of_block (cs := #[.int .i64 (y : Int)]) (t := 3) (fr := (0, 0)) (Go.heap_alloc_new _ _)) (by simp [Value.oneCell']) (by unfold maxLen; omega) (by omega) (by simp; omega) ?_)
                  intro v6 w6 hown6 hgrow6 _ hat6
                  have HO6 : Hid (w6.ownsRow w5.heap.size 3 1 v6 (os ++ [y]).length ((os ++ [y]).map fun (k : Nat) => Value.int .i64 (k : Int))) := by
                    unfold Hid
                    rw [List.length_append, List.map_append]
                    exact hown6
                  have HB6 : Hid (Below w5.heap.size w5 w6) := (HBZ5.out.alloc hbsz _).grown hgrow6 (by simp; omega) (fun j hj => (HOZ.out.lt j hj).1)
                  clear hown6 hgrow6 hat6
                  go_wp2_with fail
                  go_roundw
                  case rel => exact ⟨i + 1, y + 1, true, os ++ [y], by omega, by go_num, by go_num, rfl, by omega, by simp; omega, HMS, HO6, HB6⟩
                  case measure => simp [intOf]; omega
              · have hle2 : decide ((gl : Int) ≤ (tl : Int)) = false := decide_eq_false (by omega)
                have hle3 : decide (gl ≤ tl) = false := decide_eq_false hle
                have HF2 : Hid (∀ k (hk : k < ls.length), nx ≤ k → k < y + 1 → preB ls[k].1 e0.2 = false) := fun k hk h1 h2 => by
                  by_cases e : k = y
                  · subst e
                    unfold preB
                    rw [HTQ.out, HGL.out, HTL.out, decide_eq_false hle]
                    rfl
                  · exact HF.out k hk h1 (by omega)
                go_wp2_with fail
                go_quiet (fail)
                go_wp2_with fail
                go_roundw
                case rel => exact ⟨y + 1, by omega, by omega, by go_num, HF2, below_drewN HB2.out _⟩
                case measure => simp [intOf]; omega
            · obtain rfl : y = m0 := by omega
              have HX : Hid (idxI (ls.drop nx) e0.2 = -1) := idx_end (fun k hk h1 => HF.out k hk h1 (by have := RW0.out.len; omega))
              have HRN : Hid (r = none) := by
                unfold Hid
                rw [HRT.out, match_none hig (by rw [HE.out]; exact HNX.out) (by rw [HE.out]; exact HX.out)]
                rfl
              go_wp2_with fail
              go_quiet (fail)
              generalize hwz : World.drewN _ _ = wz
              have HBZ : Hid (Below W.heap.size W wz) := by unfold Hid; rw [← hwz]; exact below_drewN HB2.out _
              have HOZ := Lib.hid (row_on HOW.out HBZ.out)
              have HBZ5 : Hid (Below w5.heap.size w5 wz) := HW.out.trans (HBZ.out.mono hbsW)
              clear hwz e9
              go_wp2_with fail
              go_roundw
              case rel => exact ⟨i + 1, y, false, os, by omega, by go_num, rfl, rfl, by omega, by omega, HRN, HOZ, HBZ5⟩
              case measure => simp [intOf]; omega
    · have hdr : lg.drop i = [] := List.drop_eq_nil_of_le (by rw [R1.out.len]; omega)
      have HRE : Hid (if gd = true then r = some os else r = none) := by
        have h2 := HR.out
        rw [hdr] at h2
        cases gd with
        | true =>
          have h3 : r = (matchL ls nx []).map (fun t => os ++ t) := h2
          show r = some os
          rw [h3]
          unfold matchL
          simp
        | false => exact h2
      have HBF : Hid (Below w0.heap.size w0 wr) := HB5.out.trans (HB.out.mono HB5.out.size)
      have HPW := Lib.hid (row_on HPO.out HB.out)
      clear hdr HR
      cases gd with
      | true =>
        have HRS : Hid (r = some os) := HRE.out
        obtain rfl : pl = os := by
          have h2 := HRS.out
          rcases HPR.out with h3 | ⟨h3, _⟩
          · rw [h2] at h3; injection h3 with h3; exact h3.symm
          · rw [h2] at h3; cases h3
        obtain rfl : true = ok := by rw [← HOK.out, HRS.out]; rfl
        obtain ⟨sp5, sc5, rfl⟩ := row_form HPW.out
        obtain ⟨sp9, sc9, rfl⟩ := row_form HOWN.out
        have hpl : pl.length ≤ 8 := by omega
        have HC5 : Hid (∀ W', Below wr.heap.size wr W' → ∀ k (hk : k < pl.length), ∃ g, sp5 = some ⟨g, 0, none⟩ ∧ W'.cell? ⟨g, k, none⟩ = some (.int .i64 (pl[k] : Int))) := fun W' hW' k hk => by
          obtain ⟨g, cap, cur, hv, _, hh, _, hx⟩ := row_open (row_on HPW.out hW') (by omega)
          injection hv with a1 _ _
          exact ⟨g, a1, by rw [cell_of_row _ _ _ _ _ _ hh]; exact hx k _ (by simp [hk])⟩
        have HC9 : Hid (∀ W', Below wr.heap.size wr W' → ∀ k (hk : k < pl.length), ∃ g, sp9 = some ⟨g, 0, none⟩ ∧ W'.cell? ⟨g, k, none⟩ = some (.int .i64 (pl[k] : Int))) := fun W' hW' k hk => by
          obtain ⟨g, cap, cur, hv, _, hh, _, hx⟩ := row_open (row_on HOWN.out hW') (by omega)
          injection hv with a1 _ _
          exact ⟨g, a1, by rw [cell_of_row _ _ _ _ _ _ hh]; exact hx k _ (by simp [hk])⟩
        obtain ⟨np, hnp⟩ : ∃ np, pl.length = np := ⟨_, rfl⟩
        rw [hnp] at hpl ⊢
        have HNP := Lib.hid hnp
        clear HPW HOWN hnp HPO
        go_wp2_with fail
        go_loopw [104] (fun kv wr2 => ∃ k : Nat, k ≤ np ∧ kv = .int .i64 k ∧ Hid (Below wr.heap.size wr wr2)) (fun kv _ => np - (intOf kv).toNat)
        case atStart => exact ⟨0, by omega, rfl, Below.refl _ _⟩
        case round =>
          obtain ⟨k, hkn, rfl, HBK⟩ := hrel
          by_cases hkl : k < np
          · obtain ⟨g5, rfl, e5⟩ := HC5.out _ HBK.out k (by rw [HNP.out]; exact hkl)
            obtain ⟨g9, rfl, e9⟩ := HC9.out _ HBK.out k (by rw [HNP.out]; exact hkl)
            obtain ⟨z, hz⟩ : ∃ z, (pl[k]'(by rw [HNP.out]; exact hkl)) = z := ⟨_, rfl⟩
            rw [hz] at e5 e9
            have hk0 : (0 : Int) ≤ (k : Int) := by omega
            have hk1 : (k : Int) < (np : Int) := by omega
            have hk2 : decide ((np : Int) ≤ (k : Int)) = false := decide_eq_false (by omega)
            have hk3 : decide (np ≤ k) = false := decide_eq_false (by omega)
            have hzz : ((z : Int) != (z : Int)) = false := bne_eq_false_iff_eq.2 rfl
            clear hz
            go_wp2_with fail
            go_quiet (fail)
            go_wp2_with fail
            go_roundw
            case rel => exact ⟨k + 1, by omega, by go_num, below_drewN HBK.out _⟩
            case measure => simp [intOf]; omega
          · have HBE : Hid (Below w0.heap.size w0 wr) := HBF.out.trans (HBK.out.mono HBF.out.size)
            go_wp2_with fail
            go_ret
            exact ⟨rfl, HBE.out⟩
      | false =>
        have HRS : Hid (r = none) := HRE.out
        obtain rfl : pl = [] := by
          have h2 := HRS.out
          rcases HPR.out with h3 | ⟨_, h3⟩
          · rw [h2] at h3; cases h3
          · exact h3
        obtain rfl : false = ok := by rw [← HOK.out, HRS.out]; rfl
        obtain ⟨sp5, sc5, rfl⟩ := row_form HPW.out
        have h00 : ([] : List Nat).length = 0 := rfl
        rw [h00]
        clear HPW HPO h00
        go_wp2_with fail
        go_loopw [104] (fun kv wr2 => kv = .int .i64 (0 : Int) ∧ Hid (Below wr.heap.size wr wr2)) (fun kv _ => 0)
        case atStart => exact ⟨rfl, Below.refl _ _⟩
        case round =>
          obtain ⟨rfl, HBK⟩ := hrel
          have HBE : Hid (Below w0.heap.size w0 wr) := HBF.out.trans (HBK.out.mono HBF.out.size)
          go_wp2_with fail
          go_ret
          exact ⟨rfl, HBE.out⟩
theorem matches_row (W : World) (a0 : Option Addr) (n0 c0 : Nat) (z0 : List EpT) (w0 : EpRd W a0 n0 z0) (l0 : n0 ≤ c0) (y0 : n0 * 48 ≤ 140737488351232) (a1 : Option Addr) (n1 c1 : Nat) (z1 : List EpT) (w1 : EpRd W a1 n1 z1) (l1 : n1 ≤ c1) (y1 : n1 * 48 ≤ 140737488351232) :
    Calls Try.prog 4 #[.slice a0 n0 c0, .slice a1 n1 c1] W fun e w' => e = .returned (.bool true) ∧ Below W.heap.size W w' :=
  matches_calls a0 a1 n0 n1 c0 c1 z0 z1 W w0 w1 l0 l1 (by omega) (by omega)
end Go.Proofs.Ytjjnhndlollldaa.Ep
