/-
EpochBooks: the walk. Conditions: lengths within the machine's.
-/
import Derived.Test.YtjjnhndlollldaaEpB7
namespace Go.Proofs.Ytjjnhndlollldaa.Ep
set_option linter.unusedVariables false
open Go.RowKit Go.Proofs.Ytjjnhndlollldaa.Args

set_option maxHeartbeats 4000000 in
set_option maxRecDepth 100000 in
theorem books_calls (a0 : Option Addr) (n0 c0 : Nat) (q0 : List NoteT) (w0 : World) (h0 : Hid (ArgRow 4 noteV w0 a0 n0 q0)) (hn0 : n0 ≤ 140737488355328) :
    Calls Try.prog 3 #[.slice a0 n0 c0] w0 (BoolO w0 true) := by
  go_enter Try.func3, Try.ntmps3
  go_wp2_with fail
  refine (awake_calls w0).mono ?_
  rintro e wa ⟨rfl, ha⟩
  have HA := Lib.hid ha
  clear ha
  go_wp2_with fail
  obtain ⟨P, hP⟩ : ∃ P, wa.heap.size = P := ⟨_, rfl⟩
  generalize hwb : World.alloc (World.alloc (World.alloc wa _) _) _ = wb
  have hbl : Below w0.heap.size w0 wb := by rw [← hwb]; exact ((HA.out.alloc HA.out.size _).alloc (by simp; have := HA.out.size; omega) _).alloc (by simp; have := HA.out.size; omega) _
  have hwP : w0.heap.size ≤ P := by rw [← hP]; exact HA.out.size
  have hbP : wb.heap[P]? = some (.cells #[.slice none 0 0, .slice none 0 0] 27 (0, 0)) := by
    rw [← hwb, ← hP]
    exact (((Below.refl _ _).alloc (Nat.le_refl _) _).block _ (by simp; omega)).trans ((((Below.refl _ _).alloc (Nat.le_refl _) _).block _ (by simp)).trans (Go.heap_alloc_new _ _))
  have hbS : wb.heap[P + 1]? = some (.cells #[.slice none 0 0, .slice none 0 0] 29 (0, 0)) := by
    rw [← hwb, ← hP, show wa.heap.size + 1 = (wa.alloc (.cells #[.slice none 0 0, .slice none 0 0] 27)).heap.size by simp]
    exact (((Below.refl _ _).alloc (Nat.le_refl _) _).block _ (by simp)).trans (Go.heap_alloc_new _ _)
  have hbG : wb.heap[P + 1 + 1]? = some (.cells #[.slice none 0 0, .slice none 0 0] 29 (0, 0)) := by
    rw [← hwb, ← hP, show wa.heap.size + 1 + 1 = ((wa.alloc (.cells #[.slice none 0 0, .slice none 0 0] 27)).alloc (.cells #[.slice none 0 0, .slice none 0 0] 29)).heap.size by simp]
    exact Go.heap_alloc_new _ _
  have HBK : Hid (Bk w0 wb P (fun _ => .slice none 0 0) (fun _ _ _ => .slice none 0 0) st00) := Bk.new hbl hwP hbP
  have HMX : Hid (Mx w0 wb (P + 1) (P + 1 + 1) (fun _ => .slice none 0 0) (fun _ _ => .slice none 0 0) (mx st00)) := mx_new hbS hbG (by omega) (by omega) (by omega)
  have HDJ : Hid (∀ b, BF P (fun _ => .slice none 0 0) (fun _ _ _ => .slice none 0 0) st00 b → ¬ MF (P + 1) (P + 1 + 1) (fun _ => .slice none 0 0) (fun _ _ => .slice none 0 0) (mx st00) b) := fun b hb hm => by
    have hbe : b = P := by
      rcases hb with h | ⟨e, p, _, hp, h⟩
      · exact h
      · simp only [st00, List.length_nil] at hp
        obtain rfl : p = 0 := by omega
        simp [pl, Value.ownBlock] at h
    rcases hm with h | h | ⟨r, p, _, hp, h⟩
    · omega
    · omega
    · have hl : (mx st00 r).length = 0 := by unfold mx st00; split <;> rfl
      rw [hl] at hp
      obtain rfl : p = 0 := by omega
      simp [pm, Value.ownBlock] at h
  rw [hP]
  obtain ⟨S, hS⟩ : ∃ S, P + 1 = S := ⟨_, rfl⟩
  rw [hS] at HMX HDJ ⊢
  obtain ⟨G, hG⟩ : ∃ G, S + 1 = G := ⟨_, rfl⟩
  rw [hG] at HMX HDJ ⊢
  clear hwb hbl hbP hbS hbG hwP hP hS hG HA
  go_loopw [6] (fun iv wr => ∃ (i : Nat) (v : Nat → Value) (u : Nat → Nat → Nat → Value) (st : St) (vm : Nat → Value) (um : Nat → Nat → Value), i ≤ n0 ∧ i ≤ 100 ∧ iv = .int .i64 i ∧ Hid (Bk w0 wr P v u st) ∧ Hid (Cap st i) ∧ Hid (Mx w0 wr S G vm um (mx st)) ∧ Hid (∀ b, BF P v u st b → ¬ MF S G vm um (mx st) b)) (fun iv _ => 100 - (intOf iv).toNat)
  case atStart => exact ⟨0, _, _, st00, _, _, by omega, by omega, rfl, HBK, cap00, HMX, HDJ⟩
  case round =>
    clear HBK HMX HDJ
    obtain ⟨i, v, u, st, vm, um, hin, hi100, rfl, HK, HC, HM, HD⟩ := hrel
    by_cases hlt : i < n0 ∧ i < 100
    · obtain ⟨hlt, hlt2⟩ := hlt
      obtain ⟨b0, off0, rfl, hbw0, hc0⟩ := note_cells h0.out (by omega)
      have hiq : i < q0.length := by rw [h0.out.len]; exact hlt
      obtain ⟨⟨y1, y2, y3, y4⟩, hx⟩ : ∃ x, q0[i] = x := ⟨_, rfl⟩
      obtain ⟨k0, k1, k2, k3⟩ := hc0 i hiq
      rw [hx] at k0 k1 k2 k3
      have e0 : wr.cell? ⟨b0, off0 + i * 4, none⟩ = some (.int .i64 y1) := (HK.out.below.cell (p := ⟨b0, off0 + i * 4, none⟩) hbw0).trans k0
      have e1 : wr.cell? ⟨b0, off0 + i * 4 + 1, none⟩ = some (.int .i64 y2) := (HK.out.below.cell (p := ⟨b0, off0 + i * 4 + 1, none⟩) hbw0).trans k1
      have e2 : wr.cell? ⟨b0, off0 + i * 4 + 2, none⟩ = some (.int .i64 y3) := (HK.out.below.cell (p := ⟨b0, off0 + i * 4 + 2, none⟩) hbw0).trans k2
      have e3 : wr.cell? ⟨b0, off0 + i * 4 + 3, none⟩ = some (.string y4) := (HK.out.below.cell (p := ⟨b0, off0 + i * 4 + 3, none⟩) hbw0).trans k3
      have hi0 : (0 : Int) ≤ (i : Int) := by omega
      have hi1 : (i : Int) < (n0 : Int) := by omega
      have hi2 : (i : Int) < 100 := by omega
      clear hc0 hx k0 k1 k2 k3
      go_wp2_with fail
      refine calls_worldA (F := fun W => Below wr.heap.size wr W ∧ ∃ X, X = wr.heap.size ∧ W.heap[X]? = some (.cells #[.int .i64 y1, .int .i64 y2, .int .i64 y3, .string y4] 31 (0, 0))) ⟨(Below.refl _ _).alloc (Nat.le_refl _) _, _, rfl, Go.heap_alloc_new _ _⟩ ?_
      rintro W ⟨hW, X, hX, hXc⟩
      rw [← hX]
      have hXl : X < W.heap.size := (Array.getElem?_eq_some_iff.1 hXc).1
      have HKW := Lib.hid (HK.out.on hW)
      have HMW := Lib.hid (HM.out.on hW)
      have HXB : Hid (¬ BF P v u st X) := fun h => by have := HK.out.bf_lt h; omega
      have HXM : Hid (¬ MF S G vm um (mx st) X) := fun h => by have := HM.out.mf_lt h; omega
      have HXC := Lib.hid hXc
      clear hW hX hXc e0 e1 e2 e3
      refine (record_calls (y1, y2, y3, y4) W).mono ?_
      rintro e wc ⟨rfl, hc⟩
      have HCB := Lib.hid hc
      clear hc
      generalize hr1 : recOf (y1, y2, y3, y4) = r1
      have HR1 := Lib.hid hr1
      clear hr1
      obtain ⟨x1, x2, x3, x4, x5, x6⟩ := r1
      simp only [recA]
      go_wp2_with fail
      generalize hwd : wc.alloc _ = wd
      have hbd : wd.heap[wc.heap.size]? = some (.cells (recA (x1, x2, x3, x4, x5, x6)) 43 (0, 0)) := by rw [← hwd]; exact Go.heap_alloc_new _ _
      have hbl : Below W.heap.size W wd := by rw [← hwd]; exact HCB.out.alloc HCB.out.size _
      clear hwd
      refine (add_one w0 wd W P i wc.heap.size v u st (x1, x2, x3, x4, x5, x6) HKW hbl hbd HCB.out.size HC.out (by omega) 1).mono ?_
      rintro e w3 ⟨rfl, v3, u3, hk3, hl3⟩
      have HC3 : Hid (Cap (addR st (x1, x2, x3, x4, x5, x6)) (i + 1)) := HC.out.addR _
      have HST : Hid (addR st (x1, x2, x3, x4, x5, x6) = addR st (recOf (y1, y2, y3, y4))) := by unfold Hid; rw [HR1.out]
      have HX3 : Hid (w3.heap[X]? = some (.cells #[.int .i64 y1, .int .i64 y2, .int .i64 y3, .string y4] 31 (0, 0))) := (hl3.block X hXl HXB.out).trans HXC.out
      have HM3 : Hid (Mx w0 w3 S G vm um (mx st)) := HMW.out.same fun b hb => hl3.block b (HMW.out.mf_lt hb) (fun hbf => HD.out b hbf hb)
      have HD3 : Hid (∀ b, BF P v3 u3 (addR st (x1, x2, x3, x4, x5, x6)) b → ¬ MF S G vm um (mx st) b) := fun b hb hm => by
        rcases hl3.fresh b hb with h | h
        · exact HD.out b h hm
        · have := HMW.out.mf_lt hm; omega
      have HK3 : Hid (Bk w0 w3 P v3 u3 (addR st (x1, x2, x3, x4, x5, x6))) := hk3
      generalize addR st (x1, x2, x3, x4, x5, x6) = st3 at HC3 HST HD3 HK3
      have x0 : w3.cell? ⟨X, 0, none⟩ = some (.int .i64 y1) := by rw [cell_of_row _ _ _ _ _ _ HX3.out]; rfl
      have x1' : w3.cell? ⟨X, 1, none⟩ = some (.int .i64 y2) := by rw [cell_of_row _ _ _ _ _ _ HX3.out]; rfl
      have hXl3 : X < w3.heap.size := (Array.getElem?_eq_some_iff.1 HX3.out).1
      clear hk3 hl3 hbd hbl HCB HR1 HKW HMW HXB HXC HK HM HD hXl
      by_cases hend : y1 < 0 ∨ 2 ≤ y1
      · have HS3 : Hid (st3 = st) := by unfold Hid; rw [HST.out, note_out hend]
        rw [HS3.out] at HD3 HK3 HC3
        rcases hend with hend | hend
        · go_wp2_with fail
          go_roundw
          case rel => exact ⟨i + 1, v3, u3, st, vm, um, by omega, by omega, by go_num, HK3, HC3, HM3, HD3⟩
          case measure => simp [intOf]; omega
        · have hd1 : decide (y1 < 0) = false := decide_eq_false (by omega)
          have hd2 : 1 < y1 := by omega
          go_wp2_with fail
          go_roundw
          case rel => exact ⟨i + 1, v3, u3, st, vm, um, by omega, by omega, by go_num, HK3, HC3, HM3, HD3⟩
          case measure => simp [intOf]; omega
      · obtain ⟨en, rfl⟩ : ∃ en : Nat, y1 = (en : Int) := ⟨y1.toNat, by omega⟩
        have hen : en < 2 := by omega
        have he0 : (0 : Int) ≤ (en : Int) := by omega
        have he1 : (en : Int) < 2 := by omega
        have hd1 : decide ((en : Int) < 0) = false := decide_eq_false (by omega)
        have hd2 : decide (1 < (en : Int)) = false := decide_eq_false (by omega)
        have HLE : Hid ((mx st en).length = (st en).length ∧ (mx st (2 + en)).length = (st en).length) := ⟨mx_len hen (.inl rfl), mx_len hen (.inr rfl)⟩
        obtain ⟨nn, hnn⟩ : ∃ nn, (st en).length = nn := ⟨_, rfl⟩
        have HNN := Lib.hid hnn
        have hnn100 : nn ≤ 100 := by rw [← hnn]; have := (HC.out en).1; omega
        clear hend hnn
        have hl1 : (mx st en).length = nn := HLE.out.1.trans HNN.out
        have hl2 : (mx st (2 + en)).length = nn := HLE.out.2.trans HNN.out
        have HL1 := Lib.hid hl1
        have HL2 := Lib.hid hl2
        obtain ⟨ps, cs, hvs⟩ := row_form (HM3.out.row en (by omega))
        rw [hl1] at hvs
        have zS : w3.cell? ⟨S, en, none⟩ = some (.slice ps nn cs) := by rw [← hvs]; exact HM3.out.cellS hen
        have HVS := Lib.hid hvs
        have hw3 : w0.heap.size ≤ w3.heap.size := HK3.out.below.size
        have X0 := Lib.hid x0
        have X3 : Hid (w3.cell? ⟨X, 3, none⟩ = some (.string y4)) := by unfold Hid; rw [cell_of_row _ _ _ _ _ _ HX3.out]; rfl
        clear hvs hl1 hl2
        by_cases hy0 : y2 = 0
        · subst hy0
          have HS3 : Hid (st3 = addSt st en) := by unfold Hid; rw [HST.out, note_0 hen rfl rfl]
          rw [HS3.out] at HD3 HK3 HC3
          obtain ⟨pg, cg, hvg⟩ := row_form (HM3.out.row (2 + en) (by omega))
          rw [HL2.out] at hvg
          have HVG := Lib.hid hvg
          clear hvg
          go_upto_region 12 with fail
          refine wp_region_any (by kernel_rfl) ?_
          refine R12.region_done (here12 HM3.out hen HL1.out HL2.out HVS.out HVG.out (by omega) hXl3 HXM.out hw3 X0.out rfl rfl rfl rfl) ?_
          intro f wF hF
          obtain ⟨g, cap, ng, hM4, hk4⟩ := fin12 HM3.out hen HL1.out HL2.out HVS.out HVG.out hw3 hF
          rw [← mx_add hen] at hM4
          have HM4 := Lib.hid hM4.1
          have HD4 : Hid (∀ b, BF P v3 u3 (addSt st en) b → ¬ MF S G (vE vm en (.slice (some ⟨g, 0, none⟩) (nn + 1) cap) ng) (uE um (mx st) en) (mx (addSt st en)) b) := fun b hb hm => by
            rcases hM4.2 b hm with h | h
            · exact HD3.out b hb h
            · have := HK3.out.bf_lt hb; omega
          have HK4 : Hid (Bk w0 wF P v3 u3 (addSt st en)) := HK3.out.same (HK3.out.below.trans hk4.below) (fun b hb => hk4.block b (HK3.out.bf_lt hb) (HD3.out b hb))
          have hX4 : wF.heap[X]? = some (.cells #[.int .i64 (en : Int), .int .i64 0, .int .i64 y3, .string y4] 31 (0, 0)) := (hk4.block X hXl3 HXM.out).trans HX3.out
          have z0 : wF.cell? ⟨X, 0, none⟩ = some (.int .i64 (en : Int)) := by rw [cell_of_row _ _ _ _ _ _ hX4]; rfl
          have z1 : wF.cell? ⟨X, 1, none⟩ = some (.int .i64 0) := by rw [cell_of_row _ _ _ _ _ _ hX4]; rfl
          clear zS
          have zS : wF.cell? ⟨S, en, none⟩ = some (.slice (some ⟨g, 0, none⟩) (nn + 1) cap) := (HM4.out.cellS hen).trans (congrArg some (if_pos rfl))
          clear hF hM4 hk4 hX4 x0 x1' HM3 HD3 HK3 HX3 hXl3 HXM
          generalize vE vm en (.slice (some ⟨g, 0, none⟩) (nn + 1) cap) ng = vm4 at HM4 HD4
          generalize uE um (mx st) en = um4 at HM4 HD4
          simp only [setAll, List.setIfInBounds_toArray, List.set_cons_zero, List.set_cons_succ]
          go_wp2_with fail
          go_roundw
          case rel => exact ⟨i + 1, v3, u3, addSt st en, vm4, um4, by omega, by omega, by go_num, HK4, HC3, HM4, HD4⟩
          case measure => simp [intOf]; omega
        · by_cases hy1 : y2 = 1
          · subst hy1
            cases nn with
            | zero =>
              have HS3 : Hid (st3 = st) := by unfold Hid; rw [HST.out, note_1 hen rfl rfl, if_pos HNN.out]
              rw [HS3.out] at HD3 HK3 HC3
              go_wp2_with fail
              go_roundw
              case rel => exact ⟨i + 1, v3, u3, st, vm, um, by omega, by omega, by go_num, HK3, HC3, HM3, HD3⟩
              case measure => simp [intOf]; omega
            | succ k =>
              have HS3 : Hid (st3 = modSt st en k 0 y4) := by unfold Hid; rw [HST.out, note_1 hen rfl rfl, if_neg (by rw [HNN.out]; omega), HNN.out]; rfl
              rw [HS3.out] at HD3 HK3 HC3
              obtain ⟨g, cap, cur, hvr, _⟩ := row_open (HM3.out.row (en) (by omega)) (by rw [HL1.out]; omega)
              rw [HL1.out] at hvr
              obtain ⟨sp, sc, hur⟩ := row_form (HM3.out.txt (en) k (by omega) (by rw [HL1.out]; omega))
              obtain ⟨m, hm⟩ : ∃ m, (tx (mx st) (en) k).length = m := ⟨_, rfl⟩
              have hm100 : m ≤ 1000 := by rw [← hm, tx_sent hen]; have := (HC.out en).2 k 0; omega
              rw [hm] at hur
              have HVR := Lib.hid hvr
              have HUR := Lib.hid hur
              have HMM := Lib.hid hm
              clear hvr hur hm
              go_upto_region 15 with fail
              refine wp_region_any (by kernel_rfl) ?_
              refine R15.region_done (here15 HM3.out hen (Nat.lt_succ_self k) HL1.out HVR.out HUR.out HMM.out hm100 hXl3 HXM.out hw3 X0.out X3.out rfl rfl rfl rfl) ?_
              intro f wF hF
              obtain ⟨nu, hM4, hk4⟩ := finText HM3.out (by omega) (Nat.lt_succ_self k) HL1.out HVR.out HUR.out HMM.out hw3 hF
              rw [← mx_mod0 hen] at hM4
              have HM4 := Lib.hid hM4.1
              have HD4 : Hid (∀ b, BF P v3 u3 (modSt st en k 0 y4) b → ¬ MF S G vm (setM um (en) k nu) (mx (modSt st en k 0 y4)) b) := fun b hb hm => by
                rcases hM4.2 b hm with h | h
                · exact HD3.out b hb h
                · have := HK3.out.bf_lt hb; omega
              have HK4 : Hid (Bk w0 wF P v3 u3 (modSt st en k 0 y4)) := HK3.out.same (HK3.out.below.trans hk4.below) (fun b hb => hk4.block b (HK3.out.bf_lt hb) (HD3.out b hb))
              have hX4 : wF.heap[X]? = some (.cells #[.int .i64 (en : Int), .int .i64 1, .int .i64 y3, .string y4] 31 (0, 0)) := (hk4.block X hXl3 HXM.out).trans HX3.out
              have z1 : wF.cell? ⟨X, 1, none⟩ = some (.int .i64 1) := by rw [cell_of_row _ _ _ _ _ _ hX4]; rfl
              clear hF hM4 hk4 hX4 x0 x1' zS HM3 HD3 HK3 HX3 hXl3 HXM
              generalize setM um (en) k nu = um4 at HM4 HD4
              generalize modSt st en k 0 y4 = st4 at HM4 HD4 HK4 HC3
              simp only [setAll, List.setIfInBounds_toArray, List.set_cons_zero, List.set_cons_succ]
              go_wp2_with fail
              go_roundw
              case rel => exact ⟨i + 1, v3, u3, st4, vm, um4, by omega, by omega, by go_num, HK4, HC3, HM4, HD4⟩
              case measure => simp [intOf]; omega
          · by_cases hy2 : y2 = 2
            · subst hy2
              cases nn with
              | zero =>
                have HS3 : Hid (st3 = st) := by unfold Hid; rw [HST.out, note_2 hen rfl rfl, if_pos HNN.out]
                rw [HS3.out] at HD3 HK3 HC3
                go_wp2_with fail
                go_roundw
                case rel => exact ⟨i + 1, v3, u3, st, vm, um, by omega, by omega, by go_num, HK3, HC3, HM3, HD3⟩
                case measure => simp [intOf]; omega
              | succ k =>
                have HS3 : Hid (st3 = modSt st en k 1 y4) := by unfold Hid; rw [HST.out, note_2 hen rfl rfl, if_neg (by rw [HNN.out]; omega), HNN.out]; rfl
                rw [HS3.out] at HD3 HK3 HC3
                obtain ⟨g, cap, cur, hvr, _⟩ := row_open (HM3.out.row (2 + en) (by omega)) (by rw [HL2.out]; omega)
                rw [HL2.out] at hvr
                obtain ⟨sp, sc, hur⟩ := row_form (HM3.out.txt (2 + en) k (by omega) (by rw [HL2.out]; omega))
                obtain ⟨m, hm⟩ : ∃ m, (tx (mx st) (2 + en) k).length = m := ⟨_, rfl⟩
                have hm100 : m ≤ 1000 := by rw [← hm, tx_got]; have := (HC.out en).2 k 1; omega
                rw [hm] at hur
                have HVR := Lib.hid hvr
                have HUR := Lib.hid hur
                have HMM := Lib.hid hm
                clear hvr hur hm
                go_upto_region 17 with fail
                refine wp_region_any (by kernel_rfl) ?_
                refine R17.region_done (here17 HM3.out hen (Nat.lt_succ_self k) HL2.out HVR.out HUR.out HMM.out hm100 hXl3 HXM.out hw3 X0.out X3.out rfl rfl rfl rfl) ?_
                intro f wF hF
                obtain ⟨nu, hM4, hk4⟩ := finText HM3.out (by omega) (Nat.lt_succ_self k) HL2.out HVR.out HUR.out HMM.out hw3 hF
                rw [← mx_mod1 hen] at hM4
                have HM4 := Lib.hid hM4.1
                have HD4 : Hid (∀ b, BF P v3 u3 (modSt st en k 1 y4) b → ¬ MF S G vm (setM um (2 + en) k nu) (mx (modSt st en k 1 y4)) b) := fun b hb hm => by
                  rcases hM4.2 b hm with h | h
                  · exact HD3.out b hb h
                  · have := HK3.out.bf_lt hb; omega
                have HK4 : Hid (Bk w0 wF P v3 u3 (modSt st en k 1 y4)) := HK3.out.same (HK3.out.below.trans hk4.below) (fun b hb => hk4.block b (HK3.out.bf_lt hb) (HD3.out b hb))
                have hX4 : wF.heap[X]? = some (.cells #[.int .i64 (en : Int), .int .i64 2, .int .i64 y3, .string y4] 31 (0, 0)) := (hk4.block X hXl3 HXM.out).trans HX3.out
                have z1 : wF.cell? ⟨X, 1, none⟩ = some (.int .i64 2) := by rw [cell_of_row _ _ _ _ _ _ hX4]; rfl
                clear hF hM4 hk4 hX4 x0 x1' zS HM3 HD3 HK3 HX3 hXl3 HXM
                generalize setM um (2 + en) k nu = um4 at HM4 HD4
                generalize modSt st en k 1 y4 = st4 at HM4 HD4 HK4 HC3
                simp only [setAll, List.setIfInBounds_toArray, List.set_cons_zero, List.set_cons_succ]
                go_wp2_with fail
                go_roundw
                case rel => exact ⟨i + 1, v3, u3, st4, vm, um4, by omega, by omega, by go_num, HK4, HC3, HM4, HD4⟩
                case measure => simp [intOf]; omega
            · have HS3 : Hid (st3 = st) := by unfold Hid; rw [HST.out, note_x hen rfl hy0 hy1 hy2]
              rw [HS3.out] at HD3 HK3 HC3
              have b0 : (y2 == 0) = false := beq_eq_false_iff_ne.2 hy0
              have b1 : (y2 == 1) = false := beq_eq_false_iff_ne.2 hy1
              have b2 : (y2 == 2) = false := beq_eq_false_iff_ne.2 hy2
              clear hy0 hy1 hy2
              go_wp2_with fail
              go_roundw
              case rel => exact ⟨i + 1, v3, u3, st, vm, um, by omega, by omega, by go_num, HK3, HC3, HM3, HD3⟩
              case measure => simp [intOf]; omega
    · have HN : Hid (i < n0 → ¬ i < 100) := fun h1 h2 => hlt ⟨h1, h2⟩
      have hdec : (i < n0 ∧ decide ((i : Int) < 100) = false) ∨ ¬ i < n0 := by
        by_cases h1 : i < n0
        · exact .inl ⟨h1, decide_eq_false (by have := HN.out h1; omega)⟩
        · exact .inr h1
      clear hlt
      rcases hdec with ⟨hd1, hd2⟩ | hd1
      all_goals
        go_wp2_with fail
        go_loopw [115] (fun ev wr2 => ∃ e : Nat, e ≤ 2 ∧ ev = .int .i64 e ∧ Hid (Below wr.heap.size wr wr2)) (fun ev _ => 2 - (intOf ev).toNat)
        case atStart => exact ⟨0, by omega, rfl, Below.refl _ _⟩
        case round =>
          obtain ⟨en, hen2, rfl, HB⟩ := hrel
          by_cases hen : en < 2
          · have HK2 := Lib.hid (HK.out.on HB.out)
            have he0 : (0 : Int) ≤ (en : Int) := by omega
            have he1 : (en : Int) < 2 := by omega
            have hbs : _ ≤ wr.heap.size := HB.out.size
            go_wp2_with fail
            refine (epochs_calls w0 wr P en i v u st HK2 hen HC (by omega)).mono ?_
            rintro e w5 ⟨rv, uu, rfl, hd5, hb5⟩
            have HB5 := Lib.hid (HB.out.trans (hb5.mono hbs))
            have HM5 := Lib.hid (HM.out.on HB5.out)
            have HD5 := Lib.hid hd5
            obtain ⟨N, hN⟩ : ∃ N, (st en).length = N := ⟨_, rfl⟩
            have HNN := Lib.hid hN
            have hN100 : N ≤ 100 := by rw [← hN]; have := (HC.out en).1; omega
            obtain ⟨sl, cl, rfl⟩ := row_form hd5.row
            rw [hN]
            have hl1 : (mx st en).length = N := (mx_len hen (.inl rfl)).trans hN
            have hl2 : (mx st (2 + en)).length = N := (mx_len hen (.inr rfl)).trans hN
            have HROW : Hid (w5.ownsRow wr.heap.size 49 2 (.slice sl N cl) N (flat uu N)) := by
              have h1 := hd5.row
              rwa [hN] at h1
            have HRS : Hid (w5.ownsRow w0.heap.size 45 1 (vm en) N (rowV um en N)) := by
              have h1 := HM5.out.row en (by omega)
              rwa [hl1] at h1
            have HRG : Hid (w5.ownsRow w0.heap.size 45 1 (vm (2 + en)) N (rowV um (2 + en) N)) := by
              have h1 := HM5.out.row (2 + en) (by omega)
              rwa [hl2] at h1
            obtain ⟨ps, cs, hvs⟩ := row_form HRS.out
            obtain ⟨pg, cg, hvg⟩ := row_form HRG.out
            have eS : w5.cell? ⟨S, en, none⟩ = some (.slice ps N cs) := by rw [← hvs]; exact HM5.out.cellS hen
            have HES : Hid (∀ W, Below w5.heap.size w5 W → W.cell? ⟨S, en, none⟩ = some (.slice ps N cs)) := fun W hW => by rw [← hvs]; exact (HM5.out.on hW).cellS hen
            have HEG : Hid (∀ W, Below w5.heap.size w5 W → W.cell? ⟨G, en, none⟩ = some (.slice pg N cg)) := fun W hW => by rw [← hvg]; exact (HM5.out.on hW).cellG hen
            have HRS2 : Hid (w5.ownsRow w0.heap.size 45 1 (.slice ps N cs) N (rowV um en N)) := by rw [← hvs]; exact HRS
            have HRG2 : Hid (w5.ownsRow w0.heap.size 45 1 (.slice pg N cg) N (rowV um (2 + en) N)) := by rw [← hvg]; exact HRG
            have HT0 : Hid (∀ k, k < N → ∀ W, Below w5.heap.size w5 W → ∃ p d, uu k 0 = .slice p (cont (st en) k 0).length d ∧ ArgRow 1 strV W p (cont (st en) k 0).length (cont (st en) k 0)) := fun k hk W hW => by
              have h1 := row_on (hd5.txt k 0 (by rw [hN]; exact hk) (by omega)) hW
              obtain ⟨p, d, hp⟩ := row_form h1
              rw [hp] at h1
              exact ⟨p, d, hp, arg_of_row h1⟩
            have HT1 : Hid (∀ k, k < N → ∀ W, Below w5.heap.size w5 W → ∃ p d, uu k 1 = .slice p (cont (st en) k 1).length d ∧ ArgRow 1 strV W p (cont (st en) k 1).length (cont (st en) k 1)) := fun k hk W hW => by
              have h1 := row_on (hd5.txt k 1 (by rw [hN]; exact hk) (by omega)) hW
              obtain ⟨p, d, hp⟩ := row_form h1
              rw [hp] at h1
              exact ⟨p, d, hp, arg_of_row h1⟩
            have HU0 : Hid (∀ k, k < N → ∀ W, Below w5.heap.size w5 W → ∃ p d, um en k = .slice p (cont (st en) k 0).length d ∧ ArgRow 1 strV W p (cont (st en) k 0).length (cont (st en) k 0)) := fun k hk W hW => by
              have h1 := row_on (HM5.out.txt en k (by omega) (by rw [hl1]; exact hk)) hW
              rw [tx_sent hen] at h1
              obtain ⟨p, d, hp⟩ := row_form h1
              rw [hp] at h1
              exact ⟨p, d, hp, arg_of_row h1⟩
            have HU1 : Hid (∀ k, k < N → ∀ W, Below w5.heap.size w5 W → ∃ p d, um (2 + en) k = .slice p (cont (st en) k 1).length d ∧ ArgRow 1 strV W p (cont (st en) k 1).length (cont (st en) k 1)) := fun k hk W hW => by
              have h1 := row_on (HM5.out.txt (2 + en) k (by omega) (by rw [hl2]; exact hk)) hW
              rw [tx_got] at h1
              obtain ⟨p, d, hp⟩ := row_form h1
              rw [hp] at h1
              exact ⟨p, d, hp, arg_of_row h1⟩
            have HCL : Hid (∀ k, (cont (st en) k 0).length ≤ 100 ∧ (cont (st en) k 1).length ≤ 100) := fun k => by
              have h1 := (HC.out en).2 k 0
              have h2 := (HC.out en).2 k 1
              omega
            clear hd5 hb5 hN hl1 hl2 hvs hvg HRS HRG HD5 HK2
            go_wp2_with fail
            go_loopw [129] (fun kv wr3 => ∃ k : Nat, k ≤ N ∧ kv = .int .i64 k ∧ Hid (Below w5.heap.size w5 wr3)) (fun kv _ => N - (intOf kv).toNat)
            case atStart => exact ⟨0, by omega, rfl, Below.refl _ _⟩
            case round =>
              clear eS
              obtain ⟨k, hkN, rfl, HBK⟩ := hrel
              by_cases hkl : k < N
              · obtain ⟨g, rfl, hgl, hgc⟩ := eps_cells HROW.out (by omega)
                obtain ⟨gs, caps, curs, hvs, _⟩ := row_open HRS2.out (by omega)
                obtain ⟨gg, capg, curg, hvg, _⟩ := row_open HRG2.out (by omega)
                injection hvs with a1 a2 a3
                injection hvg with b1 b2 b3
                subst a1 a3 b1 b3
                have r1 := row_cell (row_on HRS2.out HBK.out) (by omega) (rowV_get um (r := en) hkl)
                have r2 := row_cell (row_on HRG2.out HBK.out) (by omega) (rowV_get um (r := 2 + en) hkl)
                obtain ⟨p0, d0, u0, t0⟩ := HT0.out k hkl wr HBK.out
                obtain ⟨p1, d1, u1, t1⟩ := HT1.out k hkl wr HBK.out
                obtain ⟨p2, d2, u2, t2⟩ := HU0.out k hkl wr HBK.out
                obtain ⟨p3, d3, u3, t3⟩ := HU1.out k hkl wr HBK.out
                have hcl := HCL.out k
                obtain ⟨z0, hz0⟩ : ∃ z, cont (st en) k 0 = z := ⟨_, rfl⟩
                obtain ⟨z1, hz1⟩ : ∃ z, cont (st en) k 1 = z := ⟨_, rfl⟩
                rw [hz0] at u0 t0 u2 t2
                rw [hz1] at u1 t1 u3 t3
                rw [hz0, hz1] at hcl
                obtain ⟨l0, hl0⟩ : ∃ l0, z0.length = l0 := ⟨_, rfl⟩
                obtain ⟨l1, hl1⟩ : ∃ l1, z1.length = l1 := ⟨_, rfl⟩
                rw [hl0] at u0 t0 u2 t2
                rw [hl1] at u1 t1 u3 t3
                rw [hl0, hl1] at hcl
                have c1 : wr.cell? ⟨g, k * 2, none⟩ = some (.slice p0 l0 d0) := by rw [← u0]; exact hgc wr (HBK.out.block g hgl) k 0 hkl (by omega)
                have c2 : wr.cell? ⟨g, k * 2 + 1, none⟩ = some (.slice p1 l1 d1) := by rw [← u1]; exact hgc wr (HBK.out.block g hgl) k 1 hkl (by omega)
                have c3 : wr.cell? ⟨S, en, none⟩ = some (.slice (some ⟨gs, 0, none⟩) N cs) := HES.out wr HBK.out
                have c4 : wr.cell? ⟨G, en, none⟩ = some (.slice (some ⟨gg, 0, none⟩) N cg) := HEG.out wr HBK.out
                have c5 : wr.cell? ⟨gs, k, none⟩ = some (.slice p2 l0 d2) := by rw [← u2]; exact r1.1
                have c6 : wr.cell? ⟨gg, k, none⟩ = some (.slice p3 l1 d3) := by rw [← u3]; exact r2.1
                have HS0 : Hid (∀ nq, Calls Try.prog 11 #[.slice p0 l0 d0, .slice p2 l0 d2] (wr.drewN nq) (Drawn (wr.drewN nq) (.bool true))) := fun nq => same_calls p0 p2 l0 l0 d0 d2 z0 z0 true _ (t0.below (below_drewN (Below.refl _ _) nq) (Nat.le_refl _)) (t2.below (below_drewN (Below.refl _ _) nq) (Nat.le_refl _)) (by omega) (by omega) (eqB_true.2 rfl)
                have HS1 : Hid (∀ nq, Calls Try.prog 11 #[.slice p1 l1 d1, .slice p3 l1 d3] (wr.drewN nq) (Drawn (wr.drewN nq) (.bool true))) := fun nq => same_calls p1 p3 l1 l1 d1 d3 z1 z1 true _ (t1.below (below_drewN (Below.refl _ _) nq) (Nat.le_refl _)) (t3.below (below_drewN (Below.refl _ _) nq) (Nat.le_refl _)) (by omega) (by omega) (eqB_true.2 rfl)
                have hk0 : (0 : Int) ≤ (k : Int) := by omega
                have hk1 : (k : Int) < (N : Int) := by omega
                clear r1 r2 t0 t1 t2 t3 u0 u1 u2 u3 hz0 hz1 hl0 hl1 hgc hcl
                go_wp2_with fail
                go_quiet ((first | (go_at_call_of 11 (Value.slice p0 l0 d0); exact Calls.quiet_of (HS0.out _)) | (go_at_call_of 11 (Value.slice p1 l1 d1); exact Calls.quiet_of (HS1.out _))))
                go_wp2_with fail
                go_roundw
                case rel => exact ⟨k + 1, by omega, by go_num, below_drewN HBK.out _⟩
                case measure => simp [intOf]; omega
              · have HBE := Lib.hid (HB5.out.trans (HBK.out.mono HB5.out.size))
                go_wp2_with fail
                go_roundw
                case rel => exact ⟨en + 1, by omega, by go_num, HBE⟩
                case measure => simp [intOf]; omega
          · obtain rfl : en = 2 := by omega
            have HBF := Lib.hid (HK.out.on HB.out).below
            go_wp2_with fail
            refine (epochs_out P 2 _ (.inr (by omega))).mono ?_
            rintro e w' ⟨rfl, rfl⟩
            go_wp2_with fail
            refine (epochs_out P (-1) _ (.inl (by omega))).mono ?_
            rintro e w' ⟨rfl, rfl⟩
            go_wp2_with fail
            go_ret
            exact ⟨rfl, HBF.out⟩
theorem books_row (W : World) (a : Option Addr) (n c : Nat) (z : List NoteT) (w : ArgRow 4 noteV W a n z) (y : n * 40 ≤ 140737488351232) :
    Calls Try.prog 3 #[.slice a n c] W fun e w' => e = .returned (.bool true) ∧ Below W.heap.size W w' :=
  books_calls a n c z W w (by omega)
end Go.Proofs.Ytjjnhndlollldaa.Ep
