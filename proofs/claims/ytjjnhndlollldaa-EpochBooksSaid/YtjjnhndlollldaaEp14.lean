/-
EpochForged: the walk. Conditions: lengths within the machine's.
-/
import Derived.Test.YtjjnhndlollldaaEp13
namespace Go.Proofs.Ytjjnhndlollldaa.Ep
set_option linter.unusedVariables false
open Go.RowKit Go.Proofs.Ytjjnhndlollldaa.Args

theorem and1 (x : Int) : bits .and .i64 x 1 = x % 2 := by
  show IntKind.i64.wrap ((BitVec.ofInt 64 x &&& BitVec.ofInt 64 1).toNat : Int) = _
  have h1 : (BitVec.ofInt 64 1).toNat = 1 := by decide
  rw [BitVec.toNat_and, h1, show (1 : Nat) = 2 ^ 1 - 1 from rfl, Nat.and_two_pow_sub_one_eq_mod, BitVec.toNat_ofInt]
  have e : (((x % ((2 ^ 64 : Nat) : Int)).toNat % 2 ^ 1 : Nat) : Int) = x % 2 := by omega
  rw [e]
  exact IntWalk.i64_in _ (by omega)
theorem preB_zero (s q : List ByteArray) : preB s (q.take 0) = true := by
  unfold preB
  simp [eqB]
theorem preB_succ (s q : List ByteArray) (j : Nat) (hj : j < q.length) : preB s (q.take (j + 1)) = (preB s (q.take j) && decide (s[j]? = some q[j])) := by
  have e1 : (q.take (j + 1)).length = j + 1 := by rw [List.length_take]; omega
  have e2 : (q.take j).length = j := by rw [List.length_take]; omega
  unfold preB eqB
  rw [e1, e2, Bool.eq_iff_iff]
  simp only [Bool.and_eq_true, decide_eq_true_eq]
  constructor
  · rintro ⟨h1, h2⟩
    refine ⟨⟨by omega, ?_⟩, ?_⟩
    · have := congrArg (List.take j) h2
      rwa [List.take_take, List.take_take, Nat.min_eq_left (by omega)] at this
    · have := congrArg (fun l => l[j]?) h2
      simp only [List.getElem?_take_of_lt (show j < j + 1 by omega)] at this
      rw [this]
      simp [hj]
  · rintro ⟨⟨h1, h2⟩, h3⟩
    have h4 : j < s.length := (List.getElem?_eq_some_iff.1 h3).1
    refine ⟨by omega, ?_⟩
    rw [List.take_succ_eq_append_getElem h4, List.take_succ_eq_append_getElem hj, h2, (List.getElem?_eq_some_iff.1 h3).2]
set_option maxHeartbeats 4000000 in
set_option maxRecDepth 100000 in
theorem forged_calls (a0 a1 : Option Addr) (n0 n1 c0 c1 : Nat) (q0 q1 : List ByteArray) (en : Int) (w0 : World) (h0 : Hid (ArgRow 1 strV w0 a0 n0 q0)) (h1 : Hid (ArgRow 1 strV w0 a1 n1 q1)) (hn0 : n0 ≤ 140737488355328) (hn1 : n1 ≤ 140737488355328) :
    Calls Try.prog 5 #[.slice a0 n0 c0, .slice a1 n1 c1, .int .i64 en] w0 (BoolO w0 true) := by
  obtain ⟨e0, he0, hee⟩ : ∃ e0 : Nat, e0 < 2 ∧ bits .and .i64 en 1 = (e0 : Int) := by
    rw [and1]
    exact ⟨(en % 2).toNat, by omega, by omega⟩
  have HEE := Lib.hid hee
  clear hee
  obtain ⟨i9, hi, hz0, hz1, hz2⟩ := info_parts info9
  have HI := Lib.hid hi
  have HZ0 := Lib.hid hz0
  have HZ1 := Lib.hid hz1
  have HZ2 := Lib.hid hz2
  clear hi hz0 hz1 hz2
  go_enter Try.func5, Try.ntmps5
  go_wp2_with fail
  refine (awake_calls w0).mono ?_
  rintro e wa ⟨rfl, ha⟩
  have HA := Lib.hid ha
  clear ha
  go_wp2_with fail
  rw [HEE.out]
  obtain ⟨P, hP⟩ : ∃ P, wa.heap.size = P := ⟨_, rfl⟩
  generalize hwb : wa.alloc _ = wb
  have hbk : Hid (Bk w0 wb P (fun _ => .slice none 0 0) (fun _ _ _ => .slice none 0 0) st00) := Bk.new (by rw [← hwb]; exact HA.out.alloc HA.out.size _) (by rw [← hP]; exact HA.out.size) (by rw [← hwb, ← hP]; exact Go.heap_alloc_new _ _)
  clear hwb
  rw [hP]
  clear hP
  refine (record_calls ((e0 : Int), 0, 0, ⟨#[]⟩) wb).mono ?_
  rintro e wc ⟨rfl, hc⟩
  have HC := Lib.hid hc
  clear hc
  go_wp2_with fail
  refine (record_calls (1 - (e0 : Int), 0, 3, ⟨#[]⟩) wc).mono ?_
  rintro e wd ⟨rfl, hd⟩
  have HD : Hid (Below wb.heap.size wb wd) := HC.out.trans (hd.mono HC.out.size)
  clear hd HC
  generalize hr1 : recOf ((e0 : Int), 0, 0, ⟨#[]⟩) = r1
  generalize hr2 : recOf (1 - (e0 : Int), 0, 3, ⟨#[]⟩) = r2
  have HR1 := Lib.hid hr1
  have HR2 := Lib.hid hr2
  clear hr1 hr2
  obtain ⟨x1, x2, x3, x4, x5, x6⟩ := r1
  obtain ⟨y1, y2, y3, y4, y5, y6⟩ := r2
  simp only [recA]
  go_wp2_with fail
  generalize hwe : wd.alloc _ = we
  have hbe : we.heap[wd.heap.size]? = some (.cells ((recV (x1, x2, x3, x4, x5, x6) ++ recV (y1, y2, y3, y4, y5, y6)).toArray) 43 (0, 0)) := by rw [← hwe]; exact Go.heap_alloc_new _ _
  have hbl : Below wb.heap.size wb we := by rw [← hwe]; exact HD.out.alloc HD.out.size _
  have hbf : ∀ b off, (some (⟨wd.heap.size, 0, none⟩ : Addr)) = some ⟨b, off, none⟩ → ¬ BF P (fun _ => .slice none 0 0) (fun _ _ _ => .slice none 0 0) st00 b := fun b off e hf => by
    injection e with e
    injection e with e
    have := hbk.out.bf_lt hf
    have := HD.out.size
    omega
  clear hwe
  refine (add_calls w0 we P _ _ st00 (some ⟨wd.heap.size, 0, none⟩) 2 2 0 [(x1, x2, x3, x4, x5, x6), (y1, y2, y3, y4, y5, y6)] (hbk.out.on hbl) (arg_new hbe rfl rfl) hbf cap00 (by omega)).mono ?_
  rintro e w2 ⟨rfl, v2, u2, hk2, hl2⟩
  rw [← HR1.out, ← HR2.out, stF_new e0 he0] at hk2 hl2
  have HK2 : Hid (Bk w0 w2 P v2 u2 (stF e0 [] [])) := hk2
  clear hk2 hl2 hbe hbl hbf hbk HD HR1 HR2
  have HB20 : Hid (w0.heap.size ≤ w2.heap.size) := HK2.out.below.size
  go_wp2_with fail
  go_loopw [8, 9] (fun v8 iv wr => ∃ (i : Nat) (v : Nat → Value) (u : Nat → Nat → Nat → Value), i ≤ n0 ∧ i ≤ 10 ∧ iv = .int .i64 i ∧ Hid (Bk w0 wr P v u (stF e0 (q0.take i) [])) ∧ Hid (wr.ownsRow w0.heap.size 9 1 v8 i ((q0.take i).map Value.string)) ∧ Hid (∀ b, v8.ownBlock = some b → ¬ BF P v u (stF e0 (q0.take i) []) b)) (fun _ iv _ => 10 - (intOf iv).toNat)
  case atStart => exact ⟨0, v2, u2, by omega, by omega, rfl, HK2, World.ownsRow_nil _ _ _ _, fun b hb => by simp [Value.ownBlock] at hb⟩
  case round =>
    obtain ⟨i, v, u, hin, hi10, rfl, HK, HW, HX⟩ := hrel
    have hwz : w0.heap.size ≤ wr.heap.size := HK.out.below.size
    have HTL : Hid ((q0.take i).length = i) := by unfold Hid; rw [List.length_take, h0.out.len]; omega
    by_cases hlt : i < n0 ∧ i < 10
    · obtain ⟨hlt, hlt2⟩ := hlt
      obtain ⟨b0, off0, rfl, hbw0, hc0⟩ := ArgRow.one h0.out (by omega)
      have hiq : i < q0.length := by rw [h0.out.len]; exact hlt
      obtain ⟨x, hx⟩ : ∃ x, q0[i] = x := ⟨_, rfl⟩
      have HX8 : Hid (w0.cell? ⟨b0, off0 + i, none⟩ = some (.string x)) := (hc0 i hiq).trans (congrArg (fun q => some (Value.string q)) hx)
      have e8 : wr.cell? ⟨b0, off0 + i, none⟩ = some (.string x) := (HK.out.below.cell (p := ⟨b0, off0 + i, none⟩) hbw0).trans HX8.out
      have hi0 : (0 : Int) ≤ (i : Int) := by omega
      have hi1 : (i : Int) < (n0 : Int) := by omega
      have hi2 : (i : Int) < 10 := by omega
      have HTK : Hid (q0.take (i + 1) = q0.take i ++ [x]) := by unfold Hid; rw [List.take_succ_eq_append_getElem hiq, hx]
      clear hc0 hx
      go_wp2_with fail
      refine (record_calls ((e0 : Int), 1, 0, x) wr).mono ?_
      rintro e wc ⟨rfl, hc⟩
      have HC := Lib.hid hc
      clear hc e8
      generalize hr1 : recOf ((e0 : Int), 1, 0, x) = r1
      have HR1 := Lib.hid hr1
      clear hr1
      obtain ⟨x1, x2, x3, x4, x5, x6⟩ := r1
      simp only [recA]
      go_wp2_with fail
      generalize hwd : wc.alloc _ = wd
      have hbd : wd.heap[wc.heap.size]? = some (.cells (recA (x1, x2, x3, x4, x5, x6)) 43 (0, 0)) := by rw [← hwd]; exact Go.heap_alloc_new _ _
      have hbl : Below wr.heap.size wr wd := by rw [← hwd]; exact HC.out.alloc HC.out.size _
      clear hwd
      refine (add_one w0 wd wr P 20 wc.heap.size v u (stF e0 (q0.take i) []) (x1, x2, x3, x4, x5, x6) HK hbl hbd HC.out.size (stF_cap e0 _ _ 20 (by omega) (by rw [HTL.out]; omega) (by simp)) (by omega) 1).mono ?_
      rintro e w3 ⟨rfl, v3, u3, hk3, hl3⟩
      rw [← HR1.out, stF_sent e0 he0, ← HTK.out] at hk3 hl3
      have HK3 := Lib.hid hk3
      have HW3 : Hid (w3.ownsRow w0.heap.size 9 1 u8 i ((q0.take i).map Value.string)) := row_keep HW.out fun b hb => hl3.block b (HW.out.lt b hb).2 (HX.out b hb)
      have HX3 : Hid (∀ b, u8.ownBlock = some b → ¬ BF P v3 u3 (stF e0 (q0.take (i + 1)) []) b) := fun b hb hf => by
        rcases hl3.fresh b hf with h | h
        · exact HX.out b hb h
        · have := (HW.out.lt b hb).2
          omega
      have e9 : w3.cell? ⟨b0, off0 + i, none⟩ = some (.string x) := (HK3.out.below.cell (p := ⟨b0, off0 + i, none⟩) hbw0).trans HX8.out
      have hz3 : w0.heap.size ≤ w3.heap.size := HK3.out.below.size
      clear hk3 hl3 hbd hbl HR1 HC
      go_wp2_with (at_builtin; refine wpList_append_own_at _ rfl _ _ 45 rfl w0.heap.size 9 i9 (.string ⟨#[]⟩) 1 16 Try.underlying45 HI.out HZ0.out HZ1.out HZ2.out rfl (by decide) _ _ _ rfl (HW3.out.alloc _) ⟨w3.heap.size, 0, none⟩ 1 1 [.string x] rfl rfl (World.news_of_block (cs := #[.string x]) (t := 9) (fr := (0, 0)) (Go.heap_alloc_new _ _)) (by simp [Value.oneCell']) (by unfold maxLen; omega) (by omega) (by simp; omega) ?_)
      intro v6 w6 hown6 hgrow6 _ hat6
      have HK6 : Hid (Bk w0 w6 P v3 u3 (stF e0 (q0.take (i + 1)) [])) := (HK3.out.on ((Below.refl _ _).alloc (Nat.le_refl _) _)).keep hgrow6 (fun b hb => HX3.out b hb) (fun b hb => (HW3.out.lt b hb).1)
      have HW6 : Hid (w6.ownsRow w0.heap.size 9 1 v6 (i + 1) ((q0.take (i + 1)).map Value.string)) := by
        unfold Hid
        rw [HTK.out, List.map_append, List.map_take]
        exact hown6
      have HX6 : Hid (∀ b, v6.ownBlock = some b → ¬ BF P v3 u3 (stF e0 (q0.take (i + 1)) []) b) := fun b hb hf => by
        rcases hat6 with h | h
        · exact HX3.out b (h ▸ hb) hf
        · rw [h] at hb
          injection hb with hb
          have := HK3.out.bf_lt hf
          omega
      clear hown6 hgrow6 hat6 e9
      go_wp2_with fail
      go_roundw
      case rel => exact ⟨i + 1, v3, u3, by omega, by omega, by go_num, HK6, HW6, HX6⟩
      case measure => simp [intOf]; omega
    · have HN : Hid (i < n0 → ¬ i < 10) := fun h1 h2 => hlt ⟨h1, h2⟩
      have hdec : (i < n0 ∧ decide ((i : Int) < 10) = false) ∨ ¬ i < n0 := by
        by_cases h1 : i < n0
        · exact .inl ⟨h1, decide_eq_false (by have := HN.out h1; omega)⟩
        · exact .inr h1
      clear hlt
      obtain ⟨s, hs⟩ : ∃ s, q0.take i = s := ⟨_, rfl⟩
      rw [hs] at HK HW HX HTL
      clear hs
      rcases hdec with ⟨hd1, hd2⟩ | hd1
      all_goals
        go_wp2_with fail
        go_loopw [10, 11] (fun gv jv wr' => ∃ (j : Nat) (v : Nat → Value) (u : Nat → Nat → Nat → Value) (g : Bool), j ≤ n1 ∧ j ≤ 12 ∧ jv = .int .i64 j ∧ gv = .bool g ∧ Hid (preB s (q1.take j) = g) ∧ Hid (Bk w0 wr' P v u (stF e0 s (q1.take j))) ∧ Hid (wr'.ownsRow w0.heap.size 9 1 u8 i (s.map Value.string)) ∧ Hid (∀ b, u8.ownBlock = some b → ¬ BF P v u (stF e0 s (q1.take j)) b)) (fun _ jv _ => 12 - (intOf jv).toNat)
        case atStart => exact ⟨0, v, u, true, by omega, by omega, rfl, rfl, preB_zero s q1, HK, HW, HX⟩
        case round =>
          clear HK HW HX
          obtain ⟨j, v, u, g, hjn, hj12, rfl, rfl, HG, HK, HW, HX⟩ := hrel
          have hwz2 : w0.heap.size ≤ wr.heap.size := HK.out.below.size
          have HQL : Hid ((q1.take j).length = j) := by unfold Hid; rw [List.length_take, h1.out.len]; omega
          have hcap : Hid (Cap (stF e0 s (q1.take j)) 20) := stF_cap e0 _ _ 20 (by omega) (by rw [HTL.out]; omega) (by rw [HQL.out]; omega)
          by_cases hjlt : j < n1 ∧ j < 12
          · obtain ⟨hjlt, hjlt2⟩ := hjlt
            obtain ⟨b1, off1, rfl, hbw1, hc1⟩ := ArgRow.one h1.out (by omega)
            have hjq : j < q1.length := by rw [h1.out.len]; exact hjlt
            obtain ⟨x, hx⟩ : ∃ x, q1[j] = x := ⟨_, rfl⟩
            have HX8 : Hid (w0.cell? ⟨b1, off1 + j, none⟩ = some (.string x)) := (hc1 j hjq).trans (congrArg (fun q => some (Value.string q)) hx)
            have e8 : wr.cell? ⟨b1, off1 + j, none⟩ = some (.string x) := (HK.out.below.cell (p := ⟨b1, off1 + j, none⟩) hbw1).trans HX8.out
            have hj0 : (0 : Int) ≤ (j : Int) := by omega
            have hj1 : (j : Int) < (n1 : Int) := by omega
            have hj2 : (j : Int) < 12 := by omega
            have HTK : Hid (q1.take (j + 1) = q1.take j ++ [x]) := by unfold Hid; rw [List.take_succ_eq_append_getElem hjq, hx]
            have HPS : Hid (preB s (q1.take (j + 1)) = (g && decide (s[j]? = some x))) := by unfold Hid; rw [preB_succ s q1 j hjq, hx, HG.out]
            clear hc1 hx
            go_wp2_with fail
            refine (record_calls (1 - (e0 : Int), 2, 0, x) wr).mono ?_
            rintro e wc ⟨rfl, hc⟩
            have HC := Lib.hid hc
            clear hc e8
            generalize hr1 : recOf (1 - (e0 : Int), 2, 0, x) = r1
            have HR1 := Lib.hid hr1
            clear hr1
            obtain ⟨x1, x2, x3, x4, x5, x6⟩ := r1
            simp only [recA]
            go_wp2_with fail
            generalize hwd : wc.alloc _ = wd
            have hbd : wd.heap[wc.heap.size]? = some (.cells (recA (x1, x2, x3, x4, x5, x6)) 43 (0, 0)) := by rw [← hwd]; exact Go.heap_alloc_new _ _
            have hbl : Below wr.heap.size wr wd := by rw [← hwd]; exact HC.out.alloc HC.out.size _
            clear hwd
            refine (add_one w0 wd wr P 20 wc.heap.size v u (stF e0 s (q1.take j)) (x1, x2, x3, x4, x5, x6) HK hbl hbd HC.out.size hcap.out (by omega) 1).mono ?_
            rintro e w3 ⟨rfl, v3, u3, hk3, hl3⟩
            rw [← HR1.out, stF_got e0 he0, ← HTK.out] at hk3 hl3
            have HK3 := Lib.hid hk3
            have HW3 : Hid (w3.ownsRow w0.heap.size 9 1 u8 i (s.map Value.string)) := row_keep HW.out fun b hb => hl3.block b (HW.out.lt b hb).2 (HX.out b hb)
            have HX3 : Hid (∀ b, u8.ownBlock = some b → ¬ BF P v3 u3 (stF e0 s (q1.take (j + 1))) b) := fun b hb hf => by
              rcases hl3.fresh b hf with h | h
              · exact HX.out b hb h
              · have := (HW.out.lt b hb).2
                omega
            have hz3 : w0.heap.size ≤ w3.heap.size := HK3.out.below.size
            have HQL3 : Hid ((q1.take (j + 1)).length = j + 1) := by unfold Hid; rw [List.length_take, h1.out.len]; omega
            have HCAP3 : Hid (Cap (stF e0 s (q1.take (j + 1))) 20) := stF_cap e0 _ _ 20 (by omega) (by rw [HTL.out]; omega) (by rw [HQL3.out]; omega)
            have HSD : Hid (soundB (stF e0 s (q1.take (j + 1))) = preB s (q1.take (j + 1))) := by
              unfold Hid
              rw [stF_sound e0 he0, HQL3.out]
              simp
            clear hk3 hl3 hbd hbl HR1 HC hcap HK HW HX HQL HG HQL3
            have e9 : w3.cell? ⟨b1, off1 + j, none⟩ = some (.string x) := (HK3.out.below.cell (p := ⟨b1, off1 + j, none⟩) hbw1).trans HX8.out
            cases g with
            | false =>
              have HR : Hid (preB s (q1.take (j + 1)) = false) := HPS.out
              go_wp2_with fail
              go_quiet (fail)
              go_wp2_with fail
              refine (sound_calls w0 _ P 20 v3 u3 _ (HK3.out.on (below_drewN (Below.refl _ _) _)) HCAP3 (by omega)).mono ?_
              rintro e w5 ⟨rfl, hb5⟩
              rw [HSD.out, HR.out]
              have HK5 : Hid (Bk w0 w5 P v3 u3 (stF e0 s (q1.take (j + 1)))) := (HK3.out.on (below_drewN (Below.refl _ _) _)).on hb5
              have HW5 := Lib.hid (row_on (row_on HW3.out (below_drewN (Below.refl _ _) _)) hb5)
              clear hb5
              go_wp2_with fail
              go_roundw
              case rel => exact ⟨j + 1, v3, u3, _, by omega, by omega, by go_num, rfl, HR, HK5, HW5, HX3⟩
              case measure => simp [intOf]; omega
            | true =>
              by_cases hji : j < i
              · obtain ⟨gb, gcap, cur, rfl, _, hgh, hgc, hgx⟩ := row_open HW3.out (by omega)
                have hjs : j < s.length := by rw [HTL.out]; exact hji
                obtain ⟨y, hy⟩ : ∃ y, s[j] = y := ⟨_, rfl⟩
                have e10 : w3.cell? ⟨gb, j, none⟩ = some (.string y) := by rw [cell_of_row _ _ _ _ _ _ hgh]; exact hgx j _ (by simp [hjs, hy])
                have hji2 : (j : Int) < (i : Int) := by omega
                have HPS2 : Hid (preB s (q1.take (j + 1)) = decide (y = x)) := by
                  unfold Hid
                  rw [HPS.out, List.getElem?_eq_getElem hjs, hy]
                  simp
                clear hgh hgx hy hjs
                by_cases hyx : y = x
                · subst hyx
                  have hxx : (y.toList == y.toList) = true := beq_iff_eq.2 rfl
                  have HR : Hid (preB s (q1.take (j + 1)) = true) := by unfold Hid; rw [HPS2.out]; simp
                  go_wp2_with fail
                  go_quiet (fail)
                  go_wp2_with fail
                  refine (sound_calls w0 _ P 20 v3 u3 _ (HK3.out.on (below_drewN (Below.refl _ _) _)) HCAP3 (by omega)).mono ?_
                  rintro e w5 ⟨rfl, hb5⟩
                  rw [HSD.out, HR.out]
                  have HK5 : Hid (Bk w0 w5 P v3 u3 (stF e0 s (q1.take (j + 1)))) := (HK3.out.on (below_drewN (Below.refl _ _) _)).on hb5
                  have HW5 := Lib.hid (row_on (row_on HW3.out (below_drewN (Below.refl _ _) _)) hb5)
                  clear hb5
                  go_wp2_with fail
                  go_roundw
                  case rel => exact ⟨j + 1, v3, u3, _, by omega, by omega, by go_num, rfl, HR, HK5, HW5, HX3⟩
                  case measure => simp [intOf]; omega
                · have hxx : (y.toList == x.toList) = false := beq_eq_false_iff_ne.2 (fun e => hyx (toList_inj e))
                  have HR : Hid (preB s (q1.take (j + 1)) = false) := by unfold Hid; rw [HPS2.out]; simp [hyx]
                  clear hyx
                  go_wp2_with fail
                  go_quiet (fail)
                  go_wp2_with fail
                  refine (sound_calls w0 _ P 20 v3 u3 _ (HK3.out.on (below_drewN (Below.refl _ _) _)) HCAP3 (by omega)).mono ?_
                  rintro e w5 ⟨rfl, hb5⟩
                  rw [HSD.out, HR.out]
                  have HK5 : Hid (Bk w0 w5 P v3 u3 (stF e0 s (q1.take (j + 1)))) := (HK3.out.on (below_drewN (Below.refl _ _) _)).on hb5
                  have HW5 := Lib.hid (row_on (row_on HW3.out (below_drewN (Below.refl _ _) _)) hb5)
                  clear hb5
                  go_wp2_with fail
                  go_roundw
                  case rel => exact ⟨j + 1, v3, u3, _, by omega, by omega, by go_num, rfl, HR, HK5, HW5, HX3⟩
                  case measure => simp [intOf]; omega
              · obtain ⟨sp8, sc8, rfl⟩ := row_form HW3.out
                have hji2 : decide ((j : Int) < (i : Int)) = false := decide_eq_false (by omega)
                have hji3 : decide (j < i) = false := decide_eq_false hji
                have HR : Hid (preB s (q1.take (j + 1)) = false) := by
                  unfold Hid
                  rw [HPS.out, List.getElem?_eq_none (by rw [HTL.out]; omega)]
                  simp
                go_wp2_with fail
                go_quiet (fail)
                go_wp2_with fail
                refine (sound_calls w0 _ P 20 v3 u3 _ (HK3.out.on (below_drewN (Below.refl _ _) _)) HCAP3 (by omega)).mono ?_
                rintro e w5 ⟨rfl, hb5⟩
                rw [HSD.out, HR.out]
                have HK5 : Hid (Bk w0 w5 P v3 u3 (stF e0 s (q1.take (j + 1)))) := (HK3.out.on (below_drewN (Below.refl _ _) _)).on hb5
                have HW5 := Lib.hid (row_on (row_on HW3.out (below_drewN (Below.refl _ _) _)) hb5)
                clear hb5
                go_wp2_with fail
                go_roundw
                case rel => exact ⟨j + 1, v3, u3, _, by omega, by omega, by go_num, rfl, HR, HK5, HW5, HX3⟩
                case measure => simp [intOf]; omega
          · have HN : Hid (j < n1 → ¬ j < 12) := fun h1 h2 => hjlt ⟨h1, h2⟩
            have hdec2 : (j < n1 ∧ decide ((j : Int) < 12) = false) ∨ ¬ j < n1 := by
              by_cases h1 : j < n1
              · exact .inl ⟨h1, decide_eq_false (by have := HN.out h1; omega)⟩
              · exact .inr h1
            have HSD : Hid (soundB (stF e0 s (q1.take j)) = g) := by
              unfold Hid
              rw [stF_sound e0 he0, HQL.out, HG.out]
              by_cases h0 : j = 0
              · subst h0
                rw [preB_zero] at HG
                rw [← HG.out]
                rfl
              · simp [h0]
            have HE0 : Hid (stF e0 s (q1.take j) e0 = [(s, [])]) := if_pos rfl
            clear hjlt
            rcases hdec2 with ⟨hd3, hd4⟩ | hd3
            all_goals
              go_wp2_with fail
              refine (sound_calls w0 _ P 20 v u _ HK hcap (by omega)).mono ?_
              rintro e w5 ⟨rfl, hb5⟩
              rw [HSD.out]
              have HK5 := Lib.hid (HK.out.on hb5)
              clear hb5
              have hgg : (g == g) = true := beq_self_eq_true g
              go_wp2_with fail
              refine (epochs_calls w0 w5 P e0 20 v u _ HK5 he0 hcap (by omega)).mono ?_
              rintro e w6 ⟨rv, uu, rfl, hd, hb6⟩
              rw [HE0.out] at hd
              have HB6 := Lib.hid (HK5.out.on hb6).below
              obtain ⟨sp, sc, rfl⟩ := row_form hd.row
              clear hd hb6
              have hgl : ([((s : List ByteArray), ([] : List ByteArray))] : List EpT).length = 1 := rfl
              rw [hgl]
              clear hgl
              go_wp2_with fail
              go_ret
              exact ⟨rfl, HB6.out⟩
theorem forged_row (W : World) (a0 : Option Addr) (n0 c0 : Nat) (z0 : List ByteArray) (w0 : IsStrs W a0 n0 c0 z0) (y0 : n0 * 16 ≤ 140737488351232) (a1 : Option Addr) (n1 c1 : Nat) (z1 : List ByteArray) (w1 : IsStrs W a1 n1 c1 z1) (y1 : n1 * 16 ≤ 140737488351232) (en : Int) (we : (Lit.int .i64 en).wf = true) :
    Calls Try.prog 5 #[.slice a0 n0 c0, .slice a1 n1 c1, .int .i64 en] W fun e w' => e = .returned (.bool true) ∧ Below W.heap.size W w' :=
  forged_calls a0 a1 n0 n1 c0 c1 (z0.take n0) (z1.take n1) en W w0.row.1 w1.row.1 (by omega) (by omega)
end Go.Proofs.Ytjjnhndlollldaa.Ep
