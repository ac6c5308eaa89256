/-
The walk of RingPlays: behind any calls what stands in a row is what the document says. No condition but the rows' own bounds.
-/
import Derived.Test.YtljncbbajhoocaaPlaysB
import Derived.Deep.RegionHeld3
import Derived.Test.YtljncbbajhoocaaFullLaw
import Derived.Deep.CutRange
import Derived.Deep.CutBlock
namespace Go.Proofs.Ytljncbbajhoocaa.PlaysLaw
open Go.RowKit Go.Proofs.Ytljncbbajhoocaa.Args Go.Proofs.Ytljncbbajhoocaa.RingI
open Go.Proofs.YtljncbbajhoocaaW.PrintMore
attribute [local go_sem] max2_int min2_int max_two min_two


set_option maxHeartbeats 4000000 in
set_option maxRecDepth 100000 in
theorem playsLaw (most r1 r2 r3 : Int) (k : Nat) (a : Option Addr) (n cap : Nat) (l : List ActT) (w : World) (ha : Hid (ArgRow 2 actV w a n l)) (hn : n ≤ 9223372036854775807)
    (e1 : (if (5000 : Int) < most then 5000 else most) = r1) (e2 : (if (-2 : Int) < r1 then r1 else -2) = r2) (e3 : (if (4096 : Int) < r2 then 4096 else r2) = r3) (e4 : (if (0 : Int) < r3 then r3 else 0) = (k : Int)) (hk : k ≤ 4096) :
    Calls Try.prog 13 #[.int .i64 most, .slice a n cap] w fun e w' => e = .returned (.bool true) ∧ Below w.heap.size w w' := by
  have E3 := Lib.hid e3
  have E4 := Lib.hid e4
  clear e3 e4
  go_enter Try.func13, Try.ntmps13
  go_wp2_with fail
  refine (awake_calls w).mono ?_
  rintro e w1 ⟨rfl, hb1⟩
  go_wp2_with fail
  clear e1 e2
  refine (own_new w r2 r3 k w1 hb1 hk E3.out E4.out).mono ?_
  rintro e w2 ⟨rfl, h2⟩
  obtain ⟨R, hR⟩ : ∃ R, R = w1.heap.size := ⟨_, rfl⟩
  rw [← hR] at h2 ⊢
  have H2 := Lib.hid h2
  have e3 := E3.out
  have e4 := E4.out
  clear h2 hR hb1
  go_wp2_with fail
  clear e3 e4
  go_loopw [6, 7, 8, 9, 10, 11, 12, 13, 14, 15] (fun v6 iv _ _ _ _ _ _ _ _ wr => ∃ (i : Nat) (B : Option Nat) (q : List Int), i ≤ n ∧ i ≤ 120 ∧ iv = .int .i64 i ∧ Hid (Pl w wr R B k none q v6 q)) (fun _ iv _ _ _ _ _ _ _ _ _ => 120 - (intOf iv).toNat)
  case atStart => exact ⟨0, none, [], by omega, by omega, rfl, Pl.nil H2.out (fun p hp => by cases hp)⟩
  case round =>
    obtain ⟨i, B, q, hin, hi120, rfl, HP⟩ := hrel
    by_cases hlt : i < n
    · by_cases hlt2 : i < 120
      · obtain ⟨b, off, rfl, hbw, hc⟩ := ha.out.form (by omega)
        have hil : i < l.length := by rw [ha.out.len]; exact hlt
        obtain ⟨z, hz⟩ : ∃ z, l[i] = z := ⟨_, rfl⟩
        have hc0 : wr.cell? ⟨b, off + i * 2, none⟩ = some (.int .i64 z.1) := by
          rw [HP.out.own.below.cell (p := ⟨b, off + i * 2, none⟩) hbw]; exact hc i hil 0 _ (by rw [hz]; rfl)
        have hc1 : wr.cell? ⟨b, off + i * 2 + 1, none⟩ = some (.int .i64 z.2) := by
          rw [HP.out.own.below.cell (p := ⟨b, off + i * 2 + 1, none⟩) hbw]; exact hc i hil 1 _ (by rw [hz]; rfl)
        have hd120 : decide ((i : Int) < 120) = true := decide_eq_true (by omega)
        clear hc hz hil
        obtain ⟨z1, z2⟩ := z
        go_upto_block 2 with fail
        refine code_world (F := fun W => Pl w W R B k (some (wr.heap.size, #[.int .i64 z1, .int .i64 z2])) q _ q) (HP.out.aside ((Below.refl _ _).alloc (Nat.le_refl _) _) _ (Go.heap_alloc_new _ _)) ?_
        intro W hW
        obtain ⟨X, hX⟩ : ∃ X, X = wr.heap.size := ⟨_, rfl⟩
        rw [← hX] at hW ⊢
        obtain ⟨sp, sc, hv⟩ := hW.form
        subst hv
        have x0 := hW.x0
        have x1 := hW.x1
        have H0 := Lib.hid hW
        clear hW hX hc0 hc1 HP
        go_cut [6, 9, 10, 11, 12, 13, 14, 15] from 28 to 209 (fun v6 _ _ _ _ _ _ _ W2 => ∃ (B2 : Option Nat) (q2 : List Int), Hid (Pl w W2 R B2 k none q2 v6 q2))
        case first =>
          by_cases hz1 : z1 = 1
          · subst hz1
            cases q with
            | nil =>
              as_aux_lemma =>
                go_wp2_with fail
                refine (pl_first_none H0.out).mono ?_
                rintro e w3 ⟨rfl, B3, h3⟩
                have H3 := Lib.hid h3
                have y0 := h3.x0
                clear h3 x0 x1
                go_wp2_with fail
                refine (pl_take_none H3.out).mono ?_
                rintro e w4 ⟨rfl, B4, h4⟩
                have H4 := Lib.hid h4.drop
                clear h4 y0 H3
                go_wp2_with fail
                go_roundw
                case rel => exact ⟨i + 1, B4, [], by omega, by omega, by go_num, H4⟩
                case measure => simp [intOf]; omega
            | cons x ql =>
              as_aux_lemma =>
                go_wp2_with fail
                refine (pl_first H0.out).mono ?_
                rintro e w3 ⟨rfl, B3, h3⟩
                have H3 := Lib.hid h3
                have y0 := h3.x0
                clear h3 x0 x1
                go_wp2_with fail
                refine (pl_take H3.out).mono ?_
                rintro e w4 ⟨rfl, B4, h4⟩
                obtain ⟨sp2, hrun, ht⟩ := h4.tail
                obtain ⟨b8, off8, rfl, hc8⟩ := h4.at (by simp)
                have hc80 : w4.cell? ⟨b8, off8, none⟩ = some (.int .i64 x) := by have := hc8 0 (by simp); simpa using this
                have y0b := h4.x0
                have hlen0 : (((ql.length : Int) + 1) == 0) = false := by rw [beq_eq_false_iff_ne]; omega
                have H4 := Lib.hid ht.drop
                clear h4 y0 H3 ht hc8
                go_wp2_with fail
                go_meet
                exact ⟨B4, ql, H4⟩
          · by_cases hz2 : z1 = 2
            · subst hz2
              cases q with
              | nil =>
                as_aux_lemma =>
                  go_wp2_with fail
                  refine (pl_first_none H0.out).mono ?_
                  rintro e w3 ⟨rfl, B3, h3⟩
                  have H3 := Lib.hid h3.drop
                  have y0 := h3.x0
                  clear h3 x0 x1
                  go_wp2_with fail
                  go_roundw
                  case rel => exact ⟨i + 1, B3, [], by omega, by omega, by go_num, H3⟩
                  case measure => simp [intOf]; omega
              | cons x ql =>
                as_aux_lemma =>
                  go_wp2_with fail
                  refine (pl_first H0.out).mono ?_
                  rintro e w3 ⟨rfl, B3, h3⟩
                  have y0 := h3.x0
                  obtain ⟨b8, off8, rfl, hc8⟩ := h3.at (by simp)
                  have hc80 : w3.cell? ⟨b8, off8, none⟩ = some (.int .i64 x) := by have := hc8 0 (by simp); simpa using this
                  have hlen0 : (((ql.length : Int) + 1) == 0) = false := by rw [beq_eq_false_iff_ne]; omega
                  have H3 := Lib.hid h3.drop
                  clear h3 x0 x1 hc8
                  go_wp2_with fail
                  go_meet
                  exact ⟨B3, x :: ql, H3⟩
            · by_cases hz3 : z1 = 3
              · subst hz3
                by_cases hzi : 0 ≤ z2 ∧ z2 < q.length
                · as_aux_lemma =>
                    obtain ⟨j, rfl⟩ : ∃ j : Nat, z2 = (j : Int) := ⟨z2.toNat, by omega⟩
                    have hjq : j < q.length := by omega
                    obtain ⟨x, hx⟩ : ∃ x, q[j] = x := ⟨_, rfl⟩
                    clear hzi
                    go_wp2_with fail
                    refine (pl_at_in j x H0.out hjq hx).mono ?_
                    rintro e w3 ⟨rfl, B3, h3⟩
                    have y1 := h3.x1
                    obtain ⟨b8, off8, rfl, hc8⟩ := h3.at (by omega)
                    have hc8j : w3.cell? ⟨b8, off8 + j, none⟩ = some (.int .i64 x) := by rw [hc8 j hjq, hx]
                    have H3 := Lib.hid h3.drop
                    clear h3 x0 x1 hc8 hx
                    go_wp2_with fail
                    go_meet
                    exact ⟨B3, q, H3⟩
                · as_aux_lemma =>
                    by_cases hz0 : z2 < 0
                    · go_wp2_with fail
                      refine (pl_at_out z2 H0.out (.inl hz0)).mono ?_
                      rintro e w3 ⟨rfl, B3, h3⟩
                      have y1 := h3.x1
                      have H3 := Lib.hid h3.drop
                      clear h3 x0 x1
                      go_wp2_with fail
                      go_meet
                      exact ⟨B3, q, H3⟩
                    · have hz9 : (q.length : Int) ≤ z2 := by omega
                      clear hzi
                      go_wp2_with fail
                      refine (pl_at_out z2 H0.out (.inr hz9)).mono ?_
                      rintro e w3 ⟨rfl, B3, h3⟩
                      have y1 := h3.x1
                      have H3 := Lib.hid h3.drop
                      clear h3 x0 x1
                      go_wp2_with fail
                      go_meet
                      exact ⟨B3, q, H3⟩
              · by_cases hz4 : z1 = 4
                · as_aux_lemma =>
                    subst hz4
                    have hqk : q.length ≤ 4096 := by have := H0.out.own.ring.1; omega
                    go_wp2_with fail
                    refine (pl_clear H0.out).mono ?_
                    rintro e w3 ⟨sp3, sc3, rfl, hr3, _, B3, h3⟩
                    clear x0 x1
                    have H3 := Lib.hid h3
                    have R3 := Lib.hid hr3
                    clear h3 hr3
                    go_wp2_with fail
                    refine (H3.out.same R3.out rfl hqk).mono ?_
                    rintro e w4 ⟨rfl, B4, h4⟩
                    have H4 : Hid (Pl w w4 R B4 k none [] (.slice none 0 0) []) := Pl.nil h4.own (fun p hp => by cases hp)
                    clear h4
                    go_wp2_with fail
                    go_meet
                    exact ⟨B4, [], H4⟩
                · by_cases hz5 : z1 = 5
                  · subst hz5
                    have hqk : q.length ≤ k := H0.out.own.ring.1
                    go_wp2_with fail
                    refine (clone_own R B k q W H0.out.own.ring).mono ?_
                    rintro e w3 ⟨R2, B2, rfl, o3⟩
                    have O3 := Lib.hid o3
                    clear o3 x0 x1
                    go_wp2_with fail
                    refine (own_all W R2 B2 k q w3 O3.out).mono ?_
                    rintro e w4 ⟨sp4, sc4, rfl, r4, o4, _⟩
                    have O4 := Lib.hid o4
                    have R4 := Lib.hid r4
                    have P4 := Lib.hid (H0.out.on o4.below)
                    clear o4 r4 O3
                    go_wp2_with fail
                    refine (P4.out.same_drew R4.out rfl (by omega)).mono ?_
                    rintro e w5 ⟨rfl, m5, hw5⟩
                    have O5 : Hid (Own W w5 R2 B2 k q) := by rw [hw5]; exact O4.out.on (below_drewN (Below.refl _ _) _)
                    clear hw5 O4 R4 P4
                    go_wp2_with fail
                    refine (most_ring R2 B2 k q w5 O5.out.ring).mono ?_
                    rintro e w6 ⟨rfl, hw6⟩
                    rw [hw6] at O5
                    clear hw6
                    go_wp2_with fail
                    cases q with
                    | nil =>
                      as_aux_lemma =>
                        refine (own_take_none W R2 B2 k w6 O5.out).mono ?_
                        rintro e w7 ⟨rfl, o7⟩
                        have O7 := Lib.hid o7
                        clear o7 O5
                        go_wp2_with fail
                        by_cases hk0 : k = 0
                        · refine (own_put_full W R2 B2 k [] 9 w7 O7.out hk0.symm).mono ?_
                          rintro e w8 ⟨rfl, o8⟩
                          have P8 := Lib.hid (H0.out.on o8.below).drop
                          clear o8 hk0
                          go_wp2_with fail
                          go_meet
                          exact ⟨B, [], P8⟩
                        · refine (own_put W R2 B2 k [] 9 w7 O7.out (by simp; omega)).mono ?_
                          rintro e w8 ⟨rfl, B8, o8⟩
                          have P8 := Lib.hid (H0.out.on o8.below).drop
                          clear o8
                          go_wp2_with fail
                          go_meet
                          exact ⟨B, [], P8⟩
                    | cons x ql =>
                      as_aux_lemma =>
                        refine (own_take W R2 B2 k ql x w6 O5.out).mono ?_
                        rintro e w7 ⟨rfl, o7⟩
                        have O7 := Lib.hid o7
                        clear o7 O5
                        go_wp2_with fail
                        refine (own_put W R2 B2 k ql 9 w7 O7.out (by simp at hqk; omega)).mono ?_
                        rintro e w8 ⟨rfl, B8, o8⟩
                        have P8 := Lib.hid (H0.out.on o8.below).drop
                        clear o8
                        go_wp2_with fail
                        go_meet
                        exact ⟨B, x :: ql, P8⟩
                  · by_cases hqk : q.length < k
                    · as_aux_lemma =>
                        have hlt9 : decide ((q.length : Int) < (k : Int)) = true := decide_eq_true (by omega)
                        go_wp2_with fail
                        refine (pl_put z2 H0.out hqk).mono ?_
                        rintro e w3 ⟨rfl, B3, h3⟩
                        have y1 := h3.x1
                        have H3 := Lib.hid h3
                        clear h3 x0 x1
                        go_wp2_with fail
                        obtain ⟨i0, hi0, hz0, hz1', hz2'⟩ := info_parts infoE
                        have HI := Lib.hid hi0
                        have HZ0 := Lib.hid hz0
                        have HZ1 := Lib.hid hz1'
                        have HZ2 := Lib.hid hz2'
                        have AR := Lib.hid H3.out.arg
                        have KX : Hid (∀ W', Below w3.heap.size w3 W' → W'.cell? ⟨X, 1, none⟩ = some (.int .i64 z2)) := fun W' hW' => (H3.out.on hW').x1
                        have hq4 : q.length ≤ 4096 := by omega
                        clear hi0 hz0 hz1' hz2' hlt9
                        go_region_held3 (fun W' => W'.cell? ⟨X, 1, none⟩ = some (.int .i64 z2))
                          (first | exact KX.out _ (by ((repeat (first | with_reducible refine bel_drew ?_ | with_reducible refine bel_drewN ?_ | (with_reducible refine bel_alloc ?_ ?_ _; focus (simp; done)))); exact Below.refl _ _)) | exact KX.out _ hA1.below | exact KX.out _ (hA1.on (by ((repeat (first | with_reducible refine bel_drew ?_ | with_reducible refine bel_drewN ?_ | (with_reducible refine bel_alloc ?_ ?_ _; focus (simp; done)))); exact Below.refl _ _))).below | exact KX.out _ HW4.out | exact KX.out _ (below_drewN HW4.out _) | exact KX.out _ HW4.out.drew | fail)
                          (first | (refine step_app_first (o := ⟨some 67, _, _, _, _, _⟩) (by rfl) _ _ (by rfl) w3 _ sp sc q (by rfl) (by rfl) (by ((repeat (first | with_reducible refine bel_drew ?_ | with_reducible refine bel_drewN ?_ | (with_reducible refine bel_alloc ?_ ?_ _; focus (simp; done)))); exact Below.refl _ _)) (by simp) (by ((repeat (first | with_reducible refine drew_at ?_ | with_reducible refine drewN_at ?_ | (with_reducible refine old_at ?_ ?_; focus (simp; done)))); with_reducible refine alloc_at ?_; simp; done)) AR.out hq4 ?_; intro v1 W1 hA1) | (refine step_append_lies (o := ⟨some 71, _, _, _, _, _⟩) _ (by rfl) _ _ 53 (by rfl) w3.heap.size 3 i0 (.int .i64 0) 1 8 Try.underlying53 HI.out HZ0.out HZ1.out HZ2.out (by rfl) (by decide) _ q.length (q.map (Value.int .i64)) (by rfl) (by first | exact hA1.own | exact (hA1.on (by ((repeat (first | with_reducible refine bel_drew ?_ | with_reducible refine bel_drewN ?_ | (with_reducible refine bel_alloc ?_ ?_ _; focus (simp; done)))); exact Below.refl _ _))).own) ⟨_, 0, none⟩ 1 1 [.int .i64 z2] (by rfl) (by rfl) (World.news_of_block (cs := #[.int .i64 z2]) (t := 3) (fr := (0, 0)) (by first | ((repeat (first | with_reducible refine drew_at ?_ | with_reducible refine drewN_at ?_ | (with_reducible refine old_at ?_ ?_; focus (simp; done)))); with_reducible refine alloc_at ?_; simp; done) | exact (hA1.keep _ (by simp <;> omega) (by simp <;> omega)).trans (by ((repeat (first | with_reducible refine drew_at ?_ | with_reducible refine drewN_at ?_ | (with_reducible refine old_at ?_ ?_; focus (simp; done)))); with_reducible refine alloc_at ?_; simp; done)) | fail)) (by simp [Value.oneCell']) (by omega) (by unfold maxLen; omega) (by omega) (by first | exact hA1.below.size | exact (hA1.on (by ((repeat (first | with_reducible refine bel_drew ?_ | with_reducible refine bel_drewN ?_ | (with_reducible refine bel_alloc ?_ ?_ _; focus (simp; done)))); exact Below.refl _ _))).below.size) _ rfl ?_; intro g cap4 w4 hown4 hgrow4 hat4 hlt4; have HW4 : Hid (Below w3.heap.size w3 w4) := (by first | exact hA1.below.grown hgrow4 hA1.below.size (fun k hk => (row_lt hA1.own k hk).1) | exact (hA1.on (by ((repeat (first | with_reducible refine bel_drew ?_ | with_reducible refine bel_drewN ?_ | (with_reducible refine bel_alloc ?_ ?_ _; focus (simp; done)))); exact Below.refl _ _))).below.grown hgrow4 (hA1.on (by ((repeat (first | with_reducible refine bel_drew ?_ | with_reducible refine bel_drewN ?_ | (with_reducible refine bel_alloc ?_ ?_ _; focus (simp; done)))); exact Below.refl _ _))).below.size (fun k hk => (row_lt hA1.own k hk).1)); have HF := Lib.hid (H3.out.put2 HW4.out hown4); clear hown4 hgrow4 hat4) | fail)
                        all_goals (go_wp2_with fail; go_meet; exact ⟨B3, q ++ [z2], by first | exact HF | exact HF.out.on ((Below.refl _ _).drew) | exact HF.out.on (below_drewN (Below.refl _ _) _)⟩)
                    · as_aux_lemma =>
                        have hqe : q.length = k := by have := H0.out.own.ring.1; omega
                        have hlt9 : decide ((q.length : Int) < (k : Int)) = false := decide_eq_false (by omega)
                        go_wp2_with fail
                        refine (pl_put_full z2 H0.out hqe).mono ?_
                        rintro e w3 ⟨rfl, B3, h3⟩
                        have H3 := Lib.hid h3.drop
                        clear h3 x0 x1 hqe
                        go_wp2_with fail
                        go_meet
                        exact ⟨B3, q, H3⟩
        case rest =>
          as_aux_lemma =>
            obtain ⟨B2, q2, HP⟩ := hcut
            obtain ⟨sp2, sc2, hv2⟩ := HP.out.form
            subst hv2
            have hqk : q2.length ≤ k := HP.out.own.ring.1
            have hsub : (k : Int) - (q2.length : Int) = (k : Int) - (q2.length : Int) := rfl
            go_wp2_with fail
            refine (pl_all HP.out).mono ?_
            rintro e w3 ⟨sp3, sc3, rfl, r3', _, B3, h3⟩
            have H3 := Lib.hid h3
            have R3 := Lib.hid r3'
            clear h3 r3' HP
            go_wp2_with fail
            refine (H3.out.same R3.out rfl (by omega)).mono ?_
            rintro e w4 ⟨rfl, B4, h4⟩
            have H4 := Lib.hid h4
            clear h4 H3 R3
            go_wp2_with fail
            refine (pl_len H4.out).mono ?_
            rintro e w5 ⟨rfl, B5, h5⟩
            have H5 := Lib.hid h5
            clear h5 H4
            go_wp2_with fail
            refine (pl_room H5.out).mono ?_
            rintro e w6 ⟨rfl, B6, h6⟩
            have H6 := Lib.hid h6
            clear h6 H5
            go_wp2_with fail
            refine (pl_most H6.out).mono ?_
            rintro e w7 ⟨rfl, B7, h7⟩
            have H7 := Lib.hid h7
            clear h7 H6
            go_wp2_with fail
            go_roundw
            case rel => exact ⟨i + 1, B7, q2, by omega, by omega, by go_num, H7⟩
            case measure => simp [intOf]; omega
      · have hieq : i = 120 := by omega
        go_wp2_with fail
        go_ret
        exact ⟨rfl, HP.out.own.below⟩
    · have hieq : i = n := by omega
      go_wp2_with fail
      go_ret
      exact ⟨rfl, HP.out.own.below⟩
theorem plays_law (w : World) (most : Int) (_wf : (Lit.int .i64 most).wf = true) (a : Option Addr) (n cap : Nat) (l : List ActT) (h : ArgRow 2 actV w a n l) (hn : n * 16 ≤ 140737488351232) :
    Calls Try.prog 13 #[.int .i64 most, .slice a n cap] w fun e w' => e = .returned (.bool true) ∧ Below w.heap.size w w' := by
  obtain ⟨r1, h1⟩ : ∃ r : Int, (if (5000 : Int) < most then 5000 else most) = r := ⟨_, rfl⟩
  obtain ⟨r2, h2⟩ : ∃ r : Int, (if (-2 : Int) < r1 then r1 else -2) = r := ⟨_, rfl⟩
  obtain ⟨r3, h3⟩ : ∃ r : Int, (if (4096 : Int) < r2 then 4096 else r2) = r := ⟨_, rfl⟩
  obtain ⟨k, hk, hk1⟩ : ∃ k : Nat, (if (0 : Int) < r3 then r3 else 0) = (k : Int) ∧ k ≤ 4096 := by
    have h4 : r3 ≤ 4096 := by rw [← h3]; split <;> omega
    split
    · exact ⟨r3.toNat, by omega, by omega⟩
    · exact ⟨0, rfl, by omega⟩
  exact playsLaw most r1 r2 r3 k a n cap l w h (by omega) h1 h2 h3 hk hk1
end Go.Proofs.Ytljncbbajhoocaa.PlaysLaw
