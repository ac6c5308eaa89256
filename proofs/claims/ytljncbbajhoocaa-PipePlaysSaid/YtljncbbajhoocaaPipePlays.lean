/-
The walk of PipePlays: behind any calls a pipe has what the document says, and what comes of a frame is what was chosen: the law returns true. No condition but the row's own bounds.
-/
import Derived.Test.YtljncbbajhoocaaPipeL
import Derived.Deep.CutRange
import Derived.Deep.CutBlock
namespace Go.Proofs.Ytljncbbajhoocaa.Pipe
open Go.RowKit Go.Proofs.Ytljncbbajhoocaa.Args Go.Proofs.Ytljncbbajhoocaa.RingS Go.Proofs.Ytljncbbajhoocaa.Crc
open Go.Proofs.YtljncbbajhoocaaW.PrintMore
attribute [local go_sem] max2_int min2_int max_two min_two

abbrev ActP := Int × ByteArray × Int × Int × Int
def actP (x : ActP) : List Value := [.int .i64 x.1, .string x.2.1, .int .i64 x.2.2.1, .int .i64 x.2.2.2.1, .int .u32 x.2.2.2.2]
def five (x : ActP) : Array Value := #[.int .i64 x.1, .string x.2.1, .int .i64 x.2.2.1, .int .i64 x.2.2.2.1, .int .u32 x.2.2.2.2]
theorem drewN_more {w wr : World} (h : ∃ m, wr = w.drewN m) (k : Nat) : ∃ m, wr.drewN k = w.drewN m := by
  obtain ⟨m, rfl⟩ := h
  exact ⟨m + k, by simp [World.drewN, Nat.add_comm, Nat.add_left_comm]⟩
theorem own_one {w : World} {base : Nat} {v : Value} {q : List ByteArray} {s : ByteArray} (h : w.ownsRow base 9 1 v (q.length + 1) (q.map Value.string ++ [Value.string s])) : w.ownsRow base 9 1 v (q ++ [s]).length ((q ++ [s]).map Value.string) := by
  rw [List.map_append, List.length_append]; exact h

set_option maxHeartbeats 8000000 in
set_option maxRecDepth 100000 in
theorem pplaysLaw (most r1 : Int) (k : Nat) (a : Option Addr) (n cap : Nat) (l : List ActP) (w0 : World) (ha : Hid (ArgRow 5 actP w0 a n l)) (hn : n ≤ 9223372036854775807)
    (e1 : (if (256 : Int) < most then 256 else most) = r1) (e2 : (if (1 : Int) < r1 then r1 else 1) = (k : Int)) (hk : k ≤ 256) (hk1 : 1 ≤ k) :
    Calls Try.prog 17 #[.int .i64 most, .slice a n cap] w0 fun e w' => e = .returned (.bool true) ∧ Below w0.heap.size w0 w' := by
  have E1 := Lib.hid e1
  have E2 := Lib.hid e2
  go_enter Try.func17, Try.ntmps17
  go_wp2_with fail
  refine (awake_calls2 w0).mono ?_
  rintro e w ⟨rfl, hb⟩
  have HB := Lib.hid hb
  clear hb
  go_wp2_with fail
  refine (new_calls2 most r1 k w w (Below.refl _ _) E1.out E2.out hk).mono ?_
  rintro e w2 ⟨P, R, rfl, h2⟩
  have H2 := Lib.hid h2
  clear h2
  go_wp2_with fail
  clear e1 e2
  go_loopw [6, 7, 8, 9, 10, 11, 12, 13, 14, 15, 16, 17, 18, 19, 20, 21, 22, 23, 24] (fun v6 v7 v8 v9 iv _ _ _ _ _ _ _ _ _ _ _ _ _ _ wr => ∃ (i : Nat) (B : Option Nat) (q : List ByteArray) (pa pb pc : Nat), i ≤ n ∧ i ≤ 120 ∧ iv = .int .i64 i ∧ v7 = .int .i64 pa ∧ v8 = .int .i64 pb ∧ v9 = .int .i64 pc ∧ pa ≤ i ∧ pb ≤ i ∧ pc ≤ i ∧ Hid (∀ s ∈ q, s.size ≤ 20) ∧ Hid (PL w wr P R B k q pa pb pc v6 q)) (fun _ _ _ _ iv _ _ _ _ _ _ _ _ _ _ _ _ _ _ _ => 120 - (intOf iv).toNat)
  case atStart => exact ⟨0, none, [], 0, 0, 0, by omega, by omega, rfl, rfl, rfl, rfl, by omega, by omega, by omega, (fun s hs => by cases hs), PL.nil H2.out⟩
  case round =>
    obtain ⟨i, B, q, pa, pb, pc, hin, hi120, rfl, rfl, rfl, rfl, hpa, hpb, hpc, HQS, HP⟩ := hrel
    by_cases hlt : i < n
    · by_cases hlt2 : i < 120
      · obtain ⟨b, off, rfl, hbw, hc⟩ := ha.out.form (by omega)
        have hil : i < l.length := by rw [ha.out.len]; exact hlt
        obtain ⟨z, hz⟩ : ∃ z, l[i] = z := ⟨_, rfl⟩
        have hbww : b < w.heap.size := Nat.lt_of_lt_of_le hbw HB.out.size
        have hcw : ∀ j, wr.cell? ⟨b, j, none⟩ = w0.cell? ⟨b, j, none⟩ := fun j => (HP.out.below.cell (p := ⟨b, j, none⟩) hbww).trans (HB.out.cell (p := ⟨b, j, none⟩) hbw)
        have hc0 : wr.cell? ⟨b, off + i * 5, none⟩ = some (.int .i64 z.1) := by rw [hcw]; exact hc i hil 0 _ (by rw [hz]; rfl)
        have hc1 : wr.cell? ⟨b, off + i * 5 + 1, none⟩ = some (.string z.2.1) := by rw [hcw]; exact hc i hil 1 _ (by rw [hz]; rfl)
        have hc2 : wr.cell? ⟨b, off + i * 5 + 2, none⟩ = some (.int .i64 z.2.2.1) := by rw [hcw]; exact hc i hil 2 _ (by rw [hz]; rfl)
        have hc3 : wr.cell? ⟨b, off + i * 5 + 3, none⟩ = some (.int .i64 z.2.2.2.1) := by rw [hcw]; exact hc i hil 3 _ (by rw [hz]; rfl)
        have hc4 : wr.cell? ⟨b, off + i * 5 + 4, none⟩ = some (.int .u32 z.2.2.2.2) := by rw [hcw]; exact hc i hil 4 _ (by rw [hz]; rfl)
        have hd120 : decide ((i : Int) < 120) = true := decide_eq_true (by omega)
        clear hc hcw hz hil hbw hbww
        obtain ⟨z1, zs, y0, y1, y2⟩ := z
        obtain ⟨s, hs⟩ : ∃ s, cutB zs 20 = s := ⟨_, rfl⟩
        have hsz : s.size ≤ 20 := by rw [← hs]; exact cut_size _ _
        have HS : Hid (cutB zs (20 : Int).toNat = s) := hs
        clear hs
        go_wp2_with fail
        refine calls_world (F := fun W => PL w W P R B k q pa pb pc u6 q ∧ W.heap[wr.heap.size]? = some (.cells (five (z1, zs, y0, y1, y2)) 91 (0, 0))) ⟨HP.out.on ((Below.refl _ _).alloc (Nat.le_refl _) _), Go.heap_alloc_new _ _⟩ ?_
        rintro W ⟨hW, hA⟩
        obtain ⟨A, hAA⟩ : ∃ A, A = wr.heap.size := ⟨_, rfl⟩
        rw [← hAA] at hA ⊢
        have HW0 := Lib.hid hW
        have HA0 := Lib.hid hA
        clear hW hA hc0 hc1 hc2 hc3 hc4 HP hAA
        refine (cut_to 20 zs s W HS (.inr rfl)).mono ?_
        rintro e W1 ⟨rfl, m1, hW1⟩
        have H0 : Hid (PL w W1 P R B k q pa pb pc u6 q) := by rw [hW1]; exact HW0.out.on (below_drewN (Below.refl _ _) _)
        have hA : W1.heap[A]? = some (.cells (five (z1, zs, y0, y1, y2)) 91 (0, 0)) := by rw [hW1]; exact HA0.out
        have a0 : W1.cell? ⟨A, 0, none⟩ = some (.int .i64 z1) := by rw [cell_of_row _ _ _ _ _ _ hA]; rfl
        have a2 : W1.cell? ⟨A, 2, none⟩ = some (.int .i64 y0) := by rw [cell_of_row _ _ _ _ _ _ hA]; rfl
        have a3 : W1.cell? ⟨A, 3, none⟩ = some (.int .i64 y1) := by rw [cell_of_row _ _ _ _ _ _ hA]; rfl
        have a4 : W1.cell? ⟨A, 4, none⟩ = some (.int .u32 y2) := by rw [cell_of_row _ _ _ _ _ _ hA]; rfl
        clear hA hW1 HW0 HA0
        obtain ⟨sp, sc, hv⟩ := H0.out.form
        subst hv
        go_upto_block 2 with fail
        go_cut [6, 7, 8, 9, 13, 14, 15, 16, 17, 18, 19] from 53 to 235 (fun v6 v7 v8 v9 _ _ _ _ _ _ _ W2 => ∃ (B2 : Option Nat) (q2 : List ByteArray) (pa2 pb2 pc2 : Nat), v7 = .int .i64 pa2 ∧ v8 = .int .i64 pb2 ∧ v9 = .int .i64 pc2 ∧ pa2 ≤ i + 1 ∧ pb2 ≤ i + 1 ∧ pc2 ≤ i + 1 ∧ Hid (∀ s ∈ q2, s.size ≤ 20) ∧ Hid (PL w W2 P R B2 k q2 pa2 pb2 pc2 v6 q2))
        case first =>
          by_cases hz1 : z1 = 1
          · subst hz1
            obtain ⟨r1, r2, hr1, hr2, hlo, hhi⟩ := near_at y1
            go_wp2_with fail
            refine (near_calls y0 y1 y2 r1 r2 W1 hr1.out hr2.out).mono ?_
            rintro e w3 ⟨rfl, hb3⟩
            have H3 := Lib.hid (H0.out.on hb3)
            clear hb3 a0 a2 a3 a4
            go_wp2_with fail
            refine calls_world (F := fun W => PL w W P R B k q pa pb pc (.slice sp q.length sc) q ∧ ∃ X, X = w3.heap.size ∧ Box W X y0 r2 y2 ∧ ¬ (X = P ∨ X = R ∨ some X = B)) ⟨H3.out.on ((Below.refl _ _).alloc (Nat.le_refl _) _), _, rfl, Go.heap_alloc_new _ _, fun hk => ?_⟩ ?_
            · rcases hk with hk | hk
              · have := H3.out.pw.lt; omega
              · exact box_far H3.out.pw hk
            rintro W ⟨hW, X, hX, hbx, hxf⟩
            rw [← hX]
            have HW := Lib.hid hW
            have HBX := Lib.hid hbx
            have HXF := Lib.hid hxf
            have HXL : Hid (X < W.heap.size) := (Array.getElem?_eq_some_iff.1 hbx).1
            clear hW hX hbx hxf H3
            cases q with
            | nil =>
              as_aux_lemma =>
                refine (pipe_take_none' w W P R B k pa pb pc y0 r2 y2 HW.out.pw).mono ?_
                rintro e w4 ⟨rfl, B4, h4, g4⟩
                have H4 := Lib.hid (HW.out.chg h4 g4)
                clear h4 g4
                go_wp2_with fail
                go_roundw
                case rel => exact ⟨i + 1, B4, [], pa, pb, pc, by omega, by omega, by go_num, rfl, rfl, rfl, by omega, by omega, by omega, (fun s hs => by cases hs), H4⟩
                case measure => simp [intOf]; omega
            | cons x ql =>
              have HQL : Hid (∀ s ∈ ql, s.size ≤ 20) := fun s hs => HQS.out s (List.mem_cons_of_mem _ hs)
              have hxz : x.size ≤ 20 := HQS.out x (by simp)
              have hlen0 : (((ql.length : Int) + 1) == 0) = false := by rw [beq_eq_false_iff_ne]; omega
              by_cases hk1' : y0 = 1
              · as_aux_lemma =>
                  subst hk1'
                  refine (pipe_take_lose' w W P R B k ql pa pb pc x r2 y2 HW.out.pw (by omega)).mono ?_
                  rintro e w4 ⟨rfl, B4, h4, g4⟩
                  have h5 := HW.out.chg h4 g4
                  have hbx4 : Hid (Box w4 X 1 r2 y2) := (g4.mod.block X HXL.out (fun hk => HXF.out hk)).trans HBX.out
                  obtain ⟨x0, x1, x2⟩ := hbx4.out.cells (Below.refl _ _)
                  obtain ⟨sp2, hrun, ht⟩ := h5.tail
                  obtain ⟨b8, off8, rfl, hc8⟩ := h5.at (by simp)
                  have hc80 : w4.cell? ⟨b8, off8, none⟩ = some (.string x) := by have := hc8 0 (by simp); simpa using this
                  have H4 := Lib.hid ht
                  clear h4 g4 h5 hc8 ht
                  go_wp2_with fail
                  go_meet
                  exact ⟨B4, ql, pa, pb, pc + 1, rfl, rfl, rfl, by omega, by omega, by omega, HQL, H4⟩
              · have he1 : (y0 == 1) = false := beq_eq_false_iff_ne.2 hk1'
                have hn1 : (y0 != 1) = true := bne_iff_ne.2 hk1'
                by_cases hk2' : y0 = 2
                · subst hk2'
                  obtain ⟨y, hy⟩ : ∃ y : ByteArray, y = ⟨(turnTo x r2 y2 32).toArray⟩ := ⟨_, rfl⟩
                  have HY := Lib.hid hy
                  clear hy
                  refine (pipe_take_spoil' w W P R B k ql pa pb pc x r2 y2 HW.out.pw (by omega) (by omega) (by omega) (by omega) (by omega) y HY).mono ?_
                  rintro e w4 ⟨rfl, B4, g4, h4⟩
                  have hbx4 : Hid (Box w4 X 2 r2 y2) := (g4.mod.block X HXL.out (fun hk => HXF.out hk)).trans HBX.out
                  have hyy : (y.toList == y.toList) = true := beq_iff_eq.2 rfl
                  have hyy2 : (y.toList != y.toList) = false := by rw [bne_eq_false_iff_eq]
                  rcases h4 with ⟨hyx, h4⟩ | ⟨hyx, h4⟩
                  · as_aux_lemma =>
                      obtain ⟨x0, x1, x2⟩ := hbx4.out.cells (Below.refl _ _)
                      have h5 := HW.out.chg h4 g4
                      have hE : (y.toList == x.toList) = true := by rw [hyx]; exact beq_iff_eq.2 rfl
                      obtain ⟨b8, off8, rfl, hc8⟩ := h5.at (by simp)
                      have hc80 : w4.cell? ⟨b8, off8, none⟩ = some (.string x) := by have := hc8 0 (by simp); simpa using this
                      have H5 := Lib.hid h5
                      clear h4 g4 h5 hc8 hyx
                      go_wp2_with fail
                      refine (turn_calls x r2 y2 _ (by omega) (by omega) (by omega)).mono ?_
                      rw [← HY.out]
                      rintro e w5 ⟨rfl, hb5⟩
                      have h6 := H5.out.on hb5
                      obtain ⟨sp2, hrun, ht⟩ := h6.tail
                      have hc81 := (hb5.cell (p := ⟨b8, off8, none⟩) (by obtain ⟨bb, oo, hh, hl, _⟩ := ArgRow.one H5.out.arg (by simp); injection hh with hh; injection hh with hh; subst hh; exact hl)).trans hc80
                      obtain ⟨x0, x1, x2⟩ := hbx4.out.cells hb5
                      have H6 := Lib.hid ht
                      clear hb5 h6 ht hc80 H5
                      go_wp2_with fail
                      go_meet
                      exact ⟨B4, ql, pa, pb + 1, pc, rfl, rfl, rfl, by omega, by omega, by omega, HQL, H6⟩
                  · as_aux_lemma =>
                      obtain ⟨x0, x1, x2⟩ := hbx4.out.cells (Below.refl _ _)
                      have h5 := HW.out.chg h4 g4
                      have hE : (y.toList == x.toList) = false := beq_eq_false_iff_ne.2 (fun e => hyx (toList_inj e))
                      obtain ⟨b8, off8, rfl, hc8⟩ := h5.at (by simp)
                      have hc80 : w4.cell? ⟨b8, off8, none⟩ = some (.string x) := by have := hc8 0 (by simp); simpa using this
                      have H5 := Lib.hid h5
                      clear h4 g4 h5 hc8 hyx
                      go_wp2_with fail
                      refine (turn_calls x r2 y2 _ (by omega) (by omega) (by omega)).mono ?_
                      rw [← HY.out]
                      rintro e w5 ⟨rfl, hb5⟩
                      have h6 := H5.out.on hb5
                      obtain ⟨sp2, hrun, ht⟩ := h6.tail
                      have hc81 := (hb5.cell (p := ⟨b8, off8, none⟩) (by obtain ⟨bb, oo, hh, hl, _⟩ := ArgRow.one H5.out.arg (by simp); injection hh with hh; injection hh with hh; subst hh; exact hl)).trans hc80
                      obtain ⟨x0, x1, x2⟩ := hbx4.out.cells hb5
                      have H6 := Lib.hid ht
                      clear hb5 h6 ht hc80 H5
                      go_wp2_with fail
                      go_meet
                      exact ⟨B4, ql, pa, pb, pc + 1, rfl, rfl, rfl, by omega, by omega, by omega, HQL, H6⟩
                · as_aux_lemma =>
                    have he2 : (y0 == 2) = false := beq_eq_false_iff_ne.2 hk2'
                    refine (pipe_take_carry' w W P R B k ql pa pb pc x y0 r2 y2 HW.out.pw (by omega) he1 he2).mono ?_
                    rintro e w4 ⟨rfl, B4, h4, g4⟩
                    have h5 := HW.out.chg h4 g4
                    have hbx4 : Hid (Box w4 X y0 r2 y2) := (g4.mod.block X HXL.out (fun hk => HXF.out hk)).trans HBX.out
                    obtain ⟨x0, x1, x2⟩ := hbx4.out.cells (Below.refl _ _)
                    obtain ⟨sp2, hrun, ht⟩ := h5.tail
                    obtain ⟨b8, off8, rfl, hc8⟩ := h5.at (by simp)
                    have hc80 : w4.cell? ⟨b8, off8, none⟩ = some (.string x) := by have := hc8 0 (by simp); simpa using this
                    have hxx : (x.toList == x.toList) = true := beq_iff_eq.2 rfl
                    have hxx2 : (x.toList != x.toList) = false := by rw [bne_eq_false_iff_eq]
                    have H4 := Lib.hid ht
                    clear h4 g4 h5 hc8 ht
                    go_wp2_with fail
                    go_meet
                    exact ⟨B4, ql, pa, pb + 1, pc, rfl, rfl, rfl, by omega, by omega, by omega, HQL, H4⟩
          · by_cases hz2 : z1 = 2
            · as_aux_lemma =>
                subst hz2
                go_wp2_with fail
                refine (pipe_clone w W1 P R B k q pa pb pc H0.out.pw).mono ?_
                rintro e w3 ⟨P2, R2, B2, rfl, h3⟩
                have H3 := Lib.hid h3
                have k0 := h3.c0
                clear h3 a0 a2 a3 a4
                go_wp2_with fail
                refine (pipe_len' q.length H3.out rfl).mono ?_
                rintro e w4 ⟨rfl, rfl⟩
                go_wp2_with fail
                obtain ⟨oth, hoth⟩ : ∃ oth : ByteArray, oth = ⟨#[111, 116, 104, 101, 114]⟩ := ⟨_, rfl⟩
                by_cases hql : q.length < k
                · refine (pipe_put W1 w3 P2 R2 B2 k q pa pb pc ⟨#[111, 116, 104, 101, 114]⟩ H3.out hql (by omega)).mono ?_
                  rintro e w5 ⟨rfl, B5, h5⟩
                  rw [← hoth] at h5
                  obtain ⟨y, ys, hys⟩ : ∃ y ys, q ++ [oth] = y :: ys := by
                    cases q with
                    | nil => exact ⟨oth, [], rfl⟩
                    | cons x ql => exact ⟨x, ql ++ [oth], rfl⟩
                  rw [hys] at h5
                  have H5 := Lib.hid h5
                  clear h5 hys hoth k0
                  go_wp2_with fail
                  refine (pipe_take_carry W1 w5 P2 R2 B5 k ys (pa + 1) pb pc y 0 0 0 H5.out (by omega) (by decide) (by decide)).mono ?_
                  rintro e w6 ⟨rfl, B6, h6⟩
                  have H6 := Lib.hid (H0.out.on h6.own.below)
                  clear h6
                  go_wp2_with fail
                  go_meet
                  exact ⟨B, q, pa, pb, pc, rfl, rfl, rfl, by omega, by omega, by omega, HQS, H6⟩
                · as_aux_lemma =>
                    have hqe : q.length = k := by have := H0.out.pw.own.ring.1; omega
                    refine (pipe_put_full W1 w3 P2 R2 B2 k q pa pb pc ⟨#[111, 116, 104, 101, 114]⟩ H3.out hqe).mono ?_
                    rintro e w5 ⟨rfl, B5, h5⟩
                    obtain ⟨y, ys, hys⟩ : ∃ y ys, q = y :: ys := by
                      cases q with
                      | nil => simp at hqe; omega
                      | cons x ql => exact ⟨x, ql, rfl⟩
                    have H5 : Hid (POwn W1 w5 P2 R2 B5 k (y :: ys) pa pb pc) := by rw [← hys]; exact h5
                    clear h5 hys hqe hoth k0
                    go_wp2_with fail
                    refine (pipe_take_carry W1 w5 P2 R2 B5 k ys pa pb pc y 0 0 0 H5.out (by omega) (by decide) (by decide)).mono ?_
                    rintro e w6 ⟨rfl, B6, h6⟩
                    have H6 := Lib.hid (H0.out.on h6.own.below)
                    clear h6
                    go_wp2_with fail
                    go_meet
                    exact ⟨B, q, pa, pb, pc, rfl, rfl, rfl, by omega, by omega, by omega, HQS, H6⟩
            · by_cases hqk : q.length < k
              · as_aux_lemma =>
                  have hlt9 : decide ((q.length : Int) < (k : Int)) = true := decide_eq_true (by omega)
                  have hlt8 : decide (q.length < k) = true := decide_eq_true hqk
                  have he1 : (z1 == 1) = false := beq_eq_false_iff_ne.2 hz1
                  have he2 : (z1 == 2) = false := beq_eq_false_iff_ne.2 hz2
                  have hq4 : q.length ≤ 4096 := by omega
                  clear a2 a3 a4
                  go_wp2_with fail
                  refine (pipe_put' w W1 P R B k q pa pb pc s H0.out.pw hqk (by omega)).mono ?_
                  rintro e w3 ⟨rfl, B3, h3, g3⟩
                  have h4 := H0.out.chg h3 g3
                  have H4 := Lib.hid h4
                  have AR := Lib.hid h4.arg
                  have HQS2 : Hid (∀ t ∈ q ++ [s], t.size ≤ 20) := fun t ht => by
                    rcases List.mem_append.1 ht with ht | ht
                    · exact HQS.out t ht
                    · simp at ht; rw [ht]; exact hsz
                  obtain ⟨i0, hi0, hz0, hz1', hz2'⟩ := info_parts infoE
                  have HI := Lib.hid hi0
                  have HZ0 := Lib.hid hz0
                  have HZ1 := Lib.hid hz1'
                  have HZ2 := Lib.hid hz2'
                  clear h3 g3 h4 a0 hi0 hz0 hz1' hz2'
                  go_wp2_with (at_builtin; refine wpList_copy_new w3 rfl _ _ rfl sp sc q rfl rfl AR.out hq4 ?_)
                  intro v5 w5 hown5 hb5
                  have HOWN5 := Lib.hid hown5
                  have HB5 := Lib.hid hb5
                  have hbs5 : w3.heap.size ≤ w5.heap.size := hb5.size
                  clear hown5 hb5
                  go_wp2_with (at_builtin; refine wpList_append_own_at _ rfl _ _ 33 rfl w3.heap.size 9 i0 (.string ⟨#[]⟩) 1 16 Try.underlying33 HI.out HZ0.out HZ1.out HZ2.out rfl (by decide) _ _ _ rfl (HOWN5.out.alloc _) ⟨w5.heap.size, 0, none⟩ 1 1 [.string s] rfl rfl (World.news_of_block (cs := #[.string s]) (t := 9) (fr := (0, 0)) (Go.heap_alloc_new _ _)) (by simp [Value.oneCell']) (by unfold maxLen; omega) (by omega) (by simp; omega) ?_)
                  intro v6 w6 hown6 hgrow6 _ hat6
                  have h7 : ∃ sp7 sc7, v6 = .slice sp7 (q ++ [s]).length sc7 := by
                    have := row_form hown6
                    simpa using this
                  obtain ⟨sp7, sc7, rfl⟩ := h7
                  have HB6 : Below w3.heap.size w3 w6 := (HB5.out.alloc hbs5 _).grown hgrow6 (by simp; omega) (fun j hj => (row_lt HOWN5.out j hj).1)
                  have H7 : Hid (PL w w6 P R B3 k (q ++ [s]) (pa + 1) pb pc (.slice sp7 (q ++ [s]).length sc7) (q ++ [s])) := H4.out.new HB6 (own_one hown6)
                  clear hown6 hgrow6 hat6 HB6
                  go_wp2_with fail
                  go_meet
                  exact ⟨B3, q ++ [s], pa + 1, pb, pc, by go_num, rfl, rfl, by omega, by omega, by omega, HQS2, H7⟩
              · as_aux_lemma =>
                  have hqe : q.length = k := by have := H0.out.pw.own.ring.1; omega
                  have hlt9 : decide ((q.length : Int) < (k : Int)) = false := decide_eq_false (by omega)
                  have hlt8 : decide (q.length < k) = false := decide_eq_false hqk
                  have he1 : (z1 == 1) = false := beq_eq_false_iff_ne.2 hz1
                  have he2 : (z1 == 2) = false := beq_eq_false_iff_ne.2 hz2
                  have HQE := Lib.hid hqe
                  clear a2 a3 a4 hqe
                  go_wp2_with fail
                  refine (pipe_put_full' w W1 P R B k q pa pb pc s H0.out.pw HQE.out).mono ?_
                  rintro e w3 ⟨rfl, B3, h3, g3⟩
                  have H4 := Lib.hid (H0.out.chg h3 g3)
                  clear h3 g3 a0
                  go_wp2_with fail
                  go_meet
                  exact ⟨B3, q, pa, pb, pc, rfl, rfl, rfl, by omega, by omega, by omega, HQS, H4⟩
        case rest =>
          as_aux_lemma =>
            obtain ⟨B2, q2, pa2, pb2, pc2, rfl, rfl, rfl, hpa2, hpb2, hpc2, HQS2, HP⟩ := hcut
            obtain ⟨sp2, sc2, hv2⟩ := HP.out.form
            subst hv2
            have hqk : q2.length ≤ k := HP.out.pw.own.ring.1
            have hsub : (k : Int) - (q2.length : Int) = (k : Int) - (q2.length : Int) := rfl
            have k0 := HP.out.pw.c0
            go_wp2_with fail
            refine (pl_all HP.out).mono ?_
            rintro e w3 ⟨sp3, sc3, rfl, r3', h3⟩
            have H3 := Lib.hid h3
            have R3 := Lib.hid r3'
            clear h3 r3' HP k0
            go_wp2_with fail
            refine (pipe_counts' w w3 P R B2 k q2 pa2 pb2 pc2 H3.out.pw).mono ?_
            rintro e w4 ⟨rfl, m4, hw4⟩
            have H4 : Hid (PL w w4 P R B2 k q2 pa2 pb2 pc2 (.slice sp2 q2.length sc2) q2) := by rw [hw4]; exact H3.out.on (below_drewN (Below.refl _ _) _)
            have R4 : Hid (ArgRow 1 strV w4 sp3 q2.length q2) := by rw [hw4]; exact R3.out.below (below_drewN (Below.refl _ _) _) (Nat.le_refl _)
            have k0 := H4.out.pw.c0
            clear hw4 H3 R3
            go_wp2_with fail
            refine (pipe_len' q2.length H4.out.pw rfl).mono ?_
            rintro e w5 ⟨rfl, rfl⟩
            go_wp2_with fail
            refine (pipe_room' q2.length H4.out.pw rfl).mono ?_
            rintro e w6 ⟨rfl, m6, hw6⟩
            have H6 : Hid (PL w w6 P R B2 k q2 pa2 pb2 pc2 (.slice sp2 q2.length sc2) q2) := by rw [hw6]; exact H4.out.on (below_drewN (Below.refl _ _) _)
            have R6 : Hid (ArgRow 1 strV w6 sp3 q2.length q2) := by rw [hw6]; exact R4.out.below (below_drewN (Below.refl _ _) _) (Nat.le_refl _)
            clear hw6 H4 R4 k0
            go_wp2_with fail
            go_loopw [24, 223] (fun _ jv wr => ∃ j : Nat, j ≤ q2.length ∧ jv = .int .i64 j ∧ Hid (∃ m, wr = w6.drewN m)) (fun _ jv _ => q2.length - (intOf jv).toNat)
            case atStart => exact ⟨0, by omega, rfl, 0, rfl⟩
            case round =>
              obtain ⟨j, hj, rfl, HMM⟩ := hrel
              by_cases hjl : j < q2.length
              · obtain ⟨b8, off8, rfl, hbw8, hc8⟩ := ArgRow.one R6.out (by omega)
                obtain ⟨b9, off9, rfl, hbw9, hc9⟩ := ArgRow.one H6.out.arg (by omega)
                obtain ⟨x, hx⟩ : ∃ x, q2[j] = x := ⟨_, rfl⟩
                have e8 : wr.cell? ⟨b8, off8 + j, none⟩ = some (.string x) := by obtain ⟨mm, rfl⟩ := HMM.out; exact (hc8 j hjl).trans (congrArg (fun q => some (Value.string q)) hx)
                have e9 : wr.cell? ⟨b9, off9 + j, none⟩ = some (.string x) := by obtain ⟨mm, rfl⟩ := HMM.out; exact (hc9 j hjl).trans (congrArg (fun q => some (Value.string q)) hx)
                have hxx : (x.toList == x.toList) = true := beq_iff_eq.2 rfl
                have hxx2 : (x.toList != x.toList) = false := by rw [bne_eq_false_iff_eq]
                have hj0 : (0 : Int) ≤ (j : Int) := by omega
                have hj1 : (j : Int) < (q2.length : Int) := by omega
                clear hc8 hc9 hx
                go_wp2_with fail
                go_quiet (fail)
                go_wp2_with fail
                go_roundw
                case rel => exact ⟨j + 1, by omega, by go_num, drewN_more HMM.out _⟩
                case measure => simp [intOf]; omega
              · have hje : j = q2.length := by omega
                have HP7 : Hid (PL w wr P R B2 k q2 pa2 pb2 pc2 (.slice sp2 q2.length sc2) q2) := by
                  obtain ⟨mm, hm⟩ := HMM.out
                  rw [hm]; exact H6.out.on (below_drewN (Below.refl _ _) _)
                clear hje
                go_wp2_with fail
                go_roundw
                case rel => exact ⟨i + 1, B2, q2, pa2, pb2, pc2, by omega, by omega, by go_num, rfl, rfl, rfl, by omega, by omega, by omega, HQS2, HP7⟩
                case measure => simp [intOf]; omega
      · have hieq : i = 120 := by omega
        have HBB := Lib.hid (HB.out.trans (HP.out.below.mono HB.out.size))
        go_wp2_with fail
        go_ret
        exact ⟨rfl, HBB.out⟩
    · have hieq : i = n := by omega
      have HBB := Lib.hid (HB.out.trans (HP.out.below.mono HB.out.size))
      go_wp2_with fail
      go_ret
      exact ⟨rfl, HBB.out⟩
theorem pplays_law (w : World) (most : Int) (_wf : (Lit.int .i64 most).wf = true) (a : Option Addr) (n cap : Nat) (l : List ActP) (h : ArgRow 5 actP w a n l) (hn : n * 48 ≤ 140737488351232) :
    Calls Try.prog 17 #[.int .i64 most, .slice a n cap] w fun e w' => e = .returned (.bool true) ∧ Below w.heap.size w w' := by
  obtain ⟨r1, h1⟩ : ∃ r : Int, (if (256 : Int) < most then 256 else most) = r := ⟨_, rfl⟩
  have hr : r1 ≤ 256 := by rw [← h1]; split <;> omega
  obtain ⟨k, hk, hk1, hk2⟩ : ∃ k : Nat, (if (1 : Int) < r1 then r1 else 1) = (k : Int) ∧ 1 ≤ k ∧ k ≤ 256 := by
    split
    · exact ⟨r1.toNat, by omega, by omega, by omega⟩
    · exact ⟨1, rfl, by omega, by omega⟩
  exact pplaysLaw most r1 k a n cap l w h (by omega) h1 hk hk2 hk1
end Go.Proofs.Ytljncbbajhoocaa.Pipe
