/-
The walk of PipeOrder: what isn't lost or spoilt comes as it was, in its order: the law returns true. No condition but the rows' own bounds.
-/
import Derived.Test.YtljncbbajhoocaaPipe4
namespace Go.Proofs.Ytljncbbajhoocaa.Pipe
open Go.RowKit Go.Proofs.Ytljncbbajhoocaa.Args Go.Proofs.Ytljncbbajhoocaa.RingS Go.Proofs.Ytljncbbajhoocaa.Crc
open Go.Proofs.YtljncbbajhoocaaW.PrintMore
attribute [local go_sem] max2_int min2_int max_two min_two

abbrev ChT := Int × Int × Int
def chV (x : ChT) : List Value := [.int .i64 x.1, .int .i64 x.2.1, .int .u32 x.2.2]
/-- What is wanted of the first i. -/
def wantTo (kp : Nat → Bool) (cs : List ByteArray) (i : Nat) : List ByteArray := ((List.range i).filter kp).map (fun j => cs.getD j ByteArray.empty)
theorem want_keep {kp : Nat → Bool} {cs : List ByteArray} {i : Nat} (hi : i < cs.length) (h : kp i = true) {c : ByteArray} (hc : cs[i] = c) : wantTo kp cs (i + 1) = wantTo kp cs i ++ [c] := by
  unfold wantTo
  rw [List.range_succ, List.filter_append, List.map_append]
  simp [h, List.getD_eq_getElem?_getD, List.getElem?_eq_getElem hi, hc]
theorem want_skip {kp : Nat → Bool} {cs : List ByteArray} {i : Nat} (h : kp i = false) : wantTo kp cs (i + 1) = wantTo kp cs i := by
  unfold wantTo
  rw [List.range_succ, List.filter_append, List.map_append]
  simp [h]
theorem want_le (kp : Nat → Bool) (cs : List ByteArray) (i : Nat) : (wantTo kp cs i).length ≤ i := by
  unfold wantTo
  rw [List.length_map]
  exact Nat.le_trans (List.length_filter_le _ _) (by simp)
theorem want_pre (kp : Nat → Bool) (cs : List ByteArray) (i d : Nat) : ∃ r, wantTo kp cs (i + d) = wantTo kp cs i ++ r := by
  induction d with
  | zero => exact ⟨[], by simp⟩
  | succ d ih =>
    obtain ⟨r, hr⟩ := ih
    unfold wantTo at *
    rw [show i + (d + 1) = (i + d) + 1 by omega, List.range_succ, List.filter_append, List.map_append, hr, List.append_assoc]
    exact ⟨_, rfl⟩
theorem want_at {kp : Nat → Bool} {cs : List ByteArray} {i n : Nat} (hi : i < cs.length) (hn : i < n) (h : kp i = true) {c : ByteArray} (hc : cs[i] = c) {kk : Nat} (hk : (wantTo kp cs i).length = kk) : ∃ h : kk < (wantTo kp cs n).length, (wantTo kp cs n)[kk] = c := by
  obtain ⟨r, hr⟩ := want_pre kp cs (i + 1) (n - (i + 1))
  rw [show i + 1 + (n - (i + 1)) = n by omega, want_keep hi h hc, List.append_assoc] at hr
  have hl : kk < (wantTo kp cs n).length := by rw [hr, List.length_append]; simp; omega
  refine ⟨hl, ?_⟩
  have h1 : (wantTo kp cs n)[kk]? = some c := by rw [hr, ← hk, List.getElem?_append_right (Nat.le_refl _)]; simp
  rw [List.getElem?_eq_getElem hl] at h1
  exact Option.some.inj h1
theorem PW.setX {w wr : World} {P R : Nat} {B : Option Nat} {k : Nat} {q ws : List ByteArray} {a b c : Nat} {v : Value} (h : PW w wr P R B k q a b c v ws) {X : Nat} (hX : w.heap.size ≤ X) (hf : ¬ (X = P ∨ X = R ∨ some X = B)) (hv : ∀ j, v.ownBlock = some j → j ≠ X) (j : Nat) (u : Value) : PW w (wr.setCell ⟨X, j, none⟩ u) P R B k q a b c v ws := by
  have hb : ∀ i, i ≠ X → (wr.setCell ⟨X, j, none⟩ u).heap[i]? = wr.heap[i]? := fun i hi => Below.heap_setCell wr ⟨X, j, none⟩ u i (fun e => hi e)
  have hs : (wr.setCell ⟨X, j, none⟩ u).heap.size = wr.heap.size := by simp [World.setCell]
  refine ⟨⟨⟨h.pw.own.ring.on (hb R (fun e => hf (.inr (.inl e.symm)))) (fun d hd => hb d (fun e => hf (.inr (.inr (by rw [hd, e]))))), h.pw.own.below.setCell hX _, h.pw.own.newR, h.pw.own.newB⟩, (hb P (fun e => hf (.inl e.symm))).trans h.pw.blk, h.pw.newP, h.pw.far⟩, ?_, h.far⟩
  refine ⟨h.row.1, ?_⟩
  rcases h.row.2 with h2 | ⟨g, cap, cur, hg, hgb, hh, r⟩
  · exact .inl h2
  · exact .inr ⟨g, cap, cur, hg, hgb, (hb g (hv g (by rw [hg]; rfl))).trans hh, r⟩
theorem PW.arg {w wr : World} {P R : Nat} {B : Option Nat} {k : Nat} {q ws : List ByteArray} {a b c n sc : Nat} {sp : Option Addr} (h : PW w wr P R B k q a b c (.slice sp n sc) ws) (hl : ws.length = n) : ArgRow 1 (fun s => [Value.string s]) wr sp n ws := by
  subst hl; exact row_arg h.row
theorem PW.boxed {w wr : World} {P R : Nat} {B : Option Nat} {k : Nat} {q ws : List ByteArray} {a b c : Nat} {v : Value} (h : PW w wr P R B k q a b c v ws) : w.heap.size ≤ wr.heap.size ∧ ¬ (wr.heap.size = P ∨ wr.heap.size = R ∨ some wr.heap.size = B) ∧ ∀ j, v.ownBlock = some j → j ≠ wr.heap.size := by
  refine ⟨h.below.size, fun hk => ?_, fun j hj e => ?_⟩
  · rcases hk with hk | hk
    · have := h.pw.lt; omega
    · exact box_far h.pw hk
  · have := (row_lt h.row j hj).2; omega

set_option maxHeartbeats 8000000 in
set_option maxRecDepth 100000 in
theorem orderLaw (a : Option Addr) (n cap nn : Nat) (zs : List ByteArray) (a2 : Option Addr) (n2 cap2 : Nat) (chs : List ChT) (cs : List ByteArray) (kp : Nat → Bool) (w0 : World) (ha : Hid (ArgRow 1 (fun s => [Value.string s]) w0 a n zs)) (hn : n ≤ 140737488355328) (ha2 : Hid (ArgRow 3 chV w0 a2 n2 chs)) (hn2 : n2 ≤ 9223372036854775807)
    (hm : (if (150 : Int) < (n : Int) then (150 : Int) else (n : Int)) = (nn : Int)) (hnn : nn ≤ n) (hnn2 : nn ≤ 150) (hcs : Hid (cs = zs.map (fun z => cutB z 20))) (Hkp : Hid (∀ i, kp i = if i < chs.length then (chs.getD i (0, 0, 0)).1 != 1 && (chs.getD i (0, 0, 0)).1 != 2 else true)) :
    Calls Try.prog 15 #[.slice a n cap, .slice a2 n2 cap2] w0 fun e w' => e = .returned (.bool true) ∧ Below w0.heap.size w0 w' := by
  obtain ⟨i0, hi, hz0, hz1, hz2⟩ := info_parts infoE
  have HI := Lib.hid hi
  have HZ0 := Lib.hid hz0
  have HZ1 := Lib.hid hz1
  have HZ2 := Lib.hid hz2
  have HM : Hid ((if (n : Int) > 150 then (150 : Int) else (n : Int)) = (nn : Int)) := hm
  have HCL : Hid (cs.length = n) := by unfold Hid; rw [hcs.out, List.length_map, ha.out.len]
  clear hi hz0 hz1 hz2
  go_enter Try.func15, Try.ntmps15
  go_wp2_with fail
  refine (awake_calls2 w0).mono ?_
  rintro e w ⟨rfl, hb⟩
  have HB := Lib.hid hb
  clear hb
  go_wp2_with fail
  refine (new_calls2 200 200 200 w w (Below.refl _ _) (by decide) (by decide) (by omega)).mono ?_
  rintro e w2 ⟨P, R, rfl, h2⟩
  have HO0 : Hid (PW w w2 P R none 200 [] 0 0 0 (.slice none 0 0) []) := ⟨h2, World.ownsRow_nil _ _ _ _, fun b hb => by cases hb⟩
  clear h2
  go_wp2_with fail
  go_loopw [7, 8, 27] (fun v7 _ iv wr => ∃ (i : Nat) (B : Option Nat), i ≤ nn ∧ iv = .int .i64 i ∧ Hid (PW w wr P R B 200 (cs.take i) i 0 0 v7 (wantTo kp cs i))) (fun _ _ iv _ => nn - (intOf iv).toNat)
  case atStart => exact ⟨0, none, by omega, rfl, HO0⟩
  case round =>
    obtain ⟨i, B, hin, rfl, HP⟩ := hrel
    by_cases hlt : i < nn
    · obtain ⟨b, off, rfl, hbw, hc⟩ := ArgRow.one ha.out (by omega)
      have hiz : i < zs.length := by rw [ha.out.len]; omega
      have hic : i < cs.length := by rw [HCL.out]; omega
      obtain ⟨z, hz⟩ : ∃ z, zs[i] = z := ⟨_, rfl⟩
      obtain ⟨c, hcc⟩ : ∃ c, cutB z 20 = c := ⟨_, rfl⟩
      have HC : Hid (cutB z (20 : Int).toNat = c) := hcc
      have hci : cs[i] = c := by
        have h1 : cs[i]? = some c := by rw [hcs.out, List.getElem?_map, List.getElem?_eq_getElem hiz, hz, ← hcc]; rfl
        rw [List.getElem?_eq_getElem hic] at h1
        exact Option.some.inj h1
      have HCS : Hid (cs.take (i + 1) = cs.take i ++ [c]) := by unfold Hid; rw [List.take_succ_eq_append_getElem hic, hci]
      have hcw : w.cell? ⟨b, off + i, none⟩ = some (.string z) := by
        rw [HB.out.cell (p := ⟨b, off + i, none⟩) hbw, hc i hiz, hz]
      have HCW := Lib.hid hcw
      have hcell := (HP.out.below.cell (p := ⟨b, off + i, none⟩) (Nat.lt_of_lt_of_le hbw HB.out.size)).trans hcw
      have hbww : b < w.heap.size := Nat.lt_of_lt_of_le hbw HB.out.size
      have HKTF : Hid (kp i = true → wantTo kp cs (i + 1) = wantTo kp cs i ++ [c]) := fun h => want_keep hic h hci
      have HWL := Lib.hid (want_le kp cs i)
      clear hc hz hcw hiz hic hcc hci hbw
      by_cases hi2 : i < n2
      · obtain ⟨b2, off2, rfl, hbw2, hc2⟩ := ha2.out.form (by omega)
        have hil2 : i < chs.length := by rw [ha2.out.len]; exact hi2
        obtain ⟨y, hy⟩ : ∃ y, chs[i] = y := ⟨_, rfl⟩
        have HKE : Hid (kp i = (y.1 != 1 && y.1 != 2)) := by unfold Hid; rw [Hkp.out i, if_pos hil2, List.getD_eq_getElem?_getD, List.getElem?_eq_getElem hil2, hy]; rfl
        have hy0 : w0.cell? ⟨b2, off2 + i * 3, none⟩ = some (.int .i64 y.1) := hc2 i hil2 0 _ (by rw [hy]; rfl)
        have hy1 : w0.cell? ⟨b2, off2 + i * 3 + 1, none⟩ = some (.int .i64 y.2.1) := hc2 i hil2 1 _ (by rw [hy]; rfl)
        have hy2 : w0.cell? ⟨b2, off2 + i * 3 + 2, none⟩ = some (.int .u32 y.2.2) := hc2 i hil2 2 _ (by rw [hy]; rfl)
        have HY0 := Lib.hid hy0
        have HY1 := Lib.hid hy1
        have HY2 := Lib.hid hy2
        have hbww2 : b2 < w.heap.size := Nat.lt_of_lt_of_le hbw2 HB.out.size
        have HW2 : Hid (∀ j, w.cell? ⟨b2, j, none⟩ = w0.cell? ⟨b2, j, none⟩) := fun j => HB.out.cell (p := ⟨b2, j, none⟩) hbw2
        clear hc2 hy hil2 hy0 hy1 hy2
        obtain ⟨y0, y1, y2⟩ := y
        have hdi : decide (n2 ≤ i) = false := decide_eq_false (by omega)
        have hdi2 : decide ((n2 : Int) ≤ (i : Int)) = false := decide_eq_false (by omega)
        go_wp2_with fail
        refine (cut_to 20 z c wr HC (.inr rfl)).mono ?_
        rintro e w3 ⟨rfl, m3, rfl⟩
        go_wp2_with fail
        refine (pipe_put' w _ P R B 200 (cs.take i) i 0 0 c (HP.out.pw.on (below_drewN (Below.refl _ _) _)) (by rw [List.length_take]; omega) (by omega)).mono ?_
        rintro e w4 ⟨rfl, B4, h4, g4⟩
        have HP4 : Hid (PW w w4 P R B4 200 (cs.take (i + 1)) (i + 1) 0 0 u7 (wantTo kp cs i)) := by
          have h5 := (HP.out.on (below_drewN (Below.refl _ _) m3)).chg h4 g4
          rw [← HCS.out] at h5
          exact h5
        have hbs4 : w.heap.size ≤ w4.heap.size := HP4.out.below.size
        have HB4 := Lib.hid HP4.out.below
        have hcell4 := (HB4.out.cell (p := ⟨b, off + i, none⟩) hbww).trans HCW.out
        clear h4 g4 hcell
        have hq0 := (HB4.out.cell (p := ⟨b2, off2 + i * 3, none⟩) hbww2).trans ((HW2.out _).trans HY0.out)
        by_cases hk1 : y0 = 1
        · subst hk1
          have HKF : Hid (wantTo kp cs (i + 1) = wantTo kp cs i) := want_skip (by rw [HKE.out]; rfl)
          clear HKE HKTF
          go_wp2_with fail
          go_roundw
          case rel => exact ⟨i + 1, B4, by omega, by go_num, by unfold Hid; rw [HKF.out]; exact HP4.out⟩
          case measure => simp [intOf]; omega
        · by_cases hk2 : y0 = 2
          · subst hk2
            have HKF : Hid (wantTo kp cs (i + 1) = wantTo kp cs i) := want_skip (by rw [HKE.out]; rfl)
            clear HKE HKTF
            go_wp2_with fail
            go_roundw
            case rel => exact ⟨i + 1, B4, by omega, by go_num, by unfold Hid; rw [HKF.out]; exact HP4.out⟩
            case measure => simp [intOf]; omega
          · have hn1 : (y0 != 1) = true := bne_iff_ne.2 hk1
            have hn2' : (y0 != 2) = true := bne_iff_ne.2 hk2
            have HKT : Hid (wantTo kp cs (i + 1) = wantTo kp cs i ++ [c]) := HKTF.out (by rw [HKE.out]; show (y0 != 1 && y0 != 2) = true; rw [hn1, hn2']; rfl)
            clear HKE HKTF
            go_wp2_with fail
            refine (cut_to 20 z c _ HC (.inr rfl)).mono ?_
            rintro e w5 ⟨rfl, m5, rfl⟩
            go_wp2_with (at_builtin; refine wpList_append_own_at _ rfl _ _ 33 rfl w.heap.size 9 i0 (.string ⟨#[]⟩) 1 16 Try.underlying33 HI.out HZ0.out HZ1.out HZ2.out rfl (by decide) _ _ _ rfl ((HP4.out.on (below_drewN (Below.refl _ _) m5)).row.alloc _) ⟨w4.heap.size, 0, none⟩ 1 1 [.string c] rfl rfl (World.news_of_block (cs := #[.string c]) (t := 9) (fr := (0, 0)) (Go.heap_alloc_new _ _)) (by simp [Value.oneCell']) (by unfold maxLen; have := HWL.out; omega) (by have := HWL.out; omega) (by simp; omega) ?_)
            intro v8 w6 hown6 hgrow6 _ hat6
            have HP6 : Hid (PW w w6 P R B4 200 (cs.take (i + 1)) (i + 1) 0 0 v8 (wantTo kp cs (i + 1))) := by
              have h7 := ((HP4.out.on (below_drewN (Below.refl _ _) m5)).on ((Below.refl _ _).alloc (Nat.le_refl _) (.cells #[.string c] 9))).app (ys := [c]) hgrow6 hown6 (by simpa using hat6)
              unfold Hid
              rw [HKT.out]
              exact h7
            clear hgrow6 hown6 hat6
            go_wp2_with fail
            go_roundw
            case rel => exact ⟨i + 1, B4, by omega, by go_num, HP6⟩
            case measure => simp [intOf]; omega
      · have hdi : decide (n2 ≤ i) = true := decide_eq_true (by omega)
        have hdi2 : decide ((n2 : Int) ≤ (i : Int)) = true := decide_eq_true (by omega)
        have HKT : Hid (wantTo kp cs (i + 1) = wantTo kp cs i ++ [c]) := HKTF.out (by rw [Hkp.out i, if_neg (by rw [ha2.out.len]; omega)])
        clear HKTF
        go_wp2_with fail
        refine (cut_to 20 z c wr HC (.inr rfl)).mono ?_
        rintro e w3 ⟨rfl, m3, rfl⟩
        go_wp2_with fail
        refine (pipe_put' w _ P R B 200 (cs.take i) i 0 0 c (HP.out.pw.on (below_drewN (Below.refl _ _) _)) (by rw [List.length_take]; omega) (by omega)).mono ?_
        rintro e w4 ⟨rfl, B4, h4, g4⟩
        have HP4 : Hid (PW w w4 P R B4 200 (cs.take (i + 1)) (i + 1) 0 0 u7 (wantTo kp cs i)) := by
          have h5 := (HP.out.on (below_drewN (Below.refl _ _) m3)).chg h4 g4
          rw [← HCS.out] at h5
          exact h5
        have hbs4 : w.heap.size ≤ w4.heap.size := HP4.out.below.size
        have HB4 := Lib.hid HP4.out.below
        have hcell4 := (HB4.out.cell (p := ⟨b, off + i, none⟩) hbww).trans HCW.out
        clear h4 g4 hcell
        go_wp2_with fail
        refine (cut_to 20 z c _ HC (.inr rfl)).mono ?_
        rintro e w5 ⟨rfl, m5, rfl⟩
        go_wp2_with (at_builtin; refine wpList_append_own_at _ rfl _ _ 33 rfl w.heap.size 9 i0 (.string ⟨#[]⟩) 1 16 Try.underlying33 HI.out HZ0.out HZ1.out HZ2.out rfl (by decide) _ _ _ rfl ((HP4.out.on (below_drewN (Below.refl _ _) m5)).row.alloc _) ⟨w4.heap.size, 0, none⟩ 1 1 [.string c] rfl rfl (World.news_of_block (cs := #[.string c]) (t := 9) (fr := (0, 0)) (Go.heap_alloc_new _ _)) (by simp [Value.oneCell']) (by unfold maxLen; have := HWL.out; omega) (by have := HWL.out; omega) (by simp; omega) ?_)
        intro v8 w6 hown6 hgrow6 _ hat6
        have HP6 : Hid (PW w w6 P R B4 200 (cs.take (i + 1)) (i + 1) 0 0 v8 (wantTo kp cs (i + 1))) := by
          have h7 := ((HP4.out.on (below_drewN (Below.refl _ _) m5)).on ((Below.refl _ _).alloc (Nat.le_refl _) (.cells #[.string c] 9))).app (ys := [c]) hgrow6 hown6 (by simpa using hat6)
          unfold Hid
          rw [HKT.out]
          exact h7
        clear hgrow6 hown6 hat6
        go_wp2_with fail
        go_roundw
        case rel => exact ⟨i + 1, B4, by omega, by go_num, HP6⟩
        case measure => simp [intOf]; omega
    · have hie : i = nn := by omega
      subst hie
      have HW9 : Hid (∃ sp sc, u7 = .slice sp (wantTo kp cs i).length sc) := row_form HP.out.row
      obtain ⟨wn, hwn⟩ : ∃ wn, (wantTo kp cs i).length = wn := ⟨_, rfl⟩
      have HWN := Lib.hid hwn
      have hwn150 : wn ≤ 150 := by rw [← hwn]; have := want_le kp cs i; omega
      obtain ⟨sp, sc, hv7⟩ := HW9.out
      rw [hwn] at hv7
      subst hv7
      obtain ⟨ds, hds⟩ : ∃ ds, cs.take i = ds := ⟨_, rfl⟩
      have HP0 := HP
      rw [hds] at HP0
      have HDS := Lib.hid hds
      have HDL : Hid (ds.length = i) := by unfold Hid; rw [← hds, List.length_take, HCL.out]; omega
      obtain ⟨nn, hie2⟩ : ∃ nn, i = nn := ⟨_, rfl⟩
      subst hie2
      clear HP hds
      clear hwn HW9
      go_wp2_with fail
      go_loopw [9, 10, 11, 12, 13, 14, 67] (fun kv _ _ _ _ _ iv wr => ∃ (j kk : Nat) (B : Option Nat) (pb pc : Nat), j ≤ i ∧ iv = .int .i64 j ∧ kv = .int .i64 kk ∧ Hid (pb + pc = j) ∧ kk ≤ pb ∧ Hid ((wantTo kp cs j).length = kk) ∧ Hid (PW w wr P R B 200 (ds.drop j) i pb pc (.slice sp wn sc) (wantTo kp cs i))) (fun _ _ _ _ _ _ iv _ => i - (intOf iv).toNat)
      case atStart => exact ⟨0, 0, B, 0, 0, by omega, rfl, rfl, rfl, by omega, rfl, HP0⟩
      case round =>
        obtain ⟨j, kk, B, pb, pc, hji, rfl, rfl, HBC, hkb, HKK, HP⟩ := hrel
        by_cases hlt : j < i
        · have hjd : j < ds.length := by rw [HDL.out]; exact hlt
          have hjz : j < zs.length := by rw [ha.out.len]; omega
          have hjc : j < cs.length := by rw [HCL.out]; omega
          obtain ⟨x, hx⟩ : ∃ x, cs[j] = x := ⟨_, rfl⟩
          have hxz : x.size ≤ 20 := by
            have h1 : cs[j]? = some (cutB zs[j] 20) := by rw [hcs.out, List.getElem?_map, List.getElem?_eq_getElem hjz]; rfl
            rw [List.getElem?_eq_getElem hjc, hx] at h1
            rw [Option.some.inj h1]; exact cut_size _ _
          have HDR : Hid (ds.drop j = x :: ds.drop (j + 1)) := by
            unfold Hid
            rw [List.drop_eq_getElem_cons hjd]
            congr 1
            have h1 : ds[j]? = cs[j]? := by rw [← HDS.out, List.getElem?_take_of_lt hlt]
            rw [List.getElem?_eq_getElem hjd, List.getElem?_eq_getElem hjc, hx] at h1
            exact Option.some.inj h1
          have HKTF : Hid (kp j = true → wantTo kp cs (j + 1) = wantTo kp cs j ++ [x] ∧ kk < wn ∧ ∃ h : kk < (wantTo kp cs i).length, (wantTo kp cs i)[kk] = x) := fun h => by
            obtain ⟨h1, h2⟩ := want_at hjc hlt h hx HKK.out
            exact ⟨want_keep hjc h hx, by rw [← HWN.out]; exact h1, h1, h2⟩
          have hpbj : pb ≤ j := by have := HBC.out; omega
          have hpcj : pc ≤ j := by have := HBC.out; omega
          obtain ⟨X, hX⟩ : ∃ X, X = wr.heap.size := ⟨_, rfl⟩
          obtain ⟨bx1, bx2, bx3⟩ := HP.out.boxed
          rw [← hX] at bx1 bx2 bx3
          have HXW := Lib.hid bx1
          have HXF := Lib.hid bx2
          have HXV := Lib.hid bx3
          have HX := Lib.hid hX
          have HP2 : Hid (PW w (wr.alloc (.cells #[.int .i64 0, .int .i64 0, .int .u32 0] 77)) P R B 200 (ds.drop j) i pb pc (.slice sp wn sc) (wantTo kp cs i)) := HP.out.on ((Below.refl _ _).alloc (Nat.le_refl _) _)
          clear hjd hjz hjc hx hX bx1 bx2 bx3
          by_cases hi2 : j < n2
          · obtain ⟨b2, off2, rfl, hbw2, hc2⟩ := ha2.out.form (by omega)
            have hil2 : j < chs.length := by rw [ha2.out.len]; exact hi2
            obtain ⟨y, hy⟩ : ∃ y, chs[j] = y := ⟨_, rfl⟩
            have HKE : Hid (kp j = (y.1 != 1 && y.1 != 2)) := by unfold Hid; rw [Hkp.out j, if_pos hil2, List.getD_eq_getElem?_getD, List.getElem?_eq_getElem hil2, hy]; rfl
            have hy0 : w0.cell? ⟨b2, off2 + j * 3, none⟩ = some (.int .i64 y.1) := hc2 j hil2 0 _ (by rw [hy]; rfl)
            have hy1 : w0.cell? ⟨b2, off2 + j * 3 + 1, none⟩ = some (.int .i64 y.2.1) := hc2 j hil2 1 _ (by rw [hy]; rfl)
            have hy2 : w0.cell? ⟨b2, off2 + j * 3 + 2, none⟩ = some (.int .u32 y.2.2) := hc2 j hil2 2 _ (by rw [hy]; rfl)
            have HY0 := Lib.hid hy0
            have HY1 := Lib.hid hy1
            have HY2 := Lib.hid hy2
            have hbww2 : b2 < w.heap.size := Nat.lt_of_lt_of_le hbw2 HB.out.size
            have HW2 : Hid (∀ j, w.cell? ⟨b2, j, none⟩ = w0.cell? ⟨b2, j, none⟩) := fun j => HB.out.cell (p := ⟨b2, j, none⟩) hbw2
            clear hc2 hy hil2 hy0 hy1 hy2
            obtain ⟨y0, y1, y2⟩ := y
            have hdi : decide (j < n2) = true := decide_eq_true hi2
            have hdi2 : decide ((j : Int) < (n2 : Int)) = true := decide_eq_true (by omega)
            have hq0 := (HP2.out.below.cell (p := ⟨b2, off2 + j * 3, none⟩) hbww2).trans ((HW2.out _).trans HY0.out)
            have hq1 := (HP2.out.below.cell (p := ⟨b2, off2 + j * 3 + 1, none⟩) hbww2).trans ((HW2.out _).trans HY1.out)
            have hq2 := (HP2.out.below.cell (p := ⟨b2, off2 + j * 3 + 2, none⟩) hbww2).trans ((HW2.out _).trans HY2.out)
            obtain ⟨r1, r2, hr1, hr2, hlo, hhi⟩ := near_at y1
            go_wp2_with fail
            refine (near_calls y0 y1 y2 r1 r2 _ hr1.out hr2.out).mono ?_
            rintro e w3 ⟨rfl, hb3⟩
            have HP3 := Lib.hid (HP2.out.on hb3)
            rw [← HX.out]
            have hbx : w3.heap[X]? = some (.cells #[.int .i64 0, .int .i64 0, .int .u32 0] 77 (0, 0)) := by
              rw [HX.out]; exact (hb3.block _ (by simp)).trans (Go.heap_alloc_new _ _)
            have HBX0 := Lib.hid hbx
            have x0 : w3.cell? ⟨X, 0, none⟩ = some (.int .i64 0) := by rw [cell_of_row _ _ _ _ _ _ hbx]; rfl
            have x1 : w3.cell? ⟨X, 1, none⟩ = some (.int .i64 0) := by rw [cell_of_row _ _ _ _ _ _ hbx]; rfl
            have x2 : w3.cell? ⟨X, 2, none⟩ = some (.int .u32 0) := by rw [cell_of_row _ _ _ _ _ _ hbx]; rfl
            have f0 : w3.frozen? ⟨X, 0, none⟩ = false := frozen_of_row _ _ _ _ _ hbx
            have f1 : w3.frozen? ⟨X, 1, none⟩ = false := frozen_of_row _ _ _ _ _ hbx
            have f2 : w3.frozen? ⟨X, 2, none⟩ = false := frozen_of_row _ _ _ _ _ hbx
            clear hb3 hbx hq0 hq1 hq2
            go_wp2_with fail
            refine calls_world (F := fun W => PW w W P R B 200 (ds.drop j) i pb pc (.slice sp wn sc) (wantTo kp cs i) ∧ Box W X y0 r2 y2) ⟨((HP3.out.setX HXW.out HXF.out HXV.out 0 _).setX HXW.out HXF.out HXV.out 1 _).setX HXW.out HXF.out HXV.out 2 _, heap_setCell_same _ _ _ _ _ _ (heap_setCell_same _ _ _ _ _ _ (heap_setCell_same _ _ _ _ _ _ HBX0.out))⟩ ?_
            rintro W ⟨hPW, hbx⟩
            clear HP3 HBX0 x0 x1 x2 f0 f1 f2
            have HP3 := Lib.hid hPW
            have HBX := Lib.hid hbx
            have HXL : Hid (X < W.heap.size) := (Array.getElem?_eq_some_iff.1 hbx).1
            clear hPW hbx
            by_cases hk1 : y0 = 1
            · subst hk1
              have HKF : Hid (wantTo kp cs (j + 1) = wantTo kp cs j) := want_skip (by rw [HKE.out]; rfl)
              clear HKE HKTF
              refine (pipe_take_lose' w W P R B 200 (ds.drop (j + 1)) i pb pc x r2 y2 (by rw [← HDR.out]; exact HP3.out.pw) (by omega)).mono ?_
              rintro e w4 ⟨rfl, B4, h4, g4⟩
              have HP4 := Lib.hid (HP3.out.chg h4 g4)
              have hbx4 : Hid (Box w4 X 1 r2 y2) := (g4.mod.block X HXL.out (fun hk => HXF.out hk)).trans HBX.out
              obtain ⟨x0, x1, x2⟩ := hbx4.out.cells (Below.refl _ _)
              clear h4 g4
              go_wp2_with fail
              go_roundw
              case rel => exact ⟨j + 1, kk, B4, pb, pc + 1, by omega, by go_num, rfl, by have := HBC.out; unfold Hid; omega, by omega, by unfold Hid; rw [HKF.out, HKK.out], HP4⟩
              case measure => simp [intOf]; omega
            · by_cases hk2 : y0 = 2
              · subst hk2
                have HKF : Hid (wantTo kp cs (j + 1) = wantTo kp cs j) := want_skip (by rw [HKE.out]; rfl)
                clear HKE HKTF
                refine (pipe_take_spoil' w W P R B 200 (ds.drop (j + 1)) i pb pc x r2 y2 (by rw [← HDR.out]; exact HP3.out.pw) (by omega) (by omega) (by omega) (by omega) (by omega) _ rfl).mono ?_
                rintro e w4 ⟨rfl, B4, g4, h4⟩
                obtain ⟨pb', pc', hbc', hpb', h5⟩ : ∃ pb' pc', Hid (pb' + pc' = j + 1) ∧ kk ≤ pb' ∧ POwn w w4 P R B4 200 (ds.drop (j + 1)) i pb' pc' := by
                  rcases h4 with ⟨_, h4⟩ | ⟨_, h4⟩
                  · exact ⟨_, _, by have := HBC.out; unfold Hid; omega, by omega, h4⟩
                  · exact ⟨_, _, by have := HBC.out; unfold Hid; omega, by omega, h4⟩
                have HP4 := Lib.hid (HP3.out.chg h5 g4)
                have hbx4 : Hid (Box w4 X 2 r2 y2) := (g4.mod.block X HXL.out (fun hk => HXF.out hk)).trans HBX.out
                obtain ⟨x0, x1, x2⟩ := hbx4.out.cells (Below.refl _ _)
                clear h4 g4 h5
                go_wp2_with fail
                go_roundw
                case rel => exact ⟨j + 1, kk, B4, pb', pc', by omega, by go_num, rfl, hbc', by omega, by unfold Hid; rw [HKF.out, HKK.out], HP4⟩
                case measure => simp [intOf]; omega
              · have hn1 : (y0 != 1) = true := bne_iff_ne.2 hk1
                have hn2' : (y0 != 2) = true := bne_iff_ne.2 hk2
                have he1 : (y0 == 1) = false := beq_eq_false_iff_ne.2 hk1
                have he2 : (y0 == 2) = false := beq_eq_false_iff_ne.2 hk2
                obtain ⟨HKT0, hkn, HKX0⟩ := HKTF.out (by rw [HKE.out]; show (y0 != 1 && y0 != 2) = true; rw [hn1, hn2']; rfl)
                have HKT := Lib.hid HKT0
                have HKX := Lib.hid HKX0
                clear HKT0 HKX0 HKE HKTF
                refine (pipe_take_carry' w W P R B 200 (ds.drop (j + 1)) i pb pc x y0 r2 y2 (by rw [← HDR.out]; exact HP3.out.pw) (by omega) he1 he2).mono ?_
                rintro e w4 ⟨rfl, B4, h4, g4⟩
                have HP4 := Lib.hid (HP3.out.chg h4 g4)
                have hbx4 : Hid (Box w4 X y0 r2 y2) := (g4.mod.block X HXL.out (fun hk => HXF.out hk)).trans HBX.out
                obtain ⟨x0, x1, x2⟩ := hbx4.out.cells (Below.refl _ _)
                clear h4 g4
                obtain ⟨b8, off8, rfl, hbw8, hc8⟩ := ArgRow.one (HP4.out.arg HWN.out) (by omega)
                have hcw8 : w4.cell? ⟨b8, off8 + kk, none⟩ = some (.string x) := by
                  obtain ⟨h1, h2⟩ := HKX.out
                  rw [hc8 kk h1, h2]
                have hxx : (x.toList == x.toList) = true := beq_iff_eq.2 rfl
                have hxx2 : (x.toList != x.toList) = false := by rw [bne_eq_false_iff_eq]
                have hlk : decide (wn ≤ kk) = false := decide_eq_false (by omega)
                clear hc8 hbw8
                go_wp2_with fail
                go_roundw
                case rel => exact ⟨j + 1, kk + 1, B4, pb + 1, pc, by omega, by go_num, by go_num, by have := HBC.out; unfold Hid; omega, by omega, by unfold Hid; rw [HKT.out, List.length_append, HKK.out]; rfl, HP4⟩
                case measure => simp [intOf]; omega
          · have hdi : decide (j < n2) = false := decide_eq_false hi2
            have hdi2 : decide ((j : Int) < (n2 : Int)) = false := decide_eq_false (by omega)
            obtain ⟨HKT0, hkn, HKX0⟩ := HKTF.out (by rw [Hkp.out j, if_neg (by rw [ha2.out.len]; omega)])
            have HKT := Lib.hid HKT0
            have HKX := Lib.hid HKX0
            clear HKT0 HKX0
            go_wp2_with fail
            rw [← HX.out]
            refine calls_world (F := fun W => PW w W P R B 200 (ds.drop j) i pb pc (.slice sp wn sc) (wantTo kp cs i) ∧ Box W X 0 0 0) ⟨HP2.out, by rw [HX.out]; exact Go.heap_alloc_new _ _⟩ ?_
            rintro W ⟨hPW, hbx⟩
            have HP3 := Lib.hid hPW
            have HBX := Lib.hid hbx
            have HXL : Hid (X < W.heap.size) := (Array.getElem?_eq_some_iff.1 hbx).1
            clear hPW hbx
            refine (pipe_take_carry' w W P R B 200 (ds.drop (j + 1)) i pb pc x 0 0 0 (by rw [← HDR.out]; exact HP3.out.pw) (by omega) (by decide) (by decide)).mono ?_
            rintro e w4 ⟨rfl, B4, h4, g4⟩
            have HP4 := Lib.hid (HP3.out.chg h4 g4)
            have hbx4 : Hid (Box w4 X 0 0 0) := (g4.mod.block X HXL.out (fun hk => HXF.out hk)).trans HBX.out
            obtain ⟨x0, x1, x2⟩ := hbx4.out.cells (Below.refl _ _)
            clear h4 g4
            obtain ⟨b8, off8, rfl, hbw8, hc8⟩ := ArgRow.one (HP4.out.arg HWN.out) (by omega)
            have hcw8 : w4.cell? ⟨b8, off8 + kk, none⟩ = some (.string x) := by
              obtain ⟨h1, h2⟩ := HKX.out
              rw [hc8 kk h1, h2]
            have hxx : (x.toList == x.toList) = true := beq_iff_eq.2 rfl
            have hxx2 : (x.toList != x.toList) = false := by rw [bne_eq_false_iff_eq]
            have hlk : decide (wn ≤ kk) = false := decide_eq_false (by omega)
            clear hc8 hbw8
            go_wp2_with fail
            go_roundw
            case rel => exact ⟨j + 1, kk + 1, B4, pb + 1, pc, by omega, by go_num, by go_num, by have := HBC.out; unfold Hid; omega, by omega, by unfold Hid; rw [HKT.out, List.length_append, HKK.out]; rfl, HP4⟩
            case measure => simp [intOf]; omega
        · have hje : j = i := by omega
          subst hje
          have hl0 : (ds.drop j).length = 0 := by rw [List.length_drop, HDL.out]; omega
          have HL0 := Lib.hid hl0
          have hk : kk = wn := by rw [← HKK.out, ← HWN.out]
          subst hk
          have hbc : (pb : Int) + (pc : Int) = (j : Int) := by have := HBC.out; omega
          have hkb2 : decide (kk ≤ pb) = true := decide_eq_true hkb
          have hkb3 : decide ((kk : Int) ≤ (pb : Int)) = true := decide_eq_true (by omega)
          have hpb : pb ≤ 150 := by have := HBC.out; omega
          have hpc : pc ≤ 150 := by have := HBC.out; omega
          clear hl0
          go_wp2_with fail
          refine (pipe_counts' w wr P R B 200 (ds.drop j) j pb pc HP.out.pw).mono ?_
          rintro e w3 ⟨rfl, m, rfl⟩
          have HP3 := Lib.hid (HP.out.on (below_drewN (Below.refl _ _) m))
          have k0 := HP3.out.pw.c0
          go_wp2_with fail
          refine (pipe_len' 0 HP3.out.pw HL0.out).mono ?_
          rintro e w4 ⟨rfl, rfl⟩
          have HBB := Lib.hid (HB.out.trans (HP3.out.below.mono HB.out.size))
          go_wp2_with fail
          go_ret
          exact ⟨rfl, HBB.out⟩
theorem min_150 (n : Nat) : ∃ nn : Nat, (if (150 : Int) < (n : Int) then (150 : Int) else (n : Int)) = (nn : Int) ∧ nn ≤ n ∧ nn ≤ 150 := by
  by_cases h : n ≤ 150
  · exact ⟨n, by rw [if_neg (by omega)], Nat.le_refl _, h⟩
  · exact ⟨150, by rw [if_pos (by omega)]; rfl, by omega, by omega⟩
theorem order_law (w : World) (a : Option Addr) (n cap : Nat) (zs : List ByteArray) (h : IsStrs w a n cap zs) (hn : n * 16 ≤ 140737488351232) (a2 : Option Addr) (n2 cap2 : Nat) (chs : List ChT) (h2 : ArgRow 3 chV w a2 n2 chs) (hn2 : n2 * 24 ≤ 140737488351232) :
    Calls Try.prog 15 #[.slice a n cap, .slice a2 n2 cap2] w fun e w' => e = .returned (.bool true) ∧ Below w.heap.size w w' := by
  obtain ⟨nn, h3, h4, h5⟩ := min_150 n
  exact orderLaw a n cap nn _ a2 n2 cap2 chs _ (fun i => if i < chs.length then (chs.getD i (0, 0, 0)).1 != 1 && (chs.getD i (0, 0, 0)).1 != 2 else true) w h.row.1 (by omega) h2 (by omega) h3 h4 h5 rfl (fun _ => rfl)
end Go.Proofs.Ytljncbbajhoocaa.Pipe
