/-
span.Of: of spans within bounds a row of what they make, merged in the order of a sorted permutation of those that are not empty. Conditions: the spans within bounds, at most a thousand.
-/
import Derived.Test.YthdcmejgdcmldaaRo4
import Derived.Shelf.SlSortCmp.NoneTotal
namespace Go.Proofs.Ythdcmejgdcmldaa.Ro
set_option linter.unusedVariables false
open Go.RowKit Go.Proofs.Ythdcmejgdcmldaa.Args
attribute [local go_sem] max2_i min2_i max_2 min_2

theorem calls_worldB {F : World → Prop} {P : Program} {f : FuncId} {args : Array Value} {Q : Ending → World → Prop} {X : World} (hX : F X) (h : ∀ W, F W → Calls P f args W Q) : Calls P f args X Q := h X hX
def bdB (x : Sp) : Prop := 0 ≤ x.1 ∧ x.1 ≤ 300 ∧ 0 ≤ x.2 ∧ x.2 ≤ 300
def filt (l : List Sp) : List Sp := l.filter (fun x => decide (x.1 < x.2))
theorem filt_len (l : List Sp) : (filt l).length ≤ l.length := List.length_filter_le _ _
theorem filt_take {l : List Sp} {i : Nat} (hi : i < l.length) : filt (l.take (i + 1)) = filt (l.take i) ++ (if l[i].1 < l[i].2 then [l[i]] else []) := by
  rw [List.take_succ_eq_append_getElem hi]
  unfold filt
  rw [List.filter_append]
  congr 1
  by_cases h : l[i].1 < l[i].2 <;> simp [h]
theorem mergeStep_app {init : List Sp} {l x : Sp} (h : ¬ x.1 ≤ l.2) : mergeStep (init ++ [l]) x = init ++ [l] ++ [x] := by
  unfold mergeStep
  simp [h]
theorem row_set {w : World} {base : Nat} {e : TypeId} {size : Nat} {g n cap j : Nat} {xs : List Value} {x : Value} (h : w.ownsRow base e size (.slice (some ⟨g, 0, none⟩) n cap) n xs) : (w.setCell ⟨g, j, none⟩ x).ownsRow base e size (.slice (some ⟨g, 0, none⟩) n cap) n (xs.set j x) := by
  refine ⟨by simpa using h.1, ?_⟩
  rcases h.2 with ⟨h2, _⟩ | ⟨g', cap', cur, hv, hg, hh, h3, h4, hsz, htk⟩
  · cases h2
  · injection hv with hv1 hv2 hv3
    injection hv1 with hv1
    injection hv1 with hv1
    subst hv1 hv3
    refine .inr ⟨g, cap, cur.setIfInBounds j x, rfl, hg, heap_setCell_same _ _ _ _ _ _ hh, h3, h4, by simpa using hsz, ?_⟩
    rw [Array.toList_setIfInBounds, List.take_set, htk]
theorem setCell_keep (w : World) {P j b : Nat} (x : Value) (h : b ≠ P) : (w.setCell ⟨P, j, none⟩ x).heap[b]? = w.heap[b]? := Below.heap_setCell w ⟨P, j, none⟩ x b (fun e => h e)
theorem spL_set (init : List Sp) (l1 l2 z : Int) (k : Nat) (hk : init.length = k) : (spL (init ++ [(l1, l2)])).set (k * 2 + 1) (.int .i64 z) = spL (init ++ [(l1, z)]) := by
  rw [spL_app, spL_app, List.set_append_right _ _ (by rw [spL_len]; omega), spL_len, hk, show k * 2 + 1 - k * 2 = 1 by omega]
  rfl
/-- What span.Of leaves. -/
def OfO (w : World) (l : List Sp) (e : Ending) (w' : World) : Prop := ∃ (d : List Sp) (v : Value), d.Perm (filt l) ∧ d.Pairwise (fun a b => a.1 ≤ b.1) ∧ e = .returned v ∧ w'.ownsRow w.heap.size 42 2 v (mergeL d).length (spL (mergeL d)) ∧ Below w.heap.size w w'
theorem sort_any (base : Nat) (v : Value) (n : Nat) (q : List Sp) (w : World) (h : w.ownsRow base 42 2 v n (spL q)) (hq : q.length = n) (hn : n ≤ 1000000) :
    Calls Try.prog 25 #[v, .func (.func 26) #[] #[]] w fun e w' => e = .returned (.tuple #[]) ∧ ∃ d : List Sp, d.Perm q ∧ d.Pairwise (fun a b => a.1 ≤ b.1) ∧ w'.ownsRow base 42 2 v n (spL d) ∧ w.grownBy w' v.ownBlock := by
  rcases h.2 with ⟨rfl, h2⟩ | ⟨g, cap, cur, rfl, _⟩
  · have h3 := AnyF.slices_SortFunc_none (P := Try.prog) Ythdcmejgdcmldaa.sortSp none 0 (.func (.func 26) #[] #[]) w
    change Calls Try.prog 25 _ _ _ at h3
    refine h3.mono ?_
    rintro e w' ⟨rfl, rfl⟩
    obtain rfl : q = [] := List.eq_nil_of_length_eq_zero (by omega)
    exact ⟨rfl, [], List.Perm.refl _, List.Pairwise.nil, h, ⟨rfl, rfl, rfl, Nat.le_refl _, fun _ _ _ => rfl⟩⟩
  · exact sort_calls g n cap base q w h hq hn
set_option maxHeartbeats 4000000 in
set_option maxRecDepth 100000 in
theorem of_calls (a : Option Addr) (n c : Nat) (q : List Sp) (w : World) (h : Hid (ArgRow 2 spV w a n q)) (hn : n ≤ 1000) (hq : Hid (∀ x ∈ q, bdB x)) :
    Calls Try.prog 19 #[.slice a n c] w (OfO w q) := by
  obtain ⟨i0, hi, hz0, hz1, hz2⟩ := info_parts info42
  have HI := Lib.hid hi
  have HZ0 := Lib.hid hz0
  have HZ1 := Lib.hid hz1
  have HZ2 := Lib.hid hz2
  clear hi hz0 hz1 hz2
  go_enter Try.func19, Try.ntmps19
  go_wp2_with fail
  go_loopw [3, 5, 12] (fun v3 _ jv wr => ∃ (i m : Nat), i ≤ n ∧ jv = .int .i64 i ∧ m ≤ i ∧ Hid ((filt (q.take i)).length = m) ∧ Hid (wr.ownsRow w.heap.size 42 2 v3 m (spL (filt (q.take i)))) ∧ Hid (Below w.heap.size w wr)) (fun _ _ jv _ => n - (intOf jv).toNat)
  case atStart => exact ⟨0, 0, by omega, rfl, by omega, rfl, World.ownsRow_nil _ _ _ _, Below.refl _ _⟩
  case round =>
    obtain ⟨i, m, hin, rfl, hm, HLN, HOWN, HB⟩ := hrel
    by_cases hlt : i < n
    · obtain ⟨b, off, rfl, hbw, hc⟩ := sp_cells h.out (by omega)
      have hig : i < q.length := by rw [h.out.len]; exact hlt
      obtain ⟨⟨x, y⟩, hx⟩ : ∃ x, q[i] = x := ⟨_, rfl⟩
      have hok := hq.out _ (List.getElem_mem hig)
      rw [hx] at hok
      have hok1 : 0 ≤ x := hok.1
      have hok2 : x ≤ 300 := hok.2.1
      have hok3 : 0 ≤ y := hok.2.2.1
      have hok4 : y ≤ 300 := hok.2.2.2
      have e8 : wr.cell? ⟨b, off + i * 2, none⟩ = some (.int .i64 x) := by rw [show x = q[i].1 by rw [hx]]; exact (HB.out.cell (p := ⟨b, off + i * 2, none⟩) hbw).trans (hc i hig).1
      have e9 : wr.cell? ⟨b, off + i * 2 + 1, none⟩ = some (.int .i64 y) := by rw [show y = q[i].2 by rw [hx]]; exact (HB.out.cell (p := ⟨b, off + i * 2 + 1, none⟩) hbw).trans (hc i hig).2
      have hi0 : (0 : Int) ≤ (i : Int) := by omega
      have hi1 : (i : Int) < (n : Int) := by omega
      have hbs : w.heap.size ≤ wr.heap.size := HB.out.size
      have HTK : Hid (filt (q.take (i + 1)) = filt (q.take i) ++ (if x < y then [(x, y)] else [])) := by
        unfold Hid
        rw [filt_take hig, hx]
      clear hc hx hok
      go_wp2_with fail
      obtain ⟨X, hX⟩ : ∃ X, wr.heap.size = X := ⟨_, rfl⟩
      refine calls_worldB (F := fun W => Below wr.heap.size wr W ∧ W.heap[X]? = some (.cells #[.int .i64 x, .int .i64 y] 42 (0, 0))) ⟨(Below.refl _ _).alloc (Nat.le_refl _) _, by rw [← hX]; exact Go.heap_alloc_new _ _⟩ ?_
      rintro W ⟨hW, hWX⟩
      rw [hX]
      refine (near_calls x y W (by omega) (by omega) (by omega) (by omega)).mono ?_
      rintro e w2 ⟨rfl, hb2⟩
      have HB2 : Hid (Below wr.heap.size wr w2) := hW.trans (hb2.mono hW.size)
      have h2X : w2.heap[X]? = some (.cells #[.int .i64 x, .int .i64 y] 42 (0, 0)) := (hb2.block X (Array.getElem?_eq_some_iff.1 hWX).1).trans hWX
      have HX2 := Lib.hid h2X
      have HXE := Lib.hid hX
      have c0 : w2.cell? ⟨X, 0, none⟩ = some (.int .i64 x) := by rw [cell_of_row _ _ _ _ _ _ h2X]; rfl
      have c1 : w2.cell? ⟨X, 1, none⟩ = some (.int .i64 y) := by rw [cell_of_row _ _ _ _ _ _ h2X]; rfl
      have f0 : w2.frozen? ⟨X, 0, none⟩ = false := frozen_of_row _ _ _ _ _ h2X
      have f1 : w2.frozen? ⟨X, 1, none⟩ = false := frozen_of_row _ _ _ _ _ h2X
      clear hW hWX hb2 h2X hX e8 e9
      go_wp2_with fail
      refine calls_worldB (F := fun W => Below wr.heap.size wr W ∧ W.heap[X]? = some (.cells #[.int .i64 x, .int .i64 y] 42 (0, 0))) ⟨(HB2.out.setCell (Nat.le_of_eq HXE.out) _).setCell (Nat.le_of_eq HXE.out) _, by rw [heap_setCell_same _ _ _ _ _ _ (heap_setCell_same _ _ _ _ _ _ HX2.out)]; rfl⟩ ?_
      rintro W ⟨hW, hWX⟩
      clear c0 c1 f0 f1 HB2 HX2
      obtain ⟨r, hr⟩ : ∃ r, decide (y ≤ x) = r := ⟨_, rfl⟩
      refine (empty_calls x y r W hr).mono ?_
      rintro e w4 ⟨rfl, hb4⟩
      have HB4 : Hid (Below w.heap.size w w4) := HB.out.trans ((hW.trans (hb4.mono hW.size)).mono hbs)
      have h4X : w4.heap[X]? = some (.cells #[.int .i64 x, .int .i64 y] 42 (0, 0)) := (hb4.block X (Array.getElem?_eq_some_iff.1 hWX).1).trans hWX
      have c0 : w4.cell? ⟨X, 0, none⟩ = some (.int .i64 x) := by rw [cell_of_row _ _ _ _ _ _ h4X]; rfl
      have c1 : w4.cell? ⟨X, 1, none⟩ = some (.int .i64 y) := by rw [cell_of_row _ _ _ _ _ _ h4X]; rfl
      have HO4 : Hid (w4.ownsRow w.heap.size 42 2 u3 m (spL (filt (q.take i)))) := row_on (row_on HOWN.out hW) hb4
      have hbs4 : w.heap.size ≤ w4.heap.size := HB4.out.size
      have HR := Lib.hid hr
      clear hW hWX hb4 h4X hr
      cases r with
      | true =>
        have HTK2 : Hid (filt (q.take (i + 1)) = filt (q.take i)) := by
          unfold Hid
          have h1 := HR.out
          rw [decide_eq_true_eq] at h1
          rw [HTK.out, if_neg (by omega), List.append_nil]
        clear c0 c1
        go_wp2_with fail
        go_roundw
        case rel => exact ⟨i + 1, m, by omega, by go_num, by omega, by rw [HTK2.out]; exact HLN, by rw [HTK2.out]; exact HO4, HB4⟩
        case measure => simp [intOf]; omega
      | false =>
        have HTK2 : Hid (filt (q.take (i + 1)) = filt (q.take i) ++ [(x, y)]) := by
          unfold Hid
          have h1 := HR.out
          rw [decide_eq_false_iff_not] at h1
          rw [HTK.out, if_pos (by omega)]
        go_wp2_with (at_builtin; refine wpList_append_own_at _ rfl _ _ 40 rfl w.heap.size 42 i0 (.agg #[.int .i64 0, .int .i64 0]) 2 16 Try.underlying40 HI.out HZ0.out HZ1.out HZ2.out rfl (by decide) _ _ _ rfl (HO4.out.alloc _) ⟨w4.heap.size, 0, none⟩ 1 1 [.int .i64 x, .int .i64 y] rfl rfl (World.news_of_block (cs := #[.int .i64 x, .int .i64 y]) (t := 42) (fr := (0, 0)) (Go.heap_alloc_new _ _)) (by simp [Value.oneCell']) (by unfold maxLen; omega) (by omega) (by simp; omega) ?_)
        intro v6 w6 hown6 hgrow6 _ hat6
        have HO6 : Hid (w6.ownsRow w.heap.size 42 2 v6 (m + 1) (spL (filt (q.take (i + 1))))) := by
          unfold Hid
          rw [HTK2.out, spL_app]
          exact hown6
        have HB6 : Hid (Below w.heap.size w w6) := (HB4.out.alloc hbs4 _).grown hgrow6 (by simp; omega) (fun j hj => (HO4.out.lt j hj).1)
        clear hown6 hgrow6 hat6 c0 c1
        go_wp2_with fail
        go_roundw
        case rel => exact ⟨i + 1, m + 1, by omega, by go_num, by omega, by unfold Hid; rw [HTK2.out, List.length_append, HLN.out]; rfl, HO6, HB6⟩
        case measure => simp [intOf]; omega
    · have HE : Hid (q.take i = q) := List.take_of_length_le (by rw [h.out.len]; omega)
      rw [HE.out] at HLN HOWN
      have hmn : m ≤ 1000 := by omega
      have hbs : w.heap.size ≤ wr.heap.size := HB.out.size
      clear HE
      go_wp2_with fail
      refine (sort_any w.heap.size u3 m (filt q) wr HOWN.out HLN.out (by omega)).mono ?_
      rintro e w2 ⟨rfl, d, hp, hs, ho, hg⟩
      have HP := Lib.hid hp
      have HS := Lib.hid hs
      have HO := Lib.hid ho
      have HB2 : Hid (Below w.heap.size w w2) := HB.out.grown hg hbs (fun j hj => (HOWN.out.lt j hj).1)
      have HDL : Hid (d.length = m) := by unfold Hid; rw [hp.length_eq]; exact HLN.out
      clear hp hs ho hg
      obtain ⟨sp3, sc3, rfl, hsc3⟩ := row_form HO.out
      have hbs2 : w.heap.size ≤ w2.heap.size := HB2.out.size
      clear HB HOWN
      go_wp2_with fail
      go_loopw [6, 8, 9, 30] (fun v6 _ _ jv wr => ∃ (j k : Nat), j ≤ m ∧ jv = .int .i64 j ∧ k ≤ j ∧ Hid ((mergeL (d.take j)).length = k) ∧ Hid (wr.ownsRow w.heap.size 42 2 v6 k (spL (mergeL (d.take j)))) ∧ Hid (wr.ownsRow w.heap.size 42 2 (.slice sp3 m sc3) m (spL d)) ∧ Hid (∀ b, v6.ownBlock = some b → (Value.slice sp3 m sc3).ownBlock ≠ some b) ∧ Hid (Below w.heap.size w wr)) (fun _ _ _ jv _ => m - (intOf jv).toNat)
      case atStart => exact ⟨0, 0, by omega, rfl, by omega, rfl, World.ownsRow_nil _ _ _ _, HO, fun b hb => by simp [Value.ownBlock] at hb, HB2⟩
      case round =>
        clear HO HB2 hbs2
        obtain ⟨j, k, hjm, rfl, hkj, HKL, HO6, HO, HNE, HB⟩ := hrel
        have hbs : w.heap.size ≤ wr.heap.size := HB.out.size
        by_cases hjl : j < m
        · have hjd : j < d.length := by rw [HDL.out]; exact hjl
          obtain ⟨b, off, rfl, hbw, hc⟩ := sp_cells (arg_of_row HDL.out HO.out) (by omega)
          obtain ⟨⟨x, y⟩, hx⟩ : ∃ x, d[j] = x := ⟨_, rfl⟩
          have e8 : wr.cell? ⟨b, off + j * 2, none⟩ = some (.int .i64 x) := by rw [show x = d[j].1 by rw [hx]]; exact (hc j hjd).1
          have e9 : wr.cell? ⟨b, off + j * 2 + 1, none⟩ = some (.int .i64 y) := by rw [show y = d[j].2 by rw [hx]]; exact (hc j hjd).2
          have hj0 : (0 : Int) ≤ (j : Int) := by omega
          have hj1 : (j : Int) < (m : Int) := by omega
          obtain ⟨ol, hol⟩ : ∃ ol, mergeL (d.take j) = ol := ⟨_, rfl⟩
          have HTK : Hid (mergeL (d.take (j + 1)) = mergeStep ol (x, y)) := by
            unfold Hid
            rw [List.take_succ_eq_append_getElem hjd, hx, ← hol]
            unfold mergeL
            rw [List.foldl_append]
            rfl
          rw [hol] at HKL HO6
          clear hc hx hol
          rcases List.eq_nil_or_concat ol with rfl | ⟨init, l, rfl⟩
          · obtain rfl : 0 = k := HKL.out
            obtain ⟨sp6, sc6, rfl, hsc6⟩ := row_form HO6.out
            rw [mergeStep_nil] at HTK
            go_wp2_with fail
            go_quiet (fail)
            generalize hWW : World.drewN _ _ = W
            have hW : Below wr.heap.size wr W := by rw [← hWW]; exact below_drewN ((Below.refl _ _).alloc (Nat.le_refl _) _) _
            have hWX : W.heap[wr.heap.size]? = some (.cells #[.int .i64 x, .int .i64 y] 42 (0, 0)) := by rw [← hWW]; exact Go.heap_alloc_new wr _
            have c0 : W.cell? ⟨wr.heap.size, 0, none⟩ = some (.int .i64 x) := by rw [cell_of_row _ _ _ _ _ _ hWX]; rfl
            have c1 : W.cell? ⟨wr.heap.size, 1, none⟩ = some (.int .i64 y) := by rw [cell_of_row _ _ _ _ _ _ hWX]; rfl
            have HO6W := Lib.hid (row_on HO6.out hW)
            have HOW := Lib.hid (row_on HO.out hW)
            have HBW := Lib.hid (HB.out.trans (hW.mono hbs))
            have hbsW : w.heap.size ≤ W.heap.size := HBW.out.size
            clear hWW hW hWX e8 e9
            go_wp2_with (at_builtin; refine wpList_append_own_at _ rfl _ _ 43 rfl w.heap.size 42 i0 (.agg #[.int .i64 0, .int .i64 0]) 2 16 Try.underlying43 HI.out HZ0.out HZ1.out HZ2.out rfl (by decide) _ _ _ rfl (HO6W.out.alloc _) ⟨W.heap.size, 0, none⟩ 1 1 [.int .i64 x, .int .i64 y] rfl rfl (World.news_of_block (cs := #[.int .i64 x, .int .i64 y]) (t := 42) (fr := (0, 0)) (Go.heap_alloc_new _ _)) (by simp [Value.oneCell']) (by unfold maxLen; omega) (by omega) (by simp; omega) ?_)
            intro v6 w6 hown6 hgrow6 _ hat6
            have HOX : Hid (w6.ownsRow w.heap.size 42 2 v6 (0 + 1) (spL (mergeL (d.take (j + 1))))) := by
              unfold Hid
              rw [HTK.out, show spL [(x, y)] = spL [] ++ spL [(x, y)] from rfl]
              exact hown6
            have HLX : Hid ((mergeL (d.take (j + 1))).length = 0 + 1) := by unfold Hid; rw [HTK.out]; rfl
            have HB6 : Hid (Below w.heap.size w w6) := (HBW.out.alloc hbsW _).grown hgrow6 (by simp; omega) (fun j hj => (HO6W.out.lt j hj).1)
            have HOD : Hid (w6.ownsRow w.heap.size 42 2 (.slice (some ⟨b, off, none⟩) m sc3) m (spL d)) := row_keep (HOW.out.alloc _) fun bb hbb => hgrow6.block bb (by have := (HOW.out.lt bb hbb).2; simp; omega) (fun e => HNE.out bb e.symm hbb)
            have HNX : Hid (∀ bb, v6.ownBlock = some bb → (Value.slice (some ⟨b, off, none⟩) m sc3).ownBlock ≠ some bb) := fun bb hbb e => by
              rcases hat6 with h1 | h1
              · exact HNE.out bb (h1 ▸ hbb) e
              · rw [h1] at hbb
                injection hbb with hbb
                have := (HOW.out.lt bb e).2
                omega
            clear hown6 hgrow6 hat6 c0 c1
            go_wp2_with fail
            go_roundw
            case rel => exact ⟨j + 1, 0 + 1, by omega, by go_num, by omega, HLX, HOX, HOD, HNX, HB6⟩
            case measure => simp [intOf]; omega
          · rw [List.concat_eq_append] at HKL HO6 HTK
            obtain ⟨k', rfl⟩ : ∃ k', k = k' + 1 := ⟨init.length, by have := HKL.out; simpa using this.symm⟩
            have hil : init.length = k' := by have := HKL.out; simpa using this
            obtain ⟨g6, cap6, cur6, rfl, hg6, hh6, hcap6, hx6⟩ := row_open HO6.out (by omega)
            obtain ⟨l1, l2⟩ := l
            have hcl : ∀ W, Below wr.heap.size wr W → W.cell? ⟨g6, k' * 2 + 1, none⟩ = some (.int .i64 l2) := fun W hW => by
              rw [cell_of_row _ _ _ _ _ _ ((hW.block g6 (Array.getElem?_eq_some_iff.1 hh6).1).trans hh6)]
              refine hx6 _ _ ?_
              have h1 := spL_get (init ++ [(l1, l2)]) k' 1 (.int .i64 l2) (by simp [hil]) (by simp [← hil])
              exact h1
            have e10 : wr.cell? ⟨g6, k' * 2 + 1, none⟩ = some (.int .i64 l2) := hcl wr (Below.refl _ _)
            have f10 : wr.frozen? ⟨g6, k' * 2 + 1, none⟩ = false := frozen_of_row _ _ _ _ _ hh6
            have hg6l : g6 < wr.heap.size := (Array.getElem?_eq_some_iff.1 hh6).1
            have hk0 : (0 : Int) ≤ (k' : Int) := by omega
            have hk1 : (k' : Int) < ((k' + 1 : Nat) : Int) := by omega
            have HIL := Lib.hid hil
            clear hcl hx6 hh6 hil
            by_cases hxl : x ≤ l2
            · by_cases hly : l2 < y
              · go_wp2_with fail
                go_quiet (fail)
                generalize hWW : World.drewN _ _ = W
                have hW : Below wr.heap.size wr W := by rw [← hWW]; exact below_drewN ((Below.refl _ _).alloc (Nat.le_refl _) _) _
                have hWX : W.heap[wr.heap.size]? = some (.cells #[.int .i64 x, .int .i64 y] 42 (0, 0)) := by rw [← hWW]; exact Go.heap_alloc_new wr _
                have c0 : W.cell? ⟨wr.heap.size, 0, none⟩ = some (.int .i64 x) := by rw [cell_of_row _ _ _ _ _ _ hWX]; rfl
                have c1 : W.cell? ⟨wr.heap.size, 1, none⟩ = some (.int .i64 y) := by rw [cell_of_row _ _ _ _ _ _ hWX]; rfl
                have HO6W := Lib.hid (row_on HO6.out hW)
                have HOW := Lib.hid (row_on HO.out hW)
                have HBW := Lib.hid (HB.out.trans (hW.mono hbs))
                have hbsW : w.heap.size ≤ W.heap.size := HBW.out.size
                have HEW := Lib.hid ((hW.cell (p := ⟨g6, k' * 2 + 1, none⟩) hg6l).trans e10)
                have HFW := Lib.hid ((hW.frozen (p := ⟨g6, k' * 2 + 1, none⟩) hg6l).trans f10)
                have eW := HEW.out
                have fW := HFW.out
                clear hWW hW hWX e8 e9 e10 f10

                go_wp2_with fail
                go_region
                generalize hVV : World.drew _ = V
                have hrow : V.ownsRow w.heap.size 42 2 (.slice (some ⟨g6, 0, none⟩) (k' + 1) cap6) (k' + 1) ((spL (init ++ [(l1, l2)])).set (k' * 2 + 1) (.int .i64 y)) := by rw [← hVV]; exact row_keep (row_set HO6W.out) (fun _ _ => rfl)
                have hrow2 : V.ownsRow w.heap.size 42 2 (.slice (some ⟨b, off, none⟩) m sc3) m (spL d) := by
                  rw [← hVV]
                  exact row_keep HOW.out (fun bb hbb => setCell_keep _ _ (fun e => by
                    subst e
                    exact HNE.out _ rfl hbb))
                have HB6 : Hid (Below w.heap.size w V) := by unfold Hid; rw [← hVV]; exact (HBW.out.setCell hg6 _).drew
                have HLX : Hid (mergeL (d.take (j + 1)) = init ++ [(l1, y)]) := by unfold Hid; rw [HTK.out, mergeStep_near _ _ _ hxl]; simp [hly]
                have HOX : Hid (V.ownsRow w.heap.size 42 2 (.slice (some ⟨g6, 0, none⟩) (k' + 1) cap6) (k' + 1) (spL (mergeL (d.take (j + 1))))) := by
                  unfold Hid
                  rw [HLX.out, ← spL_set init l1 l2 y k' HIL.out]
                  exact hrow
                have HOD := Lib.hid hrow2
                clear hVV hrow hrow2 eW fW c0 c1
                go_wp2_with fail
                go_roundw
                case rel => exact ⟨j + 1, k' + 1, by omega, by go_num, by omega, by unfold Hid; rw [HLX.out]; have := HIL.out; simp; omega, HOX, HOD, HNE, HB6⟩
                case measure => simp [intOf]; omega
              · have hly2 : decide (l2 < y) = false := decide_eq_false hly
                go_wp2_with fail
                go_quiet (fail)
                generalize hWW : World.drewN _ _ = W
                have hW : Below wr.heap.size wr W := by rw [← hWW]; exact below_drewN ((Below.refl _ _).alloc (Nat.le_refl _) _) _
                have hWX : W.heap[wr.heap.size]? = some (.cells #[.int .i64 x, .int .i64 y] 42 (0, 0)) := by rw [← hWW]; exact Go.heap_alloc_new wr _
                have c0 : W.cell? ⟨wr.heap.size, 0, none⟩ = some (.int .i64 x) := by rw [cell_of_row _ _ _ _ _ _ hWX]; rfl
                have c1 : W.cell? ⟨wr.heap.size, 1, none⟩ = some (.int .i64 y) := by rw [cell_of_row _ _ _ _ _ _ hWX]; rfl
                have HO6W := Lib.hid (row_on HO6.out hW)
                have HOW := Lib.hid (row_on HO.out hW)
                have HBW := Lib.hid (HB.out.trans (hW.mono hbs))
                have hbsW : w.heap.size ≤ W.heap.size := HBW.out.size
                have HEW := Lib.hid ((hW.cell (p := ⟨g6, k' * 2 + 1, none⟩) hg6l).trans e10)
                have HFW := Lib.hid ((hW.frozen (p := ⟨g6, k' * 2 + 1, none⟩) hg6l).trans f10)
                have eW := HEW.out
                have fW := HFW.out
                clear hWW hW hWX e8 e9 e10 f10

                go_wp2_with fail
                go_region
                generalize hVV : World.drew _ = V
                have hrow : V.ownsRow w.heap.size 42 2 (.slice (some ⟨g6, 0, none⟩) (k' + 1) cap6) (k' + 1) ((spL (init ++ [(l1, l2)])).set (k' * 2 + 1) (.int .i64 l2)) := by rw [← hVV]; exact row_keep (row_set HO6W.out) (fun _ _ => rfl)
                have hrow2 : V.ownsRow w.heap.size 42 2 (.slice (some ⟨b, off, none⟩) m sc3) m (spL d) := by
                  rw [← hVV]
                  exact row_keep HOW.out (fun bb hbb => setCell_keep _ _ (fun e => by
                    subst e
                    exact HNE.out _ rfl hbb))
                have HB6 : Hid (Below w.heap.size w V) := by unfold Hid; rw [← hVV]; exact (HBW.out.setCell hg6 _).drew
                have HLX : Hid (mergeL (d.take (j + 1)) = init ++ [(l1, l2)]) := by unfold Hid; rw [HTK.out, mergeStep_near _ _ _ hxl]; simp; omega
                have HOX : Hid (V.ownsRow w.heap.size 42 2 (.slice (some ⟨g6, 0, none⟩) (k' + 1) cap6) (k' + 1) (spL (mergeL (d.take (j + 1))))) := by
                  unfold Hid
                  rw [HLX.out, ← spL_set init l1 l2 l2 k' HIL.out]
                  exact hrow
                have HOD := Lib.hid hrow2
                clear hVV hrow hrow2 eW fW c0 c1
                go_wp2_with fail
                go_roundw
                case rel => exact ⟨j + 1, k' + 1, by omega, by go_num, by omega, by unfold Hid; rw [HLX.out]; have := HIL.out; simp; omega, HOX, HOD, HNE, HB6⟩
                case measure => simp [intOf]; omega
            · have hxl2 : decide (x ≤ l2) = false := decide_eq_false hxl
              go_wp2_with fail
              go_quiet (fail)
              generalize hWW : World.drewN _ _ = W
              have hW : Below wr.heap.size wr W := by rw [← hWW]; exact below_drewN ((Below.refl _ _).alloc (Nat.le_refl _) _) _
              have hWX : W.heap[wr.heap.size]? = some (.cells #[.int .i64 x, .int .i64 y] 42 (0, 0)) := by rw [← hWW]; exact Go.heap_alloc_new wr _
              have c0 : W.cell? ⟨wr.heap.size, 0, none⟩ = some (.int .i64 x) := by rw [cell_of_row _ _ _ _ _ _ hWX]; rfl
              have c1 : W.cell? ⟨wr.heap.size, 1, none⟩ = some (.int .i64 y) := by rw [cell_of_row _ _ _ _ _ _ hWX]; rfl
              have HO6W := Lib.hid (row_on HO6.out hW)
              have HOW := Lib.hid (row_on HO.out hW)
              have HBW := Lib.hid (HB.out.trans (hW.mono hbs))
              have hbsW : w.heap.size ≤ W.heap.size := HBW.out.size
              clear hWW hW hWX e8 e9 e10 f10 hxl2
              go_wp2_with (at_builtin; refine wpList_append_own_at _ rfl _ _ 43 rfl w.heap.size 42 i0 (.agg #[.int .i64 0, .int .i64 0]) 2 16 Try.underlying43 HI.out HZ0.out HZ1.out HZ2.out rfl (by decide) _ _ _ rfl (HO6W.out.alloc _) ⟨W.heap.size, 0, none⟩ 1 1 [.int .i64 x, .int .i64 y] rfl rfl (World.news_of_block (cs := #[.int .i64 x, .int .i64 y]) (t := 42) (fr := (0, 0)) (Go.heap_alloc_new _ _)) (by simp [Value.oneCell']) (by unfold maxLen; omega) (by omega) (by simp; omega) ?_)
              intro v6 w6 hown6 hgrow6 _ hat6
              have HOX : Hid (w6.ownsRow w.heap.size 42 2 v6 (k' + 1 + 1) (spL (mergeL (d.take (j + 1))))) := by
                unfold Hid
                rw [HTK.out, mergeStep_app (l := (l1, l2)) (x := (x, y)) (Int.not_le.2 hxl), spL_app]
                exact hown6
              have HLX : Hid ((mergeL (d.take (j + 1))).length = k' + 1 + 1) := by unfold Hid; rw [HTK.out, mergeStep_app (l := (l1, l2)) (x := (x, y)) (Int.not_le.2 hxl)]; have := HIL.out; simp; omega
              have HB6 : Hid (Below w.heap.size w w6) := (HBW.out.alloc hbsW _).grown hgrow6 (by simp; omega) (fun j hj => (HO6W.out.lt j hj).1)
              have HOD : Hid (w6.ownsRow w.heap.size 42 2 (.slice (some ⟨b, off, none⟩) m sc3) m (spL d)) := row_keep (HOW.out.alloc _) fun bb hbb => hgrow6.block bb (by have := (HOW.out.lt bb hbb).2; simp; omega) (fun e => HNE.out bb e.symm hbb)
              have HNX : Hid (∀ bb, v6.ownBlock = some bb → (Value.slice (some ⟨b, off, none⟩) m sc3).ownBlock ≠ some bb) := fun bb hbb e => by
                rcases hat6 with h1 | h1
                · exact HNE.out bb (h1 ▸ hbb) e
                · rw [h1] at hbb
                  injection hbb with hbb
                  have := (HOW.out.lt bb e).2
                  omega
              clear hown6 hgrow6 hat6 c0 c1
              go_wp2_with fail
              go_roundw
              case rel => exact ⟨j + 1, k' + 1 + 1, by omega, by go_num, by omega, HLX, HOX, HOD, HNX, HB6⟩
              case measure => simp [intOf]; omega
        · have HE : Hid (d.take j = d) := List.take_of_length_le (by rw [HDL.out]; omega)
          rw [HE.out] at HKL HO6
          obtain rfl := HKL.out
          clear HE
          go_wp2_with fail
          go_ret
          exact ⟨d, _, HP.out, HS.out, rfl, HO6.out, HB.out⟩
end Go.Proofs.Ythdcmejgdcmldaa.Ro
