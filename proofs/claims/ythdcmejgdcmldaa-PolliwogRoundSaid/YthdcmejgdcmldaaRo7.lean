/-
PolliwogRound: the walk, and with it the law: a set of how far numbers are, moved round with its base, is as it was. Condition: lengths within the machine's.
-/
import Derived.Test.YthdcmejgdcmldaaRo6
import Derived.OpenShut
namespace Go.Proofs.Ythdcmejgdcmldaa.Ro
set_option linter.unusedVariables false
open Go.RowKit Go.Proofs.Ythdcmejgdcmldaa.Args

def mxI (x y : Int) : Int := if x < y then y else x
def mnI (x y : Int) : Int := if y < x then y else x
theorem max2_o (k k' : IntKind) (x y : Int) : Builtin.max2 (.int k x) (.int k' y) = pure (.int k (mxI x y)) := max2_i k k' x y
theorem min2_o (k k' : IntKind) (x y : Int) : Builtin.min2 (.int k x) (.int k' y) = pure (.int k (mnI x y)) := min2_i k k' x y
attribute [local go_sem] max2_o min2_o max_2 min_2
/-- A span, cut as the law cuts it. -/
def cutS (x : Sp) : Sp := (mxI 0 (mnI x.1 200), mxI (mxI 0 (mnI x.1 200)) (mnI x.2 200))
theorem cut_bd (x : Sp) : bdB (cutS x) := by
  unfold bdB cutS mxI mnI
  simp only []
  repeat' split
  all_goals omega
theorem cut_ok {x : Sp} (h : (cutS x).1 < (cutS x).2) : okB (cutS x) := by
  unfold okB
  revert h
  unfold cutS mxI mnI
  simp only []
  repeat' split
  all_goals omega
theorem cut_len (q : List Sp) : (q.map cutS).length = q.length := by simp
theorem filt_ok {q d : List Sp} (hp : d.Perm (filt (q.map cutS))) : ∀ x ∈ d, okB x := fun x hx => by
  have h1 := hp.mem_iff.1 hx
  unfold filt at h1
  rw [List.mem_filter, List.mem_map] at h1
  obtain ⟨⟨y, _, rfl⟩, h2⟩ := h1
  exact cut_ok (by simpa using h2)
theorem Canon.take {l : List Sp} (h : Canon l) (i : Nat) : Canon (l.take i) := ⟨fun x hx => h.ok x (List.mem_of_mem_take hx), h.apart.sublist (List.take_sublist _ _)⟩
theorem filt_all {l : List Sp} (h : ∀ x ∈ l, x.1 < x.2) : filt l = l := by
  unfold filt
  rw [List.filter_eq_self]
  intro x hx
  simpa using h x hx
theorem ints_cell {w : World} {base n c : Nat} {s : Option Addr} {l : List Int} (h : w.ownsRow base 3 1 (.slice s n c) n (numL l)) (hl : l.length = n) (hn : 0 < n) : ∃ g, s = some ⟨g, 0, none⟩ ∧ g < w.heap.size ∧ ∀ w', Below w.heap.size w w' → ∀ i (hi : i < l.length), w'.cell? ⟨g, i, none⟩ = some (.int .i64 l[i]) := by
  obtain ⟨g, cap, cur, hv, _, hh, _, hx⟩ := row_open h hn
  injection hv with h1 _ _
  have hg := (Array.getElem?_eq_some_iff.1 hh).1
  refine ⟨g, h1, hg, fun w' hb i hi => ?_⟩
  rw [cell_of_row _ _ _ _ _ _ ((hb.block g hg).trans hh)]
  exact hx _ _ (by unfold numL; rw [List.getElem?_map, List.getElem?_eq_getElem hi]; rfl)
def BoolO (w : World) (r : Bool) (e : Ending) (w' : World) : Prop := e = .returned (.bool r) ∧ Below w.heap.size w w'
set_option maxHeartbeats 4000000 in
set_option maxRecDepth 100000 in
theorem round_calls (a : Int) (s : Option Addr) (n c : Nat) (q : List Sp) (w : World) (ha : 0 ≤ a) (h : Hid (ArgRow 2 spV w s n q)) (hn : n ≤ 140737488355328) :
    Calls Try.prog 8 #[.int .u32 a, .slice s n c] w (BoolO w true) := by
  obtain ⟨i0, hi, hz0, hz1, hz2⟩ := info_parts info42
  have HI := Lib.hid hi
  have HZ0 := Lib.hid hz0
  have HZ1 := Lib.hid hz1
  have HZ2 := Lib.hid hz2
  clear hi hz0 hz1 hz2
  go_enter Try.func8, Try.ntmps8
  go_wp2_with fail
  go_loopw [5, 6, 7] (fun v5 iv _ wr => ∃ i : Nat, i ≤ n ∧ i ≤ 8 ∧ iv = .int .i64 i ∧ Hid (wr.ownsRow w.heap.size 42 2 v5 i (spL ((q.take i).map cutS))) ∧ Hid (Below w.heap.size w wr)) (fun _ iv _ _ => 8 - (intOf iv).toNat)
  case atStart => exact ⟨0, by omega, by omega, rfl, World.ownsRow_nil _ _ _ _, Below.refl _ _⟩
  case round =>
    obtain ⟨i, hin, hi8, rfl, HO, HB⟩ := hrel
    have hbs : w.heap.size ≤ wr.heap.size := HB.out.size
    by_cases hlt : i < n ∧ i < 8
    · obtain ⟨hlt, hlt2⟩ := hlt
      obtain ⟨b, off, rfl, hbw, hc⟩ := sp_cells h.out (by omega)
      have hig : i < q.length := by rw [h.out.len]; exact hlt
      obtain ⟨⟨x, y⟩, hx⟩ : ∃ x, q[i] = x := ⟨_, rfl⟩
      have e8 : wr.cell? ⟨b, off + i * 2, none⟩ = some (.int .i64 x) := by rw [show x = q[i].1 by rw [hx]]; exact (HB.out.cell (p := ⟨b, off + i * 2, none⟩) hbw).trans (hc i hig).1
      have e9 : wr.cell? ⟨b, off + i * 2 + 1, none⟩ = some (.int .i64 y) := by rw [show y = q[i].2 by rw [hx]]; exact (HB.out.cell (p := ⟨b, off + i * 2 + 1, none⟩) hbw).trans (hc i hig).2
      have hi0 : (0 : Int) ≤ (i : Int) := by omega
      have hi1 : (i : Int) < (n : Int) := by omega
      have hi2 : (i : Int) < 8 := by omega
      have HTK : Hid ((q.take (i + 1)).map cutS = (q.take i).map cutS ++ [(mxI 0 (mnI x 200), mxI (mxI 0 (mnI x 200)) (mnI y 200))]) := by
        unfold Hid
        rw [List.take_succ_eq_append_getElem hig, hx, List.map_append]
        rfl
      obtain ⟨fr, hfr⟩ : ∃ fr, mxI 0 (mnI x 200) = fr := ⟨_, rfl⟩
      clear hc hx
      go_wp2_with (at_builtin; refine wpList_append_own_at _ rfl _ _ 40 rfl w.heap.size 42 i0 (.agg #[.int .i64 0, .int .i64 0]) 2 16 Try.underlying40 HI.out HZ0.out HZ1.out HZ2.out rfl (by decide) _ _ _ rfl (HO.out.alloc _) ⟨wr.heap.size, 0, none⟩ 1 1 [.int .i64 fr, .int .i64 (mxI fr (mnI y 200))] rfl rfl (World.news_of_block (cs := #[.int .i64 fr, .int .i64 (mxI fr (mnI y 200))]) (t := 42) (fr := (0, 0)) (Go.heap_alloc_new _ _)) (by simp [Value.oneCell']) (by unfold maxLen; omega) (by omega) (by simp; omega) ?_)
      intro v6 w6 hown6 hgrow6 _ _
      have HOX : Hid (w6.ownsRow w.heap.size 42 2 v6 (i + 1) (spL ((q.take (i + 1)).map cutS))) := by
        unfold Hid
        rw [HTK.out, spL_app, List.map_take, hfr]
        exact hown6
      have HB6 : Hid (Below w.heap.size w w6) := (HB.out.alloc hbs _).grown hgrow6 (by simp; omega) (fun j hj => (HO.out.lt j hj).1)
      clear hown6 hgrow6 e8 e9 hfr
      go_wp2_with fail
      go_roundw
      case rel => exact ⟨i + 1, by omega, by omega, by go_num, HOX, HB6⟩
      case measure => simp [intOf]; omega
    · have HN : Hid (i < n → ¬ i < 8) := fun h1 h2 => hlt ⟨h1, h2⟩
      have hdec : (i < n ∧ decide ((i : Int) < 8) = false) ∨ ¬ i < n := by
        by_cases h1 : i < n
        · exact .inl ⟨h1, decide_eq_false (by have := HN.out h1; omega)⟩
        · exact .inr h1
      have hql : ((q.take i).map cutS).length = i := by rw [cut_len, List.length_take, h.out.len]; omega
      have HCB : Hid (∀ x ∈ (q.take i).map cutS, bdB x) := fun x hx => by
        obtain ⟨y, _, rfl⟩ := List.mem_map.1 hx
        exact cut_bd y
      have HCF : Hid (∀ d : List Sp, d.Perm (filt ((q.take i).map cutS)) → (∀ x ∈ d, okB x) ∧ d.length ≤ 8) := fun d hd => ⟨filt_ok hd, by have h1 := hd.length_eq; have h2 := filt_len ((q.take i).map cutS); omega⟩
      obtain ⟨l1, hl1⟩ : ∃ l1, (q.take i).map cutS = l1 := ⟨_, rfl⟩
      rw [hl1] at HO HCB HCF hql
      have HQL := Lib.hid hql
      clear hlt hql hl1
      obtain ⟨sp5, sc5, rfl, hsc5⟩ := row_form HO.out
      have HA5 : Hid (ArgRow 2 spV wr sp5 i l1) := arg_of_row HQL.out HO.out
      rcases hdec with ⟨hd1, hd2⟩ | hd1
      all_goals
        go_wp2_with fail
        refine (of_calls sp5 i sc5 l1 wr HA5 (by omega) HCB).mono ?_
        rintro e w2 ⟨d, v8, hp, hs, rfl, ho8, hb8⟩
        obtain ⟨hok, hdl⟩ := HCF.out d hp
        obtain ⟨S, hS⟩ : ∃ S, mergeL d = S := ⟨_, rfl⟩
        have HCS : Hid (Canon S) := by unfold Hid; rw [← hS]; exact canon_merge hok
        have hSl : S.length ≤ 8 := by rw [← hS]; have := merge_len d; omega
        rw [hS] at ho8
        have HB2 : Hid (Below w.heap.size w w2) := HB.out.trans (hb8.mono hbs)
        have HO8 : Hid (w2.ownsRow w.heap.size 42 2 v8 S.length (spL S)) := row_base ho8 hbs
        obtain ⟨sp8, sc8, rfl, hsc8⟩ := row_form HO8.out
        obtain ⟨bb, hbb⟩ : ∃ bb, a % 16777216 = bb := ⟨_, rfl⟩
        have HBB := Lib.hid hbb
        have hb0 : 0 ≤ bb := by omega
        have hb1 : bb ≤ 16777215 := by omega
        clear hp hs ho8 hb8 hok hdl hS hbb HO HA5
        go_wp2_with fail
        refine (low_calls a bb w2 HBB).mono ?_
        rintro e w' ⟨rfl, rfl⟩
        go_wp2_with fail
        have hbs2 : w.heap.size ≤ w2.heap.size := HB2.out.size
        refine calls_worldB (F := fun W => Below w2.heap.size w2 W ∧ ∃ X, X = w2.heap.size ∧ W.ownsRow w.heap.size 42 2 (.slice (some ⟨X, 0, none⟩) 0 0) 0 (spL [])) ⟨(Below.refl _ _).alloc (Nat.le_refl _) _, _, rfl, rfl, .inr ⟨w2.heap.size, 0, #[], rfl, hbs2, by simpa using Go.heap_alloc_new w2 _, Nat.le_refl _, by decide, rfl, rfl⟩⟩ ?_
        rintro W ⟨hW, X, hX, hWO⟩
        rw [← hX]
        have HW : Hid (Below w.heap.size w W) := HB2.out.trans (hW.mono hbs2)
        have HOW : Hid (W.ownsRow w.heap.size 42 2 (.slice sp8 S.length sc8) S.length (spL S)) := row_on HO8.out hW
        have HWO := Lib.hid hWO
        have HAW : Hid (ArgRow 2 spV W sp8 S.length S) := arg_of_row rfl HOW.out
        have hbsW : w.heap.size ≤ W.heap.size := HW.out.size
        clear hW hWO hX HB2 HO8
        refine (list_calls sp8 S.length sc8 S W HAW (by omega) (fun x hx => HCS.out.ok x hx) (fun i _ => list_len (HCS.out.take i))).mono ?_
        rintro e w3 ⟨v51, rfl, ho3, hb3⟩
        have HOL : Hid (w3.ownsRow w.heap.size 3 1 v51 (listL S).length (numL (listL S))) := row_base ho3 hbsW
        have HB3 : Hid (Below w.heap.size w w3) := HW.out.trans (hb3.mono hbsW)
        have HOW3 : Hid (w3.ownsRow w.heap.size 42 2 (.slice sp8 S.length sc8) S.length (spL S)) := row_on HOW.out hb3
        have HBK3 : Hid (w3.ownsRow w.heap.size 42 2 (.slice (some ⟨X, 0, none⟩) 0 0) 0 (spL [])) := row_on HWO.out hb3
        obtain ⟨sp51, sc51, rfl, hsc51⟩ := row_form HOL.out
        obtain ⟨L, hL⟩ : ∃ L, listL S = L := ⟨_, rfl⟩
        have HLR : Hid (L.Pairwise (· < ·)) := by unfold Hid; rw [← hL]; exact list_rise HCS.out
        have HLB : Hid (∀ i ∈ L, 0 ≤ i ∧ i < 200) := by unfold Hid; rw [← hL]; exact list_bound HCS.out
        have HBL : Hid (backs L = S) := by unfold Hid; rw [← hL]; exact backs_list HCS.out
        have hLl : L.length ≤ 200 := by rw [← hL]; exact list_len HCS.out
        rw [hL] at HOL ⊢
        have hbs3 : w.heap.size ≤ w3.heap.size := HB3.out.size
        clear hL ho3 hb3 HW HOW HWO HAW
        go_wp2_with fail
        go_loopw [10, 12, 13, 14, 53] (fun v10 _ _ _ kv wr => ∃ k : Nat, k ≤ L.length ∧ kv = .int .i64 k ∧ Hid (wr.ownsRow w.heap.size 42 2 v10 (backs (L.take k)).length (spL (backs (L.take k)))) ∧ Hid (Below w3.heap.size w3 wr)) (fun _ _ _ _ kv _ => L.length - (intOf kv).toNat)
        case atStart => exact ⟨0, by omega, rfl, HBK3, Below.refl _ _⟩
        case round =>
          clear HBK3
          obtain ⟨k, hkL, rfl, HBK, HB⟩ := hrel
          have hbsr : w3.heap.size ≤ wr.heap.size := HB.out.size
          by_cases hkl : k < L.length
          · obtain ⟨g51, rfl, hg51, hc51⟩ := ints_cell HOL.out rfl (by omega)
            obtain ⟨x, hx⟩ : ∃ x, L[k] = x := ⟨_, rfl⟩
            have e8 : wr.cell? ⟨g51, k, none⟩ = some (.int .i64 x) := by rw [← hx]; exact hc51 wr HB.out k hkl
            have hxb := HLB.out x (by rw [← hx]; exact List.getElem_mem hkl)
            have hx0 : 0 ≤ x := hxb.1
            have hx1 : x < 200 := hxb.2
            have hk0 : (0 : Int) ≤ (k : Int) := by omega
            have hk1 : (k : Int) < (L.length : Int) := by omega
            have HTK : Hid (L.take (k + 1) = L.take k ++ [x]) := by unfold Hid; rw [List.take_succ_eq_append_getElem hkl, hx]
            have HPW : Hid ((L.take k).Pairwise (· < ·) ∧ ∀ i ∈ L.take k, i < x) := by
              have h1 := HLR.out.sublist (List.take_sublist (k + 1) L)
              rw [HTK.out, List.pairwise_append] at h1
              exact ⟨h1.1, fun i hi => h1.2.2 i hi x (by simp)⟩
            have HBO : Hid (Canon (backs (L.take k)) ∧ ∀ y ∈ backs (L.take k), y.2 ≤ x) := by
              have h1 := backs_ok _ (L.take k) rfl HPW.out.1 (fun i hi => HLB.out i (List.mem_of_mem_take hi))
              exact ⟨h1.1, h1.2 x HPW.out.2⟩
            have hbl : (backs (L.take k)).length ≤ 200 := by
              have h1 : ∀ (l : List Int) (o : List Sp), (l.foldl (fun o i => mergeStep o (one i)) o).length ≤ o.length + l.length := by
                intro l
                induction l with
                | nil => intro o; simp
                | cons a l ih => intro o; have h1 := ih (mergeStep o (one a)); have h2 := step_len o (one a); simp only [List.foldl_cons, List.length_cons]; omega
              have h2 := h1 (L.take k) []
              unfold backs
              simp only [List.length_nil, List.length_take] at h2
              omega
            obtain ⟨r1, hr1⟩ : ∃ r, (bb + x) % 16777216 = r := ⟨_, rfl⟩
            obtain ⟨r2, hr2⟩ : ∃ r, (bb + 200) % 16777216 = r := ⟨_, rfl⟩
            have H0 : Hid (bb % 16777216 = bb) := by unfold Hid; omega
            have H1 := Lib.hid hr1
            have H2 := Lib.hid hr2
            have H3 : Hid ((r1 - bb) % 16777216 = x) := by unfold Hid; omega
            have H4 : Hid ((r2 - bb) % 16777216 = 200) := by unfold Hid; omega
            clear hx hr1 hr2 hc51
            go_wp2_with fail
            refine (add_calls bb x bb r1 wr (by omega) (by omega) hb0 hb1 H0 H1).mono ?_
            rintro e w' ⟨rfl, rfl⟩
            go_wp2_with fail
            refine (add_calls bb 200 bb r2 wr (by omega) (by omega) hb0 hb1 H0 H2).mono ?_
            rintro e w' ⟨rfl, rfl⟩
            go_wp2_with fail
            refine (within_calls bb r1 r2 x 200 wr (by omega) H3 H4).mono ?_
            rintro e w' ⟨rfl, rfl⟩
            go_wp2_with fail
            refine (to_calls bb r1 x wr H3).mono ?_
            rintro e w' ⟨rfl, rfl⟩
            have hx2 : x + 1 ≤ 200 := by omega
            go_wp2_with fail
            have HQ : Hid (∀ y ∈ backs (L.take k), bdB y) := fun y hy => by
              have h1 := HBO.out.1.ok y hy
              unfold okB at h1
              unfold bdB
              omega
            have HX : Hid (bdB (x, x + 1)) := by unfold Hid bdB; simp only []; omega
            refine (add_calls1 w.heap.size u10 (backs (L.take k)) x (x + 1) wr HBK (by omega) HQ HX).mono ?_
            rintro e w5 ⟨d, v5, hp, hs, rfl, ho5, hb5⟩
            have HMD : Hid (mergeL d = backs (L.take (k + 1))) := by
              unfold Hid
              rw [HTK.out, backs_snoc]
              refine merge_add HBO.out.1 HBO.out.2 ?_ hs
              have h1 : filt (backs (L.take k) ++ [(x, x + 1)]) = backs (L.take k) ++ [(x, x + 1)] := filt_all fun y hy => by
                rcases List.mem_append.1 hy with h2 | h2
                · exact (HBO.out.1.ok y h2).2.1
                · simp at h2; subst h2; simp only []; omega
              rw [h1] at hp
              exact hp
            rw [HMD.out] at ho5
            have HBK5 : Hid (w5.ownsRow w.heap.size 42 2 v5 (backs (L.take (k + 1))).length (spL (backs (L.take (k + 1))))) := row_base ho5 (Nat.le_trans hbs3 hbsr)
            have HB5 : Hid (Below w3.heap.size w3 w5) := HB.out.trans (hb5.mono hbsr)
            clear hp hs ho5 hb5 e8
            go_wp2_with fail
            go_roundw
            case rel => exact ⟨k + 1, by omega, by go_num, HBK5, HB5⟩
            case measure => simp [intOf]; omega
          · have HE : Hid (backs (L.take k) = S) := by unfold Hid; rw [List.take_of_length_le (by omega), HBL.out]
            rw [HE.out] at HBK
            obtain ⟨sp10, sc10, rfl, hsc10⟩ := row_form HBK.out
            have HA10 : Hid (ArgRow 2 spV wr sp10 S.length S) := arg_of_row rfl HBK.out
            have HA8 : Hid (ArgRow 2 spV wr sp8 S.length S) := arg_of_row rfl (row_on HOW3.out HB.out)
            have HBF : Hid (Below w.heap.size w wr) := HB3.out.trans (HB.out.mono hbs3)
            clear HE
            go_wp2_with fail
            refine (same_calls sp10 sp8 S.length sc10 sc8 S wr HA10 HA8 (by omega)).mono ?_
            rintro e w5 ⟨rfl, hb5⟩
            have HB5 : Hid (Below w.heap.size w w5) := HBF.out.trans (hb5.mono (Nat.le_trans hbs3 hbsr))
            clear hb5
            go_wp2_with fail
            refine (add_calls 16777215 1 16777215 0 w5 (by omega) (by omega) (by omega) (by omega) rfl rfl).mono ?_
            rintro e w' ⟨rfl, rfl⟩
            go_wp2_with fail
            go_ret
            exact ⟨rfl, HB5.out⟩
theorem round_row (W : World) (a : Int) (wa : (Lit.int .u32 a).wf = true) (s : Option Addr) (n c : Nat) (z : List Sp) (w : ArgRow 2 spV W s n z) (y : n * 16 ≤ 140737488351232) :
    Calls Try.prog 8 #[.int .u32 a, .slice s n c] W fun e w' => e = .returned (.bool true) ∧ Below W.heap.size W w' :=
  round_calls a s n c z W (bounds_u32 wa).1 w (by omega)
end Go.Proofs.Ythdcmejgdcmldaa.Ro
