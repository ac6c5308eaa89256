/-
Rows of spans in memory; slices.Equal and span.Same of one and the same list, (span.Set).List: the calls answer what plain lists say. Conditions: lengths within the machine's.
-/
import Derived.Test.YthdcmejgdcmldaaRo1
import Derived.Laws.AppendOwn
import Derived.Maps.AppendAt
import Derived.Carry
import Derived.Deep.AppendLies
namespace Go.Proofs.Ythdcmejgdcmldaa.Ro
set_option linter.unusedVariables false
open Go.RowKit Go.Proofs.Ythdcmejgdcmldaa.Args

abbrev spV (x : Sp) : List Value := [.int .i64 x.1, .int .i64 x.2]
def spL (l : List Sp) : List Value := l.flatMap spV
theorem spL_len (l : List Sp) : (spL l).length = l.length * 2 := by
  induction l with
  | nil => rfl
  | cons x l ih => unfold spL at ih ⊢; rw [List.flatMap_cons, List.length_append, ih]; simp; omega
theorem spL_app (l l2 : List Sp) : spL (l ++ l2) = spL l ++ spL l2 := by unfold spL; rw [List.flatMap_append]
theorem spL_get (l : List Sp) (i j : Nat) (v : Value) (hi : i < l.length) (hj : (spV l[i])[j]? = some v) : (spL l)[i * 2 + j]? = some v := by
  have hj2 : j < 2 := (List.getElem?_eq_some_iff.1 hj).1
  induction l generalizing i with
  | nil => simp at hi
  | cons a l ih =>
    unfold spL at ih ⊢
    rw [List.flatMap_cons]
    cases i with
    | zero =>
      rw [List.getElem?_append_left (by simp; omega), show 0 * 2 + j = j by omega]
      exact hj
    | succ i =>
      rw [List.getElem?_append_right (by simp; omega), show (i + 1) * 2 + j - (spV a).length = i * 2 + j by simp; omega]
      exact ih i (by simpa using hi) hj
theorem row_keep {w w' : World} {base : Nat} {e : TypeId} {size : Nat} {v : Value} {n : Nat} {xs : List Value} (h : w.ownsRow base e size v n xs) (hk : ∀ b, v.ownBlock = some b → w'.heap[b]? = w.heap[b]?) : w'.ownsRow base e size v n xs := by
  refine ⟨h.1, ?_⟩
  rcases h.2 with h2 | ⟨g, cap, cur, rfl, hg, hh, r⟩
  · exact .inl h2
  · exact .inr ⟨g, cap, cur, rfl, hg, (hk g rfl).trans hh, r⟩
theorem row_on {w w' : World} {base : Nat} {e : TypeId} {size : Nat} {v : Value} {n : Nat} {xs : List Value} (h : w.ownsRow base e size v n xs) (hb : Below w.heap.size w w') : w'.ownsRow base e size v n xs :=
  row_keep h fun b hk => hb.block b (h.lt b hk).2
theorem row_base {w : World} {base b' : Nat} {e : TypeId} {size : Nat} {v : Value} {n : Nat} {xs : List Value} (h : w.ownsRow base e size v n xs) (hb : b' ≤ base) : w.ownsRow b' e size v n xs := by
  refine ⟨h.1, ?_⟩
  rcases h.2 with h2 | ⟨g, cap, cur, rfl, hg, r⟩
  · exact .inl h2
  · exact .inr ⟨g, cap, cur, rfl, Nat.le_trans hb hg, r⟩
theorem row_form {w : World} {base : Nat} {e : TypeId} {size : Nat} {v : Value} {n : Nat} {xs : List Value} (h : w.ownsRow base e size v n xs) : ∃ sp sc, v = .slice sp n sc ∧ n ≤ sc := by
  rcases h.2 with ⟨rfl, rfl⟩ | ⟨g, cap, cur, rfl, _, _, hc, _⟩
  · exact ⟨_, _, rfl, Nat.le_refl _⟩
  · exact ⟨_, _, rfl, hc⟩
/-- A row that is not empty, opened. -/
theorem row_open {w : World} {base : Nat} {e : TypeId} {size : Nat} {v : Value} {n : Nat} {xs : List Value} (h : w.ownsRow base e size v n xs) (hn : 0 < n) : ∃ g cap cur, v = .slice (some ⟨g, 0, none⟩) n cap ∧ base ≤ g ∧ w.heap[g]? = some (.cells cur e (0, 0)) ∧ n ≤ cap ∧ ∀ (j : Nat) (x : Value), xs[j]? = some x → cur[j]? = some x := by
  rcases h.2 with ⟨_, h2⟩ | ⟨g, cap, cur, rfl, hg, hh, h3, _, hsz, htk⟩
  · omega
  · refine ⟨g, cap, cur, rfl, hg, hh, h3, fun j x hx => ?_⟩
    rw [← htk] at hx
    have hj : j < n * size := by
      have := (List.getElem?_eq_some_iff.1 hx).1
      rw [List.length_take] at this; omega
    rw [List.getElem?_take_of_lt hj] at hx
    simpa using hx
/-- A row of spans, to be read. -/
theorem arg_of_row {w : World} {base n c : Nat} {s : Option Addr} {q : List Sp} (hq : q.length = n) (h : w.ownsRow base 42 2 (.slice s n c) n (spL q)) : ArgRow 2 spV w s n q := by
  refine ⟨hq, fun hn => ?_⟩
  obtain ⟨g, cap, cur, hv, _, hh, _, hx⟩ := row_open h hn
  injection hv with h1 _ _
  refine ⟨g, 0, h1, (Array.getElem?_eq_some_iff.1 hh).1, fun i hi j v hj => ?_⟩
  rw [cell_of_row _ _ _ _ _ _ hh, show 0 + i * 2 + j = i * 2 + j by omega]
  exact hx _ _ (spL_get q i j v hi hj)
/-- Cells of a span that came in. -/
theorem sp_cells {w : World} {a : Option Addr} {n : Nat} {q : List Sp} (h : ArgRow 2 spV w a n q) (hn : 0 < n) :
    ∃ b off, a = some ⟨b, off, none⟩ ∧ b < w.heap.size ∧ ∀ i (hi : i < q.length), w.cell? ⟨b, off + i * 2, none⟩ = some (.int .i64 q[i].1) ∧ w.cell? ⟨b, off + i * 2 + 1, none⟩ = some (.int .i64 q[i].2) := by
  obtain ⟨b, off, he, hlt, hc⟩ := h.form hn
  exact ⟨b, off, he, hlt, fun i hi => ⟨hc i hi 0 _ rfl, hc i hi 1 _ rfl⟩⟩
theorem drewN_more {w wr : World} (h : ∃ m, wr = w.drewN m) (k : Nat) : ∃ m, wr.drewN k = w.drewN m := by
  obtain ⟨m, rfl⟩ := h
  exact ⟨m + k, by simp [World.drewN, Nat.add_comm, Nat.add_left_comm]⟩
set_option maxHeartbeats 2000000 in
set_option maxRecDepth 100000 in
theorem equal_calls (a a2 : Option Addr) (n c c2 : Nat) (q : List Sp) (w : World) (h : Hid (ArgRow 2 spV w a n q)) (h2 : Hid (ArgRow 2 spV w a2 n q)) (hn : n ≤ 1000000) :
    Calls Try.prog 29 #[.slice a n c, .slice a2 n c2] w (BelowR w (.bool true)) := by
  go_enter Try.func29, Try.ntmps29
  go_wp2_with fail
  go_loopw [5, 13] (fun _ jv wr => ∃ j : Nat, j ≤ n ∧ jv = .int .i64 j ∧ Hid (∃ m, wr = w.drewN m)) (fun _ jv _ => n - (intOf jv).toNat)
  case atStart => exact ⟨0, by omega, rfl, 0, rfl⟩
  case round =>
    obtain ⟨j, hj, rfl, HM⟩ := hrel
    by_cases hjl : j < n
    · obtain ⟨b8, off8, rfl, hbw8, hc8⟩ := sp_cells h.out (by omega)
      obtain ⟨b9, off9, rfl, hbw9, hc9⟩ := sp_cells h2.out (by omega)
      have hjq : j < q.length := by rw [h.out.len]; exact hjl
      obtain ⟨⟨x, y⟩, hx⟩ : ∃ x, q[j] = x := ⟨_, rfl⟩
      have e8 : wr.cell? ⟨b8, off8 + j * 2, none⟩ = some (.int .i64 x) := by obtain ⟨m, rfl⟩ := HM.out; rw [show x = q[j].1 by rw [hx]]; exact (hc8 j hjq).1
      have e8' : wr.cell? ⟨b8, off8 + j * 2 + 1, none⟩ = some (.int .i64 y) := by obtain ⟨m, rfl⟩ := HM.out; rw [show y = q[j].2 by rw [hx]]; exact (hc8 j hjq).2
      have e9 : wr.cell? ⟨b9, off9 + j * 2, none⟩ = some (.int .i64 x) := by obtain ⟨m, rfl⟩ := HM.out; rw [show x = q[j].1 by rw [hx]]; exact (hc9 j hjq).1
      have e9' : wr.cell? ⟨b9, off9 + j * 2 + 1, none⟩ = some (.int .i64 y) := by obtain ⟨m, rfl⟩ := HM.out; rw [show y = q[j].2 by rw [hx]]; exact (hc9 j hjq).2
      have hj0 : (0 : Int) ≤ (j : Int) := by omega
      have hj1 : (j : Int) < (n : Int) := by omega
      clear hc8 hc9 hx hjq
      go_wp2_with fail
      go_quiet (fail)
      go_wp2_with fail
      go_roundw
      case rel => exact ⟨j + 1, by omega, by go_num, drewN_more HM.out _⟩
      case measure => simp [intOf]; omega
    · have hje : j = n := by omega
      clear hje
      go_wp2_with fail
      go_ret
      obtain ⟨m, rfl⟩ := HM.out
      exact ⟨rfl, below_drewN (Below.refl _ _) m⟩
set_option maxHeartbeats 2000000 in
theorem same_calls (a a2 : Option Addr) (n c c2 : Nat) (q : List Sp) (w : World) (h : Hid (ArgRow 2 spV w a n q)) (h2 : Hid (ArgRow 2 spV w a2 n q)) (hn : n ≤ 1000000) :
    Calls Try.prog 22 #[.slice a n c, .slice a2 n c2] w (BelowR w (.bool true)) := by
  go_enter Try.func22, Try.ntmps22
  go_wp2_with fail
  refine (equal_calls a a2 n c c2 q w h h2 hn).mono ?_
  rintro e w' ⟨rfl, hb⟩
  go_wp2_with fail
  go_ret
  exact ⟨rfl, hb⟩
theorem code_worldB {F : World → Prop} {P : Program} {c : Code} {Q : Exit → Act → World → Prop} {a : Act} {X : World} (hX : F X) (h : ∀ W, F W → Code.wp P c Q a W) : Code.wp P c Q a X := h X hX
theorem infoI : (Try.prog.info? 3).map (fun i => (i.zero, i.size, i.bytes)) = some (some (.int .i64 0), 1, 8) := by kernel_rfl
def numL (l : List Int) : List Value := l.map fun i => Value.int .i64 i
def ListO (w : World) (l : List Int) (e : Ending) (w' : World) : Prop := ∃ v, e = .returned v ∧ w'.ownsRow w.heap.size 3 1 v l.length (numL l) ∧ Below w.heap.size w w'
theorem listL_take {l : List Sp} {i : Nat} (hi : i < l.length) : listL (l.take (i + 1)) = listL (l.take i) ++ nums l[i] := by
  rw [List.take_succ_eq_append_getElem hi]
  unfold listL
  rw [List.flatMap_append]
  simp
/-- The first numbers of a span. -/
def numsK (x : Int) (k : Nat) : List Int := (List.range k).map (fun (k : Nat) => x + (k : Int))
theorem numsK_succ (x : Int) (k : Nat) : numsK x (k + 1) = numsK x k ++ [x + (k : Int)] := by
  unfold numsK; rw [List.range_succ]; simp
theorem numsK_len (x : Int) (k : Nat) : (numsK x k).length = k := by unfold numsK; simp
set_option maxHeartbeats 4000000 in
set_option maxRecDepth 100000 in
theorem list_calls (a : Option Addr) (n c : Nat) (q : List Sp) (w : World) (h : Hid (ArgRow 2 spV w a n q)) (hn : n ≤ 1000000) (hq : Hid (∀ x ∈ q, okB x)) (hL : Hid (∀ i, i ≤ n → (listL (q.take i)).length ≤ 200)) :
    Calls Try.prog 20 #[.slice a n c] w (ListO w (listL q)) := by
  obtain ⟨i0, hi, hz0, hz1, hz2⟩ := info_parts infoI
  have HI := Lib.hid hi
  have HZ0 := Lib.hid hz0
  have HZ1 := Lib.hid hz1
  have HZ2 := Lib.hid hz2
  clear hi hz0 hz1 hz2
  go_enter Try.func20, Try.ntmps20
  go_wp2_with fail
  go_loopw [3, 5, 6, 9] (fun v3 _ _ jv wr => ∃ (i m : Nat), i ≤ n ∧ jv = .int .i64 i ∧ m ≤ 200 ∧ Hid ((listL (q.take i)).length = m) ∧ Hid (wr.ownsRow w.heap.size 3 1 v3 m (numL (listL (q.take i)))) ∧ Hid (Below w.heap.size w wr)) (fun _ _ _ jv _ => n - (intOf jv).toNat)
  case atStart => exact ⟨0, 0, by omega, rfl, by omega, rfl, World.ownsRow_nil _ _ _ _, Below.refl _ _⟩
  case round =>
    obtain ⟨i, m, hin, rfl, hm, HLN, HOWN, HB⟩ := hrel
    by_cases hlt : i < n
    · obtain ⟨b, off, rfl, hbw, hc⟩ := sp_cells h.out (by omega)
      have hig : i < q.length := by rw [h.out.len]; exact hlt
      obtain ⟨⟨x, y⟩, hx⟩ : ∃ x, q[i] = x := ⟨_, rfl⟩
      have hok := hq.out _ (List.getElem_mem hig)
      rw [hx] at hok
      have hok1 : 0 ≤ x := hok.1
      have hok2 : x < y := hok.2.1
      have hok3 : y ≤ 200 := hok.2.2
      have e8 : wr.cell? ⟨b, off + i * 2, none⟩ = some (.int .i64 x) := by rw [show x = q[i].1 by rw [hx]]; exact (HB.out.cell (p := ⟨b, off + i * 2, none⟩) hbw).trans (hc i hig).1
      have e9 : wr.cell? ⟨b, off + i * 2 + 1, none⟩ = some (.int .i64 y) := by rw [show y = q[i].2 by rw [hx]]; exact (HB.out.cell (p := ⟨b, off + i * 2 + 1, none⟩) hbw).trans (hc i hig).2
      have hi0 : (0 : Int) ≤ (i : Int) := by omega
      have hi1 : (i : Int) < (n : Int) := by omega
      have hbs : w.heap.size ≤ wr.heap.size := HB.out.size
      have HTK : Hid (listL (q.take (i + 1)) = listL (q.take i) ++ numsK x (y - x).toNat) := by
        unfold Hid
        rw [listL_take hig, hx]
        rfl
      have HL1 : Hid ((listL (q.take (i + 1))).length ≤ 200) := hL.out (i + 1) (by omega)
      have hmy : (m : Int) + (y - x) ≤ 200 := by
        have h1 := HL1.out
        rw [HTK.out, List.length_append, numsK_len, HLN.out] at h1
        omega
      clear hc hx hok
      go_wp2_with fail
      obtain ⟨X, hX⟩ : ∃ X, wr.heap.size = X := ⟨_, rfl⟩
      refine code_worldB (F := fun W => Below wr.heap.size wr W ∧ W.heap[X]? = some (.cells #[.int .i64 x, .int .i64 y] 42 (0, 0)) ∧ W.ownsRow w.heap.size 3 1 u3 m (numL (listL (q.take i)))) ⟨(Below.refl _ _).alloc (Nat.le_refl _) _, by rw [← hX]; exact Go.heap_alloc_new _ _, HOWN.out.alloc _⟩ ?_
      rintro W ⟨hW, hWX, hWO⟩
      rw [hX]
      have HW := Lib.hid hW
      have HWX := Lib.hid hWX
      have HWO := Lib.hid hWO
      have HBX := Lib.hid hX
      clear hW hWX hWO hX e8 e9
      go_loopw [3, 6] (fun v3 v6 wr2 => ∃ k : Nat, (k : Int) ≤ y - x ∧ v6 = .int .i64 (x + k) ∧ Hid (wr2.ownsRow w.heap.size 3 1 v3 (m + k) (numL (listL (q.take i) ++ numsK x k))) ∧ Hid (Below w.heap.size w wr2) ∧ Hid (wr2.heap[X]? = some (.cells #[.int .i64 x, .int .i64 y] 42 (0, 0))) ∧ Hid (∀ b, v3.ownBlock = some b → b ≠ X)) (fun _ v6 _ => (y - intOf v6).toNat)
      case atStart => exact ⟨0, by omega, by simp, by unfold Hid numsK; simpa using HWO.out, HB.out.trans (HW.out.mono hbs), HWX.out, fun b hb e => by have := (HOWN.out.lt b hb).2; have := HBX.out; omega⟩
      case round =>
        obtain ⟨k, hk, rfl, HO2, HB2, HX2, HNX⟩ := hrel
        have e9 : wr.cell? ⟨X, 1, none⟩ = some (.int .i64 y) := by rw [cell_of_row _ _ _ _ _ _ HX2.out]; rfl
        have hbs2 : w.heap.size ≤ wr.heap.size := HB2.out.size
        have HXL : Hid (X < wr.heap.size) := (Array.getElem?_eq_some_iff.1 HX2.out).1
        obtain ⟨sp3, sc3, rfl, hsc3⟩ := row_form HO2.out
        have hxk0 : 0 ≤ x + (k : Int) := by omega
        have hxk1 : x + (k : Int) ≤ 200 := by omega
        have hmk : (m : Int) + (k : Int) < 65536 := by omega
        have hmk2 : m + k ≤ 200 := by omega
        by_cases hkl : (k : Int) < y - x
        · have hlt3 : x + (k : Int) < y := by omega
          go_wp2_with (at_builtin; refine wpList_append_own_at _ rfl _ _ 30 rfl w.heap.size 3 i0 (.int .i64 0) 1 8 Try.underlying30 HI.out HZ0.out HZ1.out HZ2.out rfl (by decide) _ _ _ rfl (HO2.out.alloc _) ⟨wr.heap.size, 0, none⟩ 1 1 [.int .i64 (x + (k : Int))] rfl rfl (World.news_of_block (cs := #[.int .i64 (x + (k : Int))]) (t := 3) (fr := (0, 0)) (Go.heap_alloc_new _ _)) (by simp [Value.oneCell']) (by unfold maxLen; omega) (by omega) (by simp; omega) ?_)
          intro v6 w6 hown6 hgrow6 _ hat6
          have HO6 : Hid (w6.ownsRow w.heap.size 3 1 v6 (m + (k + 1)) (numL (listL (q.take i) ++ numsK x (k + 1)))) := by
            unfold Hid
            rw [numsK_succ, ← List.append_assoc]
            unfold numL at hown6 ⊢
            rw [List.map_append]
            exact hown6
          have HB6 : Hid (Below w.heap.size w w6) := (HB2.out.alloc hbs2 _).grown hgrow6 (by simp; omega) (fun j hj => (HO2.out.lt j hj).1)
          have HX6 : Hid (w6.heap[X]? = some (.cells #[.int .i64 x, .int .i64 y] 42 (0, 0))) := (hgrow6.block X (by have := HXL.out; simp; omega) (fun e => HNX.out X e.symm rfl)).trans ((((Below.refl _ _).alloc (Nat.le_refl _) _).block X HXL.out).trans HX2.out)
          have HN6 : Hid (∀ b, v6.ownBlock = some b → b ≠ X) := fun b hb e => by
            rcases hat6 with h1 | h1
            · exact HNX.out b (h1 ▸ hb) e
            · rw [h1] at hb
              injection hb with hb
              have := HXL.out
              omega
          clear hown6 hgrow6 hat6 e9
          go_wp2_with fail
          go_roundw
          case rel => exact ⟨k + 1, by omega, congrArg (Value.int .i64) (by omega), HO6, HB6, HX6, HN6⟩
          case measure => simp [intOf]; omega
        · have hlt3 : decide (x + (k : Int) < y) = false := decide_eq_false (by omega)
          have HE : Hid (listL (q.take (i + 1)) = listL (q.take i) ++ numsK x k) := by unfold Hid; rw [HTK.out, show (y - x).toNat = k by omega]
          go_wp2_with fail
          go_roundw
          case rel => exact ⟨i + 1, m + k, by omega, by go_num, by omega, by unfold Hid; rw [HE.out, List.length_append, HLN.out, numsK_len], by rw [HE.out]; exact HO2, HB2⟩
          case measure => simp [intOf]; omega
    · have hie : i = n := by omega
      have HE : Hid (listL (q.take i) = listL q ∧ m = (listL q).length) := by
        have h1 : q.take i = q := List.take_of_length_le (by rw [h.out.len]; omega)
        have h2 := HLN.out
        rw [h1] at h2
        exact ⟨by rw [h1], h2.symm⟩
      clear hie
      go_wp2_with fail
      go_ret
      have HO := HOWN.out
      rw [HE.out.1, HE.out.2] at HO
      exact ⟨_, rfl, HO, HB.out⟩
end Go.Proofs.Ythdcmejgdcmldaa.Ro
