/-
Lists of texts compared: slices.Equal, the law's same, epoch.Prefix: the calls answer what plain lists say, and leave the memory as it was. Conditions: lengths within the machine's.
-/
import Derived.Test.YtjjnhndlollldaaArgs
import Derived.WalkKit
import Derived.Outline
import Derived.OwnWalk
import Derived.LoopTactic
import Derived.WalkLawsBesides
import Derived.WalkSpells
import Derived.WalkSmall
import Derived.Laws.Rows
import Derived.Laws.Slices
import Derived.Lib.Hide
import Derived.Deep.QuietTactic
import Derived.BigQuiet
import Derived.KernelRfl
namespace Go.Proofs.Ytjjnhndlollldaa.Ep
open Go.RowKit Go.Proofs.Ytjjnhndlollldaa.Args

abbrev strV (x : ByteArray) : List Value := [Value.string x]
theorem toList_inj {a b : ByteArray} (h : a.toList = b.toList) : a = b := by
  rw [Go.ByteArray.toList_eq, Go.ByteArray.toList_eq] at h
  apply ByteArray.ext
  exact Array.toList_inj.1 h
theorem drewN_more {w wr : World} (h : ∃ m, wr = w.drewN m) (k : Nat) : ∃ m, wr.drewN k = w.drewN m := by
  obtain ⟨m, rfl⟩ := h
  exact ⟨m + k, by simp [World.drewN, Nat.add_comm, Nat.add_left_comm]⟩
/-- It answers v, and reads alone. -/
def Drawn (w : World) (v : Value) (e : Ending) (w' : World) : Prop := e = .returned v ∧ ∃ m, w' = w.drewN m
def eqB (q q2 : List ByteArray) : Bool := decide (q = q2)
theorem eqB_true {q q2 : List ByteArray} : eqB q q2 = true ↔ q = q2 := by unfold eqB; simp
theorem eqB_false {q q2 : List ByteArray} : eqB q q2 = false ↔ ¬ q = q2 := by unfold eqB; simp

set_option maxHeartbeats 2000000 in
set_option maxRecDepth 100000 in
theorem equal_calls (a a2 : Option Addr) (n n2 c c2 : Nat) (q q2 : List ByteArray) (r : Bool) (w : World) (h : Hid (ArgRow 1 strV w a n q)) (h2 : Hid (ArgRow 1 strV w a2 n2 q2)) (hn : n ≤ 140737488355328) (hn2 : n2 ≤ 140737488355328) (hr : Hid (eqB q q2 = r)) :
    Calls Try.prog 20 #[.slice a n c, .slice a2 n2 c2] w (Drawn w (.bool r)) := by
  by_cases hnn : n = n2
  · subst hnn
    go_enter Try.func20, Try.ntmps20
    go_wp2_with fail
    go_loopw [5, 13] (fun _ jv wr => ∃ j : Nat, j ≤ n ∧ jv = .int .i64 j ∧ Hid (q.take j = q2.take j) ∧ Hid (∃ m, wr = w.drewN m)) (fun _ jv _ => n - (intOf jv).toNat)
    case atStart => exact ⟨0, by omega, rfl, rfl, 0, rfl⟩
    case round =>
      obtain ⟨j, hj, rfl, HT, HM⟩ := hrel
      by_cases hjl : j < n
      · obtain ⟨b8, off8, rfl, hbw8, hc8⟩ := ArgRow.one h.out (by omega)
        obtain ⟨b9, off9, rfl, hbw9, hc9⟩ := ArgRow.one h2.out (by omega)
        have hjq : j < q.length := by rw [h.out.len]; exact hjl
        have hjq2 : j < q2.length := by rw [h2.out.len]; exact hjl
        obtain ⟨x, hx⟩ : ∃ x, q[j] = x := ⟨_, rfl⟩
        obtain ⟨y, hy⟩ : ∃ y, q2[j] = y := ⟨_, rfl⟩
        have e8 : wr.cell? ⟨b8, off8 + j, none⟩ = some (.string x) := by obtain ⟨m, rfl⟩ := HM.out; exact (hc8 j hjq).trans (congrArg (fun q => some (Value.string q)) hx)
        have e9 : wr.cell? ⟨b9, off9 + j, none⟩ = some (.string y) := by obtain ⟨m, rfl⟩ := HM.out; exact (hc9 j hjq2).trans (congrArg (fun q => some (Value.string q)) hy)
        have hj0 : (0 : Int) ≤ (j : Int) := by omega
        have hj1 : (j : Int) < (n : Int) := by omega
        by_cases hxy : x = y
        · subst hxy
          have hxx2 : (x.toList != x.toList) = false := by rw [bne_eq_false_iff_eq]
          have hxx : (x.toList == x.toList) = true := beq_iff_eq.2 rfl
          have HT2 : Hid (q.take (j + 1) = q2.take (j + 1)) := by unfold Hid; rw [List.take_succ_eq_append_getElem hjq, List.take_succ_eq_append_getElem hjq2, HT.out, hx, hy]
          clear hc8 hc9 hx hy hjq hjq2
          go_wp2_with fail
          go_quiet (fail)
          go_wp2_with fail
          go_roundw
          case rel => exact ⟨j + 1, by omega, by go_num, HT2, drewN_more HM.out _⟩
          case measure => simp [intOf]; omega
        · have hxx2 : (x.toList != y.toList) = true := bne_iff_ne.2 (fun e => hxy (toList_inj e))
          have hxx : (x.toList == y.toList) = false := beq_eq_false_iff_ne.2 (fun e => hxy (toList_inj e))
          have HF : Hid (r = false) := by
            unfold Hid
            rw [← hr.out, eqB_false]
            intro e
            subst e
            exact hxy (hx.symm.trans hy)
          clear hc8 hc9 hx hy hjq hjq2 hxy
          go_wp2_with fail
          go_quiet (fail)
          go_wp2_with fail
          go_ret
          exact ⟨congrArg (fun b => Ending.returned (Value.bool b)) HF.out.symm, drewN_more HM.out _⟩
      · have hje : j = n := by omega
        have HF : Hid (r = true) := by
          unfold Hid
          rw [← hr.out, eqB_true]
          have h3 := HT.out
          rwa [List.take_of_length_le (by rw [h.out.len]; omega), List.take_of_length_le (by rw [h2.out.len]; omega)] at h3
        clear hje
        go_wp2_with fail
        go_ret
        exact ⟨congrArg (fun b => Ending.returned (Value.bool b)) HF.out.symm, HM.out⟩
  · have HF : Hid (r = false) := by
      unfold Hid
      rw [← hr.out, eqB_false]
      intro e
      subst e
      exact hnn (h.out.len.symm.trans h2.out.len)
    have hne : ((n : Int) != (n2 : Int)) = true := bne_iff_ne.2 (by omega)
    have hne2 : (n != n2) = true := bne_iff_ne.2 hnn
    go_enter Try.func20, Try.ntmps20
    go_wp2_with fail
    go_ret
    exact ⟨congrArg (fun b => Ending.returned (Value.bool b)) HF.out.symm, 0, rfl⟩

set_option maxHeartbeats 2000000 in
set_option maxRecDepth 100000 in
theorem same_calls (a a2 : Option Addr) (n n2 c c2 : Nat) (q q2 : List ByteArray) (r : Bool) (w : World) (h : Hid (ArgRow 1 strV w a n q)) (h2 : Hid (ArgRow 1 strV w a2 n2 q2)) (hn : n ≤ 140737488355328) (hn2 : n2 ≤ 140737488355328) (hr : Hid (eqB q q2 = r)) :
    Calls Try.prog 11 #[.slice a n c, .slice a2 n2 c2] w (Drawn w (.bool r)) := by
  by_cases hnn : n = n2
  · subst hnn
    go_enter Try.func11, Try.ntmps11
    go_wp2_with fail
    go_loopw [5, 13] (fun _ jv wr => ∃ j : Nat, j ≤ n ∧ jv = .int .i64 j ∧ Hid (q.take j = q2.take j) ∧ Hid (∃ m, wr = w.drewN m)) (fun _ jv _ => n - (intOf jv).toNat)
    case atStart => exact ⟨0, by omega, rfl, rfl, 0, rfl⟩
    case round =>
      obtain ⟨j, hj, rfl, HT, HM⟩ := hrel
      by_cases hjl : j < n
      · obtain ⟨b8, off8, rfl, hbw8, hc8⟩ := ArgRow.one h.out (by omega)
        obtain ⟨b9, off9, rfl, hbw9, hc9⟩ := ArgRow.one h2.out (by omega)
        have hjq : j < q.length := by rw [h.out.len]; exact hjl
        have hjq2 : j < q2.length := by rw [h2.out.len]; exact hjl
        obtain ⟨x, hx⟩ : ∃ x, q[j] = x := ⟨_, rfl⟩
        obtain ⟨y, hy⟩ : ∃ y, q2[j] = y := ⟨_, rfl⟩
        have e8 : wr.cell? ⟨b8, off8 + j, none⟩ = some (.string x) := by obtain ⟨m, rfl⟩ := HM.out; exact (hc8 j hjq).trans (congrArg (fun q => some (Value.string q)) hx)
        have e9 : wr.cell? ⟨b9, off9 + j, none⟩ = some (.string y) := by obtain ⟨m, rfl⟩ := HM.out; exact (hc9 j hjq2).trans (congrArg (fun q => some (Value.string q)) hy)
        have hj0 : (0 : Int) ≤ (j : Int) := by omega
        have hj1 : (j : Int) < (n : Int) := by omega
        by_cases hxy : x = y
        · subst hxy
          have hxx2 : (x.toList != x.toList) = false := by rw [bne_eq_false_iff_eq]
          have hxx : (x.toList == x.toList) = true := beq_iff_eq.2 rfl
          have HT2 : Hid (q.take (j + 1) = q2.take (j + 1)) := by unfold Hid; rw [List.take_succ_eq_append_getElem hjq, List.take_succ_eq_append_getElem hjq2, HT.out, hx, hy]
          clear hc8 hc9 hx hy hjq hjq2
          go_wp2_with fail
          go_quiet (fail)
          go_wp2_with fail
          go_roundw
          case rel => exact ⟨j + 1, by omega, by go_num, HT2, drewN_more HM.out _⟩
          case measure => simp [intOf]; omega
        · have hxx2 : (x.toList != y.toList) = true := bne_iff_ne.2 (fun e => hxy (toList_inj e))
          have hxx : (x.toList == y.toList) = false := beq_eq_false_iff_ne.2 (fun e => hxy (toList_inj e))
          have HF : Hid (r = false) := by
            unfold Hid
            rw [← hr.out, eqB_false]
            intro e
            subst e
            exact hxy (hx.symm.trans hy)
          clear hc8 hc9 hx hy hjq hjq2 hxy
          go_wp2_with fail
          go_quiet (fail)
          go_wp2_with fail
          go_ret
          exact ⟨congrArg (fun b => Ending.returned (Value.bool b)) HF.out.symm, drewN_more HM.out _⟩
      · have hje : j = n := by omega
        have HF : Hid (r = true) := by
          unfold Hid
          rw [← hr.out, eqB_true]
          have h3 := HT.out
          rwa [List.take_of_length_le (by rw [h.out.len]; omega), List.take_of_length_le (by rw [h2.out.len]; omega)] at h3
        clear hje
        go_wp2_with fail
        go_ret
        exact ⟨congrArg (fun b => Ending.returned (Value.bool b)) HF.out.symm, HM.out⟩
  · have HF : Hid (r = false) := by
      unfold Hid
      rw [← hr.out, eqB_false]
      intro e
      subst e
      exact hnn (h.out.len.symm.trans h2.out.len)
    have hne : ((n : Int) != (n2 : Int)) = true := bne_iff_ne.2 (by omega)
    have hne2 : (n != n2) = true := bne_iff_ne.2 hnn
    go_enter Try.func11, Try.ntmps11
    go_wp2_with fail
    go_ret
    exact ⟨congrArg (fun b => Ending.returned (Value.bool b)) HF.out.symm, 0, rfl⟩

/-- Is g the beginning of s? -/
def preB (s g : List ByteArray) : Bool := decide (g.length ≤ s.length) && eqB (s.take g.length) g
theorem row_take {w : World} {a : Option Addr} {n k : Nat} {q : List ByteArray} (h : ArgRow 1 strV w a n q) (hk : k ≤ n) : ArgRow 1 strV w a k (q.take k) := by
  refine ⟨by rw [List.length_take, h.len]; omega, fun hp => ?_⟩
  obtain ⟨b, off, e, hl, hc⟩ := h.form (by omega)
  refine ⟨b, off, e, hl, fun i hi j v hv => ?_⟩
  have hi2 : i < q.length := by rw [List.length_take] at hi; omega
  rw [List.getElem_take] at hv
  exact hc i hi2 j v hv
theorem run_upto (a : Option Addr) (n c k : Nat) (hk : k ≤ n) (hc : n ≤ c) (w : World) : (Instr.slice 45 (.slice a n c) none (some (.int .i64 (k : Int))) none).run Try.prog w = .ok (.slice a k c) w := by
  have he : Try.prog.elem 45 = 9 := by kernel_rfl
  have hsz : (sizeOf (Try.prog.elem 45)).run Try.prog w = .ok 1 w := by
    rw [he]
    have hi : (Try.prog.info? 9).map (·.size) = some 1 := by kernel_rfl
    obtain ⟨i, hi1, hi2⟩ := Option.map_eq_some_iff.1 hi
    simp [sizeOf, typeInfo, hi1, hi2]
  rw [run_slice_h w 45 a n c (by rw [he]; exact Try.underlying45) .i64 (k : Int) (by omega) (by omega), hsz]
  show Result.ok (Value.slice (if c = 0 then a else a.map (·.add (0 * 1))) ((k : Int).toNat - 0) (c - 0)) w = _
  have ha : a.map (·.add (0 * 1)) = a := by cases a <;> simp [Addr.add]
  rw [ha]
  simp
set_option maxHeartbeats 2000000 in
set_option maxRecDepth 100000 in
theorem prefix_calls (a a2 : Option Addr) (n n2 c c2 : Nat) (q q2 : List ByteArray) (r : Bool) (w : World) (h : Hid (ArgRow 1 strV w a n q)) (h2 : Hid (ArgRow 1 strV w a2 n2 q2)) (hnc : n ≤ c) (hn2 : n2 ≤ 140737488355328) (hr : Hid (preB q q2 = r)) :
    Calls Try.prog 14 #[.slice a n c, .slice a2 n2 c2] w (Drawn w (.bool r)) := by
  by_cases hle : n2 ≤ n
  · have hs := run_upto a n c n2 hle hnc
    have hd : decide ((n2 : Int) ≤ (n : Int)) = true := decide_eq_true (by omega)
    have hd2 : decide (n2 ≤ n) = true := decide_eq_true hle
    have HE : Hid (eqB (q.take n2) q2 = r) := by
      unfold Hid
      rw [← hr.out]
      unfold preB
      rw [h.out.len, h2.out.len, hd2]
      rfl
    have HT := Lib.hid (row_take h.out hle)
    have HLE := Lib.hid hle
    go_enter Try.func14, Try.ntmps14
    go_wp2_with fail
    clear hs
    refine (equal_calls a a2 n2 n2 c c2 (q.take n2) q2 r w HT h2 hn2 hn2 HE).mono ?_
    rintro e w' ⟨rfl, m, rfl⟩
    go_wp2_with fail
    go_ret
    exact ⟨rfl, m, rfl⟩
  · have hd : decide ((n2 : Int) ≤ (n : Int)) = false := decide_eq_false (by omega)
    have hd2 : decide (n2 ≤ n) = false := decide_eq_false hle
    have HF : Hid (r = false) := by
      unfold Hid
      rw [← hr.out]
      unfold preB
      rw [h.out.len, h2.out.len, hd2]
      rfl
    go_enter Try.func14, Try.ntmps14
    go_wp2_with fail
    go_ret
    exact ⟨congrArg (fun b => Ending.returned (Value.bool b)) HF.out.symm, 0, rfl⟩
end Go.Proofs.Ytjjnhndlollldaa.Ep
