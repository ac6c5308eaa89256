/-
Epochs that lie in memory to be read; the closure of epoch.Match, slices.IndexFunc, epoch.Match: the calls answer what plain lists say. Conditions: lengths within the machine's.
-/
import Derived.Test.YtjjnhndlollldaaEp1
import Derived.Laws.AppendOwn
import Derived.Maps.AppendAt
import Derived.Carry
namespace Go.Proofs.Ytjjnhndlollldaa.Ep
open Go.RowKit Go.Proofs.Ytjjnhndlollldaa.Args

abbrev EpT := List ByteArray × List ByteArray
/-- A list of texts in a cell. -/
def TxAt (w : World) (b o : Nat) (q : List ByteArray) : Prop := ∃ s c, w.cell? ⟨b, o, none⟩ = some (.slice s q.length c) ∧ ArgRow 1 strV w s q.length q ∧ q.length ≤ c ∧ q.length ≤ 140737488355328
structure EpAt (w : World) (b o : Nat) (e : EpT) : Prop where
  sent : TxAt w b o e.1
  got : TxAt w b (o + 1) e.2
structure EpRd (w : World) (a : Option Addr) (n : Nat) (l : List EpT) : Prop where
  len : l.length = n
  form : 0 < n → ∃ b off, a = some ⟨b, off, none⟩ ∧ b < w.heap.size ∧ ∀ i (h : i < l.length), EpAt w b (off + i * 2) l[i]
theorem TxAt.below {w w' : World} {b o : Nat} {q : List ByteArray} (h : TxAt w b o q) (hb : Below w.heap.size w w') (hlt : b < w.heap.size) : TxAt w' b o q := by
  obtain ⟨s, c, h1, h2, h3⟩ := h
  exact ⟨s, c, (hb.cell (p := ⟨b, o, none⟩) hlt).trans h1, h2.below hb (Nat.le_refl _), h3⟩
theorem EpRd.below {w w' : World} {a : Option Addr} {n : Nat} {l : List EpT} (h : EpRd w a n l) (hb : Below w.heap.size w w') : EpRd w' a n l := by
  refine ⟨h.len, fun hn => ?_⟩
  obtain ⟨b, off, e, hlt, hc⟩ := h.form hn
  exact ⟨b, off, e, Nat.lt_of_lt_of_le hlt hb.size, fun i hi => ⟨(hc i hi).sent.below hb hlt, (hc i hi).got.below hb hlt⟩⟩
theorem EpRd.tail {w : World} {a : Option Addr} {n c k : Nat} {l : List EpT} (h : EpRd w a n l) (hk : k ≤ n) (hc : n ≤ c) : EpRd w (if c = k then a else a.map (·.add (k * 2))) (n - k) (l.drop k) := by
  refine ⟨by rw [List.length_drop, h.len], fun hn => ?_⟩
  rw [if_neg (by omega)]
  obtain ⟨b, off, rfl, hlt, hf⟩ := h.form (by omega)
  refine ⟨b, off + k * 2, by simp [add_form], hlt, fun i hi => ?_⟩
  rw [List.length_drop] at hi
  have h1 := hf (k + i) (by omega)
  rw [List.getElem_drop, show off + k * 2 + i * 2 = off + (k + i) * 2 by omega]
  exact h1
theorem run_from (a : Option Addr) (n c k : Nat) (hk : k ≤ n) (w : World) : (Instr.slice 24 (.slice a n c) (some (.int .i64 (k : Int))) none none).run Try.prog w = .ok (.slice (if c = k then a else a.map (·.add (k * 2))) (n - k) (c - k)) w := by
  have he : Try.prog.elem 24 = 49 := by kernel_rfl
  have hsz : (sizeOf (Try.prog.elem 24)).run Try.prog w = .ok 2 w := by
    rw [he]
    have hi : (Try.prog.info? 49).map (·.size) = some 2 := by kernel_rfl
    obtain ⟨i, hi1, hi2⟩ := Option.map_eq_some_iff.1 hi
    simp [sizeOf, typeInfo, hi1, hi2]
  rw [run_slice_l w 24 a n c (by rw [he]; exact Try.underlying24) .i64 (k : Int) (by omega) (by omega), hsz]
  rfl
/-- Where the first one is that begins so; -1: nowhere. -/
def idxI (l : List EpT) (g : List ByteArray) : Int := match l.findIdx? (fun e => preB e.1 g) with
  | some k => (k : Int)
  | none => -1
theorem calls_worldA {F : World → Prop} {P : Program} {f : FuncId} {args : Array Value} {Q : Ending → World → Prop} {X : World} (hX : F X) (h : ∀ W, F W → Calls P f args W Q) : Calls P f args X Q := h X hX
theorem code_worldA {F : World → Prop} {P : Program} {c : Code} {Q : Exit → Act → World → Prop} {a : Act} {X : World} (hX : F X) (h : ∀ W, F W → Code.wp P c Q a W) : Code.wp P c Q a X := h X hX
def BelowR (w : World) (v : Value) (e : Ending) (w' : World) : Prop := e = .returned v ∧ Below w.heap.size w w'
set_option maxHeartbeats 2000000 in
set_option maxRecDepth 100000 in
theorem match1_calls (X : Nat) (s ga : Option Addr) (n c gn gc : Nat) (v1 : Value) (q g : List ByteArray) (r : Bool) (w : World) (h : Hid (ArgRow 1 strV w s n q)) (hnc : n ≤ c) (hX : X < w.heap.size) (hx : w.cell? ⟨X, 1, none⟩ = some (.slice ga gn gc)) (hg : Hid (ArgRow 1 strV w ga gn g)) (hgn : gn ≤ 140737488355328) (hr : Hid (preB q g = r)) :
    Calls Try.prog 19 #[.agg #[.slice s n c, v1], .pointer (some ⟨X, 0, none⟩)] w (BelowR w (.bool r)) := by
  go_enter Try.func19, Try.ntmps19
  go_wp2_with fail
  refine calls_worldA (F := fun W => Below w.heap.size w W) ((Below.refl _ _).alloc (Nat.le_refl _) _) ?_
  intro W hW
  have HW := Lib.hid hW
  clear hW hx
  refine (prefix_calls s ga n gn c gc q g r W (h.out.below HW.out (Nat.le_refl _)) (hg.out.below HW.out (Nat.le_refl _)) hnc hgn hr).mono ?_
  rintro e w' ⟨rfl, m, hw⟩
  have HW2 : Hid (Below w.heap.size w w') := by rw [hw]; exact below_drewN HW.out m
  clear hw
  go_wp2_with fail
  go_ret
  exact ⟨rfl, HW2.out⟩
theorem idx_found {l : List EpT} {g : List ByteArray} {j : Nat} (hj : j < l.length) (h : preB l[j].1 g = true) (hb : ∀ i (hi : i < j), preB (l[i]'(by omega)).1 g = false) : l.findIdx? (fun e => preB e.1 g) = some j := by
  rw [List.findIdx?_eq_some_iff_getElem]
  exact ⟨hj, h, fun i hi => by rw [hb i hi]; decide⟩
theorem idx_none {l : List EpT} {g : List ByteArray} (hb : ∀ i (hi : i < l.length), preB l[i].1 g = false) : l.findIdx? (fun e => preB e.1 g) = none := by
  rw [List.findIdx?_eq_none_iff]
  intro e he
  obtain ⟨i, hi, rfl⟩ := List.mem_iff_getElem.1 he
  exact hb i hi
set_option maxHeartbeats 2000000 in
set_option maxRecDepth 100000 in
theorem index_calls (X : Nat) (a ga : Option Addr) (n c gn gc : Nat) (l : List EpT) (g : List ByteArray) (r : Int) (w : World) (h : Hid (EpRd w a n l)) (hn : n ≤ 140737488355328) (hX : X < w.heap.size) (hx : w.cell? ⟨X, 1, none⟩ = some (.slice ga gn gc)) (hg : Hid (ArgRow 1 strV w ga gn g)) (hgn : gn ≤ 140737488355328) (hr : Hid (idxI l g = r)) :
    Calls Try.prog 18 #[.slice a n c, .func (.func 19) #[] #[.pointer (some ⟨X, 0, none⟩)]] w (BelowR w (.int .i64 r)) := by
  have HX := Lib.hid hx
  clear hx
  go_enter Try.func18, Try.ntmps18
  go_wp2_with fail
  go_loopw [5, 8] (fun _ jv wr => ∃ j : Nat, j ≤ n ∧ jv = .int .i64 j ∧ Hid (∀ i (hi : i < l.length), i < j → preB l[i].1 g = false) ∧ Hid (Below w.heap.size w wr)) (fun _ jv _ => n - (intOf jv).toNat)
  case atStart => exact ⟨0, by omega, rfl, (fun i hi h => by omega), Below.refl _ _⟩
  case round =>
    obtain ⟨j, hj, rfl, HF, HB⟩ := hrel
    by_cases hjl : j < n
    · obtain ⟨b, off, rfl, hbw, hc⟩ := h.out.form (by omega)
      have hjq : j < l.length := by rw [h.out.len]; exact hjl
      obtain ⟨⟨sv, sc, hs0, hs1, hs2, hs3⟩, ⟨gv, gc2, hg0, hg1, hg2, hg3⟩⟩ := hc j hjq
      obtain ⟨e0, he0⟩ : ∃ e0, l[j] = e0 := ⟨_, rfl⟩
      rw [he0] at hs0 hs1 hs2 hs3 hg0 hg1 hg2 hg3
      have e8 : wr.cell? ⟨b, off + j * 2, none⟩ = some (.slice sv e0.1.length sc) := (HB.out.cell (p := ⟨b, off + j * 2, none⟩) hbw).trans hs0
      have e9 : wr.cell? ⟨b, off + j * 2 + 1, none⟩ = some (.slice gv e0.2.length gc2) := (HB.out.cell (p := ⟨b, off + j * 2 + 1, none⟩) hbw).trans hg0
      have hx2 := (HB.out.cell (p := ⟨X, 1, none⟩) hX).trans HX.out
      have hXs : X < wr.heap.size := Nat.lt_of_lt_of_le hX HB.out.size
      have HS1 := Lib.hid hs1
      have HHE := Lib.hid he0
      have hj0 : (0 : Int) ≤ (j : Int) := by omega
      have hj1 : (j : Int) < (n : Int) := by omega
      clear hc hs0 hs1 hg0 hg1 he0 hg2 hg3
      go_wp2_with fail
      obtain ⟨v, hv⟩ : ∃ v, preB e0.1 g = v := ⟨_, rfl⟩
      have HV := Lib.hid hv
      clear hv
      refine (match1_calls X sv ga e0.1.length sc gn gc _ e0.1 g v wr (HS1.out.below HB.out (Nat.le_refl _)) hs2 hXs hx2 (hg.out.below HB.out (Nat.le_refl _)) hgn HV).mono ?_
      rintro e w' ⟨rfl, hb'⟩
      have HB2 : Hid (Below w.heap.size w w') := HB.out.trans (hb'.mono HB.out.size)
      clear hb' e8 e9 hx2
      cases v with
      | false =>
        have HF2 : Hid (∀ i (hi : i < l.length), i < j + 1 → preB l[i].1 g = false) := fun i hi hij => by
          by_cases e : i = j
          · subst e; rw [HHE.out]; exact HV.out
          · exact HF.out i hi (by omega)
        go_wp2_with fail
        go_roundw
        case rel => exact ⟨j + 1, by omega, by go_num, HF2, HB2⟩
        case measure => simp [intOf]; omega
      | true =>
        have HR : Hid (r = (j : Int)) := by
          unfold Hid
          rw [← hr.out]
          unfold idxI
          rw [idx_found hjq (by rw [HHE.out]; exact HV.out) (fun i hi => HF.out i (by omega) hi)]
        go_wp2_with fail
        go_ret
        exact ⟨congrArg (fun b => Ending.returned (Value.int .i64 b)) HR.out.symm, HB2.out⟩
    · have HR : Hid (r = -1) := by
        unfold Hid
        rw [← hr.out]
        unfold idxI
        rw [idx_none (fun i hi => HF.out i hi (by have := h.out.len; omega))]
      go_wp2_with fail
      go_ret
      exact ⟨congrArg (fun b => Ending.returned (Value.int .i64 b)) HR.out.symm, HB.out⟩
end Go.Proofs.Ytjjnhndlollldaa.Ep
