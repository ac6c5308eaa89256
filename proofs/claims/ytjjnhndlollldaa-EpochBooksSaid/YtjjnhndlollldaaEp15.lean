/-
EpochCopies: the walk. Conditions: lengths within the machine's.
-/
import Derived.Test.YtjjnhndlollldaaEp14
namespace Go.Proofs.Ytjjnhndlollldaa.Ep
set_option linter.unusedVariables false
open Go.RowKit Go.Proofs.Ytjjnhndlollldaa.Args

def noteV (x : NoteT) : List Value := [.int .i64 x.1, .int .i64 x.2.1, .int .i64 x.2.2.1, .string x.2.2.2]
theorem note_cells {w : World} {a : Option Addr} {n : Nat} {q : List NoteT} (h : ArgRow 4 noteV w a n q) (hn : 0 < n) :
    ∃ b off, a = some ⟨b, off, none⟩ ∧ b < w.heap.size ∧ ∀ i (hi : i < q.length), w.cell? ⟨b, off + i * 4, none⟩ = some (.int .i64 q[i].1) ∧ w.cell? ⟨b, off + i * 4 + 1, none⟩ = some (.int .i64 q[i].2.1) ∧ w.cell? ⟨b, off + i * 4 + 2, none⟩ = some (.int .i64 q[i].2.2.1) ∧ w.cell? ⟨b, off + i * 4 + 3, none⟩ = some (.string q[i].2.2.2) := by
  obtain ⟨b, off, he, hlt, hc⟩ := h.form hn
  exact ⟨b, off, he, hlt, fun i hi => ⟨hc i hi 0 _ rfl, hc i hi 1 _ rfl, hc i hi 2 _ rfl, hc i hi 3 _ rfl⟩⟩
/-- All blocks but those from lo on ahead of hi are as they were. -/
structure KeptX (lo hi : Nat) (w w' : World) : Prop where
  os : w'.os = w.os
  tape : w'.tape = w.tape
  output : w'.output = w.output
  size : w'.heap.size = w.heap.size
  block : ∀ b, ¬ (lo ≤ b ∧ b < hi) → w'.heap[b]? = w.heap[b]?
theorem KeptX.refl (lo hi : Nat) (w : World) : KeptX lo hi w w := ⟨rfl, rfl, rfl, rfl, fun _ _ => rfl⟩
theorem KeptX.set {lo hi : Nat} {w w' : World} (h : KeptX lo hi w w') {g j : Nat} {x : Value} (h1 : lo ≤ g) (h2 : g < hi) : KeptX lo hi w (w'.setCell ⟨g, j, none⟩ x) :=
  ⟨h.os, h.tape, h.output, by simpa [World.setCell] using h.size, fun b hb => (setCell_keep _ _ (fun e => hb ⟨by omega, by omega⟩)).trans (h.block b hb)⟩
theorem KeptX.below {lo hi B : Nat} {w w' w0 : World} (h : KeptX lo hi w w') (hb : Below B w0 w) (hB : B ≤ lo) : Below B w0 w' :=
  hb.trans ⟨h.os, h.tape, h.output, Nat.le_of_eq h.size.symm, fun b hb' => h.block b (by omega)⟩
theorem Bk.same {w wr w' : World} {P : Nat} {v : Nat → Value} {u : Nat → Nat → Nat → Value} {st : St} (h : Bk w wr P v u st) (hb : Below w.heap.size w w') (hk : ∀ b, BF P v u st b → w'.heap[b]? = wr.heap[b]?) : Bk w w' P v u st := by
  refine ⟨(hk P (.inl rfl)).trans h.blk, h.newP, hb, fun e he => row_keep (h.row e he) fun b hb => hk b (.inr ⟨e, 0, he, by omega, by unfold pl; rw [if_pos rfl]; exact hb⟩), fun e i k he hi hk2 => row_keep (h.txt e i k he hi hk2) fun b hb => hk b (.inr ⟨e, 1 + (i * 2 + k), he, by omega, ?_⟩), h.far, h.sep⟩
  unfold pl
  rw [if_neg (by omega), show (1 + (i * 2 + k) - 1) / 2 = i by omega, show (1 + (i * 2 + k) - 1) % 2 = k by omega]
  exact hb
theorem Dp.kept {lo hi : Nat} {w w' : World} {v : Value} {uu : Nat → Nat → Value} {l : List EpT} (h : Dp hi w v uu l) (hk : KeptX lo hi w w') : Dp hi w' v uu l :=
  ⟨row_keep h.row fun b hb => hk.block b (by have := (h.row.lt b hb).1; omega), fun i k hi2 hk2 => row_keep (h.txt i k hi2 hk2) fun b hb => hk.block b (by have := ((h.txt i k hi2 hk2).lt b hb).1; omega), h.apart⟩
/-- A row of so many texts, whatever these. -/
def TxAny (w : World) (lo : Nat) (v : Value) (n : Nat) : Prop := ∃ q : List ByteArray, q.length = n ∧ w.ownsRow lo 9 1 v n (q.map Value.string)
theorem TxAny.set {w : World} {lo : Nat} {v : Value} {n g j : Nat} {x : ByteArray} (h : TxAny w lo v n) : TxAny (w.setCell ⟨g, j, none⟩ (.string x)) lo v n := by
  obtain ⟨q, hq, ho⟩ := h
  rcases ho.2 with ⟨rfl, h2⟩ | ⟨g', cap, cur, rfl, _⟩
  · exact ⟨q, hq, row_keep ho fun b hb => by cases hb⟩
  · by_cases e : g' = g
    · subst e
      exact ⟨q.set j x, by simpa using hq, by rw [List.map_set]; exact row_set ho⟩
    · exact ⟨q, hq, row_keep ho fun b hb => setCell_keep _ _ (fun e2 => by
        injection hb with hb
        exact e (hb.trans e2))⟩
/-- The cells of a row of epochs. -/
theorem eps_cells {w : World} {lo N c : Nat} {s : Option Addr} {uu : Nat → Nat → Value} (h : w.ownsRow lo 49 2 (.slice s N c) N (flat uu N)) (hN : 0 < N) : ∃ g, s = some ⟨g, 0, none⟩ ∧ g < w.heap.size ∧ ∀ w' : World, w'.heap[g]? = w.heap[g]? → ∀ i k, i < N → k < 2 → w'.cell? ⟨g, i * 2 + k, none⟩ = some (uu i k) := by
  obtain ⟨g, cap, cur, hv, _, hh, _, hx⟩ := row_open h hN
  injection hv with h1 _ _
  refine ⟨g, h1, (Array.getElem?_eq_some_iff.1 hh).1, fun w' hb i k hi hk => ?_⟩
  rw [cell_of_row _ _ _ _ _ _ (hb.trans hh)]
  exact hx _ _ (flat_get uu N i k hi hk)
set_option maxHeartbeats 4000000 in
set_option maxRecDepth 100000 in
theorem copies_calls (a0 : Option Addr) (n0 c0 : Nat) (q0 : List NoteT) (w0 : World) (h0 : Hid (ArgRow 4 noteV w0 a0 n0 q0)) (hn0 : n0 ≤ 140737488355328) :
    Calls Try.prog 6 #[.slice a0 n0 c0] w0 (BoolO w0 true) := by
  go_enter Try.func6, Try.ntmps6
  go_wp2_with fail
  refine (awake_calls w0).mono ?_
  rintro e wa ⟨rfl, ha⟩
  have HA := Lib.hid ha
  clear ha
  go_wp2_with fail
  obtain ⟨P, hP⟩ : ∃ P, wa.heap.size = P := ⟨_, rfl⟩
  generalize hwb : wa.alloc _ = wb
  have HBK : Hid (Bk w0 wb P (fun _ => .slice none 0 0) (fun _ _ _ => .slice none 0 0) st00) := Bk.new (by rw [← hwb]; exact HA.out.alloc HA.out.size _) (by rw [← hP]; exact HA.out.size) (by rw [← hwb, ← hP]; exact Go.heap_alloc_new _ _)
  clear hwb
  rw [hP]
  clear hP HA
  go_loopw [4] (fun iv wr => ∃ (i : Nat) (v : Nat → Value) (u : Nat → Nat → Nat → Value) (st : St), i ≤ n0 ∧ i ≤ 40 ∧ iv = .int .i64 i ∧ Hid (Bk w0 wr P v u st) ∧ Hid (Cap st i)) (fun iv _ => 40 - (intOf iv).toNat)
  case atStart => exact ⟨0, _, _, st00, by omega, by omega, rfl, HBK, cap00⟩
  case round =>
    clear HBK
    obtain ⟨i, v, u, st, hin, hi40, rfl, HK, HC⟩ := hrel
    by_cases hlt : i < n0 ∧ i < 40
    · obtain ⟨hlt, hlt2⟩ := hlt
      obtain ⟨b0, off0, rfl, hbw0, hc0⟩ := note_cells h0.out (by omega)
      have hiq : i < q0.length := by rw [h0.out.len]; exact hlt
      obtain ⟨⟨y1, y2, y3, y4⟩, hx⟩ : ∃ x, q0[i] = x := ⟨_, rfl⟩
      obtain ⟨k0, k1, k2, k3⟩ := hc0 i hiq
      rw [hx] at k0 k1 k2 k3
      have e0 : wr.cell? ⟨b0, off0 + i * 4, none⟩ = some (.int .i64 y1) := (HK.out.below.cell (p := ⟨b0, off0 + i * 4, none⟩) hbw0).trans k0
      have e1 : wr.cell? ⟨b0, off0 + i * 4 + 1, none⟩ = some (.int .i64 y2) := (HK.out.below.cell (p := ⟨b0, off0 + i * 4 + 1, none⟩) hbw0).trans k1
      have e2 : wr.cell? ⟨b0, off0 + i * 4 + 2, none⟩ = some (.int .i64 y3) := (HK.out.below.cell (p := ⟨b0, off0 + i * 4 + 2, none⟩) hbw0).trans k2
      have e3 : wr.cell? ⟨b0, off0 + i * 4 + 3, none⟩ = some (.string y4) := (HK.out.below.cell (p := ⟨b0, off0 + i * 4 + 3, none⟩) hbw0).trans k3
      have hi0 : (0 : Int) ≤ (i : Int) := by omega
      have hi1 : (i : Int) < (n0 : Int) := by omega
      have hi2 : (i : Int) < 40 := by omega
      clear hc0 hx k0 k1 k2 k3
      go_wp2_with fail
      refine (record_calls (y1, y2, y3, y4) wr).mono ?_
      rintro e wc ⟨rfl, hc⟩
      have HCB := Lib.hid hc
      clear hc e0 e1 e2 e3
      generalize recOf (y1, y2, y3, y4) = r1
      obtain ⟨x1, x2, x3, x4, x5, x6⟩ := r1
      simp only [recA]
      go_wp2_with fail
      generalize hwd : wc.alloc _ = wd
      have hbd : wd.heap[wc.heap.size]? = some (.cells (recA (x1, x2, x3, x4, x5, x6)) 43 (0, 0)) := by rw [← hwd]; exact Go.heap_alloc_new _ _
      have hbl : Below wr.heap.size wr wd := by rw [← hwd]; exact HCB.out.alloc HCB.out.size _
      clear hwd
      refine (add_one w0 wd wr P i wc.heap.size v u st (x1, x2, x3, x4, x5, x6) HK hbl hbd HCB.out.size HC.out (by omega) 1).mono ?_
      rintro e w3 ⟨rfl, v3, u3, hk3, _⟩
      have HK3 := Lib.hid hk3
      have HC3 := Lib.hid (HC.out.addR (x1, x2, x3, x4, x5, x6))
      generalize addR st (x1, x2, x3, x4, x5, x6) = st3 at HK3 HC3
      clear hk3 hbd hbl HCB
      go_wp2_with fail
      go_roundw
      case rel => exact ⟨i + 1, v3, u3, st3, by omega, by omega, by go_num, HK3, HC3⟩
      case measure => simp [intOf]; omega
    · have HN : Hid (i < n0 → ¬ i < 40) := fun h1 h2 => hlt ⟨h1, h2⟩
      have hdec : (i < n0 ∧ decide ((i : Int) < 40) = false) ∨ ¬ i < n0 := by
        by_cases h1 : i < n0
        · exact .inl ⟨h1, decide_eq_false (by have := HN.out h1; omega)⟩
        · exact .inr h1
      clear hlt
      rcases hdec with ⟨hd1, hd2⟩ | hd1
      all_goals
        go_wp2_with fail
        refine (sound_calls w0 wr P i v u st HK HC (by omega)).mono ?_
        rintro e w4 ⟨rfl, hb4⟩
        have HK4 := Lib.hid (HK.out.on hb4)
        clear hb4
        obtain ⟨sb, hsb⟩ : ∃ sb, soundB st = sb := ⟨_, rfl⟩
        have HSB := Lib.hid hsb
        rw [hsb]
        clear hsb
        go_wp2_with fail
        refine (epochs_calls w0 w4 P 0 i v u st HK4 (by omega) HC (by omega)).mono ?_
        rintro e w5 ⟨rv, uu, rfl, hd5, hb5⟩
        have HB5 := Lib.hid hb5
        have HK5 := Lib.hid (HK4.out.on hb5)
        have HD5 := Lib.hid hd5
        obtain ⟨N, hN⟩ : ∃ N, (st 0).length = N := ⟨_, rfl⟩
        have HNN := Lib.hid hN
        have HNi : Hid (N ≤ i) := by unfold Hid; rw [← hN]; exact (HC.out 0).1
        obtain ⟨sl, cl, rfl⟩ := row_form hd5.row
        rw [hN]
        clear hb5 hd5 hN
        go_wp2_with fail
        refine (epochs_calls w0 w5 P 0 i v u st HK5 (by omega) HC (by omega)).mono ?_
        rintro e w6 ⟨rvm, uum, rfl, hd6, hb6⟩
        have HB6 := Lib.hid hb6
        have HK6 := Lib.hid (HK5.out.on hb6)
        have HD6 := Lib.hid hd6
        obtain ⟨sm, cm, rfl⟩ := row_form hd6.row
        rw [HNN.out]
        clear hb6 hd6
        obtain ⟨lo, hlo⟩ : ∃ lo, w4.heap.size = lo := ⟨_, rfl⟩
        obtain ⟨hi, hhi⟩ : ∃ hi, w5.heap.size = hi := ⟨_, rfl⟩
        have hlh : lo ≤ hi := by rw [← hlo, ← hhi]; exact HB5.out.size
        have h6 : hi ≤ w6.heap.size := by rw [← hhi]; exact HB6.out.size
        obtain ⟨cn, hcn⟩ : ∃ cn : Nat → Nat → Nat, cn = fun i k => (cont (st 0) i k).length := ⟨_, rfl⟩
        have HCN : Hid (∀ j k, (cont (st 0) j k).length = cn j k ∧ cn j k ≤ 40) := fun j k => by rw [hcn]; exact ⟨rfl, by have := (HC.out 0).2 j k; simp only []; omega⟩
        have HL6 : Hid (w6.ownsRow lo 49 2 (.slice sl N cl) N (flat uu N)) := by
          have h1 := row_on HD5.out.row HB6.out
          rwa [HNN.out, hlo] at h1
        have HT6 : Hid (∀ j k, j < N → k < 2 → TxAny w6 lo (uu j k) (cn j k)) := fun j k hj hk => ⟨cont (st 0) j k, (HCN.out j k).1, by
          have h1 := row_on (HD5.out.txt j k (by rw [HNN.out]; exact hj) hk) HB6.out
          rwa [hlo, (HCN.out j k).1] at h1⟩
        have HTB : Hid (∀ j k b, j < N → k < 2 → (uu j k).ownBlock = some b → lo ≤ b ∧ b < hi) := fun j k b hj hk hb => by
          have h1 := (HD5.out.txt j k (by rw [HNN.out]; exact hj) hk).lt b hb
          rwa [hlo, hhi] at h1
        have HAP : Hid (∀ j k b, j < N → k < 2 → (uu j k).ownBlock = some b → (Value.slice sl N cl).ownBlock ≠ some b) := fun j k b hj hk hb => by
          have h1 := HD5.out.apart j k b (by rw [HNN.out]; exact hj) hk hb
          rwa [HNN.out] at h1
        have HDM : Hid (Dp hi w6 (.slice sm N cm) uum (st 0)) := by
          have h1 := HD6.out
          rwa [HNN.out, hhi] at h1
        have HBF : Hid (∀ b, BF P v u st b → b < lo) := fun b hb => by rw [← hlo]; exact HK4.out.bf_lt hb
        have hw0 : w0.heap.size ≤ lo := by rw [← hlo]; exact HK4.out.below.size
        have hi40' : N ≤ 40 := by have := HNi.out; omega
        clear hlo hhi hcn HD5 HD6 HB5 HB6 HK4 HK5 HNi
        go_wp2_with fail
        go_loopw [37] (fun iv wr => ∃ i : Nat, i ≤ N ∧ iv = .int .i64 i ∧ Hid (wr.ownsRow lo 49 2 (.slice sl N cl) N (flat uu N)) ∧ Hid (∀ i k, i < N → k < 2 → TxAny wr lo (uu i k) (cn i k)) ∧ Hid (KeptX lo hi w6 wr)) (fun iv _ => N - (intOf iv).toNat)
        case atStart => exact ⟨0, by omega, rfl, HL6, HT6, KeptX.refl _ _ _⟩
        case round =>
          clear HL6 HT6
          obtain ⟨i, hiN, rfl, HL, HT, HKX⟩ := hrel
          by_cases hil : i < N
          · obtain ⟨g, rfl, hgl, hgc⟩ := eps_cells HL.out (by omega)
            obtain ⟨q0', hq0, ho0⟩ := HT.out i 0 hil (by omega)
            obtain ⟨q1', hq1, ho1⟩ := HT.out i 1 hil (by omega)
            obtain ⟨p0, d0, hu0⟩ := row_form ho0
            obtain ⟨p1, d1, hu1⟩ := row_form ho1
            have e1 : wr.cell? ⟨g, i * 2, none⟩ = some (.slice p0 (cn i 0) d0) := by rw [← hu0]; exact hgc wr rfl i 0 hil (by omega)
            have HU0 := Lib.hid hu0
            have HU1 := Lib.hid hu1
            have hi0 : (0 : Int) ≤ (i : Int) := by omega
            have hi1 : (i : Int) < (N : Int) := by omega
            have hc0 := (HCN.out i 0).2
            have hc1 := (HCN.out i 1).2
            clear hgc ho0 ho1 hu0 hu1 hq0 hq1 hgl
            go_wp2_with fail
            go_loopw [46] (fun kv wr => ∃ k : Nat, k ≤ cn i 0 ∧ kv = .int .i64 k ∧ Hid (wr.ownsRow lo 49 2 (.slice (some ⟨g, 0, none⟩) N cl) N (flat uu N)) ∧ Hid (∀ i k, i < N → k < 2 → TxAny wr lo (uu i k) (cn i k)) ∧ Hid (KeptX lo hi w6 wr)) (fun kv _ => cn i 0 - (intOf kv).toNat)
            case atStart => exact ⟨0, by omega, rfl, HL, HT, HKX⟩
            case round =>
              clear HL HT HKX
              obtain ⟨k, hkn, rfl, HL, HT, HKX⟩ := hrel
              by_cases hkl : k < cn i 0
              · obtain ⟨qt, hqt, hot⟩ := HT.out i 0 hil (by omega)
                obtain ⟨gt, capt, curt, hut, hgt, hht, _, hxt⟩ := row_open hot (by omega)
                rw [HU0.out] at hut
                injection hut with a1 a2 a3
                subst a1 a3
                obtain ⟨g', hg', hgl, hgc⟩ := eps_cells HL.out (by omega)
                injection hg' with hg'
                injection hg' with hg'
                subst hg'
                have e1 : wr.cell? ⟨g, i * 2, none⟩ = some (.slice (some ⟨gt, 0, none⟩) (cn i 0) d0) := by rw [← HU0.out]; exact hgc wr rfl i 0 hil (by omega)
                obtain ⟨y, hy⟩ : ∃ y, wr.cell? ⟨gt, k, none⟩ = some (.string y) := ⟨qt[k]'(by omega), by rw [cell_of_row _ _ _ _ _ _ hht]; exact hxt k _ (by simp [hqt, hkl])⟩
                have f2 : wr.frozen? ⟨gt, k, none⟩ = false := frozen_of_row _ _ _ _ _ hht
                have hown : (uu i 0).ownBlock = some gt := by rw [HU0.out]; rfl
                have hlh := HTB.out i 0 gt hil (by omega) hown
                have hne := HAP.out i 0 gt hil (by omega) hown
                have hki0 : (0 : Int) ≤ (k : Int) := by omega
                have hki1 : (k : Int) < (cn i 0 : Int) := by omega
                have HL2 : Hid ((wr.setCell ⟨gt, k, none⟩ (.string ⟨#[111, 116, 104, 101, 114]⟩)).ownsRow lo 49 2 (.slice (some ⟨g, 0, none⟩) N cl) N (flat uu N)) := row_keep HL.out fun b hb => setCell_keep _ _ (fun e => hne (by rw [hb, e]))
                have HT2 : Hid (∀ i k', i < N → k' < 2 → TxAny (wr.setCell ⟨gt, k, none⟩ (.string ⟨#[111, 116, 104, 101, 114]⟩)) lo (uu i k') (cn i k')) := fun i k' hi hk => (HT.out i k' hi hk).set
                have HKX2 : Hid (KeptX lo hi w6 (wr.setCell ⟨gt, k, none⟩ (.string ⟨#[111, 116, 104, 101, 114]⟩))) := HKX.out.set hlh.1 hlh.2
                clear hot hht hxt hgc hown hlh hne hqt
                go_wp2_with fail
                go_roundw
                case rel => exact ⟨k + 1, by omega, by go_num, HL2, HT2, HKX2⟩
                case measure => simp [intOf]; omega
              · obtain ⟨g', hg', hgl, hgc⟩ := eps_cells HL.out (by omega)
                injection hg' with hg'
                injection hg' with hg'
                subst hg'
                have e1 : wr.cell? ⟨g, i * 2 + 1, none⟩ = some (.slice p1 (cn i 1) d1) := by rw [← HU1.out]; exact hgc wr rfl i 1 hil (by omega)
                clear hgc hgl
                go_wp2_with fail
                go_loopw [63] (fun kv wr => ∃ k : Nat, k ≤ cn i 1 ∧ kv = .int .i64 k ∧ Hid (wr.ownsRow lo 49 2 (.slice (some ⟨g, 0, none⟩) N cl) N (flat uu N)) ∧ Hid (∀ i k, i < N → k < 2 → TxAny wr lo (uu i k) (cn i k)) ∧ Hid (KeptX lo hi w6 wr)) (fun kv _ => cn i 1 - (intOf kv).toNat)
                case atStart => exact ⟨0, by omega, rfl, HL, HT, HKX⟩
                case round =>
                  clear HL HT HKX
                  obtain ⟨k, hkn, rfl, HL, HT, HKX⟩ := hrel
                  by_cases hkl : k < cn i 1
                  · obtain ⟨qt, hqt, hot⟩ := HT.out i 1 hil (by omega)
                    obtain ⟨gt, capt, curt, hut, hgt, hht, _, hxt⟩ := row_open hot (by omega)
                    rw [HU1.out] at hut
                    injection hut with a1 a2 a3
                    subst a1 a3
                    obtain ⟨g', hg', hgl, hgc⟩ := eps_cells HL.out (by omega)
                    injection hg' with hg'
                    injection hg' with hg'
                    subst hg'
                    have e1 : wr.cell? ⟨g, i * 2 + 1, none⟩ = some (.slice (some ⟨gt, 0, none⟩) (cn i 1) d1) := by rw [← HU1.out]; exact hgc wr rfl i 1 hil (by omega)
                    obtain ⟨y, hy⟩ : ∃ y, wr.cell? ⟨gt, k, none⟩ = some (.string y) := ⟨qt[k]'(by omega), by rw [cell_of_row _ _ _ _ _ _ hht]; exact hxt k _ (by simp [hqt, hkl])⟩
                    have f2 : wr.frozen? ⟨gt, k, none⟩ = false := frozen_of_row _ _ _ _ _ hht
                    have hown : (uu i 1).ownBlock = some gt := by rw [HU1.out]; rfl
                    have hlh := HTB.out i 1 gt hil (by omega) hown
                    have hne := HAP.out i 1 gt hil (by omega) hown
                    have hki0 : (0 : Int) ≤ (k : Int) := by omega
                    have hki1 : (k : Int) < (cn i 1 : Int) := by omega
                    have HL2 : Hid ((wr.setCell ⟨gt, k, none⟩ (.string ⟨#[111, 116, 104, 101, 114]⟩)).ownsRow lo 49 2 (.slice (some ⟨g, 0, none⟩) N cl) N (flat uu N)) := row_keep HL.out fun b hb => setCell_keep _ _ (fun e => hne (by rw [hb, e]))
                    have HT2 : Hid (∀ i k', i < N → k' < 2 → TxAny (wr.setCell ⟨gt, k, none⟩ (.string ⟨#[111, 116, 104, 101, 114]⟩)) lo (uu i k') (cn i k')) := fun i k' hi hk => (HT.out i k' hi hk).set
                    have HKX2 : Hid (KeptX lo hi w6 (wr.setCell ⟨gt, k, none⟩ (.string ⟨#[111, 116, 104, 101, 114]⟩))) := HKX.out.set hlh.1 hlh.2
                    clear hot hht hxt hgc hown hlh hne hqt
                    go_wp2_with fail
                    go_roundw
                    case rel => exact ⟨k + 1, by omega, by go_num, HL2, HT2, HKX2⟩
                    case measure => simp [intOf]; omega
                  · go_wp2_with fail
                    go_roundw
                    case rel => exact ⟨i + 1, by omega, by go_num, HL, HT, HKX⟩
                    case measure => simp [intOf]; omega
          · have HKW : Hid (Bk w0 wr P v u st) := HK6.out.same (HKX.out.below HK6.out.below hw0) (fun b hb => HKX.out.block b (by have := HBF.out b hb; omega))
            have HDW : Hid (Dp hi wr (.slice sm N cm) uum (st 0)) := HDM.out.kept HKX.out
            clear HL HT HKX HK6 HDM HBF HAP HTB
            go_wp2_with fail
            refine (epochs_calls w0 wr P 0 _ v u st HKW (by omega) HC (by omega)).mono ?_
            rintro e w8 ⟨rvn, uun, rfl, hd8, hb8⟩
            have HK8 := Lib.hid (HKW.out.on hb8)
            have HDN := Lib.hid hd8
            have HDW8 := Lib.hid (HDW.out.on hb8)
            obtain ⟨sn, cnn, rfl⟩ := row_form hd8.row
            rw [HNN.out]
            clear hb8 hd8 HKW HDW
            go_wp2_with fail
            refine (sound_calls w0 w8 P _ v u st HK8 HC (by omega)).mono ?_
            rintro e w9 ⟨rfl, hb9⟩
            rw [HSB.out]
            have hss : (sb != sb) = false := bne_eq_false_iff_eq.2 rfl
            have HN9 : Hid (w9.ownsRow wr.heap.size 49 2 (.slice sn N cnn) N (flat uun N)) := by
              have h1 := (HDN.out.on hb9).row
              rwa [HNN.out] at h1
            have HM9 : Hid (w9.ownsRow hi 49 2 (.slice sm N cm) N (flat uum N)) := by
              have h1 := (HDW8.out.on hb9).row
              rwa [HNN.out] at h1
            have HTN : Hid (∀ j k, j < N → k < 2 → ∀ W, Below w9.heap.size w9 W → ∃ p d, uun j k = .slice p (cont (st 0) j k).length d ∧ ArgRow 1 strV W p (cont (st 0) j k).length (cont (st 0) j k)) := fun j k hj hk W hW => by
              have h1 := row_on ((HDN.out.on hb9).txt j k (by rw [HNN.out]; exact hj) hk) hW
              obtain ⟨p, d, hp⟩ := row_form h1
              rw [hp] at h1
              exact ⟨p, d, hp, arg_of_row h1⟩
            have HTM : Hid (∀ j k, j < N → k < 2 → ∀ W, Below w9.heap.size w9 W → ∃ p d, uum j k = .slice p (cont (st 0) j k).length d ∧ ArgRow 1 strV W p (cont (st 0) j k).length (cont (st 0) j k)) := fun j k hj hk W hW => by
              have h1 := row_on ((HDW8.out.on hb9).txt j k (by rw [HNN.out]; exact hj) hk) hW
              obtain ⟨p, d, hp⟩ := row_form h1
              rw [hp] at h1
              exact ⟨p, d, hp, arg_of_row h1⟩
            have HB9 := Lib.hid (HK8.out.on hb9).below
            clear hb9 HDN HDW8 HK8
            go_wp2_with fail
            go_loopw [88] (fun jv wr => ∃ j : Nat, j ≤ N ∧ jv = .int .i64 j ∧ Hid (Below w9.heap.size w9 wr)) (fun jv _ => N - (intOf jv).toNat)
            case atStart => exact ⟨0, by omega, rfl, Below.refl _ _⟩
            case round =>
              obtain ⟨j, hjN, rfl, HB⟩ := hrel
              by_cases hjl : j < N
              · obtain ⟨gn, rfl, hgn, hcn⟩ := eps_cells HN9.out (by omega)
                obtain ⟨gm, rfl, hgm, hcm⟩ := eps_cells HM9.out (by omega)
                obtain ⟨pn0, dn0, hn0', an0⟩ := HTN.out j 0 hjl (by omega) wr HB.out
                obtain ⟨pn1, dn1, hn1', an1⟩ := HTN.out j 1 hjl (by omega) wr HB.out
                obtain ⟨pm0, dm0, hm0', am0⟩ := HTM.out j 0 hjl (by omega) wr HB.out
                obtain ⟨pm1, dm1, hm1', am1⟩ := HTM.out j 1 hjl (by omega) wr HB.out
                have e1 : wr.cell? ⟨gn, j * 2, none⟩ = some (.slice pn0 (cont (st 0) j 0).length dn0) := by rw [← hn0']; exact hcn wr (HB.out.block gn hgn) j 0 hjl (by omega)
                have e2 : wr.cell? ⟨gn, j * 2 + 1, none⟩ = some (.slice pn1 (cont (st 0) j 1).length dn1) := by rw [← hn1']; exact hcn wr (HB.out.block gn hgn) j 1 hjl (by omega)
                have e3 : wr.cell? ⟨gm, j * 2, none⟩ = some (.slice pm0 (cont (st 0) j 0).length dm0) := by rw [← hm0']; exact hcm wr (HB.out.block gm hgm) j 0 hjl (by omega)
                have e4 : wr.cell? ⟨gm, j * 2 + 1, none⟩ = some (.slice pm1 (cont (st 0) j 1).length dm1) := by rw [← hm1']; exact hcm wr (HB.out.block gm hgm) j 1 hjl (by omega)
                have HX0 := HCN.out j 0
                have HX1 := HCN.out j 1
                obtain ⟨t0, ht0⟩ : ∃ t0, cont (st 0) j 0 = t0 := ⟨_, rfl⟩
                obtain ⟨t1, ht1⟩ : ∃ t1, cont (st 0) j 1 = t1 := ⟨_, rfl⟩
                rw [ht0] at e1 e3 an0 am0 HX0
                rw [ht1] at e2 e4 an1 am1 HX1
                have HS0 : Hid (∀ nq, Calls Try.prog 11 #[.slice pn0 t0.length dn0, .slice pm0 t0.length dm0] (wr.drewN nq) (Drawn (wr.drewN nq) (.bool true))) := fun nq => same_calls pn0 pm0 t0.length t0.length dn0 dm0 t0 t0 true _ (an0.below (below_drewN (Below.refl _ _) nq) (Nat.le_refl _)) (am0.below (below_drewN (Below.refl _ _) nq) (Nat.le_refl _)) (by omega) (by omega) (eqB_true.2 rfl)
                have HS1 : Hid (∀ nq, Calls Try.prog 11 #[.slice pn1 t1.length dn1, .slice pm1 t1.length dm1] (wr.drewN nq) (Drawn (wr.drewN nq) (.bool true))) := fun nq => same_calls pn1 pm1 t1.length t1.length dn1 dm1 t1 t1 true _ (an1.below (below_drewN (Below.refl _ _) nq) (Nat.le_refl _)) (am1.below (below_drewN (Below.refl _ _) nq) (Nat.le_refl _)) (by omega) (by omega) (eqB_true.2 rfl)
                have hj0 : (0 : Int) ≤ (j : Int) := by omega
                have hj1 : (j : Int) < (N : Int) := by omega
                clear hcn hcm hn0' hn1' hm0' hm1' an0 an1 am0 am1 ht0 ht1 HX0 HX1
                go_wp2_with fail
                go_quiet ((first | (go_at_call_of 11 (Value.slice pn0 t0.length dn0); exact Calls.quiet_of (HS0.out _)) | (go_at_call_of 11 (Value.slice pn1 t1.length dn1); exact Calls.quiet_of (HS1.out _))))
                go_wp2_with fail
                go_roundw
                case rel => exact ⟨j + 1, by omega, by go_num, below_drewN HB.out _⟩
                case measure => simp [intOf]; omega
              · have HBF := Lib.hid (HB9.out.trans (HB.out.mono HB9.out.size))
                go_wp2_with fail
                go_ret
                exact ⟨rfl, HBF.out⟩
theorem copies_row (W : World) (a : Option Addr) (n c : Nat) (z : List NoteT) (w : ArgRow 4 noteV W a n z) (y : n * 40 ≤ 140737488351232) :
    Calls Try.prog 6 #[.slice a n c] W fun e w' => e = .returned (.bool true) ∧ Below W.heap.size W w' :=
  copies_calls a n c z W w (by omega)
end Go.Proofs.Ytjjnhndlollldaa.Ep
