/-
polliwoglaw20.awake: the fixed fact holds in every world. No condition.
-/
import Derived.Test.YtjjnhndlollldaaEp7
import Derived.Test.YtjjnhndlollldaaEp10
namespace Go.Proofs.Ytjjnhndlollldaa.Ep
set_option linter.unusedVariables false
open Go.RowKit Go.Proofs.Ytjjnhndlollldaa.Args

def st00 : St := fun _ => []
theorem Bk.new {w : World} {wr : World} {P : Nat} (hw : Below w.heap.size w wr) (hP : w.heap.size ≤ P) (hb : wr.heap[P]? = some (.cells #[.slice none 0 0, .slice none 0 0] 27 (0, 0))) : Bk w wr P (fun _ => .slice none 0 0) (fun _ _ _ => .slice none 0 0) st00 :=
  ⟨hb, hP, hw, fun e he => World.ownsRow_nil _ _ _ _, fun e i k he hi hk => by simp [st00] at hi, fun e p he hp => by
    simp only [st00, List.length_nil] at hp
    have : p = 0 := by omega
    subst this
    simp [pl, Value.ownBlock], fun e p e' p' b he hp he' hp' h1 h2 => by
    simp only [st00, List.length_nil] at hp hp'
    have : p = 0 := by omega
    subst this
    simp [pl, Value.ownBlock] at h1⟩
theorem cap00 : Cap st00 0 := fun e => ⟨by simp [st00], fun i k => by simp [st00, cont]⟩
def rA : RecT := (0, 6, 0, ⟨#[]⟩, 2, ⟨#[]⟩)
def rB : RecT := (0, 6, 0, ⟨#[]⟩, 7, ⟨#[97]⟩)
def st11 : St := [rA, rB].foldl addR st00
theorem st11_0 : st11 0 = [([⟨#[97]⟩], [])] := by decide +kernel
theorem st11_1 : st11 1 = [] := by decide +kernel
theorem sound11 : soundB st11 = true := by decide +kernel
theorem cap11 : Cap st11 2 := by
  intro e
  by_cases h0 : e = 0
  · subst h0
    rw [st11_0]
    refine ⟨by decide, fun i k => ?_⟩
    unfold cont
    rcases i with _ | i <;> split <;> simp
  · have : st11 e = [] := by
      simp [st11, st00, addR, rA, rB, bg, addSt, modSt, h0]
    rw [this]
    refine ⟨by decide, fun i k => ?_⟩
    unfold cont
    split <;> simp
theorem recV_len (r : RecT) : (recV r).length = 18 := rfl
theorem flat_rec (rs : List RecT) (i j : Nat) (r : RecT) (v : Value) (hi : rs[i]? = some r) (hj : (recV r)[j]? = some v) : (rs.flatMap recV)[i * 18 + j]? = some v := by
  have hj18 : j < 18 := by
    have := (List.getElem?_eq_some_iff.1 hj).1
    rwa [recV_len] at this
  induction rs generalizing i with
  | nil => simp at hi
  | cons a rs ih =>
    rw [List.flatMap_cons]
    cases i with
    | zero =>
      simp at hi
      subst hi
      rw [List.getElem?_append_left (by rw [recV_len]; omega), show 0 * 18 + j = j by omega]
      exact hj
    | succ i =>
      rw [List.getElem?_append_right (by rw [recV_len]; omega), recV_len, show (i + 1) * 18 + j - 18 = i * 18 + j by omega]
      exact ih i (by simpa using hi)
theorem arg_new {w : World} {b n : Nat} {cs : Array Value} {t : TypeId} {rs : List RecT} (hb : w.heap[b]? = some (.cells cs t (0, 0))) (hl : rs.length = n) (hc : cs.toList = rs.flatMap recV) : ArgRow 18 recV w (some ⟨b, 0, none⟩) n rs := by
  refine ⟨hl, fun _ => ⟨b, 0, rfl, (Array.getElem?_eq_some_iff.1 hb).1, fun i hi j v hv => ?_⟩⟩
  rw [cell_of_row _ _ _ _ _ _ hb, ← Array.getElem?_toList, hc, show 0 + i * 18 + j = i * 18 + j by omega]
  exact flat_rec rs i j _ v (List.getElem?_eq_getElem hi) hv
theorem arg_strs {w : World} {b n : Nat} {cs : Array Value} {t : TypeId} {q : List ByteArray} (hb : w.heap[b]? = some (.cells cs t (0, 0))) (hl : q.length = n) (hc : cs.toList = q.map Value.string) : ArgRow 1 strV w (some ⟨b, 0, none⟩) n q := by
  refine ⟨hl, fun _ => ⟨b, 0, rfl, (Array.getElem?_eq_some_iff.1 hb).1, fun i hi j v hv => ?_⟩⟩
  rw [cell_of_row _ _ _ _ _ _ hb, ← Array.getElem?_toList, hc]
  cases j with
  | zero =>
    simp at hv
    rw [show 0 + i * 1 + 0 = i by omega, ← hv]
    simp [hi]
  | succ j => simp at hv
set_option maxHeartbeats 4000000 in
set_option maxRecDepth 100000 in
theorem awake_calls (w0 : World) : Calls Try.prog 7 #[] w0 (BoolO w0 true) := by
  go_enter Try.func7, Try.ntmps7
  go_wp2_with fail
  obtain ⟨P, hP⟩ : ∃ P, w0.heap.size = P := ⟨_, rfl⟩
  obtain ⟨wa, hwa⟩ : ∃ w, w0.alloc (.cells #[.slice none 0 0, .slice none 0 0] 27) = w := ⟨_, rfl⟩
  have hsz : wa.heap.size = P + 1 := by rw [← hwa, ← hP]; simp
  have hbk : Hid (Bk w0 wa P (fun _ => .slice none 0 0) (fun _ _ _ => .slice none 0 0) st00) := Bk.new (by rw [← hwa]; exact (Below.refl _ _).alloc (Nat.le_refl _) _) (Nat.le_of_eq hP) (by rw [← hwa, ← hP]; exact Go.heap_alloc_new _ _)
  rw [hwa, hP]
  generalize hwb : wa.alloc _ = wb
  have hbb : wb.heap[P + 1]? = some (.cells ((recV rA ++ recV rB).toArray) 43 (0, 0)) := by rw [← hwb, ← hsz]; exact Go.heap_alloc_new _ _
  have hbl : Below wa.heap.size wa wb := by rw [← hwb]; exact (Below.refl _ _).alloc (Nat.le_refl _) _
  have hk := hbk.out.on hbl
  have hbf : ¬ BF P (fun _ => .slice none 0 0) (fun _ _ _ => .slice none 0 0) st00 (P + 1) := by
    rintro (h | ⟨e, p, _, hp, h⟩)
    · omega
    · simp only [st00, List.length_nil] at hp
      have : p = 0 := by omega
      subst this
      simp [pl, Value.ownBlock] at h
  have HB0 : Hid (Below w0.heap.size w0 wb) := hk.below
  clear hbk hwa hwb hbl hsz
  refine (add_calls w0 wb P _ _ st00 (some ⟨P + 1, 0, none⟩) 2 2 0 [rA, rB] hk (arg_new hbb rfl rfl) (by unfold Hid; intro b off e; injection e with e; injection e with e; rw [← e]; exact hbf) cap00 (by omega)).mono ?_
  rintro e w2 ⟨rfl, v2, u2, hk2, hl2⟩
  have HK : Hid (Bk w0 w2 P v2 u2 st11) := hk2
  clear hk hk2 hl2 hbb hbf
  go_wp2_with fail
  refine (epochs_calls w0 w2 P 0 2 v2 u2 st11 HK (by omega) cap11 (by omega)).mono ?_
  rintro e w3 ⟨rv, uu, rfl, hd, hb3⟩
  rw [st11_0] at hd
  obtain ⟨g, cap, cur, rfl, _, hgh, _, hgx⟩ := row_open hd.row (by decide)
  have ht := hd.txt 0 0 (by decide) (by omega)
  have hgl : ([(([⟨#[97]⟩] : List ByteArray), ([] : List ByteArray))] : List EpT).length = 1 := rfl
  have hg0 : w3.cell? ⟨g, 0, none⟩ = some (uu 0 0) := by rw [cell_of_row _ _ _ _ _ _ hgh]; exact hgx 0 _ (flat_get uu 1 0 0 (by omega) (by omega))
  obtain ⟨g2, cap2, cur2, hu, _, hgh2, _, hgx2⟩ := row_open ht (by decide)
  have hg2 : w3.cell? ⟨g2, 0, none⟩ = some (.string ⟨#[97]⟩) := by rw [cell_of_row _ _ _ _ _ _ hgh2]; exact hgx2 0 _ (by simp [cont])
  rw [hu] at hg0
  have HK3 : Hid (Bk w0 w3 P v2 u2 st11) := HK.out.on hb3
  have e1 : (cont [(([⟨#[97]⟩] : List ByteArray), ([] : List ByteArray))] 0 0).length = 1 := rfl
  rw [e1] at hg0
  clear hd ht hgh hgx hgh2 hgx2 hu hb3 e1
  rw [hgl]
  clear hgl
  go_wp2_with fail
  refine (sound_calls w0 w3 P 2 v2 u2 st11 HK3 cap11 (by omega)).mono ?_
  rintro e w4 ⟨rfl, hb4⟩
  rw [sound11]
  have HB4 : Hid (Below w0.heap.size w0 w4) := (HK3.out.on hb4).below
  clear hb4 hg0 hg2
  go_wp2_with fail
  generalize hw5 : w4.alloc (.cells #[.string ⟨#[97]⟩, .string ⟨#[98]⟩] 9) = w5
  generalize hw6 : w5.alloc (.cells #[.string ⟨#[97]⟩] 9) = w6
  have h5 : Below w4.heap.size w4 w5 := by rw [← hw5]; exact (Below.refl _ _).alloc (Nat.le_refl _) _
  have h6 : Below w5.heap.size w5 w6 := by rw [← hw6]; exact (Below.refl _ _).alloc (Nat.le_refl _) _
  have s5 : w5.heap.size = w4.heap.size + 1 := by rw [← hw5]; simp
  have b5 : w5.heap[w4.heap.size]? = some (.cells #[.string ⟨#[97]⟩, .string ⟨#[98]⟩] 9 (0, 0)) := by rw [← hw5]; exact Go.heap_alloc_new _ _
  have b6 : w6.heap[w4.heap.size + 1]? = some (.cells #[.string ⟨#[97]⟩] 9 (0, 0)) := by rw [← hw6, ← s5]; exact Go.heap_alloc_new _ _
  have b65 : w6.heap[w4.heap.size]? = some (.cells #[.string ⟨#[97]⟩, .string ⟨#[98]⟩] 9 (0, 0)) := (h6.block _ (Array.getElem?_eq_some_iff.1 b5).1).trans b5
  have r5 : ArgRow 1 strV w6 (some ⟨w4.heap.size, 0, none⟩) 2 [⟨#[97]⟩, ⟨#[98]⟩] := arg_strs b65 rfl rfl
  have r6 : ArgRow 1 strV w6 (some ⟨w4.heap.size + 1, 0, none⟩) 1 [⟨#[97]⟩] := arg_strs b6 rfl rfl
  have HB6 : Hid (Below w0.heap.size w0 w6) := HB4.out.trans ((h5.trans (h6.mono h5.size)).mono HB4.out.size)
  clear h5 h6 s5 b5 b6 b65 hw5 hw6
  refine (prefix_calls _ _ 2 1 2 1 _ _ true w6 r5 r6 (by omega) (by omega) (by unfold Hid; decide +kernel)).mono ?_
  rintro e w7 ⟨rfl, hm⟩
  have HB7 : Hid (Below w0.heap.size w0 w7) := by
    obtain ⟨m, rfl⟩ := hm
    exact below_drewN HB6.out m
  clear hm r5 r6
  go_wp2_with fail
  go_ret
  exact ⟨rfl, HB7.out⟩
end Go.Proofs.Ytjjnhndlollldaa.Ep
