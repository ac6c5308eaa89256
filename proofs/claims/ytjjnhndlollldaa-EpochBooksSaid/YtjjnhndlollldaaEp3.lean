/-
epoch.Match: the call answers what plain lists say. Conditions: lengths within the machine's.
-/
import Derived.Test.YtjjnhndlollldaaEp2
import Derived.Deep.AppendLies
namespace Go.Proofs.Ytjjnhndlollldaa.Ep
open Go.RowKit Go.Proofs.Ytjjnhndlollldaa.Args

/-- To each that got something the first one behind that fits. -/
def matchL (ls : List EpT) : Nat → List EpT → Option (List Nat)
  | _, [] => some []
  | nx, e :: gs => if e.2.length = 0 then matchL ls nx gs else match (ls.drop nx).findIdx? (fun s => preB s.1 e.2) with
    | none => none
    | some k => (matchL ls (nx + k + 1) gs).map (fun os => (nx + k) :: os)
def MatchO (w : World) (r : Option (List Nat)) (e : Ending) (w' : World) : Prop :=
  Below w.heap.size w w' ∧ match r with
    | some os => ∃ v, e = .returned (.tuple #[v, .bool true]) ∧ w'.ownsRow w.heap.size 3 1 v os.length (os.map fun (k : Nat) => Value.int .i64 (k : Int))
    | none => e = .returned (.tuple #[.slice none 0 0, .bool false])
theorem row_on {w w' : World} {base : Nat} {e : TypeId} {size : Nat} {v : Value} {n : Nat} {xs : List Value} (h : w.ownsRow base e size v n xs) (hb : Below w.heap.size w w') : w'.ownsRow base e size v n xs := by
  refine ⟨h.1, ?_⟩
  rcases h.2 with h2 | ⟨g, cap, cur, rfl, hg, hh, r⟩
  · exact .inl h2
  · exact .inr ⟨g, cap, cur, rfl, hg, (hb.block g (Array.getElem?_eq_some_iff.1 hh).1).trans hh, r⟩
theorem infoI : (Try.prog.info? 3).map (fun i => (i.zero, i.size, i.bytes)) = some (some (.int .i64 0), 1, 8) := by kernel_rfl
theorem match_skip {ls : List EpT} {nx : Nat} {lg : List EpT} {i : Nat} (hi : i < lg.length) (h : lg[i].2.length = 0) : matchL ls nx (lg.drop i) = matchL ls nx (lg.drop (i + 1)) := by
  rw [List.drop_eq_getElem_cons hi]
  conv => lhs; unfold matchL
  rw [if_pos h]
theorem match_none {ls : List EpT} {nx : Nat} {lg : List EpT} {i : Nat} (hi : i < lg.length) (h : ¬ lg[i].2.length = 0) (hf : idxI (ls.drop nx) lg[i].2 = -1) : matchL ls nx (lg.drop i) = none := by
  rw [List.drop_eq_getElem_cons hi]
  conv => lhs; unfold matchL
  rw [if_neg h]
  unfold idxI at hf
  split at hf
  · omega
  · rename_i h2; rw [h2]
theorem match_some {ls : List EpT} {nx k : Nat} {lg : List EpT} {i : Nat} (hi : i < lg.length) (h : ¬ lg[i].2.length = 0) (hf : idxI (ls.drop nx) lg[i].2 = (k : Int)) : matchL ls nx (lg.drop i) = (matchL ls (nx + k + 1) (lg.drop (i + 1))).map (fun os => (nx + k) :: os) := by
  rw [List.drop_eq_getElem_cons hi]
  conv => lhs; unfold matchL
  rw [if_neg h]
  unfold idxI at hf
  split at hf
  · rename_i j h2
    obtain rfl : j = k := by omega
    rw [h2]
  · omega
theorem idx_cases (l : List EpT) (g : List ByteArray) : idxI l g = -1 ∨ ∃ k : Nat, k < l.length ∧ idxI l g = (k : Int) := by
  unfold idxI
  split
  · rename_i k h
    rw [List.findIdx?_eq_some_iff_getElem] at h
    exact .inr ⟨k, h.1, rfl⟩
  · exact .inl rfl
set_option maxHeartbeats 4000000 in
set_option maxRecDepth 100000 in
theorem match_calls (a1 a2 : Option Addr) (n1 c1 n2 c2 : Nat) (ls lg : List EpT) (r : Option (List Nat)) (w : World) (h1 : Hid (EpRd w a1 n1 ls)) (h2 : Hid (EpRd w a2 n2 lg)) (hc1 : n1 ≤ c1) (hn1 : n1 ≤ 1000000000000) (hn2 : n2 ≤ 1000000000000) (hr : Hid (matchL ls 0 lg = r)) :
    Calls Try.prog 12 #[.slice a1 n1 c1, .slice a2 n2 c2] w (MatchO w r) := by
  obtain ⟨i0, hi, hz0, hz1, hz2⟩ := info_parts infoI
  have HI := Lib.hid hi
  have HZ0 := Lib.hid hz0
  have HZ1 := Lib.hid hz1
  have HZ2 := Lib.hid hz2
  clear hi hz0 hz1 hz2
  go_enter Try.func12, Try.ntmps12
  go_wp2_with fail
  go_loopw [6, 7, 9, 10, 13] (fun v6 v7 _ _ jv wr => ∃ (i nx : Nat) (os : List Nat), i ≤ n2 ∧ jv = .int .i64 i ∧ v7 = .int .i64 nx ∧ nx ≤ n1 ∧ os.length ≤ i ∧ Hid (r = (matchL ls nx (lg.drop i)).map (fun t => os ++ t)) ∧ Hid (wr.ownsRow w.heap.size 3 1 v6 os.length (os.map fun (k : Nat) => Value.int .i64 (k : Int))) ∧ Hid (Below w.heap.size w wr)) (fun _ _ _ _ jv _ => n2 - (intOf jv).toNat)
  case atStart => exact ⟨0, 0, [], by omega, rfl, rfl, by omega, by simp, by unfold Hid; rw [← hr.out]; simp, World.ownsRow_nil _ _ _ _, Below.refl _ _⟩
  case round =>
    obtain ⟨i, nx, os, hin, rfl, rfl, hnx, hos, HR, HOWN, HB⟩ := hrel
    by_cases hlt : i < n2
    · obtain ⟨b, off, rfl, hbw, hc⟩ := h2.out.form (by omega)
      have hig : i < lg.length := by rw [h2.out.len]; exact hlt
      obtain ⟨⟨sv, sc, hs0, _⟩, ⟨gv, gc, hg0, hg1, hg2, hg3⟩⟩ := hc i hig
      obtain ⟨e0, he0⟩ : ∃ e0, lg[i] = e0 := ⟨_, rfl⟩
      rw [he0] at hs0 hg0 hg1 hg2 hg3
      have e8 : wr.cell? ⟨b, off + i * 2, none⟩ = some (.slice sv e0.1.length sc) := (HB.out.cell (p := ⟨b, off + i * 2, none⟩) hbw).trans hs0
      have e9 : wr.cell? ⟨b, off + i * 2 + 1, none⟩ = some (.slice gv e0.2.length gc) := (HB.out.cell (p := ⟨b, off + i * 2 + 1, none⟩) hbw).trans hg0
      have HG1 := Lib.hid hg1
      have HE := Lib.hid he0
      have hbs : w.heap.size ≤ wr.heap.size := HB.out.size
      clear hc hs0 hg0 hg1 hg2 he0
      by_cases hz : e0.2.length = 0
      · have HSK : Hid (matchL ls nx (lg.drop i) = matchL ls nx (lg.drop (i + 1))) := match_skip hig (by rw [HE.out]; exact hz)
        have hB2 : Hid (Below w.heap.size w (wr.alloc (.cells #[.slice sv e0.1.length sc, .slice gv e0.2.length gc] 49))) := HB.out.alloc hbs _
        have hO2 := Lib.hid (HOWN.out.alloc (.cells #[.slice sv e0.1.length sc, .slice gv e0.2.length gc] 49))
        rw [hz] at hB2 hO2
        go_wp2_with fail
        go_roundw
        case rel => exact ⟨i + 1, nx, os, by omega, by go_num, rfl, hnx, by omega, by rw [← HSK.out]; exact HR, hO2, hB2⟩
        case measure => simp [intOf]; omega
      · have hz1 : ((e0.2.length : Int) == 0) = false := by rw [beq_eq_false_iff_ne]; omega
        have hz2 : (e0.2.length == 0) = false := by rw [beq_eq_false_iff_ne]; exact hz
        have hrun := run_from a1 n1 c1 nx hnx
        have HNZ := Lib.hid hz
        obtain ⟨a1', ha1'⟩ : ∃ a', (if c1 = nx then a1 else a1.map (·.add (nx * 2))) = a' := ⟨_, rfl⟩
        rw [ha1'] at hrun
        have HT : Hid (EpRd w a1' (n1 - nx) (ls.drop nx)) := by rw [← ha1']; exact h1.out.tail hnx hc1
        clear hz ha1'
        go_wp2_with fail
        obtain ⟨x, hx⟩ : ∃ x, idxI (ls.drop nx) e0.2 = x := ⟨_, rfl⟩
        have HXX := Lib.hid hx
        clear hx
        refine calls_worldA (F := fun W => Below w.heap.size w W ∧ W.ownsRow w.heap.size 3 1 u6 os.length (os.map fun (k : Nat) => Value.int .i64 (k : Int)) ∧ ∃ X, X = wr.heap.size ∧ X < W.heap.size ∧ W.cell? ⟨X, 1, none⟩ = some (.slice gv e0.2.length gc)) ⟨HB.out.alloc hbs _, HOWN.out.alloc _, _, rfl, by simp, by rw [cell_of_row _ _ _ _ _ _ (Go.heap_alloc_new wr _)]; rfl⟩ ?_
        rintro W ⟨hW, hOW, X, hX, hXl, hXc⟩
        rw [← hX]
        have HW := Lib.hid hW
        have HOW := Lib.hid hOW
        clear hW hOW hX e8 e9 hrun HOWN
        refine (index_calls X a1' gv (n1 - nx) (c1 - nx) e0.2.length gc (ls.drop nx) e0.2 x W (HT.out.below HW.out) (by omega) hXl hXc (HG1.out.below HW.out (Nat.le_refl _)) hg3 HXX).mono ?_
        rintro e w5 ⟨rfl, hb5⟩
        have HB5 : Hid (Below w.heap.size w w5) := HW.out.trans (hb5.mono HW.out.size)
        have HO5 : Hid (w5.ownsRow w.heap.size 3 1 u6 os.length (os.map fun (k : Nat) => Value.int .i64 (k : Int))) := row_on HOW.out hb5
        have hbs5 : w.heap.size ≤ w5.heap.size := HB5.out.size
        clear hb5 HOW hXc hXl
        rcases idx_cases (ls.drop nx) e0.2 with hk | ⟨k, hkl, hk⟩
        · obtain rfl : x = -1 := by rw [← HXX.out, hk]
          have HRN : Hid (r = none) := by
            unfold Hid
            rw [HR.out, match_none hig (by rw [HE.out]; exact HNZ.out) (by rw [HE.out]; exact hk)]
            rfl
          clear hk
          go_wp2_with fail
          go_ret2
          unfold MatchO
          rw [HRN.out]
          exact ⟨HB5.out, rfl⟩
        · obtain rfl : x = (k : Int) := by rw [← HXX.out, hk]
          have HMS : Hid (r = (matchL ls (nx + k + 1) (lg.drop (i + 1))).map (fun t => (os ++ [nx + k]) ++ t)) := by
            unfold Hid
            rw [HR.out, match_some hig (by rw [HE.out]; exact HNZ.out) (by rw [HE.out]; exact hk), Option.map_map]
            congr 1
            funext t
            simp
          rw [List.length_drop, h1.out.len] at hkl
          obtain ⟨p, hp⟩ : ∃ p, nx + k = p := ⟨_, rfl⟩
          have hp1 : (nx : Int) + (k : Int) = (p : Int) := by omega
          have hp2 : (nx : Int) + ((k : Int) + 1) = ((p + 1 : Nat) : Int) := by omega
          have hpn : p + 1 ≤ n1 := by omega
          rw [hp] at HMS
          clear hk hp
          go_wp2_with (at_builtin; refine wpList_append_own_at _ rfl _ _ 51 rfl w.heap.size 3 i0 (.int .i64 0) 1 8 Try.underlying51 HI.out HZ0.out HZ1.out HZ2.out rfl (by decide) _ _ _ rfl (HO5.out.alloc _) ⟨w5.heap.size, 0, none⟩ 1 1 [.int .i64 (p : Int)] rfl rfl (World.news_of_block (cs := #[.int .i64 (p : Int)]) (t := 3) (fr := (0, 0)) (Go.heap_alloc_new _ _)) (by simp [Value.oneCell']) (by unfold maxLen; omega) (by omega) (by simp; omega) ?_)
          intro v6 w6 hown6 hgrow6 _ hat6
          have HO6 : Hid (w6.ownsRow w.heap.size 3 1 v6 (os ++ [p]).length ((os ++ [p]).map fun (k : Nat) => Value.int .i64 (k : Int))) := by
            unfold Hid
            rw [List.length_append, List.map_append]
            exact hown6
          have HB6 : Hid (Below w.heap.size w w6) := (HB5.out.alloc hbs5 _).grown hgrow6 (by simp; omega) (fun j hj => (HO5.out.lt j hj).1)
          clear hown6 hgrow6 hat6
          go_wp2_with fail
          go_roundw
          case rel => exact ⟨i + 1, p + 1, os ++ [p], by omega, by go_num, by go_num, hpn, by simp; omega, HMS, HO6, HB6⟩
          case measure => simp [intOf]; omega
    · have hie : i = n2 := by omega
      have HRS : Hid (r = some os) := by
        unfold Hid
        rw [HR.out, List.drop_eq_nil_of_le (by rw [h2.out.len]; omega)]
        unfold matchL
        simp
      clear hie
      go_wp2_with fail
      go_ret2
      unfold MatchO
      rw [HRS.out]
      exact ⟨HB.out, _, rfl, HOWN.out⟩
end Go.Proofs.Ytjjnhndlollldaa.Ep
