/-
The walk of PolliwogRow: what goes through a row, sealed, fits behind it, each once: the law returns true. No condition but the row's own bounds.
-/
import Derived.Test.YtljncbbajhoocaaRingSNew
import Derived.Test.YtljncbbajhoocaaCrcPartsLaw
namespace Go.Proofs.Ytljncbbajhoocaa.RowLaw
open Go.RowKit Go.Proofs.Ytljncbbajhoocaa.Args Go.Proofs.Ytljncbbajhoocaa.Crc Go.Proofs.Ytljncbbajhoocaa.CrcMath Go.Proofs.YtljncbbajhoocaaW.PrintMore
open Go.Proofs.Ytljncbbajhoocaa.RingS (Ring Mod ownsRow_drewN)
attribute [local go_sem] max2_int min2_int max_two min_two

/-- The table in block g, the row in block R. -/
structure Hold (w wr : World) (g R : Nat) (B : Option Nat) (most : Nat) (q : List ByteArray) : Prop where
  laid : Laid w wr g
  ring : Ring wr R B most q
  newR : w.heap.size ≤ R ∧ R ≠ g
  newB : ∀ b, B = some b → w.heap.size ≤ b ∧ b ≠ g
theorem Hold.below {w wr w' : World} {g R : Nat} {B : Option Nat} {most : Nat} {q : List ByteArray} (h : Hold w wr g R B most q) (hb : Below wr.heap.size wr w') : Hold w w' g R B most q :=
  ⟨h.laid.on hb, h.ring.below hb, h.newR, h.newB⟩
theorem Laid.mod {w wr w' : World} {g : Nat} {S : Nat → Prop} (h : Laid w wr g) (hm : Mod S wr w') (hS : ∀ k, S k → w.heap.size ≤ k ∧ k ≠ g) : Laid w w' g :=
  ⟨(hm.block g h.lt (fun hs => (hS g hs).2 rfl)).trans h.tab, h.below.trans (hm.below h.below.size (fun k hk => (hS k hk).1)), h.new⟩
theorem Hold.mod {w wr w' : World} {g R : Nat} {B B' : Option Nat} {most : Nat} {q q' : List ByteArray} (h : Hold w wr g R B most q) (hm : Mod (fun k => k = R ∨ some k = B) wr w') (hr : Ring w' R B' most q') (hB : B' = B ∨ ∃ b, B' = some b ∧ wr.heap.size ≤ b) : Hold w w' g R B' most q' := by
  refine ⟨Laid.mod h.laid hm (fun k hk => ?_), hr, h.newR, fun b hb => ?_⟩
  · rcases hk with hk | hk
    · rw [hk]; exact h.newR
    · exact h.newB k hk.symm
  · rcases hB with hB | ⟨c, hc, hcs⟩
    · exact h.newB b (by rw [← hB]; exact hb)
    · rw [hc] at hb; cases hb
      have h1 := h.laid.lt
      have h2 := h.laid.below.size
      exact ⟨by omega, by omega⟩

theorem make_laid (w : World) : Calls Try.prog 20 #[] w fun e w' => e = .returned (.agg (tabTo 256)) ∧ Below w.heap.size w w' := make_calls w
theorem cleared_row {w : World} {base : Nat} {sp : Option Addr} {sc : Nat} {q : List ByteArray} (h : w.ownsRow base 9 1 (.slice sp q.length sc) q.length (q.map Value.string)) : ArgRow 1 (fun s => [Value.string s]) w sp q.length q := by
  refine ⟨rfl, fun hp => ?_⟩
  rcases h.2 with ⟨_, h2⟩ | ⟨b, cap, cur, h1, _, hg, _, _, _, ht⟩
  · omega
  · injection h1 with h1 _ _
    refine ⟨b, 0, h1, (Array.getElem?_eq_some_iff.1 hg).1, fun i hi j v hv => ?_⟩
    rw [cell_of_row _ _ _ _ _ _ hg, ← Array.getElem?_toList]
    cases j with
    | zero =>
      simp at hv
      have h2 : (cur.toList.take (q.length * 1))[i]? = cur.toList[i]? := List.getElem?_take_of_lt (by omega)
      rw [show 0 + i * 1 + 0 = i by omega, ← h2, ht, ← hv]
      simp [hi]
    | succ j => simp at hv

set_option maxHeartbeats 2000000 in
set_option maxRecDepth 100000 in
theorem rowLaw (a : Option Addr) (n cap k : Nat) (most r : Int) (zs : List ByteArray) (w : World) (ha : Hid (ArgRow 1 (fun s => [Value.string s]) w a n zs)) (hn : n ≤ 140737488355328) (hsz : Hid (∀ s ∈ zs, s.size ≤ 9223372036854775807))
    (hk1 : 1 ≤ k) (hk2 : k ≤ 40) (hmin : (if (40 : Int) < most then 40 else most) = r) (hmax : (if (1 : Int) < r then r else 1) = (k : Int)) :
    Calls Try.prog 4 #[.slice a n cap, .int .i64 most] w fun e w' => e = .returned (.bool true) ∧ Below w.heap.size w w' := by
  have hbw := Below.refl w.heap.size w
  have hk3 : (if (4096 : Int) < (k : Int) then 4096 else (k : Int)) = (k : Int) := by rw [if_neg (by omega)]
  have hk4 : (if 0 < (k : Int) then (k : Int) else 0) = (k : Int) := by rw [if_pos (by omega)]
  have HK3 := Lib.hid hk3
  have HK4 := Lib.hid hk4
  clear hk3 hk4
  go_enter Try.func4, Try.ntmps4
  go_wp2_with (first | (go_at_call 20; refine (make_calls _).mono ?_; rintro e w1 ⟨rfl, hb1⟩) | (refine wpList_store_laid (by assumption) rfl rfl _ _ rfl rfl rfl ?_; intro w2 hL))
  clear hmin hmax
  refine (RingS.new_calls (k : Int) (k : Int) k w2 (by omega) HK3.out HK4.out).mono ?_
  rintro e w3 ⟨rfl, hr3, hb3⟩
  obtain ⟨g, hg⟩ : ∃ g, g = w1.heap.size := ⟨_, rfl⟩
  obtain ⟨R, hR⟩ : ∃ R, R = w2.heap.size := ⟨_, rfl⟩
  rw [← hg] at hL ⊢
  rw [← hR] at hr3 ⊢
  have hH : Hold w w3 g R none k [] := ⟨hL.on hb3, hr3, by have := hL.lt; have := hL.below.size; omega, fun b hb => by cases hb⟩
  have HH := Lib.hid hH
  clear hH hL hb3 hr3 hb1 hbw hg hR
  go_wp2_with fail
  refine (none_calls g w3).mono ?_
  rintro e w4 ⟨rfl, rfl⟩
  go_wp2_with fail
  go_loopw [7, 8, 9, 10, 11] (fun nv iv _ _ _ wr => ∃ (i m : Nat) (B : Option Nat) (q : List ByteArray), i ≤ n ∧ i ≤ 40 ∧ iv = .int .i64 i ∧ nv = .int .i64 m ∧ Hid (m + q.length = i) ∧ m ≤ i ∧ Hid (Hold w wr g R B k q) ∧ Hid (∀ x ∈ q, fitsB x = true ∧ x.size ≤ 34)) (fun _ iv _ _ _ _ => 40 - (intOf iv).toNat)
  case atStart => exact ⟨0, 0, none, [], by omega, by omega, rfl, rfl, rfl, by omega, HH, fun x hx => by simp at hx⟩
  case round =>
    obtain ⟨i, m, B, q, hin, hi40, rfl, rfl, HM, hmi, HH2, HQF⟩ := hrel
    by_cases hlt : i < n
    · by_cases hlt2 : i < 40
      · obtain ⟨b, off, rfl, hbw, hc⟩ := ArgRow.one ha.out (by omega)
        have hiz : i < zs.length := by rw [ha.out.len]; exact hlt
        obtain ⟨s, hs⟩ : ∃ s, zs[i] = s := ⟨_, rfl⟩
        have hcell : wr.cell? ⟨b, off + i, none⟩ = some (.string s) := by
          rw [HH2.out.laid.below.cell (p := ⟨b, off + i, none⟩) hbw, hc i hiz]
          exact congrArg (fun q => some (Value.string q)) hs
        have hssz : s.size ≤ 9223372036854775807 := by rw [← hs]; exact hsz.out _ (List.getElem_mem hiz)
        obtain ⟨c, hcut⟩ : ∃ c, cutB s 30 = c := ⟨_, rfl⟩
        have hcz : c.size ≤ 30 := by rw [← hcut]; exact cut_size _ _
        have HC := Lib.hid hcut
        have HSEAL : Hid (sealB c = sealB c) := rfl
        obtain ⟨t, ht⟩ : ∃ t, sealB c = t := ⟨_, rfl⟩
        have HT := Lib.hid ht
        have htf : Hid (fitsB t = true ∧ t.size ≤ 34) := by
          unfold Hid; rw [← ht]; exact ⟨seal_fits c, by rw [seal_size]; omega⟩
        have hql : q.length ≤ k := HH2.out.ring.1
        clear hs hc hcut ht hiz
        by_cases hlong : 30 < s.size
        · have hs1 : (30 : Int) < (s.size : Int) := by omega
          have e1 : s.extract 0 30 = c := by have h := HC.out; unfold cutB at h; rw [if_pos hlong] at h; exact h
          have s1 : ∀ w', (Instr.slice 9 (.string s) none (some (.int .i64 (30 : Int))) none).run Try.prog w' = .ok (.string c) w' := fun w' => by
            rw [run_slice_string_to_if _ _ _ _ _ Try.underlying9, if_pos (by omega), ← e1]; rfl
          clear e1
          by_cases hfull : q.length = k
          · obtain ⟨x, q', hq⟩ : ∃ x q', q = x :: q' := by
              cases q with
              | nil => simp at hfull; omega
              | cons x q' => exact ⟨x, q', rfl⟩
            have HQ := Lib.hid hq
            have HX : Hid (Hid (fitsB x = true) ∧ x.size ≤ 34) := HQF.out x (by rw [hq]; simp)
            have HQF2 : Hid (∀ y ∈ q', fitsB y = true ∧ y.size ≤ 34) := fun y hy => HQF.out y (by rw [hq]; simp [hy])
            have hql2 : q'.length < k := by rw [hq] at hfull; simp at hfull; omega
            have HM2 : Hid (m + 1 + (q' ++ [t]).length = i + 1) := by unfold Hid; have h := HM.out; rw [hq] at h; simp at h ⊢; omega
            clear hq
            go_wp2_with fail
            refine (RingS.room_ring R B k q wr HH2.out.ring).mono ?_
            rintro e w5 ⟨rfl, m5, rfl⟩
            have hz : k - q.length = 0 := by omega
            rw [hz]
            clear hfull hz
            go_wp2_with fail
            refine (RingS.take_calls R B k q' x _ (by rw [← HQ.out]; exact HH2.out.ring.drewN m5)).mono ?_
            rintro e w6 ⟨rfl, hr6, hm6⟩
            have HH3 := Lib.hid ((HH2.out.below (below_drewN (Below.refl _ _) m5)).mod hm6 hr6 (.inl rfl))
            clear hr6 hm6
            go_wp2_with fail
            refine (fits_to g x true w _ HH3.out.laid (by have := HX.out.2; omega) HX.out.1).mono ?_
            rintro e w7 ⟨rfl, hb7⟩
            have HH4 := Lib.hid (HH3.out.below hb7)
            clear hb7
            go_wp2_with fail
            refine (seal_to g c t w _ HH4.out.laid (by omega) HT).mono ?_
            rintro e w8 ⟨rfl, hb8⟩
            have HH5 := Lib.hid (HH4.out.below hb8)
            clear hb8
            go_wp2_with fail
            refine (RingS.put_calls R B k q' t _ HH5.out.ring hql2).mono ?_
            rintro e w9 ⟨rfl, B', hr9, hB9, hm9⟩
            have HH6 := Lib.hid (HH5.out.mod hm9 hr9 hB9)
            clear hr9 hB9 hm9
            go_wp2
            go_roundw
            case rel => exact ⟨i + 1, m + 1, B', q' ++ [t], by omega, by omega, by go_num, by go_num, HM2, by omega, HH6, fun y hy => by rcases List.mem_append.1 hy with h | h; exact HQF2.out y h; simp at h; rw [h]; exact htf.out⟩
            case measure => simp [intOf]; omega
          · have hql2 : q.length < k := by omega
            have HM2 : Hid (m + (q ++ [t]).length = i + 1) := by unfold Hid; have h := HM.out; simp; omega
            obtain ⟨d, hd⟩ : ∃ d, k - q.length = d := ⟨_, rfl⟩
            have hd0 : ((d : Int) == 0) = false := by rw [beq_eq_false_iff_ne]; omega
            have HD := Lib.hid hd
            clear hfull hd
            go_wp2_with fail
            refine (RingS.room_ring R B k q wr HH2.out.ring).mono ?_
            rintro e w5 ⟨rfl, m5, rfl⟩
            rw [HD.out]
            have HH4 := Lib.hid (HH2.out.below (below_drewN (Below.refl _ _) m5))
            go_wp2_with fail
            refine (seal_to g c t w _ HH4.out.laid (by omega) HT).mono ?_
            rintro e w8 ⟨rfl, hb8⟩
            have HH5 := Lib.hid (HH4.out.below hb8)
            clear hb8
            go_wp2_with fail
            refine (RingS.put_calls R B k q t _ HH5.out.ring hql2).mono ?_
            rintro e w9 ⟨rfl, B', hr9, hB9, hm9⟩
            have HH6 := Lib.hid (HH5.out.mod hm9 hr9 hB9)
            clear hr9 hB9 hm9
            go_wp2
            go_roundw
            case rel => exact ⟨i + 1, m, B', q ++ [t], by omega, by omega, by go_num, rfl, HM2, by omega, HH6, fun y hy => by rcases List.mem_append.1 hy with h | h; exact HQF.out y h; simp at h; rw [h]; exact htf.out⟩
            case measure => simp [intOf]; omega
        · have e1 : s = c := by have h := HC.out; unfold cutB at h; rw [if_neg hlong] at h; exact h
          have E1 := Lib.hid e1
          clear e1
          by_cases hfull : q.length = k
          · obtain ⟨x, q', hq⟩ : ∃ x q', q = x :: q' := by
              cases q with
              | nil => simp at hfull; omega
              | cons x q' => exact ⟨x, q', rfl⟩
            have HQ := Lib.hid hq
            have HX : Hid (Hid (fitsB x = true) ∧ x.size ≤ 34) := HQF.out x (by rw [hq]; simp)
            have HQF2 : Hid (∀ y ∈ q', fitsB y = true ∧ y.size ≤ 34) := fun y hy => HQF.out y (by rw [hq]; simp [hy])
            have hql2 : q'.length < k := by rw [hq] at hfull; simp at hfull; omega
            have HM2 : Hid (m + 1 + (q' ++ [t]).length = i + 1) := by unfold Hid; have h := HM.out; rw [hq] at h; simp at h ⊢; omega
            clear hq
            go_wp2_with fail
            refine (RingS.room_ring R B k q wr HH2.out.ring).mono ?_
            rintro e w5 ⟨rfl, m5, rfl⟩
            have hz : k - q.length = 0 := by omega
            rw [hz]
            clear hfull hz
            go_wp2_with fail
            refine (RingS.take_calls R B k q' x _ (by rw [← HQ.out]; exact HH2.out.ring.drewN m5)).mono ?_
            rintro e w6 ⟨rfl, hr6, hm6⟩
            have HH3 := Lib.hid ((HH2.out.below (below_drewN (Below.refl _ _) m5)).mod hm6 hr6 (.inl rfl))
            clear hr6 hm6
            go_wp2_with fail
            refine (fits_to g x true w _ HH3.out.laid (by have := HX.out.2; omega) HX.out.1).mono ?_
            rintro e w7 ⟨rfl, hb7⟩
            have HH4 := Lib.hid (HH3.out.below hb7)
            clear hb7
            go_wp2_with fail
            refine (seal_to g s t w _ HH4.out.laid (by omega) (by rw [E1.out]; exact HT)).mono ?_
            rintro e w8 ⟨rfl, hb8⟩
            have HH5 := Lib.hid (HH4.out.below hb8)
            clear hb8
            go_wp2_with fail
            refine (RingS.put_calls R B k q' t _ HH5.out.ring hql2).mono ?_
            rintro e w9 ⟨rfl, B', hr9, hB9, hm9⟩
            have HH6 := Lib.hid (HH5.out.mod hm9 hr9 hB9)
            clear hr9 hB9 hm9
            go_wp2
            go_roundw
            case rel => exact ⟨i + 1, m + 1, B', q' ++ [t], by omega, by omega, by go_num, by go_num, HM2, by omega, HH6, fun y hy => by rcases List.mem_append.1 hy with h | h; exact HQF2.out y h; simp at h; rw [h]; exact htf.out⟩
            case measure => simp [intOf]; omega
          · have hql2 : q.length < k := by omega
            have HM2 : Hid (m + (q ++ [t]).length = i + 1) := by unfold Hid; have h := HM.out; simp; omega
            obtain ⟨d, hd⟩ : ∃ d, k - q.length = d := ⟨_, rfl⟩
            have hd0 : ((d : Int) == 0) = false := by rw [beq_eq_false_iff_ne]; omega
            have HD := Lib.hid hd
            clear hfull hd
            go_wp2_with fail
            refine (RingS.room_ring R B k q wr HH2.out.ring).mono ?_
            rintro e w5 ⟨rfl, m5, rfl⟩
            rw [HD.out]
            have HH4 := Lib.hid (HH2.out.below (below_drewN (Below.refl _ _) m5))
            go_wp2_with fail
            refine (seal_to g s t w _ HH4.out.laid (by omega) (by rw [E1.out]; exact HT)).mono ?_
            rintro e w8 ⟨rfl, hb8⟩
            have HH5 := Lib.hid (HH4.out.below hb8)
            clear hb8
            go_wp2_with fail
            refine (RingS.put_calls R B k q t _ HH5.out.ring hql2).mono ?_
            rintro e w9 ⟨rfl, B', hr9, hB9, hm9⟩
            have HH6 := Lib.hid (HH5.out.mod hm9 hr9 hB9)
            clear hr9 hB9 hm9
            go_wp2
            go_roundw
            case rel => exact ⟨i + 1, m, B', q ++ [t], by omega, by omega, by go_num, rfl, HM2, by omega, HH6, fun y hy => by rcases List.mem_append.1 hy with h | h; exact HQF.out y h; simp at h; rw [h]; exact htf.out⟩
            case measure => simp [intOf]; omega
      · have hi2 : i = 40 := by omega
        obtain ⟨tt, htt⟩ : ∃ tt, tt = m + q.length := ⟨_, rfl⟩
        have HTT := Lib.hid htt
        have htt2 : tt ≤ 40 := by rw [htt, HM.out]; exact hi40
        clear htt
        go_wp2_with fail
        refine (RingS.clear_calls R B k q wr HH2.out.ring).mono ?_
        rintro e w5 ⟨sp, sc, rfl, ho5, hr5, hm5⟩
        have HH3 := Lib.hid (Laid.mod HH2.out.laid hm5 (fun j hj => by rw [hj]; exact HH2.out.newR))
        have HROW := Lib.hid (cleared_row ho5)
        clear ho5 hr5 hm5
        have hqk : q.length ≤ 40 := by have := HH2.out.ring.1; omega
        go_wp2_with fail
        go_loopw [7, 13, 69] (fun nv _ jv wr => ∃ (j u : Nat), j ≤ q.length ∧ jv = .int .i64 j ∧ nv = .int .i64 u ∧ Hid (u = m + j) ∧ u ≤ 40 ∧ Hid (Laid w wr g) ∧ Hid (ArgRow 1 (fun s => [Value.string s]) wr sp q.length q)) (fun _ _ jv _ => q.length - (intOf jv).toNat)
        case atStart => exact ⟨0, m, by omega, rfl, rfl, rfl, by omega, HH3, HROW⟩
        case round =>
          obtain ⟨j, u, hj, rfl, rfl, HU, hu40, HL, HA⟩ := hrel
          by_cases hjl : j < q.length
          · obtain ⟨b2, off2, rfl, hb2, hc2⟩ := ArgRow.one HA.out (by omega)
            obtain ⟨x, hx⟩ : ∃ x, q[j] = x := ⟨_, rfl⟩
            have hcell2 : wr.cell? ⟨b2, off2 + j, none⟩ = some (.string x) := by
              rw [hc2 j hjl]
              exact congrArg (fun q => some (Value.string q)) hx
            have HX : Hid (Hid (fitsB x = true) ∧ x.size ≤ 34) := HQF.out x (by rw [← hx]; exact List.getElem_mem hjl)
            have HU2 : Hid (u + 1 = m + (j + 1)) := by unfold Hid; have h := HU.out; omega
            have hu2 : u + 1 ≤ 40 := by have h := HU.out; have h2 := HM.out; omega
            clear hx hc2
            go_wp2_with fail
            refine (fits_to g x true w _ HL.out (by have := HX.out.2; omega) HX.out.1).mono ?_
            rintro e w6 ⟨rfl, hb6⟩
            have HL2 := Lib.hid (HL.out.on hb6)
            have HA2 := Lib.hid (HA.out.below hb6 (Nat.le_refl _))
            clear hb6
            go_wp2
            go_roundw
            case rel => exact ⟨j + 1, u + 1, by omega, by go_num, by go_num, HU2, hu2, HL2, HA2⟩
            case measure => simp [intOf]; omega
          · have htu : u = tt := by have h := HU.out; have h2 := HTT.out; omega
            rw [htu]
            clear htu
            have hfin : ((tt : Int) == 40) = true := by have h := HTT.out; have h2 := HM.out; rw [beq_iff_eq]; omega
            go_wp2
            go_ret
            exact ⟨rfl, HL.out.below⟩
    · have hi2 : i = n := by omega
      obtain ⟨tt, htt⟩ : ∃ tt, tt = m + q.length := ⟨_, rfl⟩
      have HTT := Lib.hid htt
      have htt2 : tt ≤ 40 := by rw [htt, HM.out]; exact hi40
      clear htt
      go_wp2_with fail
      refine (RingS.clear_calls R B k q wr HH2.out.ring).mono ?_
      rintro e w5 ⟨sp, sc, rfl, ho5, hr5, hm5⟩
      have HH3 := Lib.hid (Laid.mod HH2.out.laid hm5 (fun j hj => by rw [hj]; exact HH2.out.newR))
      have HROW := Lib.hid (cleared_row ho5)
      clear ho5 hr5 hm5
      have hqk : q.length ≤ 40 := by have := HH2.out.ring.1; omega
      go_wp2_with fail
      go_loopw [7, 13, 69] (fun nv _ jv wr => ∃ (j u : Nat), j ≤ q.length ∧ jv = .int .i64 j ∧ nv = .int .i64 u ∧ Hid (u = m + j) ∧ u ≤ 40 ∧ Hid (Laid w wr g) ∧ Hid (ArgRow 1 (fun s => [Value.string s]) wr sp q.length q)) (fun _ _ jv _ => q.length - (intOf jv).toNat)
      case atStart => exact ⟨0, m, by omega, rfl, rfl, rfl, by omega, HH3, HROW⟩
      case round =>
        obtain ⟨j, u, hj, rfl, rfl, HU, hu40, HL, HA⟩ := hrel
        by_cases hjl : j < q.length
        · obtain ⟨b2, off2, rfl, hb2, hc2⟩ := ArgRow.one HA.out (by omega)
          obtain ⟨x, hx⟩ : ∃ x, q[j] = x := ⟨_, rfl⟩
          have hcell2 : wr.cell? ⟨b2, off2 + j, none⟩ = some (.string x) := by
            rw [hc2 j hjl]
            exact congrArg (fun q => some (Value.string q)) hx
          have HX : Hid (Hid (fitsB x = true) ∧ x.size ≤ 34) := HQF.out x (by rw [← hx]; exact List.getElem_mem hjl)
          have HU2 : Hid (u + 1 = m + (j + 1)) := by unfold Hid; have h := HU.out; omega
          have hu2 : u + 1 ≤ 40 := by have h := HU.out; have h2 := HM.out; omega
          clear hx hc2
          go_wp2_with fail
          refine (fits_to g x true w _ HL.out (by have := HX.out.2; omega) HX.out.1).mono ?_
          rintro e w6 ⟨rfl, hb6⟩
          have HL2 := Lib.hid (HL.out.on hb6)
          have HA2 := Lib.hid (HA.out.below hb6 (Nat.le_refl _))
          clear hb6
          go_wp2
          go_roundw
          case rel => exact ⟨j + 1, u + 1, by omega, by go_num, by go_num, HU2, hu2, HL2, HA2⟩
          case measure => simp [intOf]; omega
        · have htu : u = tt := by have h := HU.out; have h2 := HTT.out; omega
          rw [htu]
          clear htu
          have hfin : ((tt : Int) == (n : Int)) = true := by have h := HTT.out; have h2 := HM.out; rw [beq_iff_eq]; omega
          go_wp2
          go_ret
          exact ⟨rfl, HL.out.below⟩

theorem row_law (w : World) (a : Option Addr) (n cap : Nat) (zs : List ByteArray) (h : IsStrs w a n cap zs) (hn : n * 16 ≤ 140737488351232) (most : Int) (_wf : (Lit.int .i64 most).wf = true) :
    Calls Try.prog 4 #[.slice a n cap, .int .i64 most] w fun e w' => e = .returned (.bool true) ∧ Below w.heap.size w w' := by
  obtain ⟨r, hr⟩ : ∃ r : Int, (if (40 : Int) < most then 40 else most) = r := ⟨_, rfl⟩
  have hr1 : r ≤ 40 := by rw [← hr]; split <;> omega
  obtain ⟨k, hk, hk1, hk2⟩ : ∃ k : Nat, (if (1 : Int) < r then r else 1) = (k : Int) ∧ 1 ≤ k ∧ k ≤ 40 := by
    split
    · exact ⟨r.toNat, by omega, by omega, by omega⟩
    · exact ⟨1, rfl, by omega, by omega⟩
  exact rowLaw a n cap k most r (zs.take n) w (Lib.hid h.row.1) (by omega) (Lib.hid (fun s hs => by have := h.row.2.2 s hs; unfold maxLen at this; omega)) hk1 hk2 hr hk
end Go.Proofs.Ytljncbbajhoocaa.RowLaw
