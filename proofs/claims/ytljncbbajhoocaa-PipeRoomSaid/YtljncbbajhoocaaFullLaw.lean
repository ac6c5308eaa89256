/-
The walk of RingFull: a row that is filled, emptied, and filled again, has what it should: the law returns true. No condition but the row's own bounds.
-/
import Derived.Test.YtljncbbajhoocaaRingAwake
import Derived.Laws.BitsAllLaws
namespace Go.Proofs.Ytljncbbajhoocaa.FullLaw
open Go.RowKit Go.Proofs.Ytljncbbajhoocaa.Args Go.Proofs.Ytljncbbajhoocaa.RingI

theorem and31 (x : Int) : ∃ m : Nat, bits .and .i64 x 31 = (m : Int) ∧ m ≤ 31 := by
  refine ⟨(x % 32).toNat, ?_, by omega⟩
  show IntKind.i64.wrap ((BitVec.ofInt 64 x &&& BitVec.ofInt 64 31).toNat : Int) = _
  have h : (BitVec.ofInt 64 31).toNat = 31 := by decide
  rw [BitVec.toNat_and, h, nat_mask5, BitVec.toNat_ofInt]
  have e : (((x % ((2 ^ 64 : Nat) : Int)).toNat % 32 : Nat) : Int) = ((x % 32).toNat : Int) := by omega
  rw [e]
  exact IntWalk.i64_in _ (by omega)
/-- The numbers from f on, l of them. -/
def seqQ (f l : Nat) : List Int := (List.range l).map (fun j => ((f + j : Nat) : Int))
theorem seqQ_len (f l : Nat) : (seqQ f l).length = l := by simp [seqQ]
theorem seqQ_put (f l : Nat) : seqQ f l ++ [((f + l : Nat) : Int)] = seqQ f (l + 1) := by
  unfold seqQ; rw [List.range_succ, List.map_append]; rfl
theorem seqQ_take (f l : Nat) : seqQ f (l + 1) = (f : Int) :: seqQ (f + 1) l := by
  unfold seqQ
  rw [List.range_succ_eq_map, List.map_cons, List.map_map]
  congr 1
  apply List.map_congr_left
  intro j _
  simp only [Function.comp, Nat.succ_eq_add_one]
  congr 1; omega

set_option maxHeartbeats 2000000 in
set_option maxRecDepth 100000 in
theorem fullLaw (most : Int) (a : Option Addr) (n cap k0 : Nat) (zs : List Int) (w : World) (ha : Hid (ArgRow 1 (fun x => [Value.int .i64 x]) w a n zs)) (hn : n ≤ 140737488355328) (hk : bits .and .i64 most 31 = (k0 : Int)) (hk0 : k0 ≤ 31) :
    Calls Try.prog 10 #[.int .i64 most, .slice a n cap] w fun e w' => e = .returned (.bool true) ∧ Below w.heap.size w w' := by
  obtain ⟨k, hkk⟩ : ∃ k, k = k0 + 1 := ⟨_, rfl⟩
  have hk1 : (1 : Int) + (k0 : Int) = (k : Int) := by omega
  have hk32 : k ≤ 32 := by omega
  have hkp : 1 ≤ k := by omega
  have HK3 : Hid ((if (4096 : Int) < (k : Int) then 4096 else (k : Int)) = (k : Int)) := by unfold Hid; rw [if_neg (by omega)]
  have HK4 : Hid ((if 0 < (k : Int) then (k : Int) else 0) = (k : Int)) := by unfold Hid; rw [if_pos (by omega)]
  clear hkk
  go_enter Try.func10, Try.ntmps10
  go_wp2_with fail
  refine (awake_calls w).mono ?_
  rintro e w1 ⟨rfl, hb1⟩
  go_wp2_with fail
  clear hk hk1
  refine (own_new w (k : Int) (k : Int) k w1 hb1 (by omega) HK3.out HK4.out).mono ?_
  rintro e w2 ⟨rfl, h2⟩
  obtain ⟨R, hR⟩ : ∃ R, R = w1.heap.size := ⟨_, rfl⟩
  rw [← hR] at h2 ⊢
  have H2 := Lib.hid h2
  clear h2 hR hb1
  go_wp2_with fail
  go_loopw [6, 7, 8, 9, 10] (fun nv fv iv _ _ wr => ∃ (i f l nx : Nat) (B : Option Nat), i ≤ n ∧ i ≤ 40 ∧ iv = .int .i64 i ∧ nv = .int .i64 nx ∧ fv = .int .i64 f ∧ Hid (nx = f + l) ∧ nx ≤ 31 * i ∧ f ≤ nx ∧ l ≤ k ∧ Hid (Own w wr R B k (seqQ f l))) (fun _ _ iv _ _ _ => 40 - (intOf iv).toNat)
  case atStart => exact ⟨0, 0, 0, 0, none, by omega, by omega, rfl, rfl, rfl, rfl, by omega, by omega, by omega, H2⟩
  case round =>
    obtain ⟨i, f, l, nx, B, hin, hi40, rfl, rfl, rfl, HNX, hnx, hfn, hlk, HO⟩ := hrel
    by_cases hlt : i < n
    · by_cases hlt2 : i < 40
      · obtain ⟨b, off, rfl, hbw, hc⟩ := ArgRow.one ha.out (by omega)
        have hiz : i < zs.length := by rw [ha.out.len]; exact hlt
        obtain ⟨z, hz⟩ : ∃ z, zs[i] = z := ⟨_, rfl⟩
        have hcw : w.cell? ⟨b, off + i, none⟩ = some (.int .i64 z) := by
          rw [hc i hiz]
          exact congrArg (fun q => some (Value.int .i64 q)) hz
        have HCW := Lib.hid hcw
        have hcell := (HO.out.below.cell (p := ⟨b, off + i, none⟩) hbw).trans hcw
        obtain ⟨m1, hm1, hm1b⟩ := and31 z
        obtain ⟨m2, hm2, hm2b⟩ := and31 (z / 32)
        clear hc hz hcw hiz
        have hd40 : decide ((i : Int) < 40) = true := decide_eq_true (by omega)
        go_wp2_with fail
        go_loopw [6, 35] (fun nv jv wr => ∃ (j l nx : Nat) (B : Option Nat), j ≤ m1 ∧ jv = .int .i64 j ∧ nv = .int .i64 nx ∧ Hid (nx = f + l) ∧ nx ≤ 31 * i + j ∧ f ≤ nx ∧ l ≤ k ∧ Hid (Own w wr R B k (seqQ f l))) (fun _ jv _ => m1 - (intOf jv).toNat)
        case atStart => exact ⟨0, l, nx, B, by omega, rfl, rfl, HNX, by omega, by omega, by omega, HO⟩
        case round =>
          obtain ⟨j, l, nx, B, hjm, rfl, rfl, HNX, hnx, hfn, hlk, HO⟩ := hrel
          by_cases hj : j < m1
          · by_cases hl : l < k
            · have hsub : (nx : Int) - (f : Int) = (l : Int) := by have := HNX.out; omega
              have hltk : decide ((l : Int) < (k : Int)) = true := decide_eq_true (by omega)
              have hq : seqQ f l ++ [(nx : Int)] = seqQ f (l + 1) := by rw [HNX.out]; exact seqQ_put f l
              have hqi := Lib.hid hq
              clear hq
              go_wp2_with fail
              refine (own_put w R B k (seqQ f l) (nx : Int) _ HO.out (by rw [seqQ_len]; exact hl)).mono ?_
              rintro e w3 ⟨rfl, B3, h3⟩
              rw [hqi.out] at h3
              have H3 := Lib.hid h3
              clear h3
              go_wp2_with fail
              go_roundw
              case rel => exact ⟨j + 1, l + 1, nx + 1, B3, by omega, by go_num, by go_num, by unfold Hid; have := HNX.out; omega, by omega, by omega, by omega, H3⟩
              case measure => simp [intOf]; omega
            · have hlk2 : l = k := by omega
              have hsub : (nx : Int) - (f : Int) = (k : Int) := by have := HNX.out; omega
              have hltk : decide ((k : Int) < (k : Int)) = false := decide_eq_false (by omega)
              go_wp2_with fail
              refine (own_put_full w R B k (seqQ f l) (nx : Int) _ HO.out (by rw [seqQ_len]; exact hlk2)).mono ?_
              rintro e w3 ⟨rfl, h3⟩
              have H3 := Lib.hid h3
              clear h3
              go_wp2_with fail
              go_roundw
              case rel => exact ⟨j + 1, l, nx, B, by omega, by go_num, rfl, HNX, by omega, by omega, by omega, H3⟩
              case measure => simp [intOf]; omega
          · have hcell := (HO.out.below.cell (p := ⟨b, off + i, none⟩) hbw).trans HCW.out
            go_wp2_with fail
            go_loopw [7, 9, 10, 61] (fun fv _ _ jv wr => ∃ (j f l : Nat) (B : Option Nat), j ≤ m2 ∧ jv = .int .i64 j ∧ fv = .int .i64 f ∧ Hid (nx = f + l) ∧ f ≤ nx ∧ l ≤ k ∧ Hid (Own w wr R B k (seqQ f l))) (fun _ _ _ jv _ => m2 - (intOf jv).toNat)
            case atStart => exact ⟨0, f, l, B, by omega, rfl, rfl, HNX, by omega, by omega, HO⟩
            case round =>
              obtain ⟨j2, f, l, B, hjm2, rfl, rfl, HNX, hfn, hlk, HO⟩ := hrel
              by_cases hj2 : j2 < m2
              · cases l with
                | zero =>
                  have hfx : nx ≤ f := by have := HNX.out; omega
                  have hlf : decide ((f : Int) < (nx : Int)) = false := decide_eq_false (by omega)
                  go_wp2_with fail
                  refine (own_take_none w R B k _ HO.out).mono ?_
                  rintro e w3 ⟨rfl, h3⟩
                  have H3 := Lib.hid h3
                  clear h3
                  go_wp2_with fail
                  go_roundw
                  case rel => exact ⟨j2 + 1, f, 0, B, by omega, by go_num, rfl, HNX, by omega, by omega, H3⟩
                  case measure => simp [intOf]; omega
                | succ l =>
                  have hfx : f < nx := by have := HNX.out; omega
                  have hlf : decide ((f : Int) < (nx : Int)) = true := decide_eq_true (by omega)
                  go_wp2_with fail
                  refine (own_take w R B k (seqQ (f + 1) l) (f : Int) _ (by rw [← seqQ_take]; exact HO.out)).mono ?_
                  rintro e w3 ⟨rfl, h3⟩
                  have H3 := Lib.hid h3
                  clear h3
                  go_wp2_with fail
                  go_roundw
                  case rel => exact ⟨j2 + 1, f + 1, l, B, by omega, by go_num, by go_num, by unfold Hid; have := HNX.out; omega, by omega, by omega, H3⟩
                  case measure => simp [intOf]; omega
              · have hsub : (nx : Int) - (f : Int) = (l : Int) := by have := HNX.out; omega
                go_wp2_with fail
                refine (own_len w R B k (seqQ f l) _ HO.out).mono ?_
                rw [seqQ_len]
                rintro e w3 ⟨rfl, h3⟩
                have H3 := Lib.hid h3
                clear h3
                have hroom : ((k - l : Nat) : Int) = (k : Int) - (l : Int) := by omega
                go_wp2_with fail
                refine (own_room w R B k (seqQ f l) _ H3.out).mono ?_
                rw [seqQ_len, hroom]
                rintro e w4 ⟨rfl, h4⟩
                have H4 := Lib.hid h4
                clear h4
                go_wp2_with fail
                go_roundw
                case rel => exact ⟨i + 1, f, l, nx, B, by omega, by omega, by go_num, rfl, rfl, HNX, by omega, by omega, by omega, H4⟩
                case measure => simp [intOf]; omega
      · have hieq : i = 40 := by omega
        go_wp2_with fail
        go_ret
        exact ⟨rfl, HO.out.below⟩
    · have hieq : i = n := by omega
      go_wp2_with fail
      go_ret
      exact ⟨rfl, HO.out.below⟩

theorem full_law (w : World) (most : Int) (_wf : (Lit.int .i64 most).wf = true) (a : Option Addr) (n cap : Nat) (zs : List Int) (h : IsInts .i64 w a n cap zs) (hn : n * 8 ≤ 140737488351232) :
    Calls Try.prog 10 #[.int .i64 most, .slice a n cap] w fun e w' => e = .returned (.bool true) ∧ Below w.heap.size w w' := by
  obtain ⟨k0, hk, hk0⟩ := and31 most
  exact fullLaw most a n cap k0 _ w h.row.1 (by omega) hk hk0
end Go.Proofs.Ytljncbbajhoocaa.FullLaw
