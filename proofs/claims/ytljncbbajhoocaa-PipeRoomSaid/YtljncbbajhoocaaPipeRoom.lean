/-
The walk of PipeRoom: as many frames are there as were put and not taken, never more than may be: the law returns true. No condition but the row's own bounds.
-/
import Derived.Test.YtljncbbajhoocaaPipe2
import Derived.Test.YtljncbbajhoocaaFullLaw
namespace Go.Proofs.Ytljncbbajhoocaa.Pipe
open Go.RowKit Go.Proofs.Ytljncbbajhoocaa.Args Go.Proofs.Ytljncbbajhoocaa.RingS Go.Proofs.Ytljncbbajhoocaa.Crc
open Go.Proofs.YtljncbbajhoocaaW.PrintMore
attribute [local go_sem] max2_int min2_int max_two min_two

theorem pipe_len_to {w wr : World} {P R : Nat} {B : Option Nat} {k : Nat} {q : List ByteArray} {a b c : Nat} (l : Nat) (h : POwn w wr P R B k q a b c) (hl : q.length = l) : Calls Try.prog 39 #[.pointer (some ⟨R, 0, none⟩)] wr (PO w P R k q a b c (.int .i64 (l : Int))) := by
  subst hl; exact pipe_len h
theorem pipe_room_to {w wr : World} {P R : Nat} {B : Option Nat} {k : Nat} {q : List ByteArray} {a b c : Nat} (l : Nat) (h : POwn w wr P R B k q a b c) (hl : q.length = l) : Calls Try.prog 26 #[.pointer (some ⟨R, 0, none⟩)] wr (PO w P R k q a b c (.int .i64 ((k : Int) - (l : Int)))) := by
  subst hl; exact pipe_room h
theorem and1 (x : Int) : bits .and .i64 x 1 = 0 ∨ bits .and .i64 x 1 = 1 := by
  have h : bits .and .i64 x 1 = x % 2 := by
    show IntKind.i64.wrap ((BitVec.ofInt 64 x &&& BitVec.ofInt 64 1).toNat : Int) = _
    have h1 : (BitVec.ofInt 64 1).toNat = 1 := by decide
    rw [BitVec.toNat_and, h1, Nat.and_one_is_mod, BitVec.toNat_ofInt]
    have e : (((x % ((2 ^ 64 : Nat) : Int)).toNat % 2 : Nat) : Int) = x % 2 := by omega
    rw [e]
    exact IntWalk.i64_in _ (by omega)
  omega

set_option maxHeartbeats 4000000 in
set_option maxRecDepth 100000 in
theorem roomLaw (most : Int) (a : Option Addr) (n cap k0 : Nat) (zs : List Int) (w0 : World) (ha : Hid (ArgRow 1 (fun x => [Value.int .i64 x]) w0 a n zs)) (hn : n ≤ 140737488355328) (hk : bits .and .i64 most 31 = (k0 : Int)) (hk0 : k0 ≤ 31) :
    Calls Try.prog 16 #[.int .i64 most, .slice a n cap] w0 fun e w' => e = .returned (.bool true) ∧ Below w0.heap.size w0 w' := by
  obtain ⟨k, hkk⟩ : ∃ k, k = k0 + 1 := ⟨_, rfl⟩
  have hk1 : (1 : Int) + (k0 : Int) = (k : Int) := by omega
  have hk32 : k ≤ 32 := by omega
  have hkp : 1 ≤ k := by omega
  have HK3 : Hid ((if (256 : Int) < (k : Int) then 256 else (k : Int)) = (k : Int)) := by unfold Hid; rw [if_neg (by omega)]
  have HK4 : Hid ((if (1 : Int) < (k : Int) then (k : Int) else 1) = (k : Int)) := by unfold Hid; split <;> omega
  clear hkk
  go_enter Try.func16, Try.ntmps16
  go_wp2_with fail
  refine (awake_calls2 w0).mono ?_
  rintro e w ⟨rfl, hb⟩
  have HB := Lib.hid hb
  clear hb
  go_wp2_with fail
  refine (new_calls2 k k k w w (Below.refl _ _) HK3.out HK4.out (by omega)).mono ?_
  rintro e w2 ⟨P, R, rfl, h2⟩
  have H2 := Lib.hid h2
  clear h2 hk1 hk
  go_wp2_with fail
  go_loopw [6, 7, 8, 9, 10, 11, 12, 13] (fun v6 iv _ _ _ _ _ _ wr => ∃ (i : Nat) (B : Option Nat) (q : List ByteArray) (l pa pb pc : Nat), i ≤ n ∧ i ≤ 60 ∧ iv = .int .i64 i ∧ v6 = .int .i64 l ∧ Hid (q.length = l) ∧ l ≤ k ∧ Hid (pa = pb + pc + l) ∧ pa ≤ i ∧ Hid (POwn w wr P R B k q pa pb pc)) (fun _ iv _ _ _ _ _ _ _ => 60 - (intOf iv).toNat)
  case atStart => exact ⟨0, none, [], 0, 0, 0, 0, by omega, by omega, rfl, rfl, rfl, by omega, rfl, by omega, H2⟩
  case round =>
    obtain ⟨i, B, q, l, pa, pb, pc, hin, hi60, rfl, rfl, HL0, hlk, HS0, hpi, HP⟩ := hrel
    by_cases hlt : i < n
    · by_cases hlt2 : i < 60
      · obtain ⟨b, off, rfl, hbw, hc⟩ := ArgRow.one ha.out (by omega)
        have hil : i < zs.length := by rw [ha.out.len]; exact hlt
        obtain ⟨z, hz⟩ : ∃ z, zs[i] = z := ⟨_, rfl⟩
        have hc0 : wr.cell? ⟨b, off + i, none⟩ = some (.int .i64 z) := by
          rw [HP.out.own.below.cell (p := ⟨b, off + i, none⟩) (Nat.lt_of_lt_of_le hbw HB.out.size), HB.out.cell (p := ⟨b, off + i, none⟩) hbw, hc i hil, hz]
        have hd60 : decide ((i : Int) < 60) = true := decide_eq_true (by omega)
        have hpb : pb ≤ pa := by have := HS0.out; omega
        have hpc : pc ≤ pa := by have := HS0.out; omega
        clear hc hz hil
        rcases and1 z with hm | hm
        · by_cases hfull : l < k
          · have hlt9 : decide ((l : Int) < (k : Int)) = true := decide_eq_true (by omega)
            have hlt8 : decide (l < k) = true := decide_eq_true hfull
            have hmin : ¬ k < l + 1 := by omega
            have hmin2 : ¬ ((k : Int) < (l : Int) + 1) := by omega
            go_wp2_with fail
            refine (pipe_put w _ P R B k q pa pb pc ⟨#[120]⟩ HP.out (by rw [HL0.out]; exact hfull) (by omega)).mono ?_
            rintro e w4 ⟨rfl, B4, h4⟩
            obtain ⟨a', ha'⟩ : ∃ a', pa + 1 = a' := ⟨_, rfl⟩
            obtain ⟨l', hl'⟩ : ∃ l', l + 1 = l' := ⟨_, rfl⟩
            have hl2 : (l : Int) + 1 = (l' : Int) := by omega
            rw [ha'] at h4
            have H4 := Lib.hid h4
            have HL : Hid ((q ++ [(⟨#[120]⟩ : ByteArray)]).length = l') := by unfold Hid; rw [List.length_append, HL0.out]; exact hl'
            have HS : Hid (a' = pb + pc + l') := by have := HS0.out; unfold Hid; omega
            have hsub : (a' : Int) - (pb : Int) - (pc : Int) = (l' : Int) := by have := HS0.out; omega
            have ha2 : a' ≤ i + 1 := by omega
            have hlk2 : l' ≤ k := by omega
            have hb2 : pb ≤ a' := by omega
            have hc2 : pc ≤ a' := by omega
            clear h4 ha' hl' hc0
            go_wp2_with fail
            refine (pipe_counts w _ P R B4 k (q ++ [⟨#[120]⟩]) a' pb pc H4.out).mono ?_
            rintro e w5 ⟨rfl, B5, h5⟩
            have H5 := Lib.hid h5
            have k0 := h5.c0
            clear h5
            go_wp2_with fail
            refine (pipe_len_to l' H5.out HL.out).mono ?_
            rintro e w6 ⟨rfl, B6, h6⟩
            have H6 := Lib.hid h6
            have k06 := h6.c0
            clear h6 k0
            go_wp2_with fail
            refine (pipe_room_to l' H6.out HL.out).mono ?_
            rintro e w7 ⟨rfl, B7, h7⟩
            have H7 := Lib.hid h7
            clear h7 k06
            go_wp2_with fail
            go_roundw
            case rel => exact ⟨i + 1, B7, (q ++ [⟨#[120]⟩]), l', a', pb, pc, by omega, by omega, by go_num, rfl, HL, by omega, HS, by omega, H7⟩
            case measure => simp [intOf]; omega
          · have hlk2 : q.length = k := by have := HP.out.own.ring.1; have := HL0.out; omega
            have hle : l = k := by have := HL0.out; omega
            subst hle
            have hlt9 : decide ((l : Int) < (l : Int)) = false := decide_eq_false (by omega)
            have hlt8 : decide (l < l) = false := decide_eq_false (by omega)
            have HQ := Lib.hid hlk2
            clear hlk2
            go_wp2_with fail
            refine (pipe_put_full w _ P R B l q pa pb pc ⟨#[120]⟩ HP.out HQ.out).mono ?_
            rintro e w4 ⟨rfl, B4, h4⟩
            have H4 := Lib.hid h4
            have HL := HL0
            have HS := HS0
            have hsub : (pa : Int) - (pb : Int) - (pc : Int) = (l : Int) := by have := HS0.out; omega
            have hmin : l < l + 1 := by omega
            have hmin2 : ((l : Int) < (l : Int) + 1) := by omega
            clear h4 hc0
            go_wp2_with fail
            refine (pipe_counts w _ P R B4 l q pa pb pc H4.out).mono ?_
            rintro e w5 ⟨rfl, B5, h5⟩
            have H5 := Lib.hid h5
            have k0 := h5.c0
            clear h5
            go_wp2_with fail
            refine (pipe_len_to l H5.out HL.out).mono ?_
            rintro e w6 ⟨rfl, B6, h6⟩
            have H6 := Lib.hid h6
            have k06 := h6.c0
            clear h6 k0
            go_wp2_with fail
            refine (pipe_room_to l H6.out HL.out).mono ?_
            rintro e w7 ⟨rfl, B7, h7⟩
            have H7 := Lib.hid h7
            clear h7 k06
            go_wp2_with fail
            go_roundw
            case rel => exact ⟨i + 1, B7, q, l, pa, pb, pc, by omega, by omega, by go_num, rfl, HL, by omega, HS, by omega, H7⟩
            case measure => simp [intOf]; omega
        · cases q with
          | nil =>
            have hl0 : 0 = l := HL0.out
            subst hl0
            obtain ⟨K, hK⟩ : ∃ K, bits .and .i64 (z / 2) 1 = K := ⟨_, rfl⟩
            go_wp2_with fail
            refine (pipe_take_none w _ P R B k pa pb pc K 0 0 HP.out).mono ?_
            rintro e w4 ⟨rfl, B4, h4⟩
            have H4 := Lib.hid h4
            have HL := HL0
            have HS := HS0
            have hsub : (pa : Int) - (pb : Int) - (pc : Int) = 0 := by have := HS0.out; omega
            clear h4 hc0
            go_wp2_with fail
            refine (pipe_counts w _ P R B4 k [] pa pb pc H4.out).mono ?_
            rintro e w5 ⟨rfl, B5, h5⟩
            have H5 := Lib.hid h5
            have k0 := h5.c0
            clear h5
            go_wp2_with fail
            refine (pipe_len_to 0 H5.out HL.out).mono ?_
            rintro e w6 ⟨rfl, B6, h6⟩
            have H6 := Lib.hid h6
            have k06 := h6.c0
            clear h6 k0
            go_wp2_with fail
            refine (pipe_room_to 0 H6.out HL.out).mono ?_
            rintro e w7 ⟨rfl, B7, h7⟩
            have H7 := Lib.hid h7
            clear h7 k06
            go_wp2_with fail
            go_roundw
            case rel => exact ⟨i + 1, B7, [], 0, pa, pb, pc, by omega, by omega, by go_num, rfl, HL, by omega, HS, by omega, H7⟩
            case measure => simp [intOf]; omega
          | cons x ql =>
            obtain ⟨l', hl'⟩ : ∃ l', ql.length = l' := ⟨_, rfl⟩
            have hle : l = l' + 1 := by rw [← hl', ← HL0.out]; rfl
            subst hle
            have HL := Lib.hid hl'
            have hmax : ¬ ((l' : Int) < 0) := by omega
            have hgt : decide ((l' : Int) + 1 > 0) = true := decide_eq_true (by omega)
            have hgt2 : decide (0 < (l' : Int) + 1) = true := decide_eq_true (by omega)
            clear hl'
            rcases and1 (z / 2) with hK | hK
            · go_wp2_with fail
              refine (pipe_take_carry w _ P R B k ql pa pb pc x 0 0 0 HP.out (by omega) (by decide) (by decide)).mono ?_
              rintro e w4 ⟨rfl, B4, h4⟩
              obtain ⟨b', hb'⟩ : ∃ b', pb + 1 = b' := ⟨_, rfl⟩
              rw [hb'] at h4
              have H4 := Lib.hid h4
              have HS : Hid (pa = b' + pc + l') := by have := HS0.out; unfold Hid; omega
              have hsub : (pa : Int) - (b' : Int) - (pc : Int) = (l' : Int) := by have := HS.out; omega
              have hb2 : b' ≤ pa := by have := HS.out; omega
              clear h4 hb' hc0
              go_wp2_with fail
              refine (pipe_counts w _ P R B4 k ql pa b' pc H4.out).mono ?_
              rintro e w5 ⟨rfl, B5, h5⟩
              have H5 := Lib.hid h5
              have k0 := h5.c0
              clear h5
              go_wp2_with fail
              refine (pipe_len_to l' H5.out HL.out).mono ?_
              rintro e w6 ⟨rfl, B6, h6⟩
              have H6 := Lib.hid h6
              have k06 := h6.c0
              clear h6 k0
              go_wp2_with fail
              refine (pipe_room_to l' H6.out HL.out).mono ?_
              rintro e w7 ⟨rfl, B7, h7⟩
              have H7 := Lib.hid h7
              clear h7 k06
              go_wp2_with fail
              go_roundw
              case rel => exact ⟨i + 1, B7, ql, l', pa, b', pc, by omega, by omega, by go_num, rfl, HL, by omega, HS, by omega, H7⟩
              case measure => simp [intOf]; omega
            · go_wp2_with fail
              refine (pipe_take_lose w _ P R B k ql pa pb pc x 0 0 HP.out (by omega)).mono ?_
              rintro e w4 ⟨rfl, B4, h4⟩
              obtain ⟨c', hc'⟩ : ∃ c', pc + 1 = c' := ⟨_, rfl⟩
              rw [hc'] at h4
              have H4 := Lib.hid h4
              have HS : Hid (pa = pb + c' + l') := by have := HS0.out; unfold Hid; omega
              have hsub : (pa : Int) - (pb : Int) - (c' : Int) = (l' : Int) := by have := HS.out; omega
              have hc2 : c' ≤ pa := by have := HS.out; omega
              clear h4 hc' hc0
              go_wp2_with fail
              refine (pipe_counts w _ P R B4 k ql pa pb c' H4.out).mono ?_
              rintro e w5 ⟨rfl, B5, h5⟩
              have H5 := Lib.hid h5
              have k0 := h5.c0
              clear h5
              go_wp2_with fail
              refine (pipe_len_to l' H5.out HL.out).mono ?_
              rintro e w6 ⟨rfl, B6, h6⟩
              have H6 := Lib.hid h6
              have k06 := h6.c0
              clear h6 k0
              go_wp2_with fail
              refine (pipe_room_to l' H6.out HL.out).mono ?_
              rintro e w7 ⟨rfl, B7, h7⟩
              have H7 := Lib.hid h7
              clear h7 k06
              go_wp2_with fail
              go_roundw
              case rel => exact ⟨i + 1, B7, ql, l', pa, pb, c', by omega, by omega, by go_num, rfl, HL, by omega, HS, by omega, H7⟩
              case measure => simp [intOf]; omega
      · have hieq : i = 60 := by omega
        have HBB := Lib.hid (HB.out.trans (HP.out.own.below.mono HB.out.size))
        go_wp2_with fail
        go_ret
        exact ⟨rfl, HBB.out⟩
    · have hieq : i = n := by omega
      have HBB := Lib.hid (HB.out.trans (HP.out.own.below.mono HB.out.size))
      go_wp2_with fail
      go_ret
      exact ⟨rfl, HBB.out⟩
theorem room_law (w : World) (most : Int) (_wf : (Lit.int .i64 most).wf = true) (a : Option Addr) (n cap : Nat) (zs : List Int) (h : IsInts .i64 w a n cap zs) (hn : n * 8 ≤ 140737488351232) :
    Calls Try.prog 16 #[.int .i64 most, .slice a n cap] w fun e w' => e = .returned (.bool true) ∧ Below w.heap.size w w' := by
  obtain ⟨k0, hk, hk0⟩ := FullLaw.and31 most
  exact roomLaw most a n cap k0 _ w h.row.1 (by omega) hk hk0
end Go.Proofs.Ytljncbbajhoocaa.Pipe
