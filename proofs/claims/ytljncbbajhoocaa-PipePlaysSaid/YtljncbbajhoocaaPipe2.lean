/-
The fixed fact of the laws of package pipe; and PipeSpoils: bits that are turned twice alike come as they were. No condition.
-/
import Derived.Test.YtljncbbajhoocaaPipe1
import Derived.Test.YtljncbbajhoocaaCrcSumsLaw
namespace Go.Proofs.Ytljncbbajhoocaa.Pipe
open Go.RowKit Go.Proofs.Ytljncbbajhoocaa.Args Go.Proofs.Ytljncbbajhoocaa.RingS Go.Proofs.Ytljncbbajhoocaa.Crc
open Go.Proofs.YtljncbbajhoocaaW.PrintMore
attribute [local go_sem] max2_int min2_int max_two min_two

/-- What n rounds turn is the same of any two texts of one length. -/
theorem turn_diff (s t : ByteArray) (at_ mask : Int) (hst : t.size = s.size) (k j : Nat) (hj : j < s.size) :
    (turnTo t at_ mask k).getD j 0 ^^^ (bytesOf t).getD j 0 = (turnTo s at_ mask k).getD j 0 ^^^ (bytesOf s).getD j 0 := by
  induction k with
  | zero => simp [turnTo]
  | succ k ih =>
    have hh : Hit t at_ mask k ↔ Hit s at_ mask k := by unfold Hit; rw [hst]
    by_cases h : Hit s at_ mask k
    · obtain ⟨p, hp⟩ := Int.eq_ofNat_of_zero_le h.2.1
      have hlt : p / 8 < s.size := by have := h.2.2; omega
      rw [turnTo_hit h p hp, turnTo_hit (hh.2 h) p hp]
      have l1 := turnTo_len s at_ mask k
      have l2 := turnTo_len t at_ mask k
      by_cases e : p / 8 = j
      · subst e
        simp only [List.getD_eq_getElem?_getD, List.getElem?_set_self (by omega : p / 8 < (turnTo s at_ mask k).length), List.getElem?_set_self (by omega : p / 8 < (turnTo t at_ mask k).length), Option.getD_some] at ih ⊢
        unfold turnByte
        generalize ((turnTo t at_ mask k)[p / 8]?.getD 0) = a at ih ⊢
        generalize ((turnTo s at_ mask k)[p / 8]?.getD 0) = b at ih ⊢
        generalize ((bytesOf t)[p / 8]?.getD 0) = c at ih ⊢
        generalize ((bytesOf s)[p / 8]?.getD 0) = d at ih ⊢
        rw [UInt8.xor_assoc, UInt8.xor_comm _ c, ← UInt8.xor_assoc, ih, UInt8.xor_assoc, UInt8.xor_comm d, ← UInt8.xor_assoc]
      · simp only [List.getD_eq_getElem?_getD, List.getElem?_set_ne e]
        simpa only [List.getD_eq_getElem?_getD] using ih
    · rw [turnTo_miss h, turnTo_miss (fun x => h (hh.1 x))]
      exact ih
def turnB (s : ByteArray) (at_ mask : Int) : ByteArray := ⟨(turnTo s at_ mask 32).toArray⟩
theorem turnB_size (s : ByteArray) (at_ mask : Int) : (turnB s at_ mask).size = s.size := by
  have := turnTo_len s at_ mask 32
  show (turnTo s at_ mask 32).toArray.size = _
  simpa using this
/-- Turned twice alike: as it was. -/
theorem turn_twice (s : ByteArray) (at_ mask : Int) : turnB (turnB s at_ mask) at_ mask = s := by
  have hb : bytesOf (turnB s at_ mask) = turnTo s at_ mask 32 := rfl
  have hz := turnB_size s at_ mask
  have h : turnTo (turnB s at_ mask) at_ mask 32 = bytesOf s := by
    apply List.ext_getElem?
    intro j
    by_cases hj : j < s.size
    · have h1 := turn_diff s (turnB s at_ mask) at_ mask hz 32 j hj
      rw [hb] at h1
      have l1 := turnTo_len (turnB s at_ mask) at_ mask 32
      have l2 := bytes_len s
      simp only [List.getD_eq_getElem?_getD] at h1
      rw [List.getElem?_eq_getElem (by omega : j < (turnTo (turnB s at_ mask) at_ mask 32).length), List.getElem?_eq_getElem (by omega : j < (bytesOf s).length)] at h1 ⊢
      simp only [Option.getD_some] at h1
      generalize ((turnTo s at_ mask 32)[j]?.getD 0) = a at h1
      generalize (turnTo (turnB s at_ mask) at_ mask 32)[j]'(by omega) = b at h1 ⊢
      generalize (bytesOf s)[j]'(by omega) = c at h1 ⊢
      have h2 : b ^^^ a ^^^ a = a ^^^ c ^^^ a := by rw [h1]
      rw [UInt8.xor_assoc, UInt8.xor_self, UInt8.xor_zero, UInt8.xor_comm a c, UInt8.xor_assoc, UInt8.xor_self, UInt8.xor_zero] at h2
      rw [h2]
    · rw [List.getElem?_eq_none (by rw [turnTo_len, hz]; omega), List.getElem?_eq_none (by rw [bytes_len]; omega)]
  apply ByteArray.ext
  show (turnTo (turnB s at_ mask) at_ mask 32).toArray = s.data
  rw [h]
  unfold bytesOf
  simp

set_option maxHeartbeats 2000000 in
set_option maxRecDepth 100000 in
theorem awake_calls2 (w : World) : Calls Try.prog 48 #[] w fun e w' => e = .returned (.bool true) ∧ Below w.heap.size w w' := by
  go_enter Try.func48, Try.ntmps48
  go_wp2_with fail
  refine (new_calls2 2 2 2 w w (Below.refl _ _) (by decide) (by decide) (by omega)).mono ?_
  rintro e w1 ⟨P, R, rfl, h1⟩
  have H1 := Lib.hid h1
  clear h1
  go_wp2_with fail
  refine (pipe_put w w1 P R none 2 [] 0 0 0 ⟨#[97]⟩ H1.out (by decide) (by omega)).mono ?_
  rintro e w2 ⟨rfl, B2, h2⟩
  have H2 := Lib.hid h2
  clear h2
  go_wp2_with fail
  refine (pipe_put w w2 P R B2 2 [⟨#[97]⟩] 1 0 0 ⟨#[98]⟩ H2.out (by decide) (by omega)).mono ?_
  rintro e w3 ⟨rfl, B3, h3⟩
  have H3 := Lib.hid h3
  clear h3
  go_wp2_with fail
  refine (pipe_put_full w w3 P R B3 2 [⟨#[97]⟩, ⟨#[98]⟩] 2 0 0 ⟨#[99]⟩ H3.out rfl).mono ?_
  rintro e w4 ⟨rfl, B4, h4⟩
  have H4 := Lib.hid h4
  clear h4
  go_wp2_with fail
  refine (pipe_take_lose w w4 P R B4 2 [⟨#[98]⟩] 2 0 0 ⟨#[97]⟩ 0 0 H4.out (by omega)).mono ?_
  rintro e w5 ⟨rfl, B5, h5⟩
  have H5 := Lib.hid h5
  clear h5
  go_wp2_with fail
  refine (pipe_take_carry w w5 P R B5 2 [] 2 0 1 ⟨#[98]⟩ 0 0 0 H5.out (by omega) (by decide) (by decide)).mono ?_
  rintro e w6 ⟨rfl, B6, h6⟩
  have H6 := Lib.hid h6
  have k0 := h6.c0
  clear h6
  go_wp2_with fail
  refine (pipe_room H6.out).mono ?_
  rintro e w7 ⟨rfl, B7, h7⟩
  have H7 := Lib.hid h7
  clear h7 k0
  go_wp2_with fail
  go_ret
  exact ⟨rfl, H7.out.own.below⟩

theorem cut_to (n : Int) (s c : ByteArray) (w : World) (hc : Hid (cutB s n.toNat = c)) (hn : n = 60 ∨ n = 20) : Calls Try.prog 19 #[.string s, .int .i64 n] w fun e w' => e = .returned (.string c) ∧ ∃ m, w' = w.drewN m := by
  rcases hn with rfl | rfl
  · have h := cut_calls s 60 w
    rw [show cutB s 60 = c from hc.out] at h
    exact h
  · have h := cut_calls s 20 w
    rw [show cutB s 20 = c from hc.out] at h
    exact h
/-- The choice in block X. -/
def Box (w : World) (X : Nat) (kind at_ mask : Int) : Prop := w.heap[X]? = some (.cells #[.int .i64 kind, .int .i64 at_, .int .u32 mask] 77 (0, 0))
theorem Box.cells {w w' : World} {X : Nat} {kind at_ mask : Int} (h : Box w X kind at_ mask) (hb : Below w.heap.size w w') : w'.cell? ⟨X, 0, none⟩ = some (.int .i64 kind) ∧ w'.cell? ⟨X, 1, none⟩ = some (.int .i64 at_) ∧ w'.cell? ⟨X, 2, none⟩ = some (.int .u32 mask) := by
  have h2 : w'.heap[X]? = _ := (hb.block X (Array.getElem?_eq_some_iff.1 h).1).trans h
  exact ⟨by rw [cell_of_row _ _ _ _ _ _ h2]; rfl, by rw [cell_of_row _ _ _ _ _ _ h2]; rfl, by rw [cell_of_row _ _ _ _ _ _ h2]; rfl⟩

set_option maxHeartbeats 4000000 in
set_option maxRecDepth 100000 in
theorem spoilsLaw (s : ByteArray) (at_ mask r1 r2 : Int) (w : World) (e1 : Hid ((if (400 : Int) < at_ then 400 else at_) = r1)) (e2 : Hid ((if (-40 : Int) < r1 then r1 else -40) = r2)) (hr1 : -40 ≤ r2) (hr2 : r2 ≤ 400) :
    Calls Try.prog 14 #[.string s, .int .i64 at_, .int .u32 mask] w fun e w' => e = .returned (.bool true) ∧ Below w.heap.size w w' := by
  obtain ⟨c, hc⟩ : ∃ c, cutB s 60 = c := ⟨_, rfl⟩
  have hcz : c.size ≤ 60 := by rw [← hc]; exact cut_size _ _
  have HC : Hid (cutB s (60 : Int).toNat = c) := hc
  clear hc
  obtain ⟨x, hx⟩ : ∃ x, x = turnB c r2 mask := ⟨_, rfl⟩
  have hxz : x.size ≤ 60 := by rw [hx, turnB_size]; exact hcz
  have hcx : c = turnB x r2 mask := by rw [hx, turn_twice]
  have HX : Hid (x = ⟨(turnTo c r2 mask 32).toArray⟩) := hx
  have HCX : Hid (c = ⟨(turnTo x r2 mask 32).toArray⟩) := hcx
  clear hx hcx
  go_enter Try.func14, Try.ntmps14
  go_wp2_with fail
  refine (awake_calls2 w).mono ?_
  rintro e w1 ⟨rfl, hb1⟩
  have HB1 := Lib.hid hb1
  clear hb1
  go_wp2_with fail
  refine (cut_to 60 s c w1 HC (.inl rfl)).mono ?_
  rintro e w2 ⟨rfl, m, hw2⟩
  have HB2 : Hid (Below w.heap.size w w2) := by rw [hw2]; exact below_drewN HB1.out _
  clear hw2
  go_wp2_with fail
  refine (near_calls 2 at_ mask r1 r2 w2 e1.out e2.out).mono ?_
  rintro e w3 ⟨rfl, hb3⟩
  have HB3 : Hid (Below w.heap.size w w3) := HB2.out.trans (hb3.mono HB2.out.size)
  clear hb3
  go_wp2_with fail
  refine calls_world (F := fun W => ∃ X, X = w3.heap.size ∧ Box W X 2 r2 mask ∧ Below w.heap.size w W) ⟨_, rfl, Go.heap_alloc_new _ _, HB3.out.alloc HB3.out.size _⟩ ?_
  rintro W ⟨X, hX, hbox, hbw⟩
  rw [← hX]
  have HBX := Lib.hid hbox
  have HBW := Lib.hid hbw
  clear hX hbox hbw
  refine (new_calls2 1 1 1 W W (Below.refl _ _) (by decide) (by decide) (by omega)).mono ?_
  rintro e w4 ⟨P, R, rfl, h4⟩
  have H4 := Lib.hid h4
  clear h4
  go_wp2_with fail
  refine (pipe_put W w4 P R none 1 [] 0 0 0 c H4.out (by decide) (by omega)).mono ?_
  rintro e w5 ⟨rfl, B5, h5⟩
  have H5 := Lib.hid h5
  obtain ⟨x0, x1, x2⟩ := HBX.out.cells h5.own.below
  clear h5
  go_wp2_with fail
  refine (pipe_take_spoil W w5 P R B5 1 [] 1 0 0 c r2 mask H5.out (by omega) (by omega) (by omega) (by omega) (by omega) x HX).mono ?_
  rintro e w6 ⟨rfl, B6, h6⟩
  clear x0 x1 x2
  rcases h6 with ⟨hxc, h6⟩ | ⟨hxc, h6⟩
  · have H6 := Lib.hid h6
    have hE : (x.toList == c.toList) = true := by rw [hxc]; exact beq_iff_eq.2 rfl
    have hE2 : (c.toList == c.toList) = true := beq_iff_eq.2 rfl
    have HXC := Lib.hid hxc
    clear h6 hxc
    go_wp2_with fail
    refine (pipe_put W w6 P R B6 1 [] 1 1 0 x H6.out (by decide) (by omega)).mono ?_
    rintro e w7 ⟨rfl, B7, h7⟩
    have H7 := Lib.hid h7
    obtain ⟨x0, x1, x2⟩ := HBX.out.cells h7.own.below
    clear h7
    go_wp2_with fail
    refine (pipe_take_spoil W w7 P R B7 1 [] 2 1 0 x r2 mask H7.out (by omega) (by omega) (by omega) (by omega) (by omega) c HCX).mono ?_
    rintro e w8 ⟨rfl, B8, h8⟩
    clear x0 x1 x2
    have H8 : Hid (POwn W w8 P R B8 1 [] 2 2 0) := by
      rcases h8 with h8 | h8
      · exact h8.2
      · exact absurd HXC.out.symm h8.1
    obtain ⟨x0, x1, x2⟩ := HBX.out.cells H8.out.own.below
    clear h8
    go_wp2_with fail
    refine (pipe_take_none W w8 P R B8 1 2 2 0 2 r2 mask H8.out).mono ?_
    rintro e w9 ⟨rfl, B9, h9⟩
    have H9 := Lib.hid h9
    clear h9 x0 x1 x2
    go_wp2_with fail
    refine (pipe_counts W w9 P R B9 1 [] 2 2 0 H9.out).mono ?_
    rintro e w10 ⟨rfl, B10, h10⟩
    have H10 := Lib.hid h10
    clear h10
    go_wp2_with fail
    go_ret
    exact ⟨rfl, HBW.out.trans (H10.out.own.below.mono HBW.out.size)⟩
  · have H6 := Lib.hid h6
    have hE : (x.toList == c.toList) = false := beq_eq_false_iff_ne.2 (fun e => hxc (toList_inj e))
    have hE2 : (c.toList == c.toList) = true := beq_iff_eq.2 rfl
    have HXC := Lib.hid hxc
    clear h6 hxc
    go_wp2_with fail
    refine (pipe_put W w6 P R B6 1 [] 1 0 1 x H6.out (by decide) (by omega)).mono ?_
    rintro e w7 ⟨rfl, B7, h7⟩
    have H7 := Lib.hid h7
    obtain ⟨x0, x1, x2⟩ := HBX.out.cells h7.own.below
    clear h7
    go_wp2_with fail
    refine (pipe_take_spoil W w7 P R B7 1 [] 2 0 1 x r2 mask H7.out (by omega) (by omega) (by omega) (by omega) (by omega) c HCX).mono ?_
    rintro e w8 ⟨rfl, B8, h8⟩
    clear x0 x1 x2
    have H8 : Hid (POwn W w8 P R B8 1 [] 2 0 2) := by
      rcases h8 with h8 | h8
      · exact absurd h8.1.symm HXC.out
      · exact h8.2
    obtain ⟨x0, x1, x2⟩ := HBX.out.cells H8.out.own.below
    clear h8
    go_wp2_with fail
    refine (pipe_take_none W w8 P R B8 1 2 0 2 2 r2 mask H8.out).mono ?_
    rintro e w9 ⟨rfl, B9, h9⟩
    have H9 := Lib.hid h9
    clear h9 x0 x1 x2
    go_wp2_with fail
    refine (pipe_counts W w9 P R B9 1 [] 2 0 2 H9.out).mono ?_
    rintro e w10 ⟨rfl, B10, h10⟩
    have H10 := Lib.hid h10
    clear h10
    go_wp2_with fail
    go_ret
    exact ⟨rfl, HBW.out.trans (H10.out.own.below.mono HBW.out.size)⟩
theorem near_at (at_ : Int) : ∃ r1 r2 : Int, Hid ((if (400 : Int) < at_ then 400 else at_) = r1) ∧ Hid ((if (-40 : Int) < r1 then r1 else -40) = r2) ∧ -40 ≤ r2 ∧ r2 ≤ 400 := by
  refine ⟨_, _, rfl, rfl, ?_, ?_⟩
  · split <;> omega
  · split
    · split <;> omega
    · omega
theorem spoils_law (w : World) (s : ByteArray) (_hs : s.size ≤ 140737488351232) (at_ : Int) (_ha : (Lit.int .i64 at_).wf = true) (mask : Int) (_hm : (Lit.int .u32 mask).wf = true) :
    Calls Try.prog 14 #[.string s, .int .i64 at_, .int .u32 mask] w fun e w' => e = .returned (.bool true) ∧ Below w.heap.size w w' := by
  obtain ⟨r1, r2, h1, h2, h3, h4⟩ := near_at at_
  exact spoilsLaw s at_ mask r1 r2 w h1 h2 h3 h4
end Go.Proofs.Ytljncbbajhoocaa.Pipe
