/-
The walk of CrcBursts: of every text, every place and every mask: what is sealed and then turned within 32 bits fits just if it is what it was: the law returns true. No condition but the row's own bound on the text's length.
-/
import Derived.Test.YtljncbbajhoocaaCrcBurst
import Derived.Test.YtljncbbajhoocaaCrcSumsLaw
namespace Go.Proofs.Ytljncbbajhoocaa.Crc
open Go.RowKit Go.Proofs.Ytljncbbajhoocaa.CrcMath Go.Proofs.YtljncbbajhoocaaW.PrintWords

theorem turn_L (g : Nat) (s u : ByteArray) (at_ mask : Int) (w0 w : World) (hL : Laid w0 w g) (hs : s.size ≤ 1000) (ha : 0 ≤ at_) (ha1 : at_ ≤ 1000000) (hu : Hid (turned s at_ mask = u)) :
    Calls Try.prog 32 #[.string s, .int .i64 at_, .int .u32 mask] w fun e w' => e = .returned (.string u) ∧ Laid w0 w' g := by
  have h := turn_calls s at_ mask w hs (by omega) ha1
  have e : (⟨(turnTo s at_ mask 32).toArray⟩ : ByteArray) = u := hu.out
  rw [e] at h
  exact h.mono fun _ _ ⟨he, hb⟩ => ⟨he, hL.on hb⟩

set_option maxHeartbeats 4000000 in
set_option maxRecDepth 100000 in
theorem burstsLaw (s c t u : ByteArray) (at_ r q mask : Int) (w : World) (hc : Hid (cutB s 100 = c)) (hcz : c.size ≤ 100) (ht : Hid (sealB c = t)) (hz1 : 4 ≤ t.size) (hz2 : t.size ≤ 104)
    (hr1 : -1000 ≤ r) (hr2 : r ≤ 1000) (hr3 : 0 ≤ r + 8 * t.size) (hq1 : 0 ≤ q) (hq2 : q ≤ 1000) (hA : at_.tmod (8 * (t.size : Int)) = r) (hB : (r + 8 * (t.size : Int)) % (8 * (t.size : Int)) = q) (hu : Hid (turned t q mask = u)) (huz : u.size ≤ 1000)
    (hf : Hid (fitsB u = (u.toList == t.toList))) :
    Calls Try.prog 7 #[.string s, .int .i64 at_, .int .u32 mask] w fun e w' => e = .returned (.bool true) ∧ Below w.heap.size w w' := by
  go_enter Try.func7, Try.ntmps7
  go_wp2_with (first | (go_at_call 18; refine (awake_calls _).mono ?_; rintro e wa ⟨rfl, hb0⟩) | (go_at_call 19; refine (cut_to s c _ hc).mono ?_; rintro e w' ⟨rfl, m0, rfl⟩) | (go_at_call 20; refine (make_calls _).mono ?_; rintro e w1 ⟨rfl, hb1⟩) | (refine wpList_store_laid (by assumption) rfl rfl _ _ rfl rfl rfl ?_; intro w2 hL))
  refine (seal_L _ c t _ _ hL (by omega) ht).mono ?_
  rintro e w3 ⟨rfl, hL3⟩
  go_wp2_with fail
  refine (turn_L _ t u q mask _ _ hL3 (by omega) hq1 (by omega) hu).mono ?_
  rintro e w4 ⟨rfl, hL4⟩
  go_wp2_with fail
  refine (fits_L _ u _ _ _ hL4 (by omega) hf).mono ?_
  rintro e w5 ⟨rfl, hL5⟩
  go_wp2_with fail
  go_ret
  exact ⟨rfl, hb0.trans ((below_drewN (Below.refl _ _) m0).trans (hL5.below.mono hb0.size))⟩

theorem bursts_law (s : ByteArray) (_hs : s.size ≤ 140737488351232) (at_ : Int) (_wa : (Lit.int .i64 at_).wf = true) (mask : Int) (_wm : (Lit.int .u32 mask).wf = true) (w : World) :
    Calls Try.prog 7 #[.string s, .int .i64 at_, .int .u32 mask] w fun e w' => e = .returned (.bool true) ∧ Below w.heap.size w w' := by
  have hz := cut_size s 100
  have hsz := seal_size (cutB s 100)
  obtain ⟨t, ht⟩ : ∃ t, sealB (cutB s 100) = t := ⟨_, rfl⟩
  rw [ht] at hsz
  have hpos : (0 : Int) < 8 * (t.size : Int) := by omega
  have h1 := Int.tmod_lt_of_pos at_ hpos
  have h2 : -(8 * (t.size : Int)) < at_.tmod (8 * (t.size : Int)) := by
    have h3 := Int.lt_tmod_of_pos at_ hpos
    omega
  have h4 := Int.emod_nonneg (at_.tmod (8 * (t.size : Int)) + 8 * (t.size : Int)) (b := 8 * (t.size : Int)) (by omega)
  have h5 := Int.emod_lt_of_pos (at_.tmod (8 * (t.size : Int)) + 8 * (t.size : Int)) hpos
  refine burstsLaw s _ t _ at_ _ _ mask w (Lib.hid rfl) hz (Lib.hid ht) (by omega) (by omega) (by omega) (by omega) (by omega) h4 (by omega) rfl rfl (Lib.hid rfl) (by rw [turned_size]; omega) (Lib.hid ?_)
  exact burst_told t (cutB s 100).size hsz (by rw [← ht]; exact seal_fits _) _ mask h4 h5
end Go.Proofs.Ytljncbbajhoocaa.Crc
