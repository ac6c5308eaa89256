/-
The walk of CrcFits: of every text: it fits just if it ends with its sum, and what is sealed fits: the law returns true. No condition but the row's own bound on the text's length.
-/
import Derived.Test.YtljncbbajhoocaaCrcText
namespace Go.Proofs.Ytljncbbajhoocaa.Crc
open Go.RowKit Go.Proofs.Ytljncbbajhoocaa.CrcMath Go.Proofs.YtljncbbajhoocaaW.PrintWords

theorem Laid.drawnOn {w w2 w3 : World} {g k : Nat} (h : Laid w w2 g) (hb : Below (w2.drewN k).heap.size (w2.drewN k) w3) : Laid w w3 g := (h.drewN k).on hb
theorem cut_to (s c : ByteArray) (w : World) (hc : Hid (cutB s 100 = c)) : Calls Try.prog 19 #[.string s, .int .i64 100] w fun e w' => e = .returned (.string c) ∧ ∃ m, w' = w.drewN m := by
  have h := cut_calls s 100 w
  rw [hc.out] at h
  exact h
theorem fits_to (g : Nat) (s : ByteArray) (v : Bool) (w0 w : World) (hL : Laid w0 w g) (hs : s.size ≤ 9223372036854775807) (hv : Hid (fitsB s = v)) :
    Calls Try.prog 28 #[.pointer (some ⟨g, 0, none⟩), .string s] w fun e w' => e = .returned (.bool v) ∧ Below w.heap.size w w' := by
  have h := fits_calls g (0, 0) s w hL.tab hs
  rw [hv.out] at h
  exact h
theorem seal_to (g : Nat) (s t : ByteArray) (w0 w : World) (hL : Laid w0 w g) (hs : s.size ≤ 9223372036854775803) (hv : Hid (sealB s = t)) :
    Calls Try.prog 23 #[.pointer (some ⟨g, 0, none⟩), .string s] w fun e w' => e = .returned (.string t) ∧ Below w.heap.size w w' := by
  have h := seal_calls g (0, 0) s w hL.tab hs
  rw [hv.out] at h
  exact h
theorem refsum_to (s : ByteArray) (x : Int) (w : World) (hs : s.size ≤ 1000) (hx : Hid (iv (sumB (bytesOf s)) = x)) : Calls Try.prog 22 #[.string s] w fun e w' => e = .returned (.int .u32 x) ∧ ∃ n, w' = w.drewN n := by
  have h := refsum_calls s w (by omega)
  rw [hx.out] at h
  exact h
theorem reffour_to (x : Int) (b : BitVec 32) (F : ByteArray) (w : World) (hx : Hid (iv b = x)) (hF : Hid (fourB b = F)) : Calls Try.prog 24 #[.int .u32 x] w fun e w' => e = .returned (.string F) ∧ Below w.heap.size w w' := by
  have h := reffour_calls b w
  rw [hF.out, hx.out] at h
  exact h

set_option maxHeartbeats 2000000 in
set_option maxRecDepth 100000 in
theorem fitsLaw_long (s c t X F : ByteArray) (n : Nat) (x : Int) (w : World) (hc : Hid (cutB s 100 = c)) (hn : c.size = n + 4) (hb : n ≤ 96) (hx : Hid (iv (sumB (bytesOf (c.extract 0 n))) = x)) (hF : Hid (fourB (sumB (bytesOf (c.extract 0 n))) = F))
    (hX : Hid (c.extract n (n + 4) = X)) (ht : Hid (sealB c = t)) : Calls Try.prog 6 #[.string s] w fun e w' => e = .returned (.bool true) ∧ Below w.heap.size w w' := by
  have s1 : ∀ w', (Instr.slice 9 (.string c) none (some (.int .i64 (n : Int))) none).run Try.prog w' = .ok (.string (c.extract 0 n)) w' := fun w' => by
    rw [run_slice_string_to_if _ _ _ _ _ Try.underlying9, if_pos (by omega), Int.toNat_natCast]
  have s2 : ∀ w', (Instr.slice 9 (.string c) (some (.int .i64 (n : Int))) none none).run Try.prog w' = .ok (.string X) w' := fun w' => by
    rw [run_slice_string_from_if _ _ _ _ _ Try.underlying9, if_pos (by omega), Int.toNat_natCast, hn, hX.out]
  have hz : (c.extract 0 n).size ≤ 1000 := by simp; omega
  have hv : Hid (fitsB c = (X.toList == F.toList)) := by unfold Hid; rw [fits_eq c n hn, hX.out, hF.out]
  have hc4 : Hid (c.size ≤ 100) := by unfold Hid; omega
  have htz : Hid (t.size = c.size + 4) := by unfold Hid; rw [← ht.out, seal_size]
  have htf : Hid (fitsB t = true) := by unfold Hid; rw [← ht.out, seal_fits]
  have hd : decide ((4 : Int) ≤ (c.size : Int)) = true := by rw [hn]; simp; omega
  have hd2 : decide (4 ≤ c.size) = true := by rw [hn]; simp
  have hw1 : IntKind.i64.wrap ((c.size : Int) - 4) = (n : Int) := by rw [hn, IntWalk.i64_in _ (by omega)]; omega
  have hw2 : (c.size : Int) - 4 = (n : Int) := by omega
  have hw3 : IntKind.i64.wrap (n : Int) = (n : Int) := IntWalk.i64_in _ (by omega)
  have HN := Lib.hid hn
  clear hn
  go_enter Try.func6, Try.ntmps6
  go_wp2_with (first | (go_at_call 18; refine (awake_calls _).mono ?_; rintro e wa ⟨rfl, hb0⟩) | (go_at_call 19; refine (cut_to s c _ hc).mono ?_; rintro e w' ⟨rfl, m0, rfl⟩) | (go_at_call 20; refine (make_calls _).mono ?_; rintro e w1 ⟨rfl, hb1⟩) | (refine wpList_store_laid (by assumption) rfl rfl _ _ rfl rfl rfl ?_; intro w2 hL))
  go_region_held3 (fun _ => True) (first | trivial) (first | (go_at_call 22; refine (refsum_to (c.extract 0 n) x _ hz hx).mono ?_; rintro e w' ⟨rfl, m, rfl⟩) | (go_at_call 24; refine (reffour_to x _ F _ hx hF).mono ?_; rintro e w3 ⟨rfl, hb3⟩))
  have hL3 := hL.drawnOn hb3
  go_wp2_with fail
  refine (fits_to _ c _ _ _ hL3 (by have := hc4.out; omega) hv).mono ?_
  rintro e w4 ⟨rfl, hb4⟩
  have hL4 := hL3.on hb4
  go_wp2_with fail
  refine (seal_to _ c t _ _ hL4 (by have := hc4.out; omega) ht).mono ?_
  rintro e w5 ⟨rfl, hb5⟩
  have hL5 := hL4.on hb5
  go_wp2_with fail
  refine (fits_to _ t true _ _ hL5 (by have := hc4.out; have := htz.out; omega) htf).mono ?_
  rintro e w6 ⟨rfl, hb6⟩
  have hL6 := hL5.on hb6
  go_wp2_with fail
  go_ret
  exact ⟨rfl, hb0.trans ((below_drewN (Below.refl _ _) m0).trans (hL6.below.mono hb0.size))⟩

set_option maxHeartbeats 2000000 in
set_option maxRecDepth 100000 in
theorem fitsLaw_short (s c t : ByteArray) (w : World) (hc : Hid (cutB s 100 = c)) (hn : c.size < 4) (ht : Hid (sealB c = t)) : Calls Try.prog 6 #[.string s] w fun e w' => e = .returned (.bool true) ∧ Below w.heap.size w w' := by
  have hv : Hid (fitsB c = false) := by unfold Hid fitsB; simp [show ¬ 4 ≤ c.size by omega]
  have htz : Hid (t.size = c.size + 4) := by unfold Hid; rw [← ht.out, seal_size]
  have htf : Hid (fitsB t = true) := by unfold Hid; rw [← ht.out, seal_fits]
  have hd : decide ((4 : Int) ≤ (c.size : Int)) = false := by simp; omega
  have hd2 : decide (4 ≤ c.size) = false := by simp; omega
  have hd3 : ¬ (4 : Int) ≤ (c.size : Int) := by omega
  have hd4 : ¬ 4 ≤ c.size := by omega
  go_enter Try.func6, Try.ntmps6
  go_wp2_with (first | (go_at_call 18; refine (awake_calls _).mono ?_; rintro e wa ⟨rfl, hb0⟩) | (go_at_call 19; refine (cut_to s c _ hc).mono ?_; rintro e w' ⟨rfl, m0, rfl⟩) | (go_at_call 20; refine (make_calls _).mono ?_; rintro e w1 ⟨rfl, hb1⟩) | (refine wpList_store_laid (by assumption) rfl rfl _ _ rfl rfl rfl ?_; intro w2 hL))
  go_quiet (fail)
  have hL3 := hL.drewN nq
  go_wp2_with fail
  refine (fits_to _ c false _ _ hL3 (by omega) hv).mono ?_
  rintro e w4 ⟨rfl, hb4⟩
  have hL4 := hL3.on hb4
  go_wp2_with fail
  refine (seal_to _ c t _ _ hL4 (by omega) ht).mono ?_
  rintro e w5 ⟨rfl, hb5⟩
  have hL5 := hL4.on hb5
  go_wp2_with fail
  refine (fits_to _ t true _ _ hL5 (by have := htz.out; omega) htf).mono ?_
  rintro e w6 ⟨rfl, hb6⟩
  have hL6 := hL5.on hb6
  go_wp2_with fail
  go_ret
  exact ⟨rfl, hb0.trans ((below_drewN (Below.refl _ _) m0).trans (hL6.below.mono hb0.size))⟩

theorem fits_law (s : ByteArray) (_hs : s.size ≤ 140737488351232) (w : World) : Calls Try.prog 6 #[.string s] w fun e w' => e = .returned (.bool true) ∧ Below w.heap.size w w' := by
  have hz := cut_size s 100
  by_cases h : (cutB s 100).size < 4
  · exact fitsLaw_short s _ _ w (Lib.hid rfl) h (Lib.hid rfl)
  · exact fitsLaw_long s _ _ _ _ ((cutB s 100).size - 4) _ w (Lib.hid rfl) (by omega) (by omega) (Lib.hid rfl) (Lib.hid rfl) (Lib.hid rfl) (Lib.hid rfl)
end Go.Proofs.Ytljncbbajhoocaa.Crc
