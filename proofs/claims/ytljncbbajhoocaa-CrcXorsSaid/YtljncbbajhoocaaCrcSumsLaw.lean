/-
The walk of CrcSums: of every text, in whatever parts, the sum is the reference's, and what is sealed is the text with its sum: the law returns true. No condition but the row's own bound on the text's length.
-/
import Derived.Test.YtljncbbajhoocaaCrcFitsLaw
import Derived.Test.YtljncbbajhoocaaWMore
namespace Go.Proofs.Ytljncbbajhoocaa.Crc
open Go.RowKit Go.Proofs.Ytljncbbajhoocaa.CrcMath Go.Proofs.YtljncbbajhoocaaW.PrintWords Go.Proofs.YtljncbbajhoocaaW.PrintMore
attribute [local go_sem] max2_int min2_int max_two min_two

theorem parts (c : ByteArray) (k : Nat) (hk : k ≤ c.size) : bytesOf (c.extract 0 k) ++ bytesOf ⟨#[]⟩ ++ bytesOf (c.extract k c.size) = bytesOf c := by
  have e : bytesOf (⟨#[]⟩ : ByteArray) = [] := rfl
  have hz : c.data.size = c.size := rfl
  rw [e, List.append_nil]
  unfold bytesOf
  rw [ByteArray.data_extract, ByteArray.data_extract, ← Array.toList_append, Array.extract_append_extract, Nat.min_eq_left (by omega), Nat.max_eq_right hk, ← hz, Array.extract_size]
/-- The contracts, over a world that holds the table; so does the world behind. -/
theorem sum1_L (g h cap : Nat) (s : ByteArray) (x : Int) (w0 w : World) (hL : Laid w0 w g) (hs : s.size ≤ 9223372036854775807) (hx : Hid (iv (sumB (bytesOf s)) = x)) (hc : Hid (w.cell? ⟨h, 0, none⟩ = some (.string s))) :
    Calls Try.prog 21 #[.pointer (some ⟨g, 0, none⟩), .slice (some ⟨h, 0, none⟩) 1 cap] w fun e w' => e = .returned (.int .u32 x) ∧ Laid w0 w' g := by
  have h1 := sum_one g h cap (0, 0) s _ w (Lib.hid hL.tab) hs (Lib.hid rfl) hc
  rw [hx.out] at h1
  exact h1.mono fun _ _ ⟨he, m, hm⟩ => ⟨he, by rw [hm]; exact hL.drewN m⟩
theorem sum3_L (g h cap : Nat) (a b c : ByteArray) (x : Int) (w0 w : World) (hL : Laid w0 w g) (ha : a.size ≤ 9223372036854775807) (hb : b.size ≤ 9223372036854775807) (hc : c.size ≤ 9223372036854775807)
    (hx : Hid (iv (sumB (bytesOf a ++ bytesOf b ++ bytesOf c)) = x)) (h0 : Hid (w.cell? ⟨h, 0, none⟩ = some (.string a))) (h1 : Hid (w.cell? ⟨h, 1, none⟩ = some (.string b))) (h2 : Hid (w.cell? ⟨h, 2, none⟩ = some (.string c))) :
    Calls Try.prog 21 #[.pointer (some ⟨g, 0, none⟩), .slice (some ⟨h, 0, none⟩) 3 cap] w fun e w' => e = .returned (.int .u32 x) ∧ Laid w0 w' g := by
  have e : cat [a, b, c] = bytesOf a ++ bytesOf b ++ bytesOf c := by simp [cat]
  have h1 := sum_calls g h 0 3 cap (0, 0) [a, b, c] w hL.tab rfl (by omega) (by simp; omega) (fun i hi => by
    rcases (by omega : i = 0 ∨ i = 1 ∨ i = 2) with rfl | rfl | rfl
    · simpa using h0.out
    · simpa using h1.out
    · simpa using h2.out)
  rw [e, hx.out] at h1
  exact h1.mono fun _ _ ⟨he, m, hm⟩ => ⟨he, by rw [hm]; exact hL.drewN m⟩
theorem refsum_L (g : Nat) (s : ByteArray) (x : Int) (w0 w : World) (hL : Laid w0 w g) (hs : s.size ≤ 1000) (hx : Hid (iv (sumB (bytesOf s)) = x)) : Calls Try.prog 22 #[.string s] w fun e w' => e = .returned (.int .u32 x) ∧ Laid w0 w' g :=
  (refsum_to s x w hs hx).mono fun _ _ ⟨he, m, hm⟩ => ⟨he, by rw [hm]; exact hL.drewN m⟩
theorem reffour_L (g : Nat) (x : Int) (b : BitVec 32) (F : ByteArray) (w0 w : World) (hL : Laid w0 w g) (hx : Hid (iv b = x)) (hF : Hid (fourB b = F)) : Calls Try.prog 24 #[.int .u32 x] w fun e w' => e = .returned (.string F) ∧ Laid w0 w' g :=
  (reffour_to x b F w hx hF).mono fun _ _ ⟨he, hb⟩ => ⟨he, hL.on hb⟩
theorem seal_L (g : Nat) (s t : ByteArray) (w0 w : World) (hL : Laid w0 w g) (hs : s.size ≤ 9223372036854775803) (hv : Hid (sealB s = t)) :
    Calls Try.prog 23 #[.pointer (some ⟨g, 0, none⟩), .string s] w fun e w' => e = .returned (.string t) ∧ Laid w0 w' g :=
  (seal_to g s t w0 w hL hs hv).mono fun _ _ ⟨he, hb⟩ => ⟨he, hL.on hb⟩
theorem fits_L (g : Nat) (s : ByteArray) (v : Bool) (w0 w : World) (hL : Laid w0 w g) (hs : s.size ≤ 9223372036854775807) (hv : Hid (fitsB s = v)) :
    Calls Try.prog 28 #[.pointer (some ⟨g, 0, none⟩), .string s] w fun e w' => e = .returned (.bool v) ∧ Laid w0 w' g :=
  (fits_to g s v w0 w hL hs hv).mono fun _ _ ⟨he, hb⟩ => ⟨he, hL.on hb⟩

set_option maxHeartbeats 4000000 in
set_option maxRecDepth 100000 in
theorem sumsLaw (s c F : ByteArray) (cut m x : Int) (k : Nat) (w : World) (hc : Hid (cutB s 100 = c)) (hcz : c.size ≤ 100) (hk : k ≤ c.size)
    (hmin : (if (c.size : Int) < cut then (c.size : Int) else cut) = m) (hmax : (if 0 < m then m else 0) = (k : Int)) (hx : Hid (iv (sumB (bytesOf c)) = x)) (hF : Hid (fourB (sumB (bytesOf c)) = F)) (hcF : ¬ 9223372036854775807 < c.size + F.size) :
    Calls Try.prog 3 #[.string s, .int .i64 cut] w fun e w' => e = .returned (.bool true) ∧ Below w.heap.size w w' := by
  have s1 : ∀ w', (Instr.slice 9 (.string c) none (some (.int .i64 (k : Int))) none).run Try.prog w' = .ok (.string (c.extract 0 k)) w' := fun w' => by
    rw [run_slice_string_to_if _ _ _ _ _ Try.underlying9, if_pos (by omega), Int.toNat_natCast]
  have s2 : ∀ w', (Instr.slice 9 (.string c) (some (.int .i64 (k : Int))) none none).run Try.prog w' = .ok (.string (c.extract k c.size)) w' := fun w' => by
    rw [run_slice_string_from_if _ _ _ _ _ Try.underlying9, if_pos (by omega), Int.toNat_natCast]
  have hA : (c.extract 0 k).size ≤ 9223372036854775807 := by simp; omega
  have hB : (⟨#[]⟩ : ByteArray).size ≤ 9223372036854775807 := by decide
  have hC : (c.extract k c.size).size ≤ 9223372036854775807 := by simp; omega
  have hx3 : Hid (iv (sumB (bytesOf (c.extract 0 k) ++ bytesOf ⟨#[]⟩ ++ bytesOf (c.extract k c.size))) = x) := by
    unfold Hid; rw [parts c k hk]; exact hx.out
  have hsl : Hid (sealB c = c ++ F) := by unfold Hid sealB; rw [hF.out]
  go_enter Try.func3, Try.ntmps3
  go_wp2_with (first | (go_at_call 18; refine (awake_calls _).mono ?_; rintro e wa ⟨rfl, hb0⟩) | (go_at_call 19; refine (cut_to s c _ hc).mono ?_; rintro e w' ⟨rfl, m0, rfl⟩) | (go_at_call 20; refine (make_calls _).mono ?_; rintro e w1 ⟨rfl, hb1⟩) | (refine wpList_store_laid (by assumption) rfl rfl _ _ rfl rfl rfl ?_; intro w2 hL))
  clear hmin hmax
  go_region_held3 (fun W => Laid (wa.drewN m0) W w1.heap.size) (first | exact hL.drew | assumption | exact Laid.drew (Laid.alloc (by assumption) _) | exact Laid.alloc (by assumption) _ | exact Laid.drew (by assumption)) (first | (go_at_call 21; (with_reducible refine (sum1_L _ _ 1 c x (wa.drewN m0) _ (by assumption) (by omega) hx (by exact Lib.hid (by simp))).mono ?_); rintro e w' ⟨rfl, hL2⟩) | (go_at_call 21; (with_reducible refine (sum3_L _ _ 3 _ _ _ x (wa.drewN m0) _ (by assumption) hA hB hC hx3 (by exact Lib.hid (by simp)) (by exact Lib.hid (by simp)) (by exact Lib.hid (by simp))).mono ?_); rintro e w' ⟨rfl, hL2⟩) | (go_at_call 22; (with_reducible refine (refsum_L _ c x (wa.drewN m0) _ (by assumption) (by omega) hx).mono ?_); rintro e w' ⟨rfl, hL2⟩) | (go_at_call 23; (with_reducible refine (seal_L _ c (c ++ F) (wa.drewN m0) _ (by assumption) (by omega) hsl).mono ?_); rintro e w' ⟨rfl, hL2⟩) | (go_at_call 24; (with_reducible refine (reffour_L _ x _ F (wa.drewN m0) _ (by assumption) hx hF).mono ?_); rintro e w' ⟨rfl, hL2⟩))
  rename_i hLast
  go_wp2
  go_ret
  exact ⟨rfl, hb0.trans ((below_drewN (Below.refl _ _) m0).trans (hLast.below.mono hb0.size))⟩

theorem sums_law (s : ByteArray) (_hs : s.size ≤ 140737488351232) (cut : Int) (_wf : (Lit.int .i64 cut).wf = true) (w : World) : Calls Try.prog 3 #[.string s, .int .i64 cut] w fun e w' => e = .returned (.bool true) ∧ Below w.heap.size w w' := by
  have hz := cut_size s 100
  have h4 := four_size (sumB (bytesOf (cutB s 100)))
  obtain ⟨m, hm⟩ : ∃ m : Int, (if ((cutB s 100).size : Int) < cut then ((cutB s 100).size : Int) else cut) = m := ⟨_, rfl⟩
  have hm1 : m ≤ (cutB s 100).size := by rw [← hm]; split <;> omega
  refine sumsLaw s _ _ cut m _ (if 0 < m then m else 0).toNat w (Lib.hid rfl) hz ?_ hm ?_ (Lib.hid rfl) (Lib.hid rfl) (by omega)
  · split <;> omega
  · split <;> omega
end Go.Proofs.Ytljncbbajhoocaa.Crc
