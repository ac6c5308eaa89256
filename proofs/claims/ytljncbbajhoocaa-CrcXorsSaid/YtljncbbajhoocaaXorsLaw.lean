/-
The walk of CrcXors. No condition but the row's own bounds.
-/
import Derived.Test.YtljncbbajhoocaaCrcPartsLaw
import Derived.Test.YtljncbbajhoocaaXorsMath
import Derived.Test.YtljncbbajhoocaaXorsReg
import Derived.Deep.CutRange
namespace Go.Proofs.Ytljncbbajhoocaa.Xors
open Go.RowKit Go.Proofs.Ytljncbbajhoocaa.Args Go.Proofs.Ytljncbbajhoocaa.Crc Go.Proofs.Ytljncbbajhoocaa.CrcMath Go.Proofs.YtljncbbajhoocaaW.PrintMore Go.Proofs.YtljncbbajhoocaaW.PrintWords
attribute [local go_sem] max2_int min2_int max_two min_two

abbrev Tri := UInt8 × UInt8 × UInt8
def triV (x : Tri) : List Value := [.int .u8 x.1.toNat, .int .u8 x.2.1.toNat, .int .u8 x.2.2.toNat]
theorem sum1_L (g : Nat) (s : ByteArray) (x : Int) (w0 w : World) (hL : Laid w0 w g) (hs : s.size ≤ 1000) (hx : Hid (iv (sumB (Crc.bytesOf s)) = x)) :
    Calls Try.prog 21 #[.pointer (some ⟨g, 0, none⟩), .slice (some ⟨w.heap.size, 0, none⟩) 1 1] (w.alloc (.cells #[.string s] 9)) fun e w' => e = .returned (.int .u32 x) ∧ Laid w0 w' g := by
  have h := sum_one g w.heap.size 1 (0, 0) s _ (w.alloc (.cells #[.string s] 9)) (Lib.hid (hL.alloc _).tab) (by omega) (Lib.hid rfl) (Lib.hid (by rw [cell_of_row _ _ _ _ _ _ (Go.heap_alloc_new w _)]; rfl))
  rw [hx.out] at h
  exact h.mono fun _ _ ⟨he, m, hm⟩ => ⟨he, by rw [hm]; exact (hL.alloc _).drewN m⟩
theorem take_grow {zs : List Tri} {i : Nat} (hi : i < zs.length) {z : Tri} (hz : zs[i] = z) (f : Tri → UInt8) {A : ByteArray} (h : Crc.bytesOf A = (zs.take i).map f) : Crc.bytesOf (A ++ one (f z)) = (zs.take (i + 1)).map f := by
  rw [bytes_append, h, List.take_succ_eq_append_getElem hi, List.map_append, hz]
  rfl
theorem code_world {F : World → Prop} {P : Program} {c : Code} {Q : Exit → Act → World → Prop} {a : Act} {X : World} (hX : F X) (h : ∀ W, F W → Code.wp P c Q a W) : Code.wp P c Q a X := h X hX
set_option maxHeartbeats 4000000 in
set_option maxRecDepth 100000 in
theorem xorsLaw (a : Option Addr) (n cap m : Nat) (zs : List Tri) (w : World) (ha : Hid (ArgRow 3 triV w a n zs)) (hn : n ≤ 140737488355328) (hm : (if (60 : Int) < (n : Int) then (60 : Int) else (n : Int)) = (m : Int)) (hmn : m ≤ n) (hm60 : m ≤ 60)
    (hs : ∀ w' : World, (Instr.slice 49 (.slice a n cap) none (some (.int .i64 (m : Int))) none).run Try.prog w' = .ok (.slice a m cap) w') :
    Calls Try.prog 9 #[.slice a n cap] w fun e w' => e = .returned (.bool true) ∧ Below w.heap.size w w' := by
  go_enter Try.func9, Try.ntmps9
  go_wp2_with fail
  refine (awake_calls w).mono ?_
  rintro e wa ⟨rfl, hb0⟩
  have HB := Lib.hid hb0
  clear hb0
  go_wp2_with fail
  clear hs hm
  go_loopw [3, 4, 5, 6, 8, 19] (fun v3 v4 v5 v6 _ iv wr => ∃ (i : Nat) (A B C D : ByteArray), i ≤ m ∧ iv = .int .i64 i ∧ v3 = .string A ∧ v4 = .string B ∧ v5 = .string C ∧ v6 = .string D ∧ A.size ≤ i ∧ B.size ≤ i ∧ C.size ≤ i ∧ D.size ≤ i ∧ Hid (Crc.bytesOf A = (zs.take i).map fun p => p.1) ∧ Hid (Crc.bytesOf B = (zs.take i).map fun p => p.2.1) ∧ Hid (Crc.bytesOf C = (zs.take i).map fun p => p.2.2) ∧ Hid (Crc.bytesOf D = (zs.take i).map fun p => p.1 ^^^ p.2.1 ^^^ p.2.2) ∧ Hid (Below wa.heap.size wa wr)) (fun _ _ _ _ _ iv _ => m - (intOf iv).toNat)
  case atStart => exact ⟨0, ⟨#[]⟩, ⟨#[]⟩, ⟨#[]⟩, ⟨#[]⟩, by omega, rfl, rfl, rfl, rfl, rfl, by decide, by decide, by decide, by decide, rfl, rfl, rfl, rfl, Below.refl _ _⟩
  case round =>
    obtain ⟨i, A, B, C, D, him, rfl, rfl, rfl, rfl, rfl, hAz, hBz, hCz, hDz, HA, HBB, HC, HD, HW⟩ := hrel
    by_cases hlt : i < m
    · obtain ⟨b, off, rfl, hbw, hc⟩ := ha.out.form (by omega)
      have hil : i < zs.length := by rw [ha.out.len]; omega
      obtain ⟨z, hz⟩ : ∃ z, zs[i] = z := ⟨_, rfl⟩
      have hcw : ∀ j, wr.cell? ⟨b, j, none⟩ = w.cell? ⟨b, j, none⟩ := fun j => (HW.out.cell (p := ⟨b, j, none⟩) (Nat.lt_of_lt_of_le hbw HB.out.size)).trans (HB.out.cell (p := ⟨b, j, none⟩) hbw)
      have hc0 : wr.cell? ⟨b, off + i * 3, none⟩ = some (.int .u8 z.1.toNat) := by rw [hcw]; exact hc i hil 0 _ (by rw [hz]; rfl)
      have hc1 : wr.cell? ⟨b, off + i * 3 + 1, none⟩ = some (.int .u8 z.2.1.toNat) := by rw [hcw]; exact hc i hil 1 _ (by rw [hz]; rfl)
      have hc2 : wr.cell? ⟨b, off + i * 3 + 2, none⟩ = some (.int .u8 z.2.2.toNat) := by rw [hcw]; exact hc i hil 2 _ (by rw [hz]; rfl)
      have HZ := Lib.hid hz
      clear hc hcw
      obtain ⟨z0, z1, z2⟩ := z
      go_upto_region 8 with fail
      refine code_world (F := fun W => Below wr.heap.size wr W ∧ W.heap[wr.heap.size]? = some (.cells #[.int .u8 z0.toNat, .int .u8 z1.toNat, .int .u8 z2.toNat] 50 (0, 0))) ⟨(Below.refl _ _).alloc (Nat.le_refl _) _, Go.heap_alloc_new _ _⟩ ?_
      rintro W ⟨hW, hX⟩
      obtain ⟨X, hXX⟩ : ∃ X, X = wr.heap.size := ⟨_, rfl⟩
      rw [← hXX] at hX ⊢
      have HWW := Lib.hid hW
      have HX := Lib.hid hX
      have HXX := Lib.hid hXX
      clear hW hX hXX hc0 hc1 hc2
      refine wp_region_any (by kernel_rfl) ?_
      refine region_done (X := X) (x0 := z0) (x1 := z1) (x2 := z2) (A := A) (B := B) (C := C) (D := D) (w0 := W) ?q (Below.refl _ _).drew rfl rfl rfl rfl rfl ?_
      case q => exact ⟨rfl, (Array.getElem?_eq_some_iff.1 HX.out).1, by rw [cell_of_row _ _ _ _ _ _ HX.out]; rfl, by rw [cell_of_row _ _ _ _ _ _ HX.out]; rfl, by rw [cell_of_row _ _ _ _ _ _ HX.out]; rfl, by omega, by omega, by omega, by omega⟩
      intro u23 u24 u25 u26 u27 u28 u29 u30 u31 u32 u33 u34 u35 u36 u37 u38 u39 u40 u41 u42 u43 u44 u45 u46 u47 u48 u49 u50 u51 u52 W' hb'
      have HB2 : Hid (Below wa.heap.size wa W') := (HW.out.trans (HWW.out.mono HW.out.size)).trans (hb'.mono (by have h1 := HW.out.size; have h2 := HWW.out.size; omega))
      clear hb'
      simp only [setAll, List.setIfInBounds_toArray, List.set_cons_zero, List.set_cons_succ]
      go_wp2_with fail
      go_roundw
      case rel => exact ⟨i + 1, A ++ one z0, B ++ one z1, C ++ one z2, D ++ one (z0 ^^^ z1 ^^^ z2), by omega, by go_num, rfl, rfl, rfl, rfl, by rw [ByteArray.size_append, one_size]; omega, by rw [ByteArray.size_append, one_size]; omega, by rw [ByteArray.size_append, one_size]; omega, by rw [ByteArray.size_append, one_size]; omega, take_grow hil HZ.out (fun p => p.1) HA.out, take_grow hil HZ.out (fun p => p.2.1) HBB.out, take_grow hil HZ.out (fun p => p.2.2) HC.out, take_grow hil HZ.out (fun p => p.1 ^^^ p.2.1 ^^^ p.2.2) HD.out, HB2⟩
      case measure => simp [intOf]; omega
    · have hie : i = m := by omega
      obtain ⟨xa, hxa⟩ : ∃ x, iv (sumB (Crc.bytesOf A)) = x := ⟨_, rfl⟩
      obtain ⟨xb, hxb⟩ : ∃ x, iv (sumB (Crc.bytesOf B)) = x := ⟨_, rfl⟩
      obtain ⟨xc, hxc⟩ : ∃ x, iv (sumB (Crc.bytesOf C)) = x := ⟨_, rfl⟩
      obtain ⟨xd, hxd⟩ : ∃ x, iv (sumB (Crc.bytesOf D)) = x := ⟨_, rfl⟩
      have hxx : bits .xor .u32 (bits .xor .u32 xa xb) xc = xd := by
        rw [← hxa, ← hxb, ← hxc, ← hxd, HA.out, HBB.out, HC.out, HD.out]
        exact sum_xor3_iv _
      have HXA := Lib.hid hxa
      have HXB := Lib.hid hxb
      have HXC := Lib.hid hxc
      have HXD := Lib.hid hxd
      clear hxa hxb hxc hxd
      go_wp2_with (first | (go_at_call 20; refine (make_calls _).mono ?_; rintro e w1 ⟨rfl, hb1⟩) | (refine wpList_store_laid (by assumption) rfl rfl _ _ rfl rfl rfl ?_; intro w2 hL))
      obtain ⟨g, hg⟩ : ∃ g, g = w1.heap.size := ⟨_, rfl⟩
      rw [← hg] at hL ⊢
      have HL := Lib.hid hL
      clear hg hL hb1
      refine (sum1_L g A xa wr _ HL.out (by omega) HXA).mono ?_
      rintro e w3 ⟨rfl, hL3⟩
      have HL3 := Lib.hid hL3
      clear hL3
      go_wp2_with fail
      refine (sum1_L g B xb wr _ HL3.out (by omega) HXB).mono ?_
      rintro e w4 ⟨rfl, hL4⟩
      have HL4 := Lib.hid hL4
      clear hL4
      go_wp2_with fail
      refine (sum1_L g C xc wr _ HL4.out (by omega) HXC).mono ?_
      rintro e w5 ⟨rfl, hL5⟩
      have HL5 := Lib.hid hL5
      clear hL5
      go_wp2_with fail
      refine (sum1_L g D xd wr _ HL5.out (by omega) HXD).mono ?_
      rintro e w6 ⟨rfl, hL6⟩
      have HL6 := Lib.hid hL6
      clear hL6
      go_wp2_with fail
      refine (sum1_L g A xa wr _ HL6.out (by omega) HXA).mono ?_
      rintro e w7 ⟨rfl, hL7⟩
      have HL7 := Lib.hid hL7
      clear hL7
      go_wp2_with fail
      refine (refsum_to A xa _ (by omega) HXA).mono ?_
      rintro e w8 ⟨rfl, m8, hw8⟩
      have HL8 : Hid (Laid wr w8 g) := by rw [hw8]; exact HL7.out.drewN m8
      clear hw8
      go_wp2_with fail
      go_ret
      exact ⟨rfl, HB.out.trans ((HW.out.trans (HL8.out.below.mono HW.out.size)).mono HB.out.size)⟩
theorem xors_law (w : World) (a : Option Addr) (n cap : Nat) (zs : List Tri) (h : ArgRow 3 triV w a n zs ∧ n ≤ cap) (hn : n * 3 ≤ 140737488351232) : Calls Try.prog 9 #[.slice a n cap] w fun e w' => e = .returned (.bool true) ∧ Below w.heap.size w w' := by
  obtain ⟨m, hm, hmn, hm60⟩ : ∃ m : Nat, (if (60 : Int) < (n : Int) then (60 : Int) else (n : Int)) = (m : Int) ∧ m ≤ n ∧ m ≤ 60 := by
    by_cases h : n ≤ 60
    · exact ⟨n, by rw [if_neg (by omega)], Nat.le_refl _, h⟩
    · exact ⟨60, by rw [if_pos (by omega)]; rfl, by omega, by omega⟩
  refine xorsLaw a n cap m zs w h.1 (by omega) hm hmn hm60 (fun w' => ?_)
  have he : Try.prog.elem 49 = 50 := by kernel_rfl
  have hsz : (sizeOf (Try.prog.elem 49)).run Try.prog w' = .ok 3 w' := by
    rw [he]
    have hi : (Try.prog.info? 50).map (·.size) = some 3 := by kernel_rfl
    obtain ⟨i, hi1, hi2⟩ := Option.map_eq_some_iff.1 hi
    simp [sizeOf, typeInfo, hi1, hi2]
  have hle := h.2
  rw [run_slice_h w' 49 a n cap (by rw [he]; exact Try.underlying49) .i64 (m : Int) (by omega) (by omega), hsz]
  show Result.ok (Value.slice (if cap = 0 then a else a.map (·.add (0 * 3))) ((m : Int).toNat - 0) (cap - 0)) w' = _
  have ha : a.map (·.add (0 * 3)) = a := by cases a <;> simp [Addr.add]
  rw [ha]
  simp
end Go.Proofs.Ytljncbbajhoocaa.Xors
