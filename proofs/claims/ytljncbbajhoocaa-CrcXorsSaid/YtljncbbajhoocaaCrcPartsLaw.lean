/-
The walk of CrcParts: however many parts the bytes come in, also empty ones, the sum is theirs: the law returns true. No condition but the row's own bounds.
-/
import Derived.Test.YtljncbbajhoocaaCrcSumsLaw
import Derived.Test.YtljncbbajhoocaaArgs
import Derived.Laws.AppendOwn
import Derived.Carry
namespace Go.Proofs.Ytljncbbajhoocaa.Crc
open Go.RowKit Go.Proofs.Ytljncbbajhoocaa.CrcMath Go.Proofs.YtljncbbajhoocaaW.PrintWords Go.Proofs.Ytljncbbajhoocaa.Args

theorem Laid.grown {w w2 w3 : World} {g : Nat} {row : Option Nat} (h : Laid w w2 g) (hg : w2.grownBy w3 row) (hr : ∀ k, row = some k → g < k) : Laid w w3 g :=
  ⟨(hg.block g h.lt (fun e => by have := hr g e.symm; omega)).trans h.tab, h.below.grown hg h.below.size (fun k hk => by have := hr k hk; have := h.new; omega), h.new⟩
theorem sumOwn_L (g : Nat) (v : Value) (n : Nat) (ss : List ByteArray) (x : Int) (w0 w : World) (hL : Laid w0 w g) (hv : Hid (w.ownsRow (g + 1) 9 1 v n (ss.map Value.string))) (hs : Hid (∀ s ∈ ss, s.size ≤ 9223372036854775807)) (hm : n ≤ 9223372036854775807) (hx : Hid (iv (sumB (cat ss)) = x)) :
    Calls Try.prog 21 #[.pointer (some ⟨g, 0, none⟩), v] w fun e w' => e = .returned (.int .u32 x) ∧ Laid w0 w' g ∧ w'.ownsRow (g + 1) 9 1 v n (ss.map Value.string) := by
  have hv1 := hv.out
  obtain ⟨hlen, hv2⟩ := hv.out
  have hlen : ss.length = n := by simpa using hlen
  rcases hv2 with ⟨rfl, rfl⟩ | ⟨h, cap, cur, rfl, hb, hg, hnc, _, hcs, htk⟩
  · obtain rfl : ss = [] := List.eq_nil_of_length_eq_zero hlen
    have h1 := sum_nil g w
    have e : iv (sumB []) = x := hx.out
    rw [e] at h1
    exact h1.mono fun _ _ ⟨he, hw⟩ => ⟨he, by rw [← hw]; exact hL, by rw [← hw]; exact hv1⟩
  · have h1 := sum_calls g h 0 n cap (0, 0) ss w hL.tab hlen.symm hm hs.out (fun i hi => by
      rw [Nat.zero_add, cell_of_row w h _ _ _ _ hg]
      have h2 : cur.toList[i]? = (ss.map Value.string)[i]? := by
        rw [← htk, List.getElem?_take_of_lt (by omega)]
      rw [← Array.getElem?_toList, h2, List.getElem?_map, List.getD_eq_getElem?_getD, List.getElem?_eq_getElem (by omega : i < ss.length)]
      rfl)
    rw [hx.out] at h1
    exact h1.mono fun _ _ ⟨he, m, hm⟩ => ⟨he, by rw [hm]; exact hL.drewN m, by rw [hm]; exact hv1⟩

/-- The parts behind k rounds, and all together. -/
def partsTo (zs : List ByteArray) (k : Nat) : List ByteArray := ((zs.take k).map (fun s => [cutB s 30, ByteArray.empty])).flatten
theorem partsTo_len (zs : List ByteArray) (k : Nat) (hk : k ≤ zs.length) : (partsTo zs k).length = 2 * k := by
  induction k with
  | zero => rfl
  | succ k ih =>
    unfold partsTo at *
    rw [List.take_succ_eq_append_getElem (by omega), List.map_append, List.flatten_append, List.length_append, ih (by omega)]
    rfl
theorem partsTo_succ (zs : List ByteArray) (k : Nat) (hk : k < zs.length) : partsTo zs (k + 1) = partsTo zs k ++ [cutB zs[k] 30, ByteArray.empty] := by
  unfold partsTo
  rw [List.take_succ_eq_append_getElem hk, List.map_append, List.flatten_append]
  rfl
theorem partsTo_small (zs : List ByteArray) (k : Nat) : ∀ s ∈ partsTo zs k, s.size ≤ 9223372036854775807 := by
  intro s hs
  unfold partsTo at hs
  simp only [List.mem_flatten, List.mem_map] at hs
  obtain ⟨l, ⟨z, _, rfl⟩, h⟩ := hs
  have hz := cut_size z 30
  simp only [List.mem_cons, List.not_mem_nil, or_false] at h
  rcases h with rfl | rfl
  · omega
  · decide
theorem cat_append (a b : List ByteArray) : cat (a ++ b) = cat a ++ cat b := by simp [cat]

theorem info9 : (Try.prog.info? 9).map (fun i => (i.zero, i.size, i.bytes)) = some (some (.string ⟨#[]⟩), 1, 16) := by kernel_rfl
theorem ownsRow_drewN {w : World} {base : Nat} {e : TypeId} {size : Nat} {v : Value} {n : Nat} {xs : List Value} (h : w.ownsRow base e size v n xs) (m : Nat) : (w.drewN m).ownsRow base e size v n xs := h
theorem cut30_to (s c : ByteArray) (w : World) (hc : Hid (cutB s 30 = c)) : Calls Try.prog 19 #[.string s, .int .i64 30] w fun e w' => e = .returned (.string c) ∧ ∃ m, w' = w.drewN m := by
  have h := cut_calls s 30 w
  rw [hc.out] at h
  exact h
theorem two_new (w : World) (x y : Value) (m : Nat) : ∀ j u, [x, y][j]? = some u → ((w.drewN m).alloc (.cells #[x, y] 9)).cell? ((⟨w.heap.size, 0, none⟩ : Addr).add j) = some u := by
  intro j u h
  rw [add_form, cell_of_row _ w.heap.size _ _ _ _ (Go.heap_alloc_new (w.drewN m) _), Nat.zero_add]
  rw [← h]
  simp
theorem rel_parts {zs : List ByteArray} {k : Nat} (hk : k < zs.length) {c B : ByteArray} (hc : cutB zs[k] 30 = c) (hB : bytesOf B = cat (partsTo zs k)) : bytesOf (B ++ c) = cat (partsTo zs (k + 1)) := by
  rw [bytes_append, hB, partsTo_succ zs k hk, cat_append, hc]
  simp [cat, bytesOf]
theorem own_parts {zs : List ByteArray} {k g : Nat} (hk : k < zs.length) {c : ByteArray} (hc : cutB zs[k] 30 = c) {w : World} {v : Value} (h : w.ownsRow (g + 1) 9 1 v (2 * k + 2) ((partsTo zs k).map Value.string ++ [.string c, .string ⟨#[]⟩])) :
    w.ownsRow (g + 1) 9 1 v (2 * (k + 1)) ((partsTo zs (k + 1)).map Value.string) := by
  rw [partsTo_succ zs k hk, List.map_append, hc, show 2 * (k + 1) = 2 * k + 2 by omega]
  exact h

set_option maxHeartbeats 1000000 in
set_option maxRecDepth 100000 in
theorem partsLaw (a : Option Addr) (n cap : Nat) (zs : List ByteArray) (w : World) (ha : Hid (ArgRow 1 (fun s => [Value.string s]) w a n zs)) (hn : n ≤ 140737488355328) :
    Calls Try.prog 8 #[.slice a n cap] w fun e w' => e = .returned (.bool true) ∧ Below w.heap.size w w' := by
  obtain ⟨i0, hi, hz0, hz1, hz2⟩ := info_parts info9
  have HI := Lib.hid hi
  have HZ0 := Lib.hid hz0
  have HZ1 := Lib.hid hz1
  have HZ2 := Lib.hid hz2
  clear hi hz0 hz1 hz2
  go_enter Try.func8, Try.ntmps8
  go_wp2_with (first | (go_at_call 18; refine (awake_calls _).mono ?_; rintro e wa ⟨rfl, hb0⟩) | (go_at_call 20; refine (make_calls _).mono ?_; rintro e w1 ⟨rfl, hb1⟩) | (refine wpList_store_laid (by assumption) rfl rfl _ _ rfl rfl rfl ?_; intro w2 hL))
  obtain ⟨g, hg⟩ : ∃ g, g = w1.heap.size := ⟨_, rfl⟩
  rw [← hg] at hL ⊢
  have HG := Lib.hid hg
  have HL := Lib.hid hL
  have HB0 := Lib.hid hb0
  clear hg hL hb0 hb1
  go_loopw [4, 5, 6, 7] (fun A v i _ wr => ∃ (k : Nat) (B : ByteArray), k ≤ n ∧ k ≤ 12 ∧ i = .int .i64 k ∧ A = .string B ∧ Hid (bytesOf B = cat (partsTo zs k)) ∧ B.size ≤ 30 * k ∧ Hid (wr.ownsRow (g + 1) 9 1 v (2 * k) ((partsTo zs k).map Value.string)) ∧ Hid (Laid wa wr g)) (fun _ _ i _ _ => 12 - (intOf i).toNat)
  case atStart => exact ⟨0, ⟨#[]⟩, by omega, by omega, rfl, rfl, rfl, by decide, World.ownsRow_nil _ _ _ _, HL⟩
  case round =>
    obtain ⟨k, B, hk, hk2, rfl, rfl, HB, hBz, HOWN, HLr⟩ := hrel
    by_cases hlt : k < n
    · by_cases hlt2 : k < 12
      · have hpos : 0 < n := by omega
        obtain ⟨b, off, rfl, hbw, hc⟩ := ArgRow.one ha.out hpos
        have hkz : k < zs.length := by rw [ha.out.len]; exact hlt
        have HKZ := Lib.hid hkz
        obtain ⟨c, hcut⟩ : ∃ c, cutB zs[k] 30 = c := ⟨_, rfl⟩
        have hcz : c.size ≤ 30 := by rw [← hcut]; exact cut_size _ _
        have HC := Lib.hid hcut
        obtain ⟨z, hz⟩ : ∃ z, zs[k] = z := ⟨_, rfl⟩
        have hzc : Hid (cutB z 30 = c) := by rw [← hz]; exact HC
        have hcell : wr.cell? ⟨b, off + k, none⟩ = some (.string z) := by
          rw [HLr.out.below.cell (p := ⟨b, off + k, none⟩) (by show b < wa.heap.size; have := HB0.out.size; omega), HB0.out.cell (p := ⟨b, off + k, none⟩) hbw, hc k hkz]
          exact congrArg (fun q => some (Value.string q)) hz
        have hBc : ¬ 9223372036854775807 < B.size + c.size := by omega
        have hgs : g + 1 ≤ wr.heap.size := HLr.out.lt
        clear hkz hcut hz hc hpos
        go_wp2_with (first | (go_at_call 19; ((with_reducible refine (cut30_to z c _ hzc).mono ?_); rintro e w' ⟨rfl, m, rfl⟩)) | (at_builtin; refine wpList_append_own _ rfl _ _ 33 rfl (g + 1) 9 i0 (.string ⟨#[]⟩) 1 16 Try.underlying33 HI.out HZ0.out HZ1.out HZ2.out rfl (by decide) _ _ _ rfl ((ownsRow_drewN HOWN.out _).alloc _) ⟨wr.heap.size, 0, none⟩ 2 2 [.string c, .string ⟨#[]⟩] rfl rfl ?c1 ?c2 ?c3 ?c4 ?c5 ?_))
        case c1 => exact two_new wr _ _ m
        case c2 => intro u hu; simp at hu; rcases hu with rfl | rfl <;> rfl
        case c3 => unfold maxLen; omega
        case c4 => omega
        case c5 => simp; omega
        intro v' w' hown' hgrow _
        have hL' := ((HLr.out.drewN m).alloc (.cells #[.string c, .string ⟨#[]⟩] 9)).grown hgrow (fun q hq => by have := (HOWN.out.lt q hq).1; omega)
        have HL' := Lib.hid hL'
        have HOWN' := Lib.hid (own_parts HKZ.out HC.out hown')
        have HB' := Lib.hid (rel_parts HKZ.out HC.out HB.out)
        have hsz' : (B ++ c).size ≤ 30 * (k + 1) := by rw [ByteArray.size_append]; omega
        clear hgrow hown' hL'
        go_wp2
        go_roundw
        case rel => exact ⟨k + 1, B ++ c, by omega, by omega, by go_num, rfl, HB', hsz', HOWN', HL'⟩
        case measure => simp [intOf]; omega
      · obtain rfl : k = 12 := by omega
        obtain ⟨F, hF⟩ : ∃ F, fourB (sumB (cat (partsTo zs 12))) = F := ⟨_, rfl⟩
        obtain ⟨x, hx⟩ : ∃ x, iv (sumB (cat (partsTo zs 12))) = x := ⟨_, rfl⟩
        have HF : Hid (fourB (sumB (cat (partsTo zs 12))) = F) := hF
        have HX : Hid (iv (sumB (cat (partsTo zs 12))) = x) := hx
        have HXB : Hid (iv (sumB (bytesOf B)) = x) := by unfold Hid; rw [HB.out]; exact hx
        have HSM := Lib.hid (partsTo_small zs 12)
        have hFz : F.size = 4 := by rw [← hF]; exact four_size _
        have hBF : ¬ 9223372036854775807 < B.size + F.size := by omega
        have hBFz : (B ++ F).size ≤ 9223372036854775807 := by rw [ByteArray.size_append]; omega
        have HFT : Hid (fitsB (B ++ F) = true) := by
          unfold Hid
          have e : B ++ F = sealB B := by unfold sealB; rw [HB.out, hF]
          rw [e]; exact seal_fits B
        clear hF hx hFz
        go_wp2_with fail
        with_reducible refine (sumOwn_L g _ _ _ x wa _ HLr.out HOWN HSM (by omega) HX).mono ?_
        rintro e w3 ⟨rfl, hL3, hown3⟩
        have HL3 := Lib.hid hL3
        have HOWN3 := Lib.hid hown3
        clear hL3 hown3
        go_wp2_with fail
        refine (refsum_to B x _ (by omega) HXB).mono ?_
        rintro e w4 ⟨rfl, m4, rfl⟩
        go_wp2_with fail
        with_reducible refine (sumOwn_L g _ _ _ x wa _ (by exact HL3.out.drewN m4) (by exact Lib.hid (ownsRow_drewN HOWN3.out m4)) HSM (by omega) HX).mono ?_
        rintro e w5 ⟨rfl, hL5, _⟩
        have HL5 := Lib.hid hL5
        clear hL5
        go_wp2_with fail
        refine (reffour_L g x _ F wa _ HL5.out HX HF).mono ?_
        rintro e w6 ⟨rfl, hL6⟩
        have HL6 := Lib.hid hL6
        clear hL6
        go_wp2_with fail
        refine (fits_L g (B ++ F) true wa _ HL6.out hBFz HFT).mono ?_
        rintro e w7 ⟨rfl, hL7⟩
        have HL7 := Lib.hid hL7
        clear hL7
        go_wp2_with fail
        go_ret
        exact ⟨rfl, HB0.out.trans (HL7.out.below.mono HB0.out.size)⟩
    · obtain rfl : k = n := by omega
      obtain ⟨F, hF⟩ : ∃ F, fourB (sumB (cat (partsTo zs k))) = F := ⟨_, rfl⟩
      obtain ⟨x, hx⟩ : ∃ x, iv (sumB (cat (partsTo zs k))) = x := ⟨_, rfl⟩
      have HF : Hid (fourB (sumB (cat (partsTo zs k))) = F) := hF
      have HX : Hid (iv (sumB (cat (partsTo zs k))) = x) := hx
      have HXB : Hid (iv (sumB (bytesOf B)) = x) := by unfold Hid; rw [HB.out]; exact hx
      have HSM := Lib.hid (partsTo_small zs k)
      have hFz : F.size = 4 := by rw [← hF]; exact four_size _
      have hBF : ¬ 9223372036854775807 < B.size + F.size := by omega
      have hBFz : (B ++ F).size ≤ 9223372036854775807 := by rw [ByteArray.size_append]; omega
      have HFT : Hid (fitsB (B ++ F) = true) := by
        unfold Hid
        have e : B ++ F = sealB B := by unfold sealB; rw [HB.out, hF]
        rw [e]; exact seal_fits B
      clear hF hx hFz
      go_wp2_with fail
      with_reducible refine (sumOwn_L g _ _ _ x wa _ HLr.out HOWN HSM (by omega) HX).mono ?_
      rintro e w3 ⟨rfl, hL3, hown3⟩
      have HL3 := Lib.hid hL3
      have HOWN3 := Lib.hid hown3
      clear hL3 hown3
      go_wp2_with fail
      refine (refsum_to B x _ (by omega) HXB).mono ?_
      rintro e w4 ⟨rfl, m4, rfl⟩
      go_wp2_with fail
      with_reducible refine (sumOwn_L g _ _ _ x wa _ (by exact HL3.out.drewN m4) (by exact Lib.hid (ownsRow_drewN HOWN3.out m4)) HSM (by omega) HX).mono ?_
      rintro e w5 ⟨rfl, hL5, _⟩
      have HL5 := Lib.hid hL5
      clear hL5
      go_wp2_with fail
      refine (reffour_L g x _ F wa _ HL5.out HX HF).mono ?_
      rintro e w6 ⟨rfl, hL6⟩
      have HL6 := Lib.hid hL6
      clear hL6
      go_wp2_with fail
      refine (fits_L g (B ++ F) true wa _ HL6.out hBFz HFT).mono ?_
      rintro e w7 ⟨rfl, hL7⟩
      have HL7 := Lib.hid hL7
      clear hL7
      go_wp2_with fail
      go_ret
      exact ⟨rfl, HB0.out.trans (HL7.out.below.mono HB0.out.size)⟩

theorem parts_law (W : World) (a : Option Addr) (n cap : Nat) (zs : List ByteArray) (h : IsStrs W a n cap zs) (hn : n * 16 ≤ 140737488351232) : Calls Try.prog 8 #[.slice a n cap] W fun e w' => e = .returned (.bool true) ∧ Below W.heap.size W w' :=
  partsLaw a n cap (zs.take n) W (Lib.hid h.row.1) (by omega)
end Go.Proofs.Ytljncbbajhoocaa.Crc
