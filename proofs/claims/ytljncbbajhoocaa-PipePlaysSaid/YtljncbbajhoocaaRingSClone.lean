/-
Package ring at one instance, part 8: how many may be, and one just like it. No condition but that the row holds a list.
-/
import Derived.Test.YtljncbbajhoocaaRingSOwn
import Derived.WalkSpells
namespace Go.Proofs.Ytljncbbajhoocaa.RingS
open Go.RowKit Go.Proofs.Ytljncbbajhoocaa.Args

set_option maxHeartbeats 1000000 in
set_option maxRecDepth 100000 in
theorem sclone_nil (w : World) : Calls Try.prog 65 #[.slice none 0 0] w fun e w' => e = .returned (.slice none 0 0) ∧ w = w' := by
  have hq : ∀ w' : World, (binOp .eql 33 (.slice none 0 0) (.slice none 0 0)).run Try.prog w' = .ok (.bool true) w' := fun w' => Lib.run_eql_slice_nil w' _ _ none 0 0 0 0 Try.underlying33
  go_enter Try.func65, Try.ntmps65
  go_wp2
  go_ret
  exact ⟨rfl, rfl⟩
/-- A row's copy. -/
def Cloned (w : World) (n : Nat) (cur : Array Value) (e : Ending) (w' : World) : Prop :=
  ∃ g c cur2, e = .returned (.slice (some ⟨g, 0, none⟩) n c) ∧ w.heap.size ≤ g ∧ w'.heap[g]? = some (.cells cur2 9 (0, 0)) ∧ Full cur2 n ∧ (∀ i, i < n → cur2[i]? = cur[i]?) ∧ Below w.heap.size w w'
set_option maxHeartbeats 1000000 in
set_option maxRecDepth 100000 in
theorem sclone_some (b n cap : Nat) (cur : Array Value) (w : World) (hb : w.heap[b]? = some (.cells cur 9 (0, 0))) (hf : Full cur n) (hn : 0 < n) (hn2 : n ≤ 4096) :
    Calls Try.prog 65 #[.slice (some ⟨b, 0, none⟩) n cap] w (Cloned w n cur) := by
  obtain ⟨i0, hi0, hz0, hz1, hz2⟩ := info_parts infoE
  have HI := Lib.hid hi0
  have HZ0 := Lib.hid hz0
  have HZ1 := Lib.hid hz1
  have HZ2 := Lib.hid hz2
  have HB := Lib.hid hb
  have HF := Lib.hid hf
  have hlt := (Array.getElem?_eq_some_iff.1 hb).1
  have hnl : (cur.toList.take n).length = n * 1 := by have := hf.size; simp; omega
  have HNL := Lib.hid hnl
  clear hi0 hz0 hz1 hz2 hb hf hnl
  have hq : ∀ w' : World, (binOp .eql 33 (.slice (some ⟨b, 0, none⟩) n cap) (.slice none 0 0)).run Try.prog w' = .ok (.bool false) w' := fun w' => Lib.run_eql_slice_nil w' _ _ (some ⟨b, 0, none⟩) n cap 0 0 Try.underlying33
  go_enter Try.func65, Try.ntmps65
  go_wp2_with (at_builtin; refine wpList_append_lies _ rfl _ _ 33 rfl w.heap.size 9 i0 (.string ⟨#[]⟩) 1 16 Try.underlying33 HI.out HZ0.out HZ1.out HZ2.out rfl (by decide) _ 0 [] rfl ?c0 ⟨b, 0, none⟩ n cap (cur.toList.take n) rfl HNL.out ?c1 HF.out.one hn (by unfold maxLen; omega) (by omega) (by simp) _ rfl ?_)
  case c0 =>
    refine ⟨rfl, .inr ⟨w.heap.size, 0, #[], rfl, Nat.le_refl _, by simpa using Go.heap_alloc_new w _, Nat.le_refl _, by decide, rfl, rfl⟩⟩
  case c1 =>
    intro j u hj
    rw [add_form, Nat.zero_add, cell_of_row _ b j cur 9 (0, 0)]
    · have hjn : j < n := by have := (List.getElem?_eq_some_iff.1 hj).1; rw [HNL.out] at this; omega
      rw [List.getElem?_take_of_lt hjn] at hj
      simpa using hj
    · exact ((Below.refl w.heap.size w).alloc (Nat.le_refl _) _).block b hlt |>.trans HB.out
  intro g c w1 hown hgrow hat _
  have hbel := ((Below.refl w.heap.size w).alloc (Nat.le_refl _) (.cells #[] 9)).grown hgrow (by simp) (fun k hk => by simp [Value.ownBlock] at hk; omega)
  have HOWN := Lib.hid hown
  have HBEL := Lib.hid hbel
  clear hown hgrow hat hbel
  go_wp2
  go_ret
  rcases HOWN.out.2 with ⟨h, _⟩ | ⟨g2, c2, cur2, hv, hg2, hh, hnc, _, hcs, htk⟩
  · cases h
  · injection hv with hv1 hv2 hv3
    injection hv1 with hv1
    injection hv1 with hv1
    subst hv1
    rw [Nat.mul_one] at htk
    refine ⟨g, c, cur2, rfl, hg2, hh, ⟨by omega, fun v hv => HF.out.one v (by rw [← htk]; exact hv)⟩, fun i hi => ?_, HBEL.out⟩
    have h1 : (cur2.toList.take n)[i]? = (cur.toList.take n)[i]? := by rw [htk]
    rw [List.getElem?_take_of_lt hi, List.getElem?_take_of_lt hi] at h1
    simpa using h1
/-- One just like it. -/
def CloneO (wr : World) (most : Nat) (q : List ByteArray) (e : Ending) (w' : World) : Prop := ∃ R2 B2, e = .returned (.pointer (some ⟨R2, 0, none⟩)) ∧ Ring w' R2 B2 most q ∧ Below wr.heap.size wr w' ∧ wr.heap.size ≤ R2 ∧ (∀ b, B2 = some b → wr.heap.size ≤ b)
set_option maxHeartbeats 2000000 in
set_option maxRecDepth 100000 in
theorem clone_none (R most : Nat) (w : World) (h : Fields w R (.slice none 0 0) 0 0 most) (hm : most ≤ 4096) : Calls Try.prog 64 #[.pointer (some ⟨R, 0, none⟩)] w (CloneO w most []) := by
  have hk : ∀ W, Below w.heap.size w W → W.cell? ⟨R, 0, none⟩ = some (.slice none 0 0) ∧ W.cell? ⟨R, 1, none⟩ = some (.int .i64 (0 : Nat)) ∧ W.cell? ⟨R, 2, none⟩ = some (.int .i64 (0 : Nat)) ∧ W.cell? ⟨R, 3, none⟩ = some (.int .i64 most) := fun W hW => by
    have hF := h.on (hW.block R h.lt)
    exact ⟨hF.c0, hF.c1, hF.c2, hF.c3⟩
  have HK := Lib.hid hk
  clear hk
  go_enter Try.func64, Try.ntmps64
  go_wp2
  go_region_held3 (fun W => W.cell? ⟨R, 0, none⟩ = some (.slice none 0 0) ∧ W.cell? ⟨R, 1, none⟩ = some (.int .i64 (0 : Nat)) ∧ W.cell? ⟨R, 2, none⟩ = some (.int .i64 (0 : Nat)) ∧ W.cell? ⟨R, 3, none⟩ = some (.int .i64 most))
    (first | exact HK.out _ ((Below.refl _ _).drew) | exact HK.out _ (below_drewN (Below.refl _ _) _) | exact HK.out _ (((Below.refl _ _).alloc (Nat.le_refl _) _).drew) | exact HK.out _ (((below_drewN (Below.refl _ _) _).alloc (by simp) _).drew) | exact HK.out _ (below_drewN ((below_drewN (Below.refl _ _) _).alloc (by simp) _) _))
    (first | (go_at_call 65; ((with_reducible refine (sclone_nil _).mono ?_); rintro e w' ⟨rfl, rfl⟩)))
  go_wp2
  go_ret
  exact ⟨_, none, rfl, ⟨by simp, hm, .inl ⟨rfl, rfl, ⟨Go.heap_alloc_new w _⟩⟩⟩, (below_drewN (Below.refl _ _) _).alloc (by simp) _, by simp, fun b hb => (by cases hb)⟩
set_option maxHeartbeats 2000000 in
set_option maxRecDepth 100000 in
theorem clone_some (R b n cap at_ most : Nat) (cur : Array Value) (q : List ByteArray) (w : World) (h : Fields w R (.slice (some ⟨b, 0, none⟩) n cap) at_ q.length most) (hm : most ≤ 4096) (hq : q.length ≤ most) (hb : w.heap[b]? = some (.cells cur 9 (0, 0))) (hf : Full cur n) (ha : at_ < n) (hnm : n ≤ most) (hqn : q.length ≤ n)
    (hc : ∀ i (h : i < q.length), cur[(at_ + i) % n]? = some (Value.string q[i])) : Calls Try.prog 64 #[.pointer (some ⟨R, 0, none⟩)] w (CloneO w most q) := by
  have hk : ∀ W, Below w.heap.size w W → W.cell? ⟨R, 0, none⟩ = some (.slice (some ⟨b, 0, none⟩) n cap) ∧ W.cell? ⟨R, 1, none⟩ = some (.int .i64 at_) ∧ W.cell? ⟨R, 2, none⟩ = some (.int .i64 q.length) ∧ W.cell? ⟨R, 3, none⟩ = some (.int .i64 most) := fun W hW => by
    have hF := h.on (hW.block R h.lt)
    exact ⟨hF.c0, hF.c1, hF.c2, hF.c3⟩
  have hsc : ∀ W, Below w.heap.size w W → Calls Try.prog 65 #[.slice (some ⟨b, 0, none⟩) n cap] W (Cloned W n cur) := fun W hW =>
    sclone_some b n cap cur W ((hW.block b (Array.getElem?_eq_some_iff.1 hb).1).trans hb) hf (by omega) (by omega)
  have HK := Lib.hid hk
  have HSC := Lib.hid hsc
  have HC := Lib.hid hc
  clear hk hsc hc hb hf h
  go_enter Try.func64, Try.ntmps64
  go_wp2
  go_region_held3 (fun W => W.cell? ⟨R, 0, none⟩ = some (.slice (some ⟨b, 0, none⟩) n cap) ∧ W.cell? ⟨R, 1, none⟩ = some (.int .i64 at_) ∧ W.cell? ⟨R, 2, none⟩ = some (.int .i64 q.length) ∧ W.cell? ⟨R, 3, none⟩ = some (.int .i64 most))
    (first | exact HK.out _ ((Below.refl _ _).drew) | exact HK.out _ (below_drewN (Below.refl _ _) _) | exact HK.out _ HBW.out | exact HK.out _ (HBW.out.drew) | exact HK.out _ (below_drewN HBW.out _) | exact HK.out _ (HBW.out.alloc HSZ.out _) | exact HK.out _ ((below_drewN HBW.out _).alloc HSZ.out _) | exact HK.out _ ((HBW.out.alloc HSZ.out _).drew) | exact HK.out _ (((below_drewN HBW.out _).alloc HSZ.out _).drew) | exact HK.out _ (below_drewN ((below_drewN HBW.out _).alloc HSZ.out _) _) | exact HK.out _ (below_drewN (HBW.out.alloc HSZ.out _) _))
    (first | (go_at_call 65; ((with_reducible refine (HSC.out _ ?_).mono ?_); (exact (below_drewN (Below.refl _ _) _)); rintro e w1 ⟨g, c, cur2, rfl, hg, hh, hfull, hcur, hbel⟩; have HBW := Lib.hid ((below_drewN (Below.refl w.heap.size w) _).trans hbel); have HSZ : Hid (w.heap.size ≤ w1.heap.size) := HBW.out.size; have HG := Lib.hid hg; have HH := Lib.hid hh; have HFULL := Lib.hid hfull; have HCUR := Lib.hid hcur; clear hg hh hfull hcur hbel)))
  go_wp2
  go_ret
  have hg : w.heap.size ≤ g := by have := HG.out; simpa using this
  have hg1 : g < w1.heap.size := (Array.getElem?_eq_some_iff.1 HH.out).1
  refine ⟨_, some g, rfl, ⟨hq, hm, .inr ⟨g, at_, n, c, cur2, rfl, by simp; omega, ⟨Go.heap_alloc_new _ _⟩, ?_, HFULL.out, ha, hnm, hqn, fun i hi => ?_⟩⟩, HBW.out.alloc HSZ.out _, by simpa using HSZ.out, fun b hb => (by cases hb; exact hg)⟩
  · exact (((Below.refl w1.heap.size w1).alloc (Nat.le_refl _) _).block g hg1).trans HH.out
  · rw [HCUR.out _ (Nat.mod_lt _ (by omega))]
    exact HC.out i hi
/-- Clone, of whatever row. -/
theorem clone_calls (R : Nat) (B : Option Nat) (most : Nat) (q : List ByteArray) (w : World) (h : Ring w R B most q) : Calls Try.prog 64 #[.pointer (some ⟨R, 0, none⟩)] w (CloneO w most q) := by
  obtain ⟨h1, h2, h3⟩ := h
  rcases h3 with ⟨_, rfl, e3⟩ | ⟨b, at_, n, cap, cur, _, _, e3, e4, e5, e6, e7, e8, e9⟩
  · exact clone_none R most w e3 h2
  · exact clone_some R b n cap at_ most cur q w e3 h2 h1 e4 e5 e6 e7 e8 e9
end Go.Proofs.Ytljncbbajhoocaa.RingS
