/-
Package ring at one instance, part 2: what it is for a row to hold a list, and All: the call answers the list in new memory. No condition but that.
-/
import Derived.Test.YtljncbbajhoocaaRingIRead
import Derived.Deep.RegionHeld3
import Derived.Deep.RegionHeldLaw
import Derived.Deep.AppendLies
import Derived.WalkSmall
import Derived.Carry
namespace Go.Proofs.Ytljncbbajhoocaa.RingI
open Go.RowKit Go.Proofs.Ytljncbbajhoocaa.Args

/-- Each cell of a block is one value. -/
def One (cur : Array Value) : Prop := ∀ v ∈ cur.toList, v.oneCell' = true
structure Full (cur : Array Value) (n : Nat) : Prop where
  size : n ≤ cur.size
  one : ∀ v ∈ cur.toList.take n, v.oneCell' = true
theorem One.set {cur : Array Value} (h : One cur) (i : Nat) (v : Value) (hv : v.oneCell' = true) : One (cur.setIfInBounds i v) := by
  intro u hu
  rw [Array.toList_setIfInBounds] at hu
  rcases List.mem_or_eq_of_mem_set hu with hu | rfl
  · exact h u hu
  · exact hv
theorem Full.set {cur : Array Value} {n : Nat} (h : Full cur n) (i : Nat) (v : Value) (hv : v.oneCell' = true) : Full (cur.setIfInBounds i v) n := by
  refine ⟨by simpa using h.size, fun u hu => ?_⟩
  rw [Array.toList_setIfInBounds, List.take_set] at hu
  rcases List.mem_or_eq_of_mem_set hu with hu | rfl
  · exact h.one u hu
  · exact hv
/-- The list q stands in the row R, of at most so many; its cells are in block B (none: it has none yet). -/
def Ring (w : World) (R : Nat) (B : Option Nat) (most : Nat) (q : List Int) : Prop :=
  q.length ≤ most ∧ most ≤ 4096 ∧
  ((B = none ∧ q = [] ∧ Fields w R (.slice none 0 0) 0 0 most) ∨
   ∃ b at_ n cap cur, B = some b ∧ b ≠ R ∧ Fields w R (.slice (some ⟨b, 0, none⟩) n cap) at_ q.length most ∧ w.heap[b]? = some (.cells cur 3 (0, 0)) ∧ Full cur n ∧ at_ < n ∧ n ≤ most ∧ q.length ≤ n ∧
     ∀ i (h : i < q.length), cur[(at_ + i) % n]? = some ((Value.int .i64) q[i]))
/-- Of what was there nothing has turned but the blocks in S. -/
structure Mod (S : Nat → Prop) (w w' : World) : Prop where
  os : w'.os = w.os
  tape : w'.tape = w.tape
  output : w'.output = w.output
  size : w.heap.size ≤ w'.heap.size
  block : ∀ k, k < w.heap.size → ¬ S k → w'.heap[k]? = w.heap[k]?
theorem Mod.below {S : Nat → Prop} {w w' : World} {B : Nat} (h : Mod S w w') (hB : B ≤ w.heap.size) (hS : ∀ k, S k → B ≤ k) : Below B w w' :=
  ⟨h.os, h.tape, h.output, h.size, fun k hk => h.block k (by omega) (fun hs => by have := hS k hs; omega)⟩
theorem Mod.of_below {w w' : World} (h : Below w.heap.size w w') (S : Nat → Prop) : Mod S w w' := ⟨h.os, h.tape, h.output, h.size, fun k hk _ => h.block k hk⟩
theorem Mod.trans {S : Nat → Prop} {a b c : World} (h : Mod S a b) (k : Mod S b c) : Mod S a c :=
  ⟨k.os.trans h.os, k.tape.trans h.tape, k.output.trans h.output, Nat.le_trans h.size k.size, fun i hi hs => (k.block i (Nat.lt_of_lt_of_le hi h.size) hs).trans (h.block i hi hs)⟩
theorem Mod.mono {S S' : Nat → Prop} {a b : World} (h : Mod S a b) (hs : ∀ k, k < a.heap.size → S k → S' k) : Mod S' a b :=
  ⟨h.os, h.tape, h.output, h.size, fun i hi hn => h.block i hi (fun hk => hn (hs i hi hk))⟩
theorem Fields.on {w w' : World} {R : Nat} {lv : Value} {at_ len most : Nat} (h : Fields w R lv at_ len most) (hb : w'.heap[R]? = w.heap[R]?) : Fields w' R lv at_ len most := ⟨hb.trans h.blk⟩
theorem Fields.lt {w : World} {R : Nat} {lv : Value} {at_ len most : Nat} (h : Fields w R lv at_ len most) : R < w.heap.size := (Array.getElem?_eq_some_iff.1 h.blk).1
theorem Fields.drewN {w : World} {R : Nat} {lv : Value} {at_ len most : Nat} (h : Fields w R lv at_ len most) (m : Nat) : Fields (w.drewN m) R lv at_ len most := ⟨h.blk⟩
theorem Ring.on {w w' : World} {R : Nat} {B : Option Nat} {most : Nat} {q : List Int} (h : Ring w R B most q) (hR : w'.heap[R]? = w.heap[R]?) (hB : ∀ b, B = some b → w'.heap[b]? = w.heap[b]?) : Ring w' R B most q := by
  obtain ⟨h1, h2, h3⟩ := h
  refine ⟨h1, h2, ?_⟩
  rcases h3 with ⟨e1, e2, e3⟩ | ⟨b, at_, n, cap, cur, e1, e2, e3, e4, e5⟩
  · exact .inl ⟨e1, e2, e3.on hR⟩
  · exact .inr ⟨b, at_, n, cap, cur, e1, e2, e3.on hR, (hB b e1).trans e4, e5⟩
theorem Ring.lt {w : World} {R : Nat} {B : Option Nat} {most : Nat} {q : List Int} (h : Ring w R B most q) : R < w.heap.size ∧ ∀ b, B = some b → b < w.heap.size ∧ b ≠ R := by
  obtain ⟨_, _, h3⟩ := h
  rcases h3 with ⟨e1, e2, e3⟩ | ⟨b, at_, n, cap, cur, e1, e2, e3, e4, e5⟩
  · exact ⟨e3.lt, fun b hb => by rw [e1] at hb; cases hb⟩
  · exact ⟨e3.lt, fun c hc => by rw [e1] at hc; cases hc; exact ⟨(Array.getElem?_eq_some_iff.1 e4).1, e2⟩⟩
theorem Ring.below {w w' : World} {R : Nat} {B : Option Nat} {most : Nat} {q : List Int} (h : Ring w R B most q) (hb : Below w.heap.size w w') : Ring w' R B most q :=
  h.on (hb.block R h.lt.1) (fun b e => hb.block b (h.lt.2 b e).1)

theorem infoE : (Try.prog.info? 3).map (fun i => (i.zero, i.size, i.bytes)) = some (some (.int .i64 0), 1, 8) := by kernel_rfl
theorem ownsRow_drewN {w : World} {base : Nat} {e : TypeId} {size : Nat} {v : Value} {n : Nat} {xs : List Value} (h : w.ownsRow base e size v n xs) (m : Nat) : (w.drewN m).ownsRow base e size v n xs := h
theorem take_own {w : World} {base k : Nat} {v : Value} {q : List Int} (hk : k < q.length) {x : Int} (hx : q[k] = x) (h : w.ownsRow base 3 1 v (k + 1) ((q.take k).map (Value.int .i64) ++ [(Value.int .i64) x])) : w.ownsRow base 3 1 v (k + 1) ((q.take (k + 1)).map (Value.int .i64)) := by
  rw [List.take_succ_eq_append_getElem hk, List.map_append, hx]; exact h

set_option maxHeartbeats 2000000 in
set_option maxRecDepth 100000 in
theorem all_some (R b n cap at_ most : Nat) (cur : Array Value) (q : List Int) (w : World) (h : Fields w R (.slice (some ⟨b, 0, none⟩) n cap) at_ q.length most) (hb : w.heap[b]? = some (.cells cur 3 (0, 0))) (hn : n ≤ 4096) (ha : at_ < n) (hq : q.length ≤ n)
    (hc : ∀ i (h : i < q.length), cur[(at_ + i) % n]? = some ((Value.int .i64) q[i])) :
    Calls Try.prog 43 #[.pointer (some ⟨R, 0, none⟩)] w fun e w' => ∃ v, e = .returned v ∧ w'.ownsRow w.heap.size 3 1 v q.length (q.map (Value.int .i64)) ∧ Below w.heap.size w w' := by
  obtain ⟨i0, hi0, hz0, hz1, hz2⟩ := info_parts infoE
  have HI := Lib.hid hi0
  have HZ0 := Lib.hid hz0
  have HZ1 := Lib.hid hz1
  have HZ2 := Lib.hid hz2
  have HF := Lib.hid h
  have HB := Lib.hid hb
  have HC := Lib.hid hc
  have h2 := h.c2
  have hRlt := h.lt
  have hblt : b < w.heap.size := (Array.getElem?_eq_some_iff.1 hb).1
  clear hi0 hz0 hz1 hz2 h hb hc
  go_enter Try.func43, Try.ntmps43
  go_wp2
  clear h2
  go_loopw [3, 4, 9] (fun v _ i wr => ∃ k : Nat, k ≤ q.length ∧ i = .int .i64 k ∧ Hid (wr.ownsRow w.heap.size 3 1 v k ((q.take k).map (Value.int .i64))) ∧ Hid (Below w.heap.size w wr)) (fun _ _ i _ => q.length - (intOf i).toNat)
  case atStart => exact ⟨0, by omega, rfl, World.ownsRow_nil _ _ _ _, Below.refl _ _⟩
  case round =>
    obtain ⟨k, hk, rfl, HOWN, HBW⟩ := hrel
    by_cases hlt : k < q.length
    · have HF2 := Lib.hid (HF.out.on (HBW.out.block R hRlt))
      have h0 := HF2.out.c0
      obtain ⟨x, hx⟩ : ∃ x, q[k] = x := ⟨_, rfl⟩
      have HX := Lib.hid hx
      obtain ⟨p, hp⟩ : ∃ p, p = (at_ + k) % n := ⟨_, rfl⟩
      have hpn : p < n := by rw [hp]; exact Nat.mod_lt _ (by omega)
      have hcell : wr.cell? ⟨b, p, none⟩ = some ((Value.int .i64) x) := by
        rw [cell_of_row wr b p cur 3 (0, 0) ((HBW.out.block b hblt).trans HB.out), hp, HC.out k hlt, hx]
      have HP := Lib.hid hp
      have hp0 : (0 : Int) ≤ (p : Int) := by omega
      have hp1 : (p : Int) < (n : Int) := by omega
      have hbs : w.heap.size ≤ wr.heap.size := HBW.out.size
      have HLT := Lib.hid hlt
      have hplace : ∀ W, Fields W R (.slice (some ⟨b, 0, none⟩) n cap) at_ q.length most → Calls Try.prog 61 #[.pointer (some ⟨R, 0, none⟩), .int .i64 (k : Int)] W fun e w' => e = .returned (.int .i64 (p : Int)) ∧ ∃ m, w' = W.drewN m := fun W hW => by
        rw [HP.out]; exact place_calls R b n cap at_ q.length most k W hW (by omega) (by omega) (by omega)
      have HPL := Lib.hid hplace
      have hkeep : ∀ W, Below w.heap.size w W → W.cell? ⟨R, 0, none⟩ = some (.slice (some ⟨b, 0, none⟩) n cap) ∧ W.cell? ⟨b, p, none⟩ = some ((Value.int .i64) x) ∧ Fields W R (.slice (some ⟨b, 0, none⟩) n cap) at_ q.length most := fun W hW =>
        ⟨(HF.out.on (hW.block R hRlt)).c0, by rw [cell_of_row W b p cur 3 (0, 0) ((hW.block b hblt).trans HB.out), hp, HC.out k hlt, hx], HF.out.on (hW.block R hRlt)⟩
      have HK := Lib.hid hkeep
      clear hx hp hplace hkeep
      go_wp2
      go_region_held3 (fun W => W.cell? ⟨R, 0, none⟩ = some (.slice (some ⟨b, 0, none⟩) n cap) ∧ W.cell? ⟨b, p, none⟩ = some ((Value.int .i64) x) ∧ Fields W R (.slice (some ⟨b, 0, none⟩) n cap) at_ q.length most)
        (first | exact HK.out _ (HBW.out.drew) | exact HK.out _ (below_drewN HBW.out _) | exact HK.out _ ((below_drewN HBW.out _).alloc hbs _) | exact HK.out _ (((below_drewN HBW.out _).alloc hbs _).grown hgrow (by simp; omega) (fun k hk => (HOWN.out.lt k hk).1)))
        (first | (go_at_call 61; ((with_reducible refine (HPL.out _ ?_).mono ?_); (exact (HK.out _ (HBW.out.drew)).2.2); rintro e w' ⟨rfl, m, rfl⟩)) | (refine step_append_lies _ (by rfl) _ _ _ (by rfl) w.heap.size 3 i0 _ 1 8 Try.underlying53 HI.out HZ0.out HZ1.out HZ2.out rfl (by omega) _ k ((q.take k).map (Value.int .i64)) (by rfl) (by exact (ownsRow_drewN HOWN.out _).alloc _) ⟨wr.heap.size, 0, none⟩ 1 1 [(Value.int .i64) x] (by rfl) (by rfl) (World.news_of_block (cs := #[(Value.int .i64) x]) (t := 3) (fr := (0, 0)) (Go.heap_alloc_new _ _)) (by simp [Value.oneCell']) (by omega) (by unfold maxLen; omega) (by omega) (by simp; omega) _ rfl ?_; intro g cap2 w1 hown1 hgrow hat hlt2))
      have hown2 := take_own HLT.out HX.out hown1
      have hbel := ((below_drewN HBW.out (1 + m)).alloc (by simp; omega) (.cells #[(Value.int .i64) x] 3)).grown hgrow (by simp; omega) (fun k hk => (HOWN.out.lt k hk).1)
      have HO2 := Lib.hid hown2
      have HB2 := Lib.hid hbel
      clear hown1 hown2 hbel hgrow hat
      go_wp2
      go_roundw
      case rel => exact ⟨k + 1, by omega, by go_num, HO2, HB2⟩
      case measure => simp [intOf]; omega
    · obtain rfl : k = q.length := by omega
      have hown := HOWN.out
      rw [List.take_length] at hown
      have HO2 := Lib.hid hown
      clear hown
      go_wp2
      go_ret
      exact ⟨_, rfl, HO2.out, HBW.out⟩
end Go.Proofs.Ytljncbbajhoocaa.RingI
