/-
RingClones' closure: it plays acts upon a ring. No condition but that the ring holds a list and the acts came in.
-/
import Derived.Test.YtljncbbajhoocaaRingIMore
namespace Go.Proofs.Ytljncbbajhoocaa.RingI
open Go.RowKit Go.Proofs.Ytljncbbajhoocaa.Args

abbrev ActT := Int × Int
def actV (x : ActT) : List Value := [.int .i64 x.1, .int .i64 x.2]
def act1 (k : Nat) (q : List Int) (x : ActT) : List Int := if x.1 = 1 then q.tail else if q.length < k then q ++ [x.2] else q
def playTo (k : Nat) (q : List Int) (l : List ActT) (m : Nat) : List Int := (l.take m).foldl (act1 k) q
theorem playTo_succ (k : Nat) (q : List Int) (l : List ActT) (m : Nat) (h : m < l.length) : playTo k q l (m + 1) = act1 k (playTo k q l m) l[m] := by
  unfold playTo
  rw [List.take_add_one, List.getElem?_eq_getElem h, List.foldl_append]
  rfl
/-- What a run of calls upon one ring leaves: the ring holds q; nothing else has turned. -/
structure Run (w0 w : World) (R : Nat) (B0 B : Option Nat) (k : Nat) (q : List Int) : Prop where
  ring : Ring w R B k q
  fresh : B = B0 ∨ ∃ b, B = some b ∧ w0.heap.size ≤ b
  mod : Mod (fun j => j = R ∨ some j = B0) w0 w
theorem Mod.then {S S' : Nat → Prop} {a b c : World} (h : Mod S a b) (h2 : Mod S' b c) (hs : ∀ k, k < a.heap.size → S' k → S k) : Mod S a c :=
  ⟨h2.os.trans h.os, h2.tape.trans h.tape, h2.output.trans h.output, Nat.le_trans h.size h2.size, fun i hi hn => (h2.block i (Nat.lt_of_lt_of_le hi h.size) (fun hk => hn (hs i hi hk))).trans (h.block i hi hn)⟩
theorem Run.step {w0 w w' : World} {R : Nat} {B0 B B' : Option Nat} {k : Nat} {q q' : List Int} (h : Run w0 w R B0 B k q) (hm : Mod (fun j => j = R ∨ some j = B) w w') (hr : Ring w' R B' k q') (hB : B' = B ∨ ∃ b, B' = some b ∧ w.heap.size ≤ b) : Run w0 w' R B0 B' k q' := by
  refine ⟨hr, ?_, h.mod.then hm (fun j hj hs => ?_)⟩
  · rcases hB with hB | ⟨b, hB, hb⟩
    · rw [hB]; exact h.fresh
    · exact .inr ⟨b, hB, Nat.le_trans h.mod.size hb⟩
  · rcases hs with hs | hs
    · exact .inl hs
    · rcases h.fresh with hf | ⟨b, hf, hb⟩
      · exact .inr (by rw [← hf]; exact hs)
      · rw [hf] at hs; injection hs with hs; omega
theorem Run.on {w0 w w' : World} {R : Nat} {B0 B : Option Nat} {k : Nat} {q : List Int} (h : Run w0 w R B0 B k q) (hb : Below w.heap.size w w') : Run w0 w' R B0 B k q := h.step (Mod.of_below hb _) (h.ring.below hb) (.inl rfl)
def RunO (w0 : World) (R : Nat) (B0 : Option Nat) (k : Nat) (q : List Int) (v : Value) (e : Ending) (w' : World) : Prop := e = .returned v ∧ ∃ B, Run w0 w' R B0 B k q
theorem run_put {w0 w : World} {R : Nat} {B0 B : Option Nat} {k : Nat} {q : List Int} (x : Int) (h : Run w0 w R B0 B k q) (hl : q.length < k) : Calls Try.prog 35 #[.pointer (some ⟨R, 0, none⟩), .int .i64 x] w (RunO w0 R B0 k (q ++ [x]) (.int .i64 0)) :=
  (put_calls R B k q x w h.ring hl).mono fun _ _ ⟨he, _, hr, hB, hm⟩ => ⟨he, _, h.step hm hr hB⟩
theorem run_put_full {w0 w : World} {R : Nat} {B0 B : Option Nat} {k : Nat} {q : List Int} (x : Int) (h : Run w0 w R B0 B k q) (hl : q.length = k) : Calls Try.prog 35 #[.pointer (some ⟨R, 0, none⟩), .int .i64 x] w (RunO w0 R B0 k q (.int .i64 7)) :=
  (put_calls_full R B k q x w h.ring hl).mono fun _ _ ⟨he, m, hw⟩ => ⟨he, B, by rw [hw]; exact h.on (below_drewN (Below.refl _ _) _)⟩
theorem run_take {w0 w : World} {R : Nat} {B0 B : Option Nat} {k : Nat} {x : Int} {q : List Int} (h : Run w0 w R B0 B k (x :: q)) : Calls Try.prog 36 #[.pointer (some ⟨R, 0, none⟩)] w (RunO w0 R B0 k q (.tuple #[.int .i64 x, .int .i64 0])) :=
  (take_calls R B k q x w h.ring).mono fun _ _ ⟨he, hr, hm⟩ => ⟨he, B, h.step hm hr (.inl rfl)⟩
theorem run_take_none {w0 w : World} {R : Nat} {B0 B : Option Nat} {k : Nat} (h : Run w0 w R B0 B k []) : Calls Try.prog 36 #[.pointer (some ⟨R, 0, none⟩)] w (RunO w0 R B0 k [] (.tuple #[.int .i64 0, .int .i64 9])) :=
  (take_none R k B w h.ring).mono fun _ _ ⟨he, hw⟩ => ⟨he, B, by rw [← hw]; exact h⟩

set_option maxHeartbeats 2000000 in
set_option maxRecDepth 100000 in
theorem play_calls (R : Nat) (B : Option Nat) (k m : Nat) (q : List Int) (a : Option Addr) (n cap : Nat) (l : List ActT) (w0 w : World) (h : Run w0 w R B B k q) (hw : w = w0) (ha : Hid (ArgRow 2 actV w a n l)) (hSa : Hid (0 < n → ∀ b off, a = some ⟨b, off, none⟩ → ¬ (b = R ∨ some b = B))) (hn : n ≤ 9223372036854775807) (hmn : m ≤ n) (hm30 : m ≤ 30) (hmx : Hid (m = n ∨ m = 30)) :
    Calls Try.prog 40 #[.pointer (some ⟨R, 0, none⟩), .slice a n cap] w (RunO w0 R B k (playTo k q l m) (.tuple #[])) := by
  have HR := Lib.hid h
  have HW := Lib.hid hw
  clear h hw
  go_enter Try.func40, Try.ntmps40
  go_wp2_with fail
  go_loopw [4] (fun iv wr => ∃ (i : Nat) (B1 : Option Nat) (q1 : List Int), i ≤ m ∧ iv = .int .i64 i ∧ Hid (q1 = playTo k q l i) ∧ Hid (Run w0 wr R B B1 k q1)) (fun iv _ => m - (intOf iv).toNat)
  case atStart => exact ⟨0, B, q, by omega, rfl, rfl, HR⟩
  case round =>
    obtain ⟨i, B1, q1, him, rfl, HQ, HR1⟩ := hrel
    by_cases hlt : i < m
    · have hin : i < n := by omega
      have hi30 : decide ((i : Int) < 30) = true := decide_eq_true (by omega)
      obtain ⟨b, off, rfl, hbw, hc⟩ := ha.out.form (by omega)
      have hil : i < l.length := by rw [ha.out.len]; exact hin
      obtain ⟨z, hz⟩ : ∃ z, l[i] = z := ⟨_, rfl⟩
      have hkeep : ∀ j, wr.cell? ⟨b, j, none⟩ = w.cell? ⟨b, j, none⟩ := fun j => by
        rw [HW.out] at hbw ⊢
        exact World.cell?_of_block (HR1.out.mod.block b hbw (hSa.out (by omega) b off rfl))
      have hc0 : wr.cell? ⟨b, off + i * 2, none⟩ = some (.int .i64 z.1) := by
        rw [hkeep]; exact hc i hil 0 _ (by rw [hz]; rfl)
      have hc1 : wr.cell? ⟨b, off + i * 2 + 1, none⟩ = some (.int .i64 z.2) := by
        rw [hkeep]; exact hc i hil 1 _ (by rw [hz]; rfl)
      have HST : Hid (playTo k q l (i + 1) = act1 k q1 z) := by unfold Hid; rw [playTo_succ k q l i hil, hz, HQ.out]
      clear hc hz hil hkeep
      obtain ⟨z1, z2⟩ := z
      by_cases hz1 : z1 = 1
      · have e1 : act1 k q1 (z1, z2) = q1.tail := by unfold act1; rw [if_pos hz1]
        rw [e1] at HST
        clear e1
        go_wp2_with fail
        cases q1 with
        | nil =>
          refine (run_take_none HR1.out).mono ?_
          rintro e w3 ⟨rfl, B3, h3⟩
          have H3 := Lib.hid h3
          clear h3
          go_wp2_with fail
          go_roundw
          case rel => exact ⟨i + 1, B3, _, by omega, by go_num, HST.out.symm, H3⟩
          case measure => simp [intOf]; omega
        | cons x q1 =>
          refine (run_take HR1.out).mono ?_
          rintro e w3 ⟨rfl, B3, h3⟩
          have H3 := Lib.hid h3
          clear h3
          go_wp2_with fail
          go_roundw
          case rel => exact ⟨i + 1, B3, _, by omega, by go_num, HST.out.symm, H3⟩
          case measure => simp [intOf]; omega
      · by_cases hl : q1.length < k
        · have e1 : act1 k q1 (z1, z2) = q1 ++ [z2] := by unfold act1; rw [if_neg hz1, if_pos hl]
          rw [e1] at HST
          clear e1
          go_wp2_with fail
          refine (run_put z2 HR1.out hl).mono ?_
          rintro e w3 ⟨rfl, B3, h3⟩
          have H3 := Lib.hid h3
          clear h3
          go_wp2_with fail
          go_roundw
          case rel => exact ⟨i + 1, B3, _, by omega, by go_num, HST.out.symm, H3⟩
          case measure => simp [intOf]; omega
        · have e1 : act1 k q1 (z1, z2) = q1 := by unfold act1; rw [if_neg hz1, if_neg hl]
          have hle := HR1.out.ring.1
          have hqk : q1.length = k := by omega
          rw [e1] at HST
          clear e1
          go_wp2_with fail
          refine (run_put_full z2 HR1.out hqk).mono ?_
          rintro e w3 ⟨rfl, B3, h3⟩
          have H3 := Lib.hid h3
          clear h3
          go_wp2_with fail
          go_roundw
          case rel => exact ⟨i + 1, B3, _, by omega, by go_num, HST.out.symm, H3⟩
          case measure => simp [intOf]; omega
    · have hi : i = m := by omega
      have HEND : Hid (RunO w0 R B k (playTo k q l m) (.tuple #[]) (.returned (.tuple #[])) wr) := by unfold Hid; rw [← hi, ← HQ.out]; exact ⟨rfl, B1, HR1.out⟩
      rcases hmx.out with hx | hx
      · have hin : i = n := by omega
        clear hx hi
        go_wp2_with fail
        go_end0
        exact HEND.out
      · have hin : i = 30 := by omega
        clear hx hi
        by_cases hn30 : 30 < n
        · go_wp2_with fail
          go_end0
          exact HEND.out
        · have hn3 : n = 30 := by omega
          go_wp2_with fail
          go_end0
          exact HEND.out
end Go.Proofs.Ytljncbbajhoocaa.RingI
