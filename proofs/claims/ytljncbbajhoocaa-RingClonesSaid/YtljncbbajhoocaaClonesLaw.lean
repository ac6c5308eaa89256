/-
The walk of RingClones: one just like it goes its own way, and so does the row. No condition but the rows' own bounds.
-/
import Derived.Test.YtljncbbajhoocaaPlay
import Derived.Test.YtljncbbajhoocaaFullLaw
namespace Go.Proofs.Ytljncbbajhoocaa.ClonesLaw
open Go.RowKit Go.Proofs.Ytljncbbajhoocaa.Args Go.Proofs.Ytljncbbajhoocaa.RingI

/-- Three rings beside one another, all of them the call's own. -/
structure Trio (w wr : World) (R : Nat) (B : Option Nat) (P : Nat) (C : Option Nat) (S : Nat) (D : Option Nat) (k : Nat) (qr qp qq : List Int) : Prop where
  r : Ring wr R B k qr
  p : Ring wr P C k qp
  q : Ring wr S D k qq
  b : Below w.heap.size w wr
  nr : ∀ j, (j = R ∨ some j = B) → w.heap.size ≤ j
  np : ∀ j, (j = P ∨ some j = C) → w.heap.size ≤ j
  nq : ∀ j, (j = S ∨ some j = D) → w.heap.size ≤ j
  rp : ∀ j, (j = R ∨ some j = B) → ¬ (j = P ∨ some j = C)
  rq : ∀ j, (j = R ∨ some j = B) → ¬ (j = S ∨ some j = D)
  pq : ∀ j, (j = P ∨ some j = C) → ¬ (j = S ∨ some j = D)
theorem ring_lt {w : World} {R : Nat} {B : Option Nat} {k : Nat} {q : List Int} (h : Ring w R B k q) : ∀ j, (j = R ∨ some j = B) → j < w.heap.size := fun j hj => by
  rcases hj with hj | hj
  · rw [hj]; exact h.lt.1
  · exact (h.lt.2 j hj.symm).1
theorem ring_mod {w w' : World} {S : Nat → Prop} {R : Nat} {B : Option Nat} {k : Nat} {q : List Int} (h : Ring w R B k q) (hm : Mod S w w') (hs : ∀ j, (j = R ∨ some j = B) → ¬ S j) : Ring w' R B k q :=
  h.on (hm.block R (ring_lt h R (.inl rfl)) (hs R (.inl rfl))) (fun b hb => hm.block b (ring_lt h b (.inr hb.symm)) (hs b (.inr hb.symm)))
theorem run_foot {w0 w : World} {R : Nat} {B0 B : Option Nat} {k : Nat} {q : List Int} (h : Run w0 w R B0 B k q) : ∀ j, (j = R ∨ some j = B) → (j = R ∨ some j = B0) ∨ w0.heap.size ≤ j := fun j hj => by
  rcases hj with hj | hj
  · exact .inl (.inl hj)
  · rcases h.fresh with hf | ⟨b, hf, hb⟩
    · exact .inl (.inr (by rw [← hf]; exact hj))
    · rw [hf] at hj; injection hj with hj; exact .inr (by omega)
theorem Trio.play {w wr w' : World} {R P S k : Nat} {B B' C D : Option Nat} {qr qr' qp qq : List Int} (h : Trio w wr R B P C S D k qr qp qq) (u : Run wr w' R B B' k qr') : Trio w w' R B' P C S D k qr' qp qq := by
  refine ⟨u.ring, ring_mod h.p u.mod (fun j hp hr => h.rp j hr hp), ring_mod h.q u.mod (fun j hp hr => h.rq j hr hp), h.b.trans (u.mod.below h.b.size (fun j hj => h.nr j hj)), fun j hj => ?_, h.np, h.nq, fun j hj hp => ?_, fun j hj hp => ?_, h.pq⟩
  · rcases run_foot u j hj with h1 | h1
    · exact h.nr j h1
    · exact Nat.le_trans h.b.size h1
  · rcases run_foot u j hj with h1 | h1
    · exact h.rp j h1 hp
    · have := ring_lt h.p j hp; omega
  · rcases run_foot u j hj with h1 | h1
    · exact h.rq j h1 hp
    · have := ring_lt h.q j hp; omega
theorem Trio.swap2 {w wr : World} {R P S k : Nat} {B C D : Option Nat} {qr qp qq : List Int} (h : Trio w wr R B P C S D k qr qp qq) : Trio w wr P C R B S D k qp qr qq :=
  ⟨h.p, h.r, h.q, h.b, h.np, h.nr, h.nq, fun j a b => h.rp j b a, h.pq, h.rq⟩
theorem Trio.swap3 {w wr : World} {R P S k : Nat} {B C D : Option Nat} {qr qp qq : List Int} (h : Trio w wr R B P C S D k qr qp qq) : Trio w wr S D P C R B k qq qp qr :=
  ⟨h.q, h.p, h.r, h.b, h.nq, h.np, h.nr, fun j a b => h.pq j b a, fun j a b => h.rq j b a, fun j a b => h.rp j b a⟩
theorem Trio.on {w wr w' : World} {R P S k : Nat} {B C D : Option Nat} {qr qp qq : List Int} (h : Trio w wr R B P C S D k qr qp qq) (hb : Below wr.heap.size wr w') : Trio w w' R B P C S D k qr qp qq :=
  ⟨h.r.below hb, h.p.below hb, h.q.below hb, h.b.trans (hb.mono h.b.size), h.nr, h.np, h.nq, h.rp, h.rq, h.pq⟩
theorem trio_of {w wr w1 w2 : World} {R P S k : Nat} {B C D : Option Nat} {q : List Int} (h : Own w wr R B k q) (hp : Own w w1 P C k q) (hb : Below wr.heap.size wr w1) (p1 : wr.heap.size ≤ P) (p2 : ∀ b, C = some b → wr.heap.size ≤ b) (hq : Own w w2 S D k q) (hb2 : Below w1.heap.size w1 w2) (q1 : w1.heap.size ≤ S) (q2 : ∀ b, D = some b → w1.heap.size ≤ b) : Trio w w2 R B P C S D k q q q := by
  have hr := h.ring
  have lr := ring_lt h.ring
  have lp := ring_lt hp.ring
  refine ⟨(hr.below hb).below hb2, hp.ring.below hb2, hq.ring, hq.below, fun j hj => ?_, fun j hj => ?_, fun j hj => ?_, fun j hj hp2 => ?_, fun j hj hp2 => ?_, fun j hj hp2 => ?_⟩
  · rcases hj with hj | hj
    · rw [hj]; exact h.newR
    · exact h.newB j hj.symm
  · rcases hj with hj | hj
    · rw [hj]; exact hp.newR
    · exact hp.newB j hj.symm
  · rcases hj with hj | hj
    · rw [hj]; exact hq.newR
    · exact hq.newB j hj.symm
  · have h1 := lr j hj
    rcases hp2 with hp2 | hp2
    · omega
    · have := p2 j hp2.symm; omega
  · have h1 := lr j hj
    have h2 := hb.size
    rcases hp2 with hp2 | hp2
    · omega
    · have := q2 j hp2.symm; omega
  · have h1 := lp j hj
    rcases hp2 with hp2 | hp2
    · omega
    · have := q2 j hp2.symm; omega
theorem trio_play {w wr : World} {R P S k : Nat} {B C D : Option Nat} {qr qp qq q' : List Int} (h : Trio w wr R B P C S D k qr qp qq) (a : Option Addr) (n cap m : Nat) (l : List ActT) (ha : Hid (ArgRow 2 actV w a n l)) (hn : n ≤ 9223372036854775807) (hmn : m ≤ n) (hm30 : m ≤ 30) (hmx : Hid (m = n ∨ m = 30)) (hq : Hid (playTo k qr l m = q')) :
    Calls Try.prog 40 #[.pointer (some ⟨R, 0, none⟩), .slice a n cap] wr fun e w' => e = .returned (.tuple #[]) ∧ ∃ B', Trio w w' R B' P C S D k q' qp qq := by
  have hsa : 0 < n → ∀ b off, a = some ⟨b, off, none⟩ → ¬ (b = R ∨ some b = B) := fun hp b off e hb => by
    obtain ⟨b2, off2, e2, hlt, _⟩ := ha.out.form hp
    rw [e] at e2; injection e2 with e2; injection e2 with e2
    have := h.nr b hb; omega
  have hu : Run wr wr R B B k qr := ⟨h.r, .inl rfl, Mod.of_below (Below.refl _ _) _⟩
  rw [← hq.out]
  exact (play_calls R B k m qr a n cap l wr wr hu rfl (ha.out.below (h.b) (Nat.le_refl _)) hsa hn hmn hm30 hmx).mono fun _ _ ⟨he, B', hr⟩ => ⟨he, B', h.play hr⟩
theorem and15 (x : Int) : ∃ m : Nat, bits .and .i64 x 15 = (m : Int) ∧ m ≤ 15 := by
  refine ⟨(x % 16).toNat, ?_, by omega⟩
  show IntKind.i64.wrap ((BitVec.ofInt 64 x &&& BitVec.ofInt 64 15).toNat : Int) = _
  have h : (BitVec.ofInt 64 15).toNat = 15 := by decide
  rw [BitVec.toNat_and, h, show (15 : Nat) = 2 ^ 4 - 1 from rfl, Nat.and_two_pow_sub_one_eq_mod, BitVec.toNat_ofInt]
  have e : (((x % ((2 ^ 64 : Nat) : Int)).toNat % 2 ^ 4 : Nat) : Int) = ((x % 16).toNat : Int) := by omega
  rw [e]
  exact IntWalk.i64_in _ (by omega)

set_option maxHeartbeats 4000000 in
set_option maxRecDepth 100000 in
theorem clonesLaw (most : Int) (a1 a2 a3 : Option Addr) (n1 n2 n3 c1 c2 c3 m1 m2 m3 k0 : Nat) (l1 l2 l3 : List ActT) (w : World) (h1 : Hid (ArgRow 2 actV w a1 n1 l1)) (h2 : Hid (ArgRow 2 actV w a2 n2 l2)) (h3 : Hid (ArgRow 2 actV w a3 n3 l3)) (b1 : n1 ≤ 9223372036854775807) (b2 : n2 ≤ 9223372036854775807) (b3 : n3 ≤ 9223372036854775807)
    (x1 : m1 ≤ n1) (y1 : m1 ≤ 30) (z1 : Hid (m1 = n1 ∨ m1 = 30)) (x2 : m2 ≤ n2) (y2 : m2 ≤ 30) (z2 : Hid (m2 = n2 ∨ m2 = 30)) (x3 : m3 ≤ n3) (y3 : m3 ≤ 30) (z3 : Hid (m3 = n3 ∨ m3 = 30))
    (hk : bits .and .i64 most 15 = (k0 : Int)) (hk0 : k0 ≤ 15) :
    Calls Try.prog 12 #[.agg #[.int .i64 most, .slice a1 n1 c1, .slice a2 n2 c2, .slice a3 n3 c3]] w fun e w' => e = .returned (.bool true) ∧ Below w.heap.size w w' := by
  obtain ⟨k, hkk⟩ : ∃ k, k = k0 + 1 := ⟨_, rfl⟩
  have hk1 : (1 : Int) + (k0 : Int) = (k : Int) := by omega
  have hk16 : k ≤ 16 := by omega
  have HK3 : Hid ((if (4096 : Int) < (k : Int) then 4096 else (k : Int)) = (k : Int)) := by unfold Hid; rw [if_neg (by omega)]
  have HK4 : Hid ((if 0 < (k : Int) then (k : Int) else 0) = (k : Int)) := by unfold Hid; rw [if_pos (by omega)]
  clear hkk
  go_enter Try.func12, Try.ntmps12
  go_wp2_with fail
  refine (awake_calls _).mono ?_
  rintro e w1 ⟨rfl, hb1⟩
  have hbw : Below w.heap.size w w1 := ((Below.refl _ _).alloc (Nat.le_refl _) _).trans (hb1.mono (by simp))
  have hblk : w1.heap[w.heap.size]? = some (.cells #[.int .i64 most, .slice a1 n1 c1, .slice a2 n2 c2, .slice a3 n3 c3] 65 (0, 0)) := (hb1.block _ (by simp)).trans (Go.heap_alloc_new w _)
  have e0 : w1.cell? ⟨w.heap.size, 0, none⟩ = some (.int .i64 most) := by rw [cell_of_row _ _ _ _ _ _ hblk]; rfl
  have e1 : w1.cell? ⟨w.heap.size, 1, none⟩ = some (.slice a1 n1 c1) := by rw [cell_of_row _ _ _ _ _ _ hblk]; rfl
  have e2 : w1.cell? ⟨w.heap.size, 2, none⟩ = some (.slice a2 n2 c2) := by rw [cell_of_row _ _ _ _ _ _ hblk]; rfl
  have e3 : w1.cell? ⟨w.heap.size, 3, none⟩ = some (.slice a3 n3 c3) := by rw [cell_of_row _ _ _ _ _ _ hblk]; rfl
  have HBW := Lib.hid hbw
  clear hb1 hbw hblk
  go_wp2_with fail
  go_quiet (fail)
  clear e0 e1 e2 e3
  go_wp2_with fail
  refine (own_new w (k : Int) (k : Int) k _ (below_drewN HBW.out _) (by omega) HK3.out HK4.out).mono ?_
  rintro e w2 ⟨rfl, g2⟩
  obtain ⟨R, hR⟩ : ∃ R, R = (w1.drewN nq).heap.size := ⟨_, rfl⟩
  rw [← hR] at g2 ⊢
  have G2 := Lib.hid g2
  clear g2 hR hk hk1
  obtain ⟨q1, hq1⟩ : ∃ q1, playTo k [] l1 m1 = q1 := ⟨_, rfl⟩
  obtain ⟨q2, hq2⟩ : ∃ q2, playTo k q1 l2 m2 = q2 := ⟨_, rfl⟩
  obtain ⟨q3, hq3⟩ : ∃ q3, playTo k q1 l3 m3 = q3 := ⟨_, rfl⟩
  have HQ1 := Lib.hid hq1
  have HQ2 := Lib.hid hq2
  have HQ3 := Lib.hid hq3
  clear hq1 hq2 hq3
  go_wp2_with fail
  have hpl1 : Calls Try.prog 40 #[.pointer (some ⟨R, 0, none⟩), .slice a1 n1 c1] w2 fun e w' => e = .returned (.tuple #[]) ∧ ∃ B', Own w w' R B' k q1 := by
    have hu : Run w2 w2 R none none k [] := ⟨G2.out.ring, .inl rfl, Mod.of_below (Below.refl _ _) _⟩
    have hsa : 0 < n1 → ∀ b off, a1 = some ⟨b, off, none⟩ → ¬ (b = R ∨ some b = none) := fun hp b off e hb => by
      obtain ⟨b2, off2, e2, hlt, _⟩ := h1.out.form hp
      rw [e] at e2; injection e2 with e2; injection e2 with e2
      have h7 := G2.out.newR
      rcases hb with hb | hb
      · omega
      · cases hb
    rw [← HQ1.out]
    exact (play_calls R none k m1 [] a1 n1 c1 l1 w2 w2 hu rfl (h1.out.below G2.out.below (Nat.le_refl _)) hsa b1 x1 y1 z1).mono fun _ _ ⟨he, B', hr⟩ => ⟨he, B', G2.out.mod (hr.mod) hr.ring hr.fresh⟩
  refine hpl1.mono ?_
  clear hpl1
  rintro e w3 ⟨rfl, B, g3⟩
  have G3 := Lib.hid g3
  clear g3 G2
  go_wp2_with fail
  refine (own_clone w R B k q1 w3 G3.out).mono ?_
  rintro e w4 ⟨P, C, rfl, g4, i4, j4, k4⟩
  have G4 := Lib.hid g4
  have I4 := Lib.hid i4
  have J4 := Lib.hid j4
  have K4 := Lib.hid k4
  clear g4 i4 j4 k4
  go_wp2_with fail
  refine (own_clone w R B k q1 w4 (G3.out.on I4.out)).mono ?_
  rintro e w5 ⟨S, D, rfl, g5, i5, j5, k5⟩
  have T5 := Lib.hid (trio_of G3.out G4.out I4.out J4.out K4.out g5 i5 j5 k5)
  clear g5 i5 j5 k5 G3 G4 I4 J4 K4
  go_wp2_with fail
  refine (trio_play T5.out a2 n2 c2 m2 l2 h2 b2 x2 y2 z2 HQ2).mono ?_
  rintro e w6 ⟨rfl, B6, g6⟩
  have T6 := Lib.hid g6.swap3
  clear g6
  go_wp2_with fail
  refine (trio_play T6.out a3 n3 c3 m3 l3 h3 b3 x3 y3 z3 HQ3).mono ?_
  rintro e w7 ⟨rfl, D7, g7⟩
  have T7 := Lib.hid g7.swap2
  clear g7
  go_wp2_with fail
  refine (trio_play T7.out a2 n2 c2 m2 l2 h2 b2 x2 y2 z2 HQ2).mono ?_
  rintro e w8 ⟨rfl, C8, g8⟩
  have T8 := Lib.hid g8
  clear g8 T5 T6 T7
  go_wp2_with fail
  refine (all_form R B6 k q2 w8 T8.out.q).mono ?_
  rintro e w9 ⟨sp, sc, rfl, o9, b9⟩
  have T9 := Lib.hid (T8.out.on b9)
  have A9 := Lib.hid (row_arg o9)
  clear o9 b9 T8
  go_wp2_with fail
  refine (all_form P C8 k q2 w9 T9.out.r).mono ?_
  rintro e w10 ⟨sp2, sc2, rfl, o10, b10⟩
  have T10 := Lib.hid (T9.out.on b10)
  have A10 := Lib.hid (row_arg o10)
  have A10b := Lib.hid (A9.out.below b10 (Nat.le_refl _))
  clear o10 b10 T9 A9
  have hq2k : q2.length ≤ k := T10.out.r.1
  go_wp2_with fail
  refine (same_calls sp sp2 q2.length sc sc2 q2 w10 A10b.out A10.out (by omega)).mono ?_
  rintro e w11 ⟨rfl, d11, hd11⟩
  have T11 : Hid (Trio w w11 P C8 S D7 R B6 k q2 q3 q2) := by rw [hd11]; exact T10.out.on (below_drewN (Below.refl _ _) _)
  clear hd11 T10
  go_wp2_with fail
  refine (room_ring R B6 k q2 w11 T11.out.q).mono ?_
  rintro e w12 ⟨rfl, d12, hd12⟩
  have T12 : Hid (Trio w w12 P C8 S D7 R B6 k q2 q3 q2) := by rw [hd12]; exact T11.out.on (below_drewN (Below.refl _ _) _)
  clear hd12 T11
  go_wp2_with fail
  refine (room_ring P C8 k q2 w12 T12.out.r).mono ?_
  rintro e w13 ⟨rfl, d13, hd13⟩
  have T13 : Hid (Trio w w13 P C8 S D7 R B6 k q2 q3 q2) := by rw [hd13]; exact T12.out.on (below_drewN (Below.refl _ _) _)
  clear hd13 T12
  go_wp2_with fail
  refine (most_ring S D7 k q3 w13 T13.out.p).mono ?_
  rintro e w14 ⟨rfl, hd14⟩
  rw [hd14] at T13
  clear hd14
  go_wp2_with fail
  refine (most_ring R B6 k q2 w14 T13.out.q).mono ?_
  rintro e w15 ⟨rfl, hd15⟩
  rw [hd15] at T13
  clear hd15
  go_wp2_with fail
  go_ret
  exact ⟨rfl, T13.out.b⟩
theorem min_30 (n : Nat) : ∃ m, m ≤ n ∧ m ≤ 30 ∧ Hid (m = n ∨ m = 30) := by
  by_cases h : n ≤ 30
  · exact ⟨n, Nat.le_refl _, h, .inl rfl⟩
  · exact ⟨30, by omega, by omega, .inr rfl⟩
theorem clones_law (w : World) (most : Int) (a1 a2 a3 : Option Addr) (n1 n2 n3 c1 c2 c3 : Nat) (l1 l2 l3 : List ActT) (h1 : ArgRow 2 actV w a1 n1 l1) (h2 : ArgRow 2 actV w a2 n2 l2) (h3 : ArgRow 2 actV w a3 n3 l3) (b1 : n1 ≤ maxLen) (b2 : n2 ≤ maxLen) (b3 : n3 ≤ maxLen) :
    Calls Try.prog 12 #[.agg #[.int .i64 most, .slice a1 n1 c1, .slice a2 n2 c2, .slice a3 n3 c3]] w fun e w' => e = .returned (.bool true) ∧ Below w.heap.size w w' := by
  obtain ⟨k0, hk, hk0⟩ := and15 most
  obtain ⟨m1, x1, y1, z1⟩ := min_30 n1
  obtain ⟨m2, x2, y2, z2⟩ := min_30 n2
  obtain ⟨m3, x3, y3, z3⟩ := min_30 n3
  unfold maxLen at b1 b2 b3
  exact clonesLaw most a1 a2 a3 n1 n2 n3 c1 c2 c3 m1 m2 m3 k0 l1 l2 l3 w h1 h2 h3 (by omega) (by omega) (by omega) x1 y1 z1 x2 y2 z2 x3 y3 z3 hk hk0
end Go.Proofs.Ytljncbbajhoocaa.ClonesLaw
