/-
The walk of RingOrder: what is taken is what was put, in its order, each once. No condition but the rows' own bounds.
-/
import Derived.Test.YtljncbbajhoocaaLists
import Derived.Test.YtljncbbajhoocaaRingAwake
namespace Go.Proofs.Ytljncbbajhoocaa.OrderLaw
open Go.RowKit Go.Proofs.Ytljncbbajhoocaa.Args Go.Proofs.Ytljncbbajhoocaa.RingS
open Go.Proofs.YtljncbbajhoocaaW.PrintMore
attribute [local go_sem] max2_int min2_int max_two min_two

/-- A ring and two rows beside one another. -/
structure Ord (w wr : World) (R : Nat) (B : Option Nat) (k : Nat) (v8 v9 : Value) (q ins outs : List ByteArray) : Prop where
  own : Own w wr R B k q
  inr : wr.ownsRow w.heap.size 9 1 v8 ins.length (ins.map Value.string)
  out : wr.ownsRow w.heap.size 9 1 v9 outs.length (outs.map Value.string)
  d8 : ∀ b, v8.ownBlock = some b → ¬ (b = R ∨ some b = B)
  d9 : ∀ b, v9.ownBlock = some b → ¬ (b = R ∨ some b = B)
  d89 : ∀ b, v8.ownBlock = some b → v9.ownBlock ≠ some b
theorem Ord.on {w wr w' : World} {R : Nat} {B : Option Nat} {k : Nat} {v8 v9 : Value} {q ins outs : List ByteArray} (h : Ord w wr R B k v8 v9 q ins outs) (hb : Below wr.heap.size wr w') : Ord w w' R B k v8 v9 q ins outs :=
  ⟨h.own.on hb, row_mod h.inr (Mod.of_below hb (fun _ => False)) (fun _ _ => id), row_mod h.out (Mod.of_below hb (fun _ => False)) (fun _ _ => id), h.d8, h.d9, h.d89⟩
theorem Ord.ring {w wr w' : World} {R : Nat} {B B' : Option Nat} {k : Nat} {v8 v9 : Value} {q q' ins outs : List ByteArray} (h : Ord w wr R B k v8 v9 q ins outs) (hm : Mod (fun j => j = R ∨ some j = B) wr w') (hr : Ring w' R B' k q') (hB : B' = B ∨ ∃ b, B' = some b ∧ wr.heap.size ≤ b) : Ord w w' R B' k v8 v9 q' ins outs := by
  refine ⟨h.own.mod hm hr hB, row_mod h.inr hm h.d8, row_mod h.out hm h.d9, fun b hb hc => ?_, fun b hb hc => ?_, h.d89⟩
  · rcases hB with hB | ⟨c, hB, hc2⟩
    · exact h.d8 b hb (by rw [← hB]; exact hc)
    · have := (row_lt h.inr b hb).2
      rcases hc with hc | hc
      · exact h.d8 b hb (.inl hc)
      · rw [hB] at hc; injection hc with hc; omega
  · rcases hB with hB | ⟨c, hB, hc2⟩
    · exact h.d9 b hb (by rw [← hB]; exact hc)
    · have := (row_lt h.out b hb).2
      rcases hc with hc | hc
      · exact h.d9 b hb (.inl hc)
      · rw [hB] at hc; injection hc with hc; omega
theorem Ord.app8 {w wr w' : World} {R : Nat} {B : Option Nat} {k : Nat} {v8 v8' v9 : Value} {q ins ys outs : List ByteArray} (h : Ord w wr R B k v8 v9 q ins outs) (hg : wr.grownBy w' v8.ownBlock) (ho : w'.ownsRow w.heap.size 9 1 v8' (ins.length + ys.length) (ins.map Value.string ++ ys.map Value.string)) (ha : v8'.ownBlock = v8.ownBlock ∨ v8'.ownBlock = some wr.heap.size) : Ord w w' R B k v8' v9 q (ins ++ ys) outs := by
  have hl := h.own.ring.lt
  refine ⟨⟨h.own.ring.on (hg.block R hl.1 (fun e => h.d8 R e.symm (.inl rfl))) (fun b hb => hg.block b (hl.2 b hb).1 (fun e => h.d8 b e.symm (.inr hb.symm))), ?_, h.own.newR, h.own.newB⟩, ?_, row_mod h.out (mod_grown hg) (fun b hb e => h.d89 b e.symm hb), fun b hb hc => ?_, h.d9, fun b hb hc => ?_⟩
  · exact h.own.below.trans ((mod_grown hg).below h.own.below.size (fun j hj => (row_lt h.inr j hj.symm).1))
  · rw [List.length_append, List.map_append]; exact ho
  · rcases ha with ha | ha
    · exact h.d8 b (by rw [← ha]; exact hb) hc
    · rw [hb] at ha; injection ha with ha
      rcases hc with hc | hc
      · omega
      · have := (hl.2 b hc.symm).1; omega
  · rcases ha with ha | ha
    · exact h.d89 b (by rw [← ha]; exact hb) hc
    · rw [hb] at ha; injection ha with ha
      have := (row_lt h.out b hc).2; omega
theorem Ord.app9 {w wr w' : World} {R : Nat} {B : Option Nat} {k : Nat} {v8 v9' v9 : Value} {q ins ys outs : List ByteArray} (h : Ord w wr R B k v8 v9 q ins outs) (hg : wr.grownBy w' v9.ownBlock) (ho : w'.ownsRow w.heap.size 9 1 v9' (outs.length + ys.length) (outs.map Value.string ++ ys.map Value.string)) (ha : v9'.ownBlock = v9.ownBlock ∨ v9'.ownBlock = some wr.heap.size) : Ord w w' R B k v8 v9' q ins (outs ++ ys) := by
  have s : Ord w wr R B k v9 v8 q outs ins := ⟨h.own, h.out, h.inr, h.d9, h.d8, fun b h1 h2 => h.d89 b h2 h1⟩
  have t := s.app8 hg ho ha
  exact ⟨t.own, t.out, t.inr, t.d9, t.d8, fun b h1 h2 => t.d89 b h2 h1⟩
def PutO2 (w : World) (R k : Nat) (v8 v9 : Value) (q ins outs : List ByteArray) (e : Ending) (w' : World) : Prop := e = .returned (.int .i64 0) ∧ ∃ B', Ord w w' R B' k v8 v9 q ins outs
theorem ord_put {w wr : World} {R : Nat} {B : Option Nat} {k : Nat} {v8 v9 : Value} {q ins outs : List ByteArray} (h : Ord w wr R B k v8 v9 q ins outs) (x : ByteArray) (hlt : q.length < k) : Calls Try.prog 29 #[.pointer (some ⟨R, 0, none⟩), .string x] wr (PutO2 w R k v8 v9 (q ++ [x]) ins outs) :=
  (put_calls R B k q x wr h.own.ring hlt).mono fun _ _ ⟨he, B', hr, hB, hm⟩ => ⟨he, B', h.ring hm hr hB⟩
theorem ord_put_full {w wr : World} {R : Nat} {B : Option Nat} {k : Nat} {v8 v9 : Value} {q ins outs : List ByteArray} (h : Ord w wr R B k v8 v9 q ins outs) (x : ByteArray) (hlt : q.length = k) : Calls Try.prog 29 #[.pointer (some ⟨R, 0, none⟩), .string x] wr fun e w' => e = .returned (.int .i64 7) ∧ Ord w w' R B k v8 v9 q ins outs :=
  (put_calls_full R B k q x wr h.own.ring hlt).mono fun _ _ ⟨he, m, hw⟩ => ⟨he, by rw [hw]; exact h.on (below_drewN (Below.refl _ _) _)⟩
theorem ord_take {w wr : World} {R : Nat} {B : Option Nat} {k : Nat} {v8 v9 : Value} {x : ByteArray} {q ins outs : List ByteArray} (h : Ord w wr R B k v8 v9 (x :: q) ins outs) : Calls Try.prog 27 #[.pointer (some ⟨R, 0, none⟩)] wr fun e w' => e = .returned (.tuple #[.string x, .int .i64 0]) ∧ Ord w w' R B k v8 v9 q ins outs :=
  (take_calls R B k q x wr h.own.ring).mono fun _ _ ⟨he, hr, hm⟩ => ⟨he, h.ring hm hr (.inl rfl)⟩
theorem ord_take_none {w wr : World} {R : Nat} {B : Option Nat} {k : Nat} {v8 v9 : Value} {ins outs : List ByteArray} (h : Ord w wr R B k v8 v9 [] ins outs) : Calls Try.prog 27 #[.pointer (some ⟨R, 0, none⟩)] wr fun e w' => e = .returned (.tuple #[.string ⟨#[]⟩, .int .i64 9]) ∧ Ord w w' R B k v8 v9 [] ins outs :=
  (take_none R k B wr h.own.ring).mono fun _ _ ⟨he, hw⟩ => ⟨he, by rw [← hw]; exact h⟩
theorem ord_len {w wr : World} {R : Nat} {B : Option Nat} {k : Nat} {v8 v9 : Value} {q ins outs : List ByteArray} (h : Ord w wr R B k v8 v9 q ins outs) : Calls Try.prog 39 #[.pointer (some ⟨R, 0, none⟩)] wr fun e w' => e = .returned (.int .i64 (q.length : Int)) ∧ Ord w w' R B k v8 v9 q ins outs :=
  (len_ring R B k q wr h.own.ring).mono fun _ _ ⟨he, hw⟩ => ⟨he, by rw [← hw]; exact h⟩
/-- What Clear gives: a new row of what there was; the ring is empty. -/
def ClearO (w wr : World) (R k : Nat) (v8 v9 : Value) (q ins outs : List ByteArray) (e : Ending) (w' : World) : Prop := ∃ v, e = .returned v ∧ w'.ownsRow wr.heap.size 9 1 v q.length (q.map Value.string) ∧ Ord w w' R none k v8 v9 [] ins outs
theorem ord_clear {w wr : World} {R : Nat} {B : Option Nat} {k : Nat} {v8 v9 : Value} {q ins outs : List ByteArray} (h : Ord w wr R B k v8 v9 q ins outs) : Calls Try.prog 30 #[.pointer (some ⟨R, 0, none⟩)] wr (ClearO w wr R k v8 v9 q ins outs) :=
  (clear_calls R B k q wr h.own.ring).mono fun _ _ ⟨sp, sc, he, ho, hr, hm⟩ => by
    refine ⟨_, he, ho, ⟨hr, h.own.below.trans (hm.below h.own.below.size (fun j hj => by rw [hj]; exact h.own.newR)), h.own.newR, fun b hb => by cases hb⟩, row_mod h.inr hm (fun b hb e => h.d8 b hb (.inl e)), row_mod h.out hm (fun b hb e => h.d9 b hb (.inl e)), fun b hb hc => ?_, fun b hb hc => ?_, h.d89⟩
    · rcases hc with hc | hc
      · exact h.d8 b hb (.inl hc)
      · cases hc
    · rcases hc with hc | hc
      · exact h.d9 b hb (.inl hc)
      · cases hc

set_option maxHeartbeats 2000000 in
set_option maxRecDepth 100000 in
theorem orderLaw (most r : Int) (a a2 : Option Addr) (n cap n2 cap2 k : Nat) (zs : List ByteArray) (ts : List Bool) (w : World) (ha : Hid (ArgRow 1 (fun s => [Value.string s]) w a n zs)) (hn : n ≤ 140737488355328) (ha2 : Hid (ArgRow 1 (fun s => [Value.bool s]) w a2 n2 ts)) (hn2 : n2 ≤ 140737488355328)
    (hr : (if (50 : Int) < most then 50 else most) = r) (hk : (if (1 : Int) < r then r else 1) = (k : Int)) (hk1 : 1 ≤ k) (hk2 : k ≤ 50) :
    Calls Try.prog 11 #[.int .i64 most, .slice a n cap, .slice a2 n2 cap2] w fun e w' => e = .returned (.bool true) ∧ Below w.heap.size w w' := by
  have HK3 : Hid ((if (4096 : Int) < (k : Int) then 4096 else (k : Int)) = (k : Int)) := by unfold Hid; rw [if_neg (by omega)]
  have HK4 : Hid ((if 0 < (k : Int) then (k : Int) else 0) = (k : Int)) := by unfold Hid; rw [if_pos (by omega)]
  obtain ⟨i0, hi, hz0, hz1, hz2⟩ := info_parts infoE
  have HI := Lib.hid hi
  have HZ0 := Lib.hid hz0
  have HZ1 := Lib.hid hz1
  have HZ2 := Lib.hid hz2
  clear hi hz0 hz1 hz2
  go_enter Try.func11, Try.ntmps11
  go_wp2_with fail
  refine (RingI.awake_calls w).mono ?_
  rintro e w1 ⟨rfl, hb1⟩
  go_wp2_with fail
  clear hr hk
  refine (own_new w (k : Int) (k : Int) k w1 hb1 (by omega) HK3.out HK4.out).mono ?_
  rintro e w2 ⟨rfl, h2⟩
  obtain ⟨R, hR⟩ : ∃ R, R = w1.heap.size := ⟨_, rfl⟩
  rw [← hR] at h2 ⊢
  have HO0 : Hid (Ord w w2 R none k (.slice none 0 0) (.slice none 0 0) [] [] []) := ⟨h2, World.ownsRow_nil _ _ _ _, World.ownsRow_nil _ _ _ _, (fun b hb => by cases hb), (fun b hb => by cases hb), (fun b hb => by cases hb)⟩
  clear h2 hR hb1
  go_wp2_with fail
  go_loopw [8, 9, 10, 11, 12] (fun v8 v9 iv _ _ wr => ∃ (i : Nat) (B : Option Nat) (q ins outs : List ByteArray), i ≤ n ∧ i ≤ 100 ∧ iv = .int .i64 i ∧ Hid (ins = outs ++ q) ∧ ins.length ≤ i ∧ outs.length ≤ i ∧ Hid (Ord w wr R B k v8 v9 q ins outs)) (fun _ _ iv _ _ _ => 100 - (intOf iv).toNat)
  case atStart => exact ⟨0, none, [], [], [], by omega, by omega, rfl, rfl, by simp, by simp, HO0⟩
  case round =>
    obtain ⟨i, B, q, ins, outs, hin, hi100, rfl, HQ, hil, hol, HO⟩ := hrel
    by_cases hlt : i < n
    · by_cases hlt2 : i < 100
      · obtain ⟨b, off, rfl, hbw, hc⟩ := ArgRow.one ha.out (by omega)
        have hiz : i < zs.length := by rw [ha.out.len]; exact hlt
        obtain ⟨z, hz⟩ : ∃ z, zs[i] = z := ⟨_, rfl⟩
        have hcw : w.cell? ⟨b, off + i, none⟩ = some (.string z) := by
          rw [hc i hiz]
          exact congrArg (fun q => some (Value.string q)) hz
        have HCW := Lib.hid hcw
        have hcell := (HO.out.own.below.cell (p := ⟨b, off + i, none⟩) hbw).trans hcw
        have hd100 : decide ((i : Int) < 100) = true := decide_eq_true (by omega)
        have hbs : w.heap.size ≤ wr.heap.size := HO.out.own.below.size
        clear hc hz hcw hiz
        by_cases hl : q.length < k
        · go_wp2_with fail
          refine (ord_put HO.out z hl).mono ?_
          rintro e w3 ⟨rfl, B3, h3⟩
          have hcell3 := (h3.own.below.cell (p := ⟨b, off + i, none⟩) hbw).trans HCW.out
          have hbs3 : w.heap.size ≤ w3.heap.size := h3.own.below.size
          have H3 := Lib.hid h3
          clear h3 hcell
          go_wp2_with (at_builtin; refine wpList_append_own_at _ rfl _ _ 33 rfl w.heap.size 9 i0 (.string ⟨#[]⟩) 1 16 Try.underlying33 HI.out HZ0.out HZ1.out HZ2.out rfl (by decide) _ _ _ rfl (H3.out.inr.alloc _) ⟨w3.heap.size, 0, none⟩ 1 1 [.string z] rfl rfl (World.news_of_block (cs := #[.string z]) (t := 9) (fr := (0, 0)) (Go.heap_alloc_new _ _)) (by simp [Value.oneCell']) (by unfold maxLen; omega) (by omega) (by simp; omega) ?_)
          intro v8b w4 hown4 hgrow4 _ hat4
          have HO4 := Lib.hid ((H3.out.on ((Below.refl _ _).alloc (Nat.le_refl _) (.cells #[.string z] 9))).app8 (ys := [z]) hgrow4 hown4 (by simpa using hat4))
          have HQ4 : Hid (ins ++ [z] = outs ++ (q ++ [z])) := by unfold Hid; rw [HQ.out, List.append_assoc]
          have hil4 : (ins ++ [z]).length ≤ i + 1 := by simp; omega
          have hbs4 : w.heap.size ≤ w4.heap.size := HO4.out.own.below.size
          clear hgrow4 hown4 hat4
          by_cases ht1 : i < n2
          · obtain ⟨b2, off2, rfl, hbw2, hc2⟩ := ArgRow.one ha2.out (by omega)
            have hit : i < ts.length := by rw [ha2.out.len]; exact ht1
            obtain ⟨t, ht⟩ : ∃ t, ts[i] = t := ⟨_, rfl⟩
            have hcell2 : w4.cell? ⟨b2, off2 + i, none⟩ = some (.bool t) := by
              rw [HO4.out.own.below.cell (p := ⟨b2, off2 + i, none⟩) hbw2, hc2 i hit]
              exact congrArg (fun q => some (Value.bool q)) ht
            clear hc2 ht hit
            cases t with
            | false =>
              go_wp2_with fail
              go_roundw
              case rel => exact ⟨i + 1, B3, (q ++ [z]), (ins ++ [z]), outs, by omega, by omega, by go_num, HQ4, hil4, by omega, HO4⟩
              case measure => simp [intOf]; omega
            | true =>
              go_wp2_with fail
              obtain ⟨qq, hqq⟩ : ∃ qq, (q ++ [z]) = qq := ⟨_, rfl⟩
              have HQ5 : Hid ((ins ++ [z]) = outs ++ qq) := by rw [← hqq]; exact HQ4
              rw [hqq] at HO4
              clear hqq
              cases qq with
              | nil =>
                refine (ord_take_none HO4.out).mono ?_
                rintro e w5 ⟨rfl, h5⟩
                have HO5 := Lib.hid h5
                clear h5
                go_wp2_with fail
                go_roundw
                case rel => exact ⟨i + 1, B3, [], (ins ++ [z]), outs, by omega, by omega, by go_num, HQ5, hil4, by omega, HO5⟩
                case measure => simp [intOf]; omega
              | cons x qq =>
                refine (ord_take HO4.out).mono ?_
                rintro e w5 ⟨rfl, h5⟩
                have HO5 := Lib.hid h5
                have hbs5 : w.heap.size ≤ w5.heap.size := h5.own.below.size
                clear h5
                go_wp2_with (at_builtin; refine wpList_append_own_at _ rfl _ _ 33 rfl w.heap.size 9 i0 (.string ⟨#[]⟩) 1 16 Try.underlying33 HI.out HZ0.out HZ1.out HZ2.out rfl (by decide) _ _ _ rfl (HO5.out.out.alloc _) ⟨w5.heap.size, 0, none⟩ 1 1 [.string x] rfl rfl (World.news_of_block (cs := #[.string x]) (t := 9) (fr := (0, 0)) (Go.heap_alloc_new _ _)) (by simp [Value.oneCell']) (by unfold maxLen; omega) (by omega) (by simp; omega) ?_)
                intro v9b w6 hown6 hgrow6 _ hat6
                have HO6 := Lib.hid ((HO5.out.on ((Below.refl _ _).alloc (Nat.le_refl _) (.cells #[.string x] 9))).app9 (ys := [x]) hgrow6 hown6 (by simpa using hat6))
                have HQ6 : Hid ((ins ++ [z]) = (outs ++ [x]) ++ qq) := by unfold Hid; rw [HQ5.out, List.append_assoc]; rfl
                have hol6 : (outs ++ [x]).length ≤ i + 1 := by simp; omega
                clear hgrow6 hown6 hat6
                go_wp2_with fail
                go_roundw
                case rel => exact ⟨i + 1, B3, qq, (ins ++ [z]), outs ++ [x], by omega, by omega, by go_num, HQ6, hil4, hol6, HO6⟩
                case measure => simp [intOf]; omega
          · go_wp2_with fail
            go_roundw
            case rel => exact ⟨i + 1, B3, (q ++ [z]), (ins ++ [z]), outs, by omega, by omega, by go_num, HQ4, hil4, by omega, HO4⟩
            case measure => simp [intOf]; omega
        · have hle := HO.out.own.ring.1
          have hqk : q.length = k := by omega
          go_wp2_with fail
          refine (ord_put_full HO.out z hqk).mono ?_
          rintro e w4 ⟨rfl, h4⟩
          have HO4 := Lib.hid h4
          have hil4 : ins.length ≤ i + 1 := by omega
          have hbs4 : w.heap.size ≤ w4.heap.size := HO4.out.own.below.size
          clear h4 hcell
          by_cases ht1 : i < n2
          · obtain ⟨b2, off2, rfl, hbw2, hc2⟩ := ArgRow.one ha2.out (by omega)
            have hit : i < ts.length := by rw [ha2.out.len]; exact ht1
            obtain ⟨t, ht⟩ : ∃ t, ts[i] = t := ⟨_, rfl⟩
            have hcell2 : w4.cell? ⟨b2, off2 + i, none⟩ = some (.bool t) := by
              rw [HO4.out.own.below.cell (p := ⟨b2, off2 + i, none⟩) hbw2, hc2 i hit]
              exact congrArg (fun q => some (Value.bool q)) ht
            clear hc2 ht hit
            cases t with
            | false =>
              go_wp2_with fail
              go_roundw
              case rel => exact ⟨i + 1, B, q, ins, outs, by omega, by omega, by go_num, HQ, hil4, by omega, HO4⟩
              case measure => simp [intOf]; omega
            | true =>
              go_wp2_with fail
              obtain ⟨qq, hqq⟩ : ∃ qq, q = qq := ⟨_, rfl⟩
              have HQ5 : Hid (ins = outs ++ qq) := by rw [← hqq]; exact HQ
              rw [hqq] at HO4
              clear hqq
              cases qq with
              | nil =>
                refine (ord_take_none HO4.out).mono ?_
                rintro e w5 ⟨rfl, h5⟩
                have HO5 := Lib.hid h5
                clear h5
                go_wp2_with fail
                go_roundw
                case rel => exact ⟨i + 1, B, [], ins, outs, by omega, by omega, by go_num, HQ5, hil4, by omega, HO5⟩
                case measure => simp [intOf]; omega
              | cons x qq =>
                refine (ord_take HO4.out).mono ?_
                rintro e w5 ⟨rfl, h5⟩
                have HO5 := Lib.hid h5
                have hbs5 : w.heap.size ≤ w5.heap.size := h5.own.below.size
                clear h5
                go_wp2_with (at_builtin; refine wpList_append_own_at _ rfl _ _ 33 rfl w.heap.size 9 i0 (.string ⟨#[]⟩) 1 16 Try.underlying33 HI.out HZ0.out HZ1.out HZ2.out rfl (by decide) _ _ _ rfl (HO5.out.out.alloc _) ⟨w5.heap.size, 0, none⟩ 1 1 [.string x] rfl rfl (World.news_of_block (cs := #[.string x]) (t := 9) (fr := (0, 0)) (Go.heap_alloc_new _ _)) (by simp [Value.oneCell']) (by unfold maxLen; omega) (by omega) (by simp; omega) ?_)
                intro v9b w6 hown6 hgrow6 _ hat6
                have HO6 := Lib.hid ((HO5.out.on ((Below.refl _ _).alloc (Nat.le_refl _) (.cells #[.string x] 9))).app9 (ys := [x]) hgrow6 hown6 (by simpa using hat6))
                have HQ6 : Hid (ins = (outs ++ [x]) ++ qq) := by unfold Hid; rw [HQ5.out, List.append_assoc]; rfl
                have hol6 : (outs ++ [x]).length ≤ i + 1 := by simp; omega
                clear hgrow6 hown6 hat6
                go_wp2_with fail
                go_roundw
                case rel => exact ⟨i + 1, B, qq, ins, outs ++ [x], by omega, by omega, by go_num, HQ6, hil4, hol6, HO6⟩
                case measure => simp [intOf]; omega
          · go_wp2_with fail
            go_roundw
            case rel => exact ⟨i + 1, B, q, ins, outs, by omega, by omega, by go_num, HQ, hil4, by omega, HO4⟩
            case measure => simp [intOf]; omega
      · have hieq : i = 100 := by omega
        go_wp2_with fail
        refine (ord_clear HO.out).mono ?_
        rintro e w3 ⟨v, rfl, hrow, h3⟩
        have hbs3 : w.heap.size ≤ w3.heap.size := h3.own.below.size
        have hqi : q.length ≤ ins.length := by rw [HQ.out, List.length_append]; omega
        have H3 := Lib.hid h3
        have HROW := Lib.hid hrow
        clear h3 hrow
        go_wp2_with (at_builtin; refine wpList_append_rows _ rfl _ _ 33 rfl w.heap.size 9 i0 (.string ⟨#[]⟩) 1 16 Try.underlying33 HI.out HZ0.out HZ1.out HZ2.out rfl (by decide) _ _ _ rfl H3.out.out wr.heap.size _ _ _ rfl HROW.out (one_cells q) (by unfold maxLen; omega) (by omega) (by omega) ?_)
        intro v9b w6 hown6 hgrow6 hat6
        have h6 := H3.out.app9 (ys := q) hgrow6 hown6 hat6
        rw [← HQ.out] at h6
        obtain ⟨p9, c9, rfl⟩ := row_form h6.out
        obtain ⟨p8, c8, hv8⟩ := row_form h6.inr
        subst hv8
        have H6 := Lib.hid h6
        have hins : ins.length ≤ 100 := by omega
        clear h6 hgrow6 hown6 hat6 HQ HROW H3 hqi
        have hA9 := Lib.hid (row_arg H6.out.out)
        have hA8 := Lib.hid (row_arg H6.out.inr)
        go_wp2_with fail
        refine (ord_len H6.out).mono ?_
        rintro e w7 ⟨rfl, h7⟩
        have h9 := row_arg h7.out
        have h8 := row_arg h7.inr
        have hb7 := h7.own.below
        have H8 := Lib.hid h8
        have H9 := Lib.hid h9
        have HB7 := Lib.hid hb7
        clear h7 h8 h9 hb7 hA8 hA9 H6
        go_wp2_with fail
        go_loopw [13, 83] (fun _ jv wr => ∃ (j : Nat), j ≤ ins.length ∧ jv = .int .i64 j ∧ Hid (Below w.heap.size w wr) ∧ Hid (ArgRow 1 (fun s => [Value.string s]) wr p8 ins.length ins) ∧ Hid (ArgRow 1 (fun s => [Value.string s]) wr p9 ins.length ins)) (fun _ jv _ => ins.length - (intOf jv).toNat)
        case atStart => exact ⟨0, by omega, rfl, HB7, H8, H9⟩
        case round =>
          obtain ⟨j, hj, rfl, HB8, H8, H9⟩ := hrel
          by_cases hjl : j < ins.length
          · obtain ⟨b8, off8, rfl, hbw8, hc8⟩ := ArgRow.one H8.out (by omega)
            obtain ⟨b9, off9, rfl, hbw9, hc9⟩ := ArgRow.one H9.out (by omega)
            obtain ⟨x, hx⟩ : ∃ x, ins[j] = x := ⟨_, rfl⟩
            have e8 := (hc8 j hjl).trans (congrArg (fun q => some (Value.string q)) hx)
            have e9 := (hc9 j hjl).trans (congrArg (fun q => some (Value.string q)) hx)
            clear hc8 hc9 hx
            go_wp2_with fail
            go_quiet (fail)
            go_wp2_with fail
            go_roundw
            case rel => exact ⟨j + 1, by omega, by go_num, below_drewN HB8.out _, H8.out.below (below_drewN (Below.refl _ _) _) (Nat.le_refl _), H9.out.below (below_drewN (Below.refl _ _) _) (Nat.le_refl _)⟩
            case measure => simp [intOf]; omega
          · go_wp2_with fail
            go_ret
            exact ⟨rfl, HB8.out⟩
    · have hieq : i = n := by omega
      go_wp2_with fail
      refine (ord_clear HO.out).mono ?_
      rintro e w3 ⟨v, rfl, hrow, h3⟩
      have hbs3 : w.heap.size ≤ w3.heap.size := h3.own.below.size
      have hqi : q.length ≤ ins.length := by rw [HQ.out, List.length_append]; omega
      have H3 := Lib.hid h3
      have HROW := Lib.hid hrow
      clear h3 hrow
      go_wp2_with (at_builtin; refine wpList_append_rows _ rfl _ _ 33 rfl w.heap.size 9 i0 (.string ⟨#[]⟩) 1 16 Try.underlying33 HI.out HZ0.out HZ1.out HZ2.out rfl (by decide) _ _ _ rfl H3.out.out wr.heap.size _ _ _ rfl HROW.out (one_cells q) (by unfold maxLen; omega) (by omega) (by omega) ?_)
      intro v9b w6 hown6 hgrow6 hat6
      have h6 := H3.out.app9 (ys := q) hgrow6 hown6 hat6
      rw [← HQ.out] at h6
      obtain ⟨p9, c9, rfl⟩ := row_form h6.out
      obtain ⟨p8, c8, hv8⟩ := row_form h6.inr
      subst hv8
      have H6 := Lib.hid h6
      have hins : ins.length ≤ 100 := by omega
      clear h6 hgrow6 hown6 hat6 HQ HROW H3 hqi
      have hA9 := Lib.hid (row_arg H6.out.out)
      have hA8 := Lib.hid (row_arg H6.out.inr)
      go_wp2_with fail
      refine (ord_len H6.out).mono ?_
      rintro e w7 ⟨rfl, h7⟩
      have h9 := row_arg h7.out
      have h8 := row_arg h7.inr
      have hb7 := h7.own.below
      have H8 := Lib.hid h8
      have H9 := Lib.hid h9
      have HB7 := Lib.hid hb7
      clear h7 h8 h9 hb7 hA8 hA9 H6
      go_wp2_with fail
      go_loopw [13, 83] (fun _ jv wr => ∃ (j : Nat), j ≤ ins.length ∧ jv = .int .i64 j ∧ Hid (Below w.heap.size w wr) ∧ Hid (ArgRow 1 (fun s => [Value.string s]) wr p8 ins.length ins) ∧ Hid (ArgRow 1 (fun s => [Value.string s]) wr p9 ins.length ins)) (fun _ jv _ => ins.length - (intOf jv).toNat)
      case atStart => exact ⟨0, by omega, rfl, HB7, H8, H9⟩
      case round =>
        obtain ⟨j, hj, rfl, HB8, H8, H9⟩ := hrel
        by_cases hjl : j < ins.length
        · obtain ⟨b8, off8, rfl, hbw8, hc8⟩ := ArgRow.one H8.out (by omega)
          obtain ⟨b9, off9, rfl, hbw9, hc9⟩ := ArgRow.one H9.out (by omega)
          obtain ⟨x, hx⟩ : ∃ x, ins[j] = x := ⟨_, rfl⟩
          have e8 := (hc8 j hjl).trans (congrArg (fun q => some (Value.string q)) hx)
          have e9 := (hc9 j hjl).trans (congrArg (fun q => some (Value.string q)) hx)
          clear hc8 hc9 hx
          go_wp2_with fail
          go_quiet (fail)
          go_wp2_with fail
          go_roundw
          case rel => exact ⟨j + 1, by omega, by go_num, below_drewN HB8.out _, H8.out.below (below_drewN (Below.refl _ _) _) (Nat.le_refl _), H9.out.below (below_drewN (Below.refl _ _) _) (Nat.le_refl _)⟩
          case measure => simp [intOf]; omega
        · go_wp2_with fail
          go_ret
          exact ⟨rfl, HB8.out⟩

theorem order_law (w : World) (most : Int) (_wf : (Lit.int .i64 most).wf = true) (a : Option Addr) (n cap : Nat) (zs : List ByteArray) (h : IsStrs w a n cap zs) (hn : n * 16 ≤ 140737488351232) (a2 : Option Addr) (n2 cap2 : Nat) (ts : List Bool) (h2 : ArgRow 1 (fun s => [Value.bool s]) w a2 n2 ts) (hn2 : n2 * 1 ≤ 140737488351232) :
    Calls Try.prog 11 #[.int .i64 most, .slice a n cap, .slice a2 n2 cap2] w fun e w' => e = .returned (.bool true) ∧ Below w.heap.size w w' := by
  obtain ⟨r, hr⟩ : ∃ r : Int, (if (50 : Int) < most then 50 else most) = r := ⟨_, rfl⟩
  have hr1 : r ≤ 50 := by rw [← hr]; split <;> omega
  obtain ⟨k, hk, hk1, hk2⟩ : ∃ k : Nat, (if (1 : Int) < r then r else 1) = (k : Int) ∧ 1 ≤ k ∧ k ≤ 50 := by
    split
    · exact ⟨r.toNat, by omega, by omega, by omega⟩
    · exact ⟨1, rfl, by omega, by omega⟩
  exact orderLaw most r a a2 n cap n2 cap2 k _ ts w h.row.1 (by omega) h2 (by omega) hr hk hk1 hk2
end Go.Proofs.Ytljncbbajhoocaa.OrderLaw
