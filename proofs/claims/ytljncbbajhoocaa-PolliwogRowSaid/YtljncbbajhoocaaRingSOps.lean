/-
Package ring at one instance, part 5: Put and Take of whatever row that holds a list: what is taken is the first one; what is put is the last one, unless there are as many as may be. No condition but that.
-/
import Derived.Test.YtljncbbajhoocaaRingSGrow
namespace Go.Proofs.Ytljncbbajhoocaa.RingS
open Go.RowKit Go.Proofs.Ytljncbbajhoocaa.Args Go.Proofs.YtljncbbajhoocaaW.PrintMore

set_option maxHeartbeats 2000000 in
set_option maxRecDepth 100000 in
theorem put_full (R at_ most : Nat) (lv v : Value) (w : World) (h : Fields w R lv at_ most most) (hm : most ≤ 4096) :
    Calls Try.prog 29 #[.pointer (some ⟨R, 0, none⟩), v] w fun e w' => e = .returned (.int .i64 7) ∧ ∃ m, w' = w.drewN m := by
  have hr := room_calls R at_ most most lv w h (Nat.le_refl _) (by omega)
  rw [Nat.sub_self] at hr
  have HR := Lib.hid hr
  clear hr
  go_enter Try.func29, Try.ntmps29
  go_wp2_with fail
  refine HR.out.mono ?_
  rintro e w' ⟨rfl, m, rfl⟩
  go_wp2_with fail
  go_ret
  exact ⟨rfl, m, rfl⟩

set_option maxHeartbeats 2000000 in
set_option maxRecDepth 100000 in
theorem put_room (S : Nat → Prop) (w0 : World) (R b n cap at_ len most p : Nat) (cur : Array Value) (x : ByteArray) (w : World) (h : St S w0 R b (.slice (some ⟨b, 0, none⟩) n cap) at_ len most cur w) (hne : b ≠ R) (hSR : S R ∨ w0.heap.size ≤ R) (hSb : S b ∨ w0.heap.size ≤ b)
    (ha : at_ < n) (hn : n ≤ 4096) (hm : most ≤ 4096) (hln : len < n) (hlm : len < most) (hcz : n ≤ cur.size) (hp : p = (at_ + len) % n) :
    Calls Try.prog 29 #[.pointer (some ⟨R, 0, none⟩), Value.string x] w fun e w' => e = .returned (.int .i64 0) ∧ St S w0 R b (.slice (some ⟨b, 0, none⟩) n cap) at_ (len + 1) most (cur.setIfInBounds p (Value.string x)) w' := by
  obtain ⟨d, hd⟩ : ∃ d, most - len = d := ⟨_, rfl⟩
  have hr := room_calls R at_ len most _ w h.fld (by omega) (by omega)
  rw [hd] at hr
  have hd0 : ((d : Int) == 0) = false := by rw [beq_eq_false_iff_ne]; omega
  have hpn : p < n := by rw [hp]; exact Nat.mod_lt _ (by omega)
  have HR := Lib.hid hr
  have HS := Lib.hid h
  have hl0 : ((len : Int) == (n : Int)) = false := by rw [beq_eq_false_iff_ne]; omega
  have hl1 : (len == n) = false := by rw [beq_eq_false_iff_ne]; omega
  have hplace : ∀ W, Fields W R (.slice (some ⟨b, 0, none⟩) n cap) at_ len most → Calls Try.prog 58 #[.pointer (some ⟨R, 0, none⟩), .int .i64 (len : Int)] W fun e w' => e = .returned (.int .i64 (p : Int)) ∧ ∃ m, w' = W.drewN m := fun W hW => by
    rw [hp]; exact place_calls R b n cap at_ len most len W hW (by omega) (by omega) (by omega)
  have HPL := Lib.hid hplace
  have h0 := h.fld.c0
  have h2 := h.fld.c2
  have hkeep : ∀ W cur', St S w0 R b (.slice (some ⟨b, 0, none⟩) n cap) at_ len most cur' W → W.cell? ⟨R, 0, none⟩ = some (.slice (some ⟨b, 0, none⟩) n cap) ∧ W.cell? ⟨R, 2, none⟩ = some (.int .i64 len) ∧ Fields W R (.slice (some ⟨b, 0, none⟩) n cap) at_ len most :=
    fun W cur' hW => ⟨hW.fld.c0, hW.fld.c2, hW.fld⟩
  have HK := Lib.hid hkeep
  obtain ⟨old, hold⟩ : ∃ old, w.cell? ⟨b, p, none⟩ = some old := ⟨cur[p], by rw [cell_of_row _ _ _ _ _ _ h.blk]; exact Array.getElem?_eq_getElem (by omega)⟩
  have HOLD := Lib.hid hold
  have hfr := h.free p
  have p0 : (0 : Int) ≤ (p : Int) := by omega
  have p1 : (p : Int) < (n : Int) := by omega
  clear hr h hplace hkeep hd hp
  go_enter Try.func29, Try.ntmps29
  go_wp2_with fail
  refine HR.out.mono ?_
  rintro e w' ⟨rfl, m, rfl⟩
  go_wp2_with fail
  go_quiet (fail)
  go_wp2_with fail
  clear h0 h2 hold hfr
  refine code_world (F := fun W => St S w0 R b (.slice (some ⟨b, 0, none⟩) n cap) at_ len most cur W ∧ W.cell? ⟨b, p, none⟩ = some old) ⟨(HS.out.drewN _).drewN _, HOLD.out⟩ ?_
  rintro W1 ⟨hS1, hold⟩
  have h0 := hS1.fld.c0
  have h2 := hS1.fld.c2
  have hfr := hS1.free p
  have HS1 := Lib.hid hS1
  clear hS1
  go_region_held3 (fun W => W.cell? ⟨R, 0, none⟩ = some (.slice (some ⟨b, 0, none⟩) n cap) ∧ W.cell? ⟨R, 2, none⟩ = some (.int .i64 len) ∧ Fields W R (.slice (some ⟨b, 0, none⟩) n cap) at_ len most)
    (first | exact HK.out _ _ HS1.out.drew | exact HK.out _ _ (HS1.out.drewN _) | exact HK.out _ _ ((HS1.out.setb p _ hne hSb).drewN _) | exact HK.out _ _ ((HS1.out.drewN _).setb p _ hne hSb))
    (first | (go_at_call 58; ((with_reducible refine (HPL.out _ ?_).mono ?_); (exact (HS1.out.drewN _).fld); rintro e w' ⟨rfl, m2, rfl⟩)))
  clear h0 h2 hfr hold
  refine end_world (F := St S w0 R b (.slice (some ⟨b, 0, none⟩) n cap) at_ len most (cur.setIfInBounds p (Value.string x))) ?_ ?_
  · first | exact (HS1.out.setb p _ hne hSb).drewN _ | exact (HS1.out.drewN _).setb p _ hne hSb
  intro W2 hS2
  have f2 := hS2.fld.free 2
  have k2 := hS2.fld.c2
  have HS2 := Lib.hid hS2
  clear hS2
  go_wp2
  go_ret
  exact ⟨rfl, HS2.out.set2 (len + 1) hne hSR⟩

def PutGrown (w : World) (R most : Nat) (q : List ByteArray) (x : ByteArray) (e : Ending) (w' : World) : Prop :=
  e = .returned (.int .i64 0) ∧ ∃ (b n : Nat) (cur : Array Value), w.heap.size ≤ b ∧ St (fun k => k = R) w R b (.slice (some ⟨b, 0, none⟩) n n) 0 (q.length + 1) most (cur.setIfInBounds q.length (Value.string x)) w' ∧ q.length < n ∧ n ≤ most ∧ cur.size = n ∧ One cur ∧ ∀ i (h : i < q.length), cur[i]? = some (Value.string q[i])
set_option maxHeartbeats 2000000 in
set_option maxRecDepth 100000 in
theorem put_grow (R : Nat) (B : Option Nat) (lp : Option Addr) (cap0 at_ most : Nat) (q : List ByteArray) (x : ByteArray) (w : World) (hRing : Ring w R B most q) (hF : Fields w R (.slice lp q.length cap0) at_ q.length most) (hlm : q.length < most) (hm : most ≤ 4096) :
    Calls Try.prog 29 #[.pointer (some ⟨R, 0, none⟩), Value.string x] w (PutGrown w R most q x) := by
  obtain ⟨d, hd⟩ : ∃ d, most - q.length = d := ⟨_, rfl⟩
  have hr := room_calls R at_ q.length most _ w hF (by omega) (by omega)
  rw [hd] at hr
  have hd0 : ((d : Int) == 0) = false := by rw [beq_eq_false_iff_ne]; omega
  have HR := Lib.hid hr
  have HRING := Lib.hid hRing
  have HFF := Lib.hid hF
  obtain ⟨m1, hm1⟩ : ∃ m1 : Nat, (if (4 : Int) < 2 * (q.length : Int) then 2 * (q.length : Int) else 4) = (m1 : Int) := by
    split
    · exact ⟨2 * q.length, by omega⟩
    · exact ⟨4, rfl⟩
  obtain ⟨n1, hn1⟩ : ∃ n1 : Nat, (if m1 < most then (m1 : Int) else (most : Int)) = (n1 : Int) := by
    split
    · exact ⟨m1, rfl⟩
    · exact ⟨most, rfl⟩
  have HG := Lib.hid (fun W (hb : Below w.heap.size w W) => grow_calls R B lp q.length cap0 at_ most m1 n1 q W (hRing.below hb) (hF.on (hb.block R hF.lt)) rfl hlm hm hm1 hn1)
  have h0 := hF.c0
  have h2 := hF.c2
  clear hr hRing hF hm1 hn1 hd
  go_enter Try.func29, Try.ntmps29
  go_wp2_with fail
  refine HR.out.mono ?_
  rintro e w' ⟨rfl, m, rfl⟩
  go_wp2_with fail
  go_quiet (fail)
  go_wp2_with fail
  clear h0 h2
  refine calls_world (F := fun W => Below w.heap.size w W) (below_drewN (Below.refl _ _) _) ?_
  intro W0 hW0
  have HW0 := Lib.hid hW0
  clear hW0
  refine (HG.out W0 HW0.out).mono ?_
  rintro e W1 ⟨rfl, b, n, cur, hbs, hS0, hqn, hnm, hcz, hone, hcur⟩
  have HONE := Lib.hid hone
  have hS1 : St (fun k => k = R) w R b (.slice (some ⟨b, 0, none⟩) n n) 0 q.length most cur W1 := ⟨hS0.fld, hS0.blk, (Mod.of_below HW0.out _).trans hS0.mod⟩
  have hbs2 : w.heap.size ≤ b := Nat.le_trans HW0.out.size hbs
  have hne : b ≠ R := by have := HFF.out.lt; omega
  have hSb : (fun k => k = R) b ∨ w.heap.size ≤ b := .inr hbs2
  have HCUR := Lib.hid hcur
  have HCZ := Lib.hid hcz
  have hp : q.length = (0 + q.length) % n := by rw [Nat.zero_add, Nat.mod_eq_of_lt hqn]
  have hplace : ∀ W, Fields W R (.slice (some ⟨b, 0, none⟩) n n) 0 q.length most → Calls Try.prog 58 #[.pointer (some ⟨R, 0, none⟩), .int .i64 (q.length : Int)] W fun e w' => e = .returned (.int .i64 (q.length : Int)) ∧ ∃ m, w' = W.drewN m := fun W hW => by
    have h := place_calls R b n n 0 q.length most q.length W hW (by omega) (by omega) (by omega)
    rw [← hp] at h
    exact h
  have HPL := Lib.hid hplace
  have hkeep : ∀ W cur', St (fun k => k = R) w R b (.slice (some ⟨b, 0, none⟩) n n) 0 q.length most cur' W → W.cell? ⟨R, 0, none⟩ = some (.slice (some ⟨b, 0, none⟩) n n) ∧ W.cell? ⟨R, 2, none⟩ = some (.int .i64 q.length) ∧ Fields W R (.slice (some ⟨b, 0, none⟩) n n) 0 q.length most :=
    fun W cur' hW => ⟨hW.fld.c0, hW.fld.c2, hW.fld⟩
  have HK := Lib.hid hkeep
  obtain ⟨old, hold⟩ : ∃ old, W1.cell? ⟨b, q.length, none⟩ = some old := ⟨cur[q.length], by rw [cell_of_row _ _ _ _ _ _ hS1.blk]; exact Array.getElem?_eq_getElem (by omega)⟩
  have p0 : (0 : Int) ≤ (q.length : Int) := by omega
  have p1 : (q.length : Int) < (n : Int) := by omega
  have h0 := hS1.fld.c0
  have h2 := hS1.fld.c2
  have hfr := hS1.free q.length
  have HS1 := Lib.hid hS1
  clear hS1 hS0 hcur hcz hone hp hplace hkeep
  go_wp2_with fail
  go_region_held3 (fun W => W.cell? ⟨R, 0, none⟩ = some (.slice (some ⟨b, 0, none⟩) n n) ∧ W.cell? ⟨R, 2, none⟩ = some (.int .i64 q.length) ∧ Fields W R (.slice (some ⟨b, 0, none⟩) n n) 0 q.length most)
    (first | exact HK.out _ _ HS1.out.drew | exact HK.out _ _ (HS1.out.drewN _) | exact HK.out _ _ ((HS1.out.setb q.length _ hne hSb).drewN _) | exact HK.out _ _ ((HS1.out.drewN _).setb q.length _ hne hSb))
    (first | (go_at_call 58; ((with_reducible refine (HPL.out _ ?_).mono ?_); (exact (HS1.out.drewN _).fld); rintro e w' ⟨rfl, m2, rfl⟩)))
  clear h0 h2 hfr hold
  refine end_world (F := St (fun k => k = R) w R b (.slice (some ⟨b, 0, none⟩) n n) 0 q.length most (cur.setIfInBounds q.length (Value.string x))) ?_ ?_
  · first | exact (HS1.out.setb q.length _ hne hSb).drewN _ | exact (HS1.out.drewN _).setb q.length _ hne hSb
  intro W2 hS2
  have f2 := hS2.fld.free 2
  have k2 := hS2.fld.c2
  have HS2 := Lib.hid hS2
  clear hS2
  go_wp2
  go_ret
  exact ⟨rfl, b, n, cur, hbs2, HS2.out.set2 (q.length + 1) hne (.inl rfl), hqn, hnm, HCZ.out, HONE.out, HCUR.out⟩

/-- Where the i-th one is. -/
theorem idx {a i n : Nat} (ha : a < n) (hi : i < n) : (a + i) % n = if a + i < n then a + i else a + i - n := by
  split
  · exact Nat.mod_eq_of_lt (by assumption)
  · rw [Nat.mod_eq_sub_mod (by omega), Nat.mod_eq_of_lt (by omega)]
/-- Put, of whatever row. -/
def Putted (w : World) (R : Nat) (B : Option Nat) (most : Nat) (q : List ByteArray) (x : ByteArray) (e : Ending) (w' : World) : Prop :=
  e = .returned (.int .i64 0) ∧ ∃ B', Ring w' R B' most (q ++ [x]) ∧ (B' = B ∨ ∃ b, B' = some b ∧ w.heap.size ≤ b) ∧ Mod (fun k => k = R ∨ some k = B) w w'
theorem put_calls (R : Nat) (B : Option Nat) (most : Nat) (q : List ByteArray) (x : ByteArray) (w : World) (h : Ring w R B most q) (hlt : q.length < most) :
    Calls Try.prog 29 #[.pointer (some ⟨R, 0, none⟩), Value.string x] w (Putted w R B most q x) := by
  have hr := h
  obtain ⟨h1, h2, h3⟩ := h
  have grown : ∀ (lp : Option Addr) (cap0 at_ : Nat), Fields w R (.slice lp q.length cap0) at_ q.length most → Calls Try.prog 29 #[.pointer (some ⟨R, 0, none⟩), Value.string x] w (Putted w R B most q x) := by
    intro lp cap0 at_ hF
    refine (put_grow R B lp cap0 at_ most q x w hr hF hlt h2).mono ?_
    rintro e w' ⟨rfl, b, n, cur, hb, hS, hqn, hnm, hcz, hone, hcur⟩
    refine ⟨rfl, some b, ⟨by simp; omega, h2, .inr ⟨b, 0, n, n, _, rfl, by have := hF.lt; omega, by simpa using hS.fld, hS.blk, ⟨by simp; omega, fun u hu => hone.set _ _ rfl u (List.mem_of_mem_take hu)⟩, by omega, hnm, by simp; omega, ?_⟩⟩, .inr ⟨b, rfl, hb⟩, hS.mod.mono (fun k _ hk => .inl hk)⟩
    intro i hi
    have hi2 : i < q.length + 1 := by simpa using hi
    rw [Nat.zero_add, Nat.mod_eq_of_lt (by omega)]
    by_cases e : i = q.length
    · subst e
      rw [Array.getElem?_setIfInBounds_self_of_lt (by omega)]; simp
    · rw [Array.getElem?_setIfInBounds_ne (fun e2 => e e2.symm), hcur i (by omega), List.getElem_append_left]
  rcases h3 with ⟨e1, rfl, e3⟩ | ⟨b, at_, n, cap, cur, e1, e2, e3, e4, e5, e6, e7, e8, e9⟩
  · exact grown none 0 0 e3
  · have e5z := e5.size
    by_cases hfull : q.length = n
    · exact grown (some ⟨b, 0, none⟩) cap at_ (by rw [hfull]; rw [hfull] at e3; exact e3)
    · refine (put_room (fun k => k = R ∨ k = b) w R b n cap at_ q.length most _ cur x w ⟨e3, e4, Mod.of_below (Below.refl _ _) _⟩ e2 (.inl (.inl rfl)) (.inl (.inr rfl)) e6 (by omega) h2 (by omega) hlt e5.size rfl).mono ?_
      rintro e w' ⟨rfl, hS⟩
      refine ⟨rfl, B, ⟨by simp; omega, h2, .inr ⟨b, at_, n, cap, _, e1, e2, by simpa using hS.fld, hS.blk, e5.set _ _ rfl, e6, e7, by simp; omega, ?_⟩⟩, .inl rfl, hS.mod.mono (fun k _ hk => by rcases hk with hk | hk; exact .inl hk; exact .inr (by rw [hk, e1]))⟩
      intro i hi
      have hi2 : i < q.length + 1 := by simpa using hi
      have hq : q.length < n := by omega
      by_cases e : i = q.length
      · subst e
        have hp := Nat.mod_lt (at_ + q.length) (show 0 < n by omega)
        rw [Array.getElem?_setIfInBounds_self_of_lt (by omega)]; simp
      · have hj : (at_ + q.length) % n ≠ (at_ + i) % n := by
          rw [idx e6 hq, idx e6 (by omega : i < n)]; split <;> split <;> omega
        rw [Array.getElem?_setIfInBounds_ne hj, e9 i (by omega), List.getElem_append_left]
/-- Put, where there are as many as may be. -/
theorem put_calls_full (R : Nat) (B : Option Nat) (most : Nat) (q : List ByteArray) (x : ByteArray) (w : World) (h : Ring w R B most q) (hlt : q.length = most) :
    Calls Try.prog 29 #[.pointer (some ⟨R, 0, none⟩), Value.string x] w fun e w' => e = .returned (.int .i64 7) ∧ ∃ m, w' = w.drewN m := by
  obtain ⟨h1, h2, h3⟩ := h
  rcases h3 with ⟨_, rfl, e3⟩ | ⟨b, at_, n, cap, cur, _, _, e3, _⟩
  · simp at hlt; subst hlt; exact put_full R 0 0 _ _ w e3 (by omega)
  · rw [hlt] at e3; exact put_full R at_ most _ _ w e3 h2

set_option maxHeartbeats 1000000 in
theorem take_none (R most : Nat) (B : Option Nat) (w : World) (h : Ring w R B most []) :
    Calls Try.prog 27 #[.pointer (some ⟨R, 0, none⟩)] w fun e w' => e = .returned (.tuple #[(.string ⟨#[]⟩), .int .i64 9]) ∧ w = w' := by
  obtain ⟨lv, at_, hF⟩ : ∃ lv at_, Fields w R lv at_ 0 most := by
    obtain ⟨_, _, h3⟩ := h
    rcases h3 with ⟨_, _, e3⟩ | ⟨b, at_, n, cap, cur, _, _, e3, _⟩
    · exact ⟨_, _, e3⟩
    · exact ⟨_, _, e3⟩
  have HF := Lib.hid (first_none R at_ most lv w hF)
  clear hF h
  go_enter Try.func27, Try.ntmps27
  go_wp2_with fail
  refine HF.out.mono ?_
  rintro e w' ⟨rfl, rfl⟩
  go_wp2_with fail
  go_ret2
  exact ⟨rfl, rfl⟩
/-- Take, where there is one. -/
theorem take_calls (R : Nat) (B : Option Nat) (most : Nat) (q : List ByteArray) (x : ByteArray) (w : World) (h : Ring w R B most (x :: q)) :
    Calls Try.prog 27 #[.pointer (some ⟨R, 0, none⟩)] w fun e w' => e = .returned (.tuple #[Value.string x, .int .i64 0]) ∧ Ring w' R B most q ∧ Mod (fun k => k = R ∨ some k = B) w w' := by
  obtain ⟨h1, h2, h3⟩ := h
  simp only [List.length_cons] at h1
  rcases h3 with ⟨_, h, _⟩ | ⟨b, at_, n, cap, cur, e1, e2, e3, e4, e5, e6, e7, e8, e9⟩
  · cases h
  · simp only [List.length_cons] at e3 e8
    have hx := e9 0 (by simp)
    rw [Nat.add_zero, Nat.mod_eq_of_lt e6] at hx
    refine (take_cells R b n cap at_ q.length most _ cur x w ⟨e3, e4, Mod.of_below (Below.refl _ _) _⟩ e2 e6 (by omega) (by omega) hx rfl).mono ?_
    rintro e w' ⟨rfl, hS⟩
    have ha := Nat.mod_lt (at_ + 1) (show 0 < n by omega)
    refine ⟨rfl, ⟨by omega, h2, .inr ⟨b, (at_ + 1) % n, n, cap, _, e1, e2, hS.fld, hS.blk, e5.set _ _ rfl, ha, e7, by omega, ?_⟩⟩, hS.mod.mono (fun k _ hk => by rcases hk with hk | hk; exact .inl hk; exact .inr (by rw [hk, e1]))⟩
    intro i hi
    have h9 := e9 (i + 1) (by simpa using hi)
    have e : ((at_ + 1) % n + i) % n = (at_ + (i + 1)) % n := by rw [Nat.mod_add_mod]; congr 1; omega
    have hj : at_ ≠ (at_ + (i + 1)) % n := by rw [idx e6 (by omega : i + 1 < n)]; split <;> omega
    rw [e, Array.getElem?_setIfInBounds_ne hj, h9]
    simp
end Go.Proofs.Ytljncbbajhoocaa.RingS
