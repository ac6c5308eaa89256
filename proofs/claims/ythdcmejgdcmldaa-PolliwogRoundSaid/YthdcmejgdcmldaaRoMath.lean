/-
Sets of whole numbers as spans, in plain Lean: what is merged has something between any two; numbers added one by one, as they rise, make the spans that they came of. Conditions: the numbers lie from 0 on, up to 200.
-/
namespace Go.Proofs.Ythdcmejgdcmldaa.Ro

abbrev Sp := Int × Int
/-- One span more. -/
def mergeStep (out : List Sp) (x : Sp) : List Sp :=
  match out.getLast? with
  | some l => if x.1 ≤ l.2 then out.dropLast ++ [(l.1, if l.2 < x.2 then x.2 else l.2)] else out ++ [x]
  | none => [x]
def mergeL (l : List Sp) : List Sp := l.foldl mergeStep []
def okB (x : Sp) : Prop := 0 ≤ x.1 ∧ x.1 < x.2 ∧ x.2 ≤ 200
structure Canon (l : List Sp) : Prop where
  ok : ∀ x ∈ l, okB x
  apart : l.Pairwise (fun a b => a.2 < b.1)
theorem mergeStep_nil (x : Sp) : mergeStep [] x = [x] := rfl
theorem mergeStep_far {out : List Sp} {x : Sp} (h : ∀ y ∈ out, y.2 < x.1) : mergeStep out x = out ++ [x] := by
  unfold mergeStep
  split
  · rename_i l hl
    rw [if_neg]
    have := h l (List.mem_of_getLast? hl)
    omega
  · rename_i hl
    rw [List.getLast?_eq_none_iff] at hl
    subst hl
    rfl
theorem mergeStep_near (init : List Sp) (l x : Sp) (h : x.1 ≤ l.2) : mergeStep (init ++ [l]) x = init ++ [(l.1, if l.2 < x.2 then x.2 else l.2)] := by
  unfold mergeStep
  simp [h]
theorem Canon.nil : Canon [] := ⟨fun x hx => by simp at hx, List.Pairwise.nil⟩
theorem Canon.far {out : List Sp} {x : Sp} (h : Canon out) (hx : okB x) (hf : ∀ y ∈ out, y.2 < x.1) : Canon (out ++ [x]) := by
  refine ⟨fun y hy => ?_, ?_⟩
  · rcases List.mem_append.1 hy with h1 | h1
    · exact h.ok y h1
    · simp at h1; subst h1; exact hx
  · rw [List.pairwise_append]
    exact ⟨h.apart, by simp, fun a ha b hb => by simp at hb; subst hb; exact hf a ha⟩
theorem Canon.near {init : List Sp} {l x : Sp} (h : Canon (init ++ [l])) (hx : okB x) : Canon (init ++ [(l.1, if l.2 < x.2 then x.2 else l.2)]) := by
  have hl := h.ok l (by simp)
  have hp := h.apart
  rw [List.pairwise_append] at hp
  refine ⟨fun y hy => ?_, ?_⟩
  · rcases List.mem_append.1 hy with h1 | h1
    · exact h.ok y (by simp [h1])
    · simp at h1
      subst h1
      unfold okB at *
      refine ⟨hl.1, ?_, ?_⟩ <;> (simp only []; split <;> omega)
  · rw [List.pairwise_append]
    refine ⟨hp.1, by simp, fun a ha b hb => ?_⟩
    simp at hb
    subst hb
    exact hp.2.2 a ha l (by simp)
theorem Canon.last {init : List Sp} {l : Sp} (h : Canon (init ++ [l])) : ∀ y ∈ init, y.2 < l.1 := fun y hy => by
  have hp := h.apart
  rw [List.pairwise_append] at hp
  exact hp.2.2 y hy l (by simp)
theorem Canon.init {init : List Sp} {l : Sp} (h : Canon (init ++ [l])) : Canon init := by
  have hp := h.apart
  rw [List.pairwise_append] at hp
  exact ⟨fun x hx => h.ok x (by simp [hx]), hp.1⟩
theorem Canon.step {out : List Sp} {x : Sp} (h : Canon out) (hx : okB x) : Canon (mergeStep out x) := by
  rcases List.eq_nil_or_concat out with rfl | ⟨init, l, rfl⟩
  · exact h.far hx (by simp)
  · rw [List.concat_eq_append] at h ⊢
    by_cases hc : x.1 ≤ l.2
    · rw [mergeStep_near _ _ _ hc]; exact h.near hx
    · have hl := h.ok l (by simp)
      have hf : ∀ y ∈ init ++ [l], y.2 < x.1 := fun y hy => by
        rcases List.mem_append.1 hy with h1 | h1
        · have := h.last y h1
          unfold okB at hl
          omega
        · simp at h1; subst h1; omega
      rw [mergeStep_far hf]; exact h.far hx hf
theorem canon_fold (l : List Sp) : ∀ (out : List Sp), Canon out → (∀ x ∈ l, okB x) → Canon (l.foldl mergeStep out) := by
  induction l with
  | nil => intro out h _; exact h
  | cons x l ih => intro out h hl; exact ih _ (h.step (hl x (by simp))) (fun y hy => hl y (by simp [hy]))
theorem canon_merge {l : List Sp} (h : ∀ x ∈ l, okB x) : Canon (mergeL l) := canon_fold l [] Canon.nil h
theorem step_len (out : List Sp) (x : Sp) : (mergeStep out x).length ≤ out.length + 1 := by
  unfold mergeStep
  split
  · split <;> simp <;> omega
  · simp
theorem fold_len (l : List Sp) : ∀ out : List Sp, (l.foldl mergeStep out).length ≤ out.length + l.length := by
  induction l with
  | nil => intro out; simp
  | cons x l ih => intro out; have h1 := ih (mergeStep out x); have h2 := step_len out x; simp only [List.foldl_cons, List.length_cons]; omega
theorem merge_len (l : List Sp) : (mergeL l).length ≤ l.length := by
  have := fold_len l []
  simpa [mergeL] using this
/-- What has something between any two is merged already. -/
theorem merge_canon {l : List Sp} (h : Canon l) : mergeL l = l := by
  have key : ∀ (n : Nat) (l : List Sp), l.length = n → Canon l → mergeL l = l := by
    intro n
    induction n with
    | zero => intro l hl _; rw [List.length_eq_zero_iff.1 hl]; rfl
    | succ n ih =>
      intro l hl h
      rcases List.eq_nil_or_concat l with rfl | ⟨init, x, rfl⟩
      · rfl
      · rw [List.concat_eq_append] at h hl ⊢
        have h1 := ih init (by simpa using hl) h.init
        unfold mergeL at h1 ⊢
        rw [List.foldl_append, h1]
        exact mergeStep_far h.last
  exact key _ l rfl h
def one (i : Int) : Sp := (i, i + 1)
/-- The spans of numbers that rise. -/
def backs (l : List Int) : List Sp := l.foldl (fun o i => mergeStep o (one i)) []
theorem backs_snoc (l : List Int) (i : Int) : backs (l ++ [i]) = mergeStep (backs l) (one i) := by
  unfold backs; rw [List.foldl_append]; rfl
/-- The spans lie below what comes, and their last number was one. -/
theorem backs_ok (n : Nat) : ∀ (l : List Int), l.length = n → (l.Pairwise (· < ·)) → (∀ i ∈ l, 0 ≤ i ∧ i < 200) → Canon (backs l) ∧ ∀ j, (∀ i ∈ l, i < j) → ∀ y ∈ backs l, y.2 ≤ j := by
  induction n with
  | zero => intro l hl _ _; rw [List.length_eq_zero_iff.1 hl]; exact ⟨Canon.nil, fun j _ y hy => by simp [backs] at hy⟩
  | succ n ih =>
    intro l hl hp hb
    rcases List.eq_nil_or_concat l with rfl | ⟨init, x, rfl⟩
    · simp at hl
    · rw [List.concat_eq_append] at *
      rw [List.pairwise_append] at hp
      obtain ⟨h1, h2⟩ := ih init (by simpa using hl) hp.1 (fun i hi => hb i (by simp [hi]))
      have hx := hb x (by simp)
      have hxo : okB (one x) := by unfold okB one; simp only []; omega
      rw [backs_snoc]
      refine ⟨h1.step hxo, fun j hj y hy => ?_⟩
      have hxj := hj x (by simp)
      have h3 := h2 x (fun i hi => hp.2.2 i hi x (by simp))
      rcases List.eq_nil_or_concat (backs init) with hn | ⟨bi, l, hn⟩
      · rw [hn] at hy
        rw [mergeStep_nil] at hy
        simp at hy
        subst hy
        unfold one; simp only []; omega
      · rw [List.concat_eq_append] at hn
        rw [hn] at hy h3
        by_cases hc : (one x).1 ≤ l.2
        · rw [mergeStep_near _ _ _ hc] at hy
          rcases List.mem_append.1 hy with h4 | h4
          · have := h3 y (by simp [h4]); omega
          · simp at h4
            subst h4
            have := h3 l (by simp)
            unfold one; simp only []; split <;> omega
        · have hfar : ∀ y ∈ bi ++ [l], y.2 < (one x).1 := fun y hy2 => by
            rw [hn] at h1
            have hl := h1.ok l (by simp)
            unfold okB at hl
            rcases List.mem_append.1 hy2 with h5 | h5
            · have := h1.last y h5; omega
            · simp at h5; subst h5; omega
          rw [mergeStep_far hfar] at hy
          rcases List.mem_append.1 hy with h4 | h4
          · have := h3 y h4; omega
          · simp at h4
            subst h4
            unfold one; simp only []; omega
/-- The numbers of a span. -/
def nums (x : Sp) : List Int := (List.range (x.2 - x.1).toNat).map (fun (k : Nat) => x.1 + (k : Int))
def listL (l : List Sp) : List Int := l.flatMap nums
theorem mem_nums {x : Sp} {i : Int} (h : i ∈ nums x) : x.1 ≤ i ∧ i < x.2 := by
  unfold nums at h
  rw [List.mem_map] at h
  obtain ⟨k, hk, rfl⟩ := h
  rw [List.mem_range] at hk
  omega
theorem nums_rise (x : Sp) : (nums x).Pairwise (· < ·) := by
  unfold nums
  rw [List.pairwise_map]
  exact List.pairwise_lt_range.imp (fun h => by omega)
theorem list_rise {l : List Sp} (h : Canon l) : (listL l).Pairwise (· < ·) := by
  unfold listL
  rw [List.pairwise_flatMap]
  refine ⟨fun x _ => nums_rise x, h.apart.imp fun {a b} hab x hx y hy => ?_⟩
  have h1 := mem_nums hx
  have h2 := mem_nums hy
  omega
theorem list_bound {l : List Sp} (h : Canon l) : ∀ i ∈ listL l, 0 ≤ i ∧ i < 200 := fun i hi => by
  unfold listL at hi
  rw [List.mem_flatMap] at hi
  obtain ⟨x, hx, hi⟩ := hi
  have h1 := h.ok x hx
  have h2 := mem_nums hi
  unfold okB at h1
  omega
theorem rise_len (n : Nat) : ∀ (l : List Int) (a b : Int), l.length = n → l.Pairwise (· < ·) → (∀ i ∈ l, a ≤ i ∧ i < b) → (l.length : Int) ≤ max 0 (b - a) := by
  induction n with
  | zero => intro l a b hl _ _; rw [hl]; omega
  | succ n ih =>
    intro l a b hl hp hb
    cases l with
    | nil => simp at hl
    | cons x l =>
      rw [List.pairwise_cons] at hp
      have h1 := hb x (by simp)
      have h2 := ih l (x + 1) b (by simpa using hl) hp.2 (fun i hi => ⟨by have := hp.1 i hi; omega, (hb i (by simp [hi])).2⟩)
      simp only [List.length_cons]
      omega
theorem list_len {l : List Sp} (h : Canon l) : (listL l).length ≤ 200 := by
  have := rise_len _ (listL l) 0 200 rfl (list_rise h) (list_bound h)
  omega
theorem foldl_range (a : Int) (init : List Sp) (hf : ∀ y ∈ init, y.2 < a) (n : Nat) : ((List.range (n + 1)).map (fun (k : Nat) => a + (k : Int))).foldl (fun o i => mergeStep o (one i)) init = init ++ [(a, a + (n + 1 : Nat))] := by
  induction n with
  | zero =>
    simp only [Nat.zero_add, List.range_one, List.map_cons, List.map_nil, List.foldl_cons, List.foldl_nil]
    rw [mergeStep_far (by unfold one; simpa using hf)]
    unfold one
    simp
  | succ n ih =>
    rw [List.range_succ, List.map_append, List.foldl_append, ih]
    simp only [List.map_cons, List.map_nil, List.foldl_cons, List.foldl_nil]
    rw [mergeStep_near _ _ _ (by unfold one; simp only []; omega)]
    congr 1
    unfold one
    simp only []
    rw [if_pos (by omega)]
    congr 2
    omega
/-- Numbers of a set, added one by one, make the set. -/
theorem backs_list {s : List Sp} (h : Canon s) : backs (listL s) = s := by
  have key : ∀ (n : Nat) (s : List Sp), s.length = n → Canon s → backs (listL s) = s := by
    intro n
    induction n with
    | zero => intro s hl _; rw [List.length_eq_zero_iff.1 hl]; rfl
    | succ n ih =>
      intro s hl h
      rcases List.eq_nil_or_concat s with rfl | ⟨init, x, rfl⟩
      · rfl
      · rw [List.concat_eq_append] at h hl ⊢
        have h1 := ih init (by simpa using hl) h.init
        have hx := h.ok x (by simp)
        unfold okB at hx
        unfold listL backs at h1 ⊢
        rw [List.flatMap_append, List.foldl_append, h1]
        simp only [List.flatMap_cons, List.flatMap_nil, List.append_nil]
        unfold nums
        obtain ⟨m, hm⟩ : ∃ m : Nat, (x.2 - x.1).toNat = m + 1 := ⟨(x.2 - x.1).toNat - 1, by omega⟩
        rw [hm, foldl_range x.1 init h.last m]
        congr 2
        obtain ⟨a, b⟩ := x
        simp only [] at hm ⊢
        congr 1
        omega
  exact key _ s rfl h
/-- A permutation of spans with other beginnings, in order, is what it was. -/
theorem perm_same {l d : List Sp} (hl : l.Pairwise (fun a b => a.1 < b.1)) (hp : d.Perm l) (hs : d.Pairwise (fun a b => a.1 ≤ b.1)) : d = l := by
  have hne : ∀ a b, a ∈ l → b ∈ l → a.1 = b.1 → a = b := by
    intro a b ha hb hab
    induction l generalizing d with
    | nil => simp at ha
    | cons x l ih =>
      rw [List.pairwise_cons] at hl
      rcases List.mem_cons.1 ha with rfl | ha2
      · rcases List.mem_cons.1 hb with rfl | hb2
        · rfl
        · have := hl.1 b hb2; omega
      · rcases List.mem_cons.1 hb with rfl | hb2
        · have := hl.1 a ha2; omega
        · exact ih hl.2 (List.Perm.refl l) (hl.2.imp (fun h => by omega)) ha2 hb2
  refine hp.eq_of_pairwise (le := fun a b => a.1 ≤ b.1) (fun a b ha hb h1 h2 => hne a b (hp.mem_iff.1 ha) hb (by omega)) hs (hl.imp fun h => by omega)
/-- One number more, at the end. -/
theorem merge_add {out d : List Sp} {i : Int} (h : Canon out) (hi : ∀ y ∈ out, y.2 ≤ i) (hp : d.Perm (out ++ [one i])) (hs : d.Pairwise (fun a b => a.1 ≤ b.1)) : mergeL d = mergeStep out (one i) := by
  have hl : (out ++ [one i]).Pairwise (fun a b => a.1 < b.1) := by
    rw [List.pairwise_append]
    refine ⟨?_, by simp, fun a ha b hb => ?_⟩
    · have h1 := h.apart
      have h2 : ∀ x ∈ out, x.1 < x.2 := fun x hx => (h.ok x hx).2.1
      refine (List.Pairwise.and_mem.1 h1).imp fun {a b} hab => ?_
      have := h2 a hab.1
      omega
    · simp at hb
      subst hb
      have h1 := h.ok a ha
      have h2 := hi a ha
      unfold okB at h1
      unfold one
      simp only []
      omega
  rw [perm_same hl hp hs]
  unfold mergeL
  rw [List.foldl_append]
  have := merge_canon h
  unfold mergeL at this
  rw [this]
  rfl
end Go.Proofs.Ythdcmejgdcmldaa.Ro
