/- stable sorting, plainly: tagged elements, chunks, rotations. No program in sight. -/
namespace Go.Stb
set_option linter.unusedVariables false
variable {α β : Type}
/-! ### lists -/
theorem get_mid {P R : List α} {x : α} {i : Nat} (hi : i = P.length) : (P ++ x :: R)[i]? = some x := by subst hi; simp
theorem set_mid {P R : List α} {x y : α} {i : Nat} (hi : i = P.length) : (P ++ x :: R).set i y = P ++ y :: R := by subst hi; simp
/-! ### the order -/
structure OrdC (cmp : β → β → Int) : Prop where
  anti : ∀ a b, cmp a b = - cmp b a
  trans : ∀ a b c, cmp a b ≤ 0 → cmp b c ≤ 0 → cmp a c ≤ 0
section
variable {cmp : β → β → Int}
/-- ahead of: by the order, else by the tag -/
def lt (cmp : β → β → Int) (x y : β × Nat) : Prop := cmp x.1 y.1 < 0 ∨ (cmp x.1 y.1 = 0 ∧ x.2 < y.2)
def Sorted (cmp : β → β → Int) (l : List (β × Nat)) : Prop := l.Pairwise (lt cmp)
/-- what stood ahead -/
def bef (x y : β × Nat) : Prop := x.2 < y.2
theorem OrdC.lt_le (h : OrdC cmp) {a b c : β} (h1 : cmp a b < 0) (h2 : cmp b c ≤ 0) : cmp a c < 0 := by
  have h3 := h.trans a b c (by omega) h2
  by_cases h0 : cmp a c = 0
  · have h4 := h.anti c a
    have h5 := h.trans b c a h2 (by omega)
    have h6 := h.anti a b
    omega
  · omega
theorem OrdC.le_lt (h : OrdC cmp) {a b c : β} (h1 : cmp a b ≤ 0) (h2 : cmp b c < 0) : cmp a c < 0 := by
  have h3 := h.trans a b c h1 (by omega)
  by_cases h0 : cmp a c = 0
  · have h4 := h.anti c a
    have h5 := h.trans c a b (by omega) h1
    have h6 := h.anti b c
    omega
  · omega
theorem lt_trans (h : OrdC cmp) {x y z : β × Nat} (h1 : lt cmp x y) (h2 : lt cmp y z) : lt cmp x z := by
  rcases h1 with h1 | ⟨h1, h1'⟩ <;> rcases h2 with h2 | ⟨h2, h2'⟩
  · exact .inl (h.lt_le h1 (by omega))
  · exact .inl (h.lt_le h1 (by omega))
  · exact .inl (h.le_lt (by omega) h2)
  · have h3 := h.trans x.1 y.1 z.1 (by omega) (by omega)
    have h4 := h.trans z.1 y.1 x.1 (by have := h.anti z.1 y.1; omega) (by have := h.anti y.1 x.1; omega)
    have h5 := h.anti x.1 z.1
    exact .inr ⟨by omega, by omega⟩
theorem lt_asymm (h : OrdC cmp) {x y : β × Nat} (h1 : lt cmp x y) (h2 : lt cmp y x) : False := by
  have h3 := h.anti x.1 y.1
  rcases h1 with h1 | ⟨h1, h1'⟩ <;> rcases h2 with h2 | ⟨h2, h2'⟩ <;> omega
/-- what the comparison of a later with an earlier one tells -/
theorem bef_yes (h : OrdC cmp) {x y : β × Nat} (hb : bef x y) (hc : cmp y.1 x.1 < 0) : lt cmp y x := .inl hc
theorem bef_no (h : OrdC cmp) {x y : β × Nat} (hb : bef x y) (hc : ¬ cmp y.1 x.1 < 0) : lt cmp x y := by
  have h3 := h.anti x.1 y.1
  have hb : x.2 < y.2 := hb
  by_cases h0 : cmp x.1 y.1 = 0
  · exact .inr ⟨h0, hb⟩
  · exact .inl (by omega)
theorem sorted_get (h : OrdC cmp) {l : List (β × Nat)} (hs : Sorted cmp l) {i j : Nat} {x y : β × Nat} (hi : l[i]? = some x) (hj : l[j]? = some y) (hij : i < j) : lt cmp x y := by
  obtain ⟨h1, rfl⟩ := List.getElem?_eq_some_iff.1 hi
  obtain ⟨h2, rfl⟩ := List.getElem?_eq_some_iff.1 hj
  exact (List.pairwise_iff_getElem.1 hs) i j h1 h2 hij
theorem sorted_app {A B : List (β × Nat)} (hA : Sorted cmp A) (hB : Sorted cmp B) (hAB : ∀ x ∈ A, ∀ y ∈ B, lt cmp x y) : Sorted cmp (A ++ B) := List.pairwise_append.2 ⟨hA, hB, hAB⟩
theorem sorted_of_app {A B : List (β × Nat)} (h : Sorted cmp (A ++ B)) : Sorted cmp A ∧ Sorted cmp B ∧ ∀ x ∈ A, ∀ y ∈ B, lt cmp x y := List.pairwise_append.1 h
/-- sorted rows of the same members are one -/
theorem sorted_unique (h : OrdC cmp) : ∀ {a b : List (β × Nat)}, Sorted cmp a → Sorted cmp b → a.Perm b → a = b
  | [], b, _, _, hp => by rw [List.nil_perm.1 hp]
  | x :: a, [], _, _, hp => by have := hp.length_eq; simp at this
  | x :: a, y :: b, ha, hb, hp => by
    have hca := List.pairwise_cons.1 ha
    have hcb := List.pairwise_cons.1 hb
    have hxy : x = y := by
      rcases List.mem_cons.1 (hp.mem_iff.1 (List.mem_cons_self (a := x) (l := a))) with h1 | h1
      · exact h1
      · rcases List.mem_cons.1 (hp.mem_iff.2 (List.mem_cons_self (a := y) (l := b))) with h2 | h2
        · exact h2.symm
        · exact (lt_asymm h (hcb.1 x h1) (hca.1 y h2)).elim
    subst hxy
    rw [sorted_unique h hca.2 hcb.2 ((List.perm_cons x).1 hp)]
/-! ### the row in its order -/
/-- an element behind all that aren't above it -/
def ins (cmp : β → β → Int) (x : β) : List β → List β
  | [] => [x]
  | y :: r => if cmp x y < 0 then x :: y :: r else y :: ins cmp x r
def stab (cmp : β → β → Int) (l : List β) : List β := l.foldl (fun a x => ins cmp x a) []
theorem stab_snoc (l : List β) (x : β) : stab cmp (l ++ [x]) = ins cmp x (stab cmp l) := by unfold stab; rw [List.foldl_append]; rfl
def insT (cmp : β → β → Int) (x : β × Nat) : List (β × Nat) → List (β × Nat)
  | [] => [x]
  | y :: r => if cmp x.1 y.1 < 0 then x :: y :: r else y :: insT cmp x r
theorem insT_fst (x : β × Nat) : ∀ l : List (β × Nat), (insT cmp x l).map (·.1) = ins cmp x.1 (l.map (·.1))
  | [] => rfl
  | y :: r => by
    unfold insT ins
    rw [List.map_cons]
    show _ = (if cmp x.1 y.1 < 0 then _ else _)
    split
    · rfl
    · rw [List.map_cons, insT_fst x r]
theorem insT_perm (x : β × Nat) : ∀ l : List (β × Nat), (insT cmp x l).Perm (x :: l)
  | [] => List.Perm.refl _
  | y :: r => by
    unfold insT
    split
    · exact List.Perm.refl _
    · exact ((insT_perm x r).cons y).trans (List.Perm.swap x y r)
theorem insT_sorted (h : OrdC cmp) (x : β × Nat) : ∀ l : List (β × Nat), Sorted cmp l → (∀ y ∈ l, bef y x) → Sorted cmp (insT cmp x l)
  | [], _, _ => List.pairwise_singleton _ _
  | y :: r, hs, hb => by
    have hc := List.pairwise_cons.1 hs
    unfold insT
    by_cases h1 : cmp x.1 y.1 < 0
    · rw [if_pos h1]
      refine List.pairwise_cons.2 ⟨fun z hz => ?_, hs⟩
      rcases List.mem_cons.1 hz with rfl | hz
      · exact .inl h1
      · exact lt_trans h (.inl h1) (hc.1 z hz)
    · rw [if_neg h1]
      refine List.pairwise_cons.2 ⟨fun z hz => ?_, insT_sorted h x r hc.2 (fun z hz => hb z (List.mem_cons_of_mem _ hz))⟩
      rcases List.mem_cons.1 ((insT_perm x r).mem_iff.1 hz) with rfl | hz
      · exact bef_no h (hb y (List.mem_cons_self ..)) h1
      · exact hc.1 z hz
/-- the row with its tags -/
def tagL (l : List β) : List (β × Nat) := l.zipIdx
theorem tagL_fst (l : List β) : (tagL l).map (·.1) = l := by simp [tagL]
theorem tagL_snoc (l : List β) (x : β) : tagL (l ++ [x]) = tagL l ++ [(x, l.length)] := by simp [tagL, List.zipIdx_append]
theorem tagL_lt {l : List β} {x : β × Nat} (h : x ∈ tagL l) : x.2 < l.length := by
  have := List.snd_lt_of_mem_zipIdx h
  simpa using this
theorem snoc_ind {P : List β → Prop} (h0 : P []) (h1 : ∀ l x, P l → P (l ++ [x])) (l : List β) : P l := by
  have : ∀ n (l : List β), l.length = n → P l := by
    intro n
    induction n with
    | zero => intro l hl; rw [List.length_eq_zero_iff.1 hl]; exact h0
    | succ n ih =>
      intro l hl
      have hne : l ≠ [] := by intro h; rw [h] at hl; cases hl
      rw [← List.dropLast_concat_getLast hne]
      exact h1 _ _ (ih _ (by simp [hl]))
  exact this _ l rfl
theorem stab_spec (h : OrdC cmp) (l : List β) : ∃ m, Sorted cmp m ∧ m.Perm (tagL l) ∧ m.map (·.1) = stab cmp l := by
  refine snoc_ind (P := fun l => ∃ m, Sorted cmp m ∧ m.Perm (tagL l) ∧ m.map (·.1) = stab cmp l) ⟨[], List.Pairwise.nil, List.Perm.refl _, rfl⟩ (fun l x ⟨m, h1, h2, h3⟩ => ?_) l
  refine ⟨insT cmp (x, l.length) m, insT_sorted h _ m h1 (fun y hy => tagL_lt (h2.mem_iff.1 hy)), ?_, ?_⟩
  · rw [tagL_snoc]
    exact (insT_perm _ m).trans ((h2.cons _).trans (List.perm_append_singleton _ _).symm)
  · rw [insT_fst, h3, stab_snoc]
/-- a sorted row of what a row has, tagged, is that row in order -/
theorem stab_of (h : OrdC cmp) {l : List β} {m : List (β × Nat)} (hs : Sorted cmp m) (hp : m.Perm (tagL l)) : m.map (·.1) = stab cmp l := by
  obtain ⟨m', h1, h2, h3⟩ := stab_spec h l
  rw [sorted_unique h hs h1 (hp.trans h2.symm), h3]
theorem ins_perm (x : β) : ∀ l : List β, (ins cmp x l).Perm (x :: l)
  | [] => List.Perm.refl _
  | y :: r => by
    unfold ins
    split
    · exact List.Perm.refl _
    · exact ((ins_perm x r).cons y).trans (List.Perm.swap x y r)
theorem stab_perm (l : List β) : (stab cmp l).Perm l :=
  snoc_ind (P := fun l => (stab cmp l).Perm l) (List.Perm.refl _) (fun l x ih => by rw [stab_snoc]; exact (ins_perm x _).trans ((ih.cons x).trans (List.perm_append_singleton _ _).symm)) l
theorem stab_len (l : List β) : (stab cmp l).length = l.length := (stab_perm l).length_eq
/-! ### chunks -/
/-- every one of a chunk stood ahead of every one of a later chunk -/
def befC (c d : List (β × Nat)) : Prop := ∀ x ∈ c, ∀ y ∈ d, bef x y
theorem befC_merge {Ds R : List (List (β × Nat))} {c d m : List (β × Nat)} (h : (Ds ++ c :: d :: R).Pairwise befC) (hm : m.Perm (c ++ d)) : (Ds ++ m :: R).Pairwise befC := by
  have h := List.pairwise_append.1 h
  have hc := List.pairwise_cons.1 h.2.1
  have hd := List.pairwise_cons.1 hc.2
  refine List.pairwise_append.2 ⟨h.1, List.pairwise_cons.2 ⟨fun r hr x hx y hy => ?_, hd.2⟩, fun e he r hr x hx y hy => ?_⟩
  · rcases List.mem_append.1 (hm.mem_iff.1 hx) with hx | hx
    · exact hc.1 r (List.mem_cons_of_mem _ hr) x hx y hy
    · exact hd.1 r hr x hx y hy
  · rcases List.mem_cons.1 hr with rfl | hr
    · rcases List.mem_append.1 (hm.mem_iff.1 hy) with hy | hy
      · exact h.2.2 e he c (List.mem_cons_self ..) x hx y hy
      · exact h.2.2 e he d (List.mem_cons_of_mem _ (List.mem_cons_self ..)) x hx y hy
    · exact h.2.2 e he r (List.mem_cons_of_mem _ (List.mem_cons_of_mem _ hr)) x hx y hy
theorem befC_two {Ds R : List (List (β × Nat))} {c d : List (β × Nat)} (h : (Ds ++ c :: d :: R).Pairwise befC) : befC c d := by
  have h := List.pairwise_append.1 h
  exact (List.pairwise_cons.1 h.2.1).1 d (List.mem_cons_self ..)
theorem flat_len {k : Nat} : ∀ {Fs : List (List (β × Nat))}, (∀ f ∈ Fs, f.length = k) → Fs.flatten.length = Fs.length * k
  | [], _ => by simp
  | f :: r, h => by
    rw [List.flatten_cons, List.length_append, h f (List.mem_cons_self ..), flat_len (fun g hg => h g (List.mem_cons_of_mem _ hg)), List.length_cons, Nat.add_mul]; omega
end
end Go.Stb
