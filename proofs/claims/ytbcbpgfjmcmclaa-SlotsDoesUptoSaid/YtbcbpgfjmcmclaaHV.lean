/- chapter 18: the table and the document's pairs, plainly -/
import Derived.Test.YtbcbpgfjmcmclaaHU
namespace Go.Proofs.Ytbcbpgfjmcmclaa
open Go.GV Go.RowKit Go.Slots Go.Lib
set_option linter.unusedVariables false
set_option linter.unusedSimpArgs false
def Dst (l : List Pr) : Prop := l.Pairwise (fun a b => a.1 ≠ b.1)
theorem lk_none : ∀ {l : List Pr} {k : Key}, lk l k = none ↔ ∀ x ∈ l, x.1 ≠ k
  | [], k => by simp [lk]
  | x :: l, k => by
    simp only [lk]
    by_cases h : x.1 = k
    · rw [if_pos h]
      constructor
      · intro h'; cases h'
      · intro h'; exact absurd h (h' x (List.mem_cons_self ..))
    · rw [if_neg h, lk_none]
      constructor
      · intro h' y hy
        rcases List.mem_cons.1 hy with rfl | hy
        · exact h
        · exact h' y hy
      · intro h' y hy; exact h' y (List.mem_cons_of_mem _ hy)
theorem lk_mem : ∀ {l : List Pr} {k : Key} {v : Int}, lk l k = some v → (k, v) ∈ l
  | [], k, v => by simp [lk]
  | x :: l, k, v => by
    simp only [lk]
    by_cases h : x.1 = k
    · rw [if_pos h]
      intro h'; injection h' with h'
      rw [← h, ← h']; exact List.mem_cons_self ..
    · rw [if_neg h]
      intro h'; exact List.mem_cons_of_mem _ (lk_mem h')
theorem lk_of_mem : ∀ {l : List Pr} {x : Pr}, Dst l → x ∈ l → lk l x.1 = some x.2
  | [], x, _, hx => by cases hx
  | y :: l, x, hd, hx => by
    obtain ⟨h1, h2⟩ := List.pairwise_cons.1 hd
    simp only [lk]
    rcases List.mem_cons.1 hx with rfl | hx
    · rw [if_pos rfl]
    · rw [if_neg (h1 x hx), lk_of_mem h2 hx]
theorem lk_append : ∀ (a b : List Pr) (k : Key), lk (a ++ b) k = match lk a k with | some v => some v | none => lk b k
  | [], b, k => rfl
  | x :: a, b, k => by
    simp only [List.cons_append, lk]
    by_cases h : x.1 = k
    · rw [if_pos h, if_pos h]
    · rw [if_neg h, if_neg h, lk_append a b k]
theorem lk_cut : ∀ (l : List Pr) (k k' : Key), lk (cutL l k) k' = if k' = k then none else lk l k'
  | [], k, k' => by simp [cutL, lk]
  | x :: l, k, k' => by
    have ih := lk_cut l k k'
    unfold cutL at ih ⊢
    by_cases h : x.1 = k
    · rw [List.filter_cons_of_neg (by simp [h]), ih]
      by_cases hk : k' = k
      · rw [if_pos hk, if_pos hk]
      · rw [if_neg hk, if_neg hk]
        simp only [lk]
        rw [if_neg (fun he => hk (he.symm.trans h))]
    · rw [List.filter_cons_of_pos (by simp [h])]
      simp only [lk]
      rw [ih]
      by_cases hk : k' = k
      · rw [if_pos hk, if_pos hk, if_neg (fun he => h (he.trans hk))]
      · rw [if_neg hk, if_neg hk]
theorem lk_put (l : List Pr) (k : Key) (v : Int) (k' : Key) : lk (putL l k v) k' = if k' = k then some v else lk l k' := by
  unfold putL
  rw [lk_append, lk_cut]
  by_cases hk : k' = k
  · rw [if_pos hk, if_pos hk]
    show lk [(k, v)] k' = some v
    simp [lk, hk]
  · rw [if_neg hk, if_neg hk]
    cases h : lk l k' with
    | some x => rfl
    | none =>
      show lk [(k, v)] k' = none
      simp only [lk]
      rw [if_neg (fun he => hk he.symm)]
theorem cutL_none {l : List Pr} {k : Key} (h : lk l k = none) : cutL l k = l := by
  unfold cutL
  rw [List.filter_eq_self]
  intro x hx
  simp [lk_none.1 h x hx]
theorem cutL_some : ∀ {l : List Pr} {k : Key} {v : Int}, Dst l → lk l k = some v → (cutL l k).length + 1 = l.length
  | [], k, v, _, h => by cases h
  | x :: l, k, v, hd, h => by
    obtain ⟨h1, h2⟩ := List.pairwise_cons.1 hd
    simp only [lk] at h
    unfold cutL
    by_cases hx : x.1 = k
    · rw [List.filter_cons_of_neg (by simp [hx])]
      have : lk l k = none := lk_none.2 (fun y hy he => h1 y hy (hx.trans he.symm))
      have := cutL_none this
      unfold cutL at this
      rw [this]; rfl
    · rw [if_neg hx] at h
      rw [List.filter_cons_of_pos (by simp [hx])]
      have := cutL_some h2 h
      unfold cutL at this
      rw [List.length_cons, List.length_cons, this]
theorem Dst.cut {l : List Pr} (h : Dst l) (k : Key) : Dst (cutL l k) := h.sublist List.filter_sublist
theorem Dst.put {l : List Pr} (h : Dst l) (k : Key) (v : Int) : Dst (putL l k v) := by
  refine List.pairwise_append.2 ⟨h.cut k, by simp, fun a ha b hb => ?_⟩
  simp at hb
  subst hb
  exact (cutL_mem.1 ha).2
theorem WP.put {l : List Pr} (h : WP l) {k : Key} (hk : k.length = 32) (v : Int) : WP (putL l k v) := by
  intro x hx
  rcases List.mem_append.1 hx with h1 | h1
  · exact cutL_WP h x h1
  · simp at h1; subst h1; exact hk
/-- what the table has is what the pairs say -/
structure Rel (S : SRow) (l : List Pr) : Prop where
  has : ∀ k v, Has S k v ↔ ∃ x : Int, v = .int .i64 x ∧ lk l k = some x
  dst : Dst l
  cnt : cntF S = l.length
theorem Rel.hint {S : SRow} {l : List Pr} (h : Rel S l) : ∀ p k v, At S p k v → ∃ x : Int, v = .int .i64 x := fun p k v hp => by
  obtain ⟨x, hx, _⟩ := (h.has k v).1 ⟨p, hp⟩
  exact ⟨x, hx⟩
theorem Rel.put {w : World} {B bt bs' N N' : Nat} {S S' : SRow} {l : List Pr} {k : Key} {x : Int} (h : Rel S l) (ha : PutAns w B bt S N k (.int .i64 x) bs' N' S') : Rel S' (putL l k x) ∧ N' = putN l k N ∧ (putL l k x).length ≤ l.length + 1 ∧ (N' = N ∨ (N' = 2 * N ∧ 3 * N < 4 * (l.length + 1))) := by
  have hhas : ∀ k' v', Has S' k' v' ↔ ∃ y : Int, v' = .int .i64 y ∧ lk (putL l k x) k' = some y := fun k' v' => by
    rw [ha.has, lk_put]
    by_cases hk : k' = k
    · rw [if_pos hk, if_pos hk]
      constructor
      · intro h'; exact ⟨x, h', rfl⟩
      · rintro ⟨y, h1, h2⟩; injection h2 with h2; rw [h1, h2]
    · rw [if_neg hk, if_neg hk, h.has]
  have hpl : (putL l k x).length = (cutL l k).length + 1 := by simp [putL]
  rcases ha.cnt with ⟨⟨v0, hv0⟩, h1, h2⟩ | ⟨hno, h1, h2⟩
  · obtain ⟨y, _, hy⟩ := (h.has k v0).1 hv0
    have hc := cutL_some h.dst hy
    refine ⟨⟨hhas, h.dst.put k x, by rw [h1, hpl, h.cnt]; omega⟩, ?_, by omega, .inl h2⟩
    unfold putN
    rw [hy, h2]; rfl
  · have hn : lk l k = none := by
      cases hl : lk l k with
      | none => rfl
      | some y => exact absurd ((h.has k _).2 ⟨y, rfl, hl⟩) (hno _)
    have hc := cutL_none hn
    have hcn := h.cnt
    refine ⟨⟨hhas, h.dst.put k x, by rw [h1, hpl, hc, h.cnt]⟩, ?_, by rw [hpl, hc]; omega, ?_⟩
    · unfold putN
      rw [hn, h2, hc, ← h.cnt]
      simp only [Option.isSome_none, Bool.false_eq_true, if_false]
      split <;> split <;> omega
    · rw [h2, ← hcn]
      split
      · exact .inr ⟨rfl, by omega⟩
      · exact .inl rfl
theorem Rel.cut {S S' : SRow} {l : List Pr} {k : Key} (h : Rel S l) {v0 : Value} (hv0 : Has S k v0) (h1 : cntF S' + 1 = cntF S) (h2 : ∀ k' v', Has S' k' v' ↔ k' ≠ k ∧ Has S k' v') : Rel S' (cutL l k) ∧ (lk l k).isSome = true := by
  obtain ⟨y, _, hy⟩ := (h.has k v0).1 hv0
  have hc := cutL_some h.dst hy
  have := h.cnt
  refine ⟨⟨fun k' v' => ?_, h.dst.cut k, by omega⟩, by rw [hy]; rfl⟩
  rw [h2, lk_cut]
  by_cases hk : k' = k
  · rw [if_pos hk]
    constructor
    · intro h'; exact absurd hk h'.1
    · rintro ⟨_, _, h'⟩; cases h'
  · rw [if_neg hk, h.has]
    exact ⟨fun h' => h'.2, fun h' => ⟨hk, h'⟩⟩
theorem Rel.same {S : SRow} {l : List Pr} {k : Key} (h : Rel S l) (hno : ∀ v, ¬ Has S k v) : Rel S (cutL l k) ∧ (lk l k).isSome = false := by
  have hn : lk l k = none := by
    cases hl : lk l k with
    | none => rfl
    | some y => exact absurd ((h.has k _).2 ⟨y, rfl, hl⟩) (hno _)
  rw [cutL_none hn, hn]
  exact ⟨h, rfl⟩
theorem rel0 : Rel (row0 8) [] := by
  refine ⟨fun k v => ?_, List.Pairwise.nil, cntF_none 8⟩
  constructor
  · rintro ⟨p, hp⟩; exact absurd hp (row0_no 8 p k v)
  · rintro ⟨x, _, h⟩; cases h
/-! ### deeds -/
abbrev Ded := Int × Key × Int
def dedC (x : Ded) : List Value := [.int .i64 x.1] ++ (x.2.1.map bv ++ [.int .i64 x.2.2])
def deds (l : List Ded) : List Value := (l.map dedC).flatten
def WD (l : List Ded) : Prop := ∀ x ∈ l, x.2.1.length = 32
theorem WD.at {l : List Ded} (h : WD l) {i : Nat} {x : Ded} (hi : l[i]? = some x) : x.2.1.length = 32 := h x (List.mem_of_getElem? hi)
theorem dedC_len {x : Ded} (h : x.2.1.length = 32) : (dedC x).length = 34 := by simp [dedC, h]
theorem deds_flat {l : List Ded} (h : WD l) : (deds l).length = l.length * 34 ∧ ∀ (i : Nat) (x : Ded) (j : Nat), l[i]? = some x → j < 34 → (deds l)[i * 34 + j]? = (dedC x)[j]? := by
  obtain ⟨h1, h2⟩ := flatten_get (vss := l.map dedC) (k := 34) (fun i v hv => by
    rw [List.getElem?_map] at hv
    cases hr : l[i]? with
    | none => rw [hr] at hv; cases hv
    | some d => rw [hr] at hv; injection hv with hv; subst hv; exact dedC_len (h.at hr))
  refine ⟨by unfold deds; rw [h1, List.length_map], fun i d j hi hj => ?_⟩
  exact h2 i _ j (by rw [List.getElem?_map, hi]; rfl) hj
theorem sl_ded {w : World} {A : Option Addr} {n : Nat} {l : List Ded} (hs : Sl w 34 A n (deds l)) (hw : WD l) {i : Nat} (hi : i < n) : ∃ b o, A = some ⟨b, o, none⟩ ∧ ∀ j x, l[j]? = some x → cellsAt w b (o + j * 34) (dedC x) := by
  obtain ⟨b, o, hA, hc⟩ := hs.2 (by omega)
  refine ⟨b, o, hA, fun j x hj q v hq => ?_⟩
  have hql := (List.getElem?_eq_some_iff.1 hq).1
  rw [dedC_len (hw.at hj)] at hql
  rw [Nat.add_assoc]
  exact hc _ v (((deds_flat hw).2 j x q hj hql).trans hq)
theorem ded_len {w : World} {A : Option Addr} {n : Nat} {l : List Ded} (hs : Sl w 34 A n (deds l)) (hw : WD l) : l.length = n := by
  have := hs.1
  rw [(deds_flat hw).1] at this
  omega
theorem ded_kind {w : World} {b o : Nat} {x : Ded} (h : cellsAt w b o (dedC x)) : cellAt w b o = some (.int .i64 x.1) := h 0 _ rfl
theorem ded_key {w : World} {b o : Nat} {x : Ded} (h : cellsAt w b o (dedC x)) : cellsAt w b (o + 1) (x.2.1.map bv) := cells_left (cells_right h)
theorem ded_val {w : World} {b o : Nat} {x : Ded} (hx : x.2.1.length = 32) (h : cellsAt w b o (dedC x)) : cellAt w b (o + 33) = some (.int .i64 x.2.2) := by
  have := cells_right (cells_right h) 0 _ rfl
  rwa [List.length_map, hx, Nat.add_zero, Nat.add_assoc] at this
end Go.Proofs.Ytbcbpgfjmcmclaa
