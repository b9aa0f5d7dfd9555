/- chapter 26, plainly: numbers of names, rows of numbers, what is stale -/
import Derived.Test.YtfhimpkpfelilaaDoorLNumP
import Derived.Test.YtfhimpkpfelilaaDoorLInt3
namespace Go.Proofs.YtfhimpkpfelilaaDoor
open Go.GV Go.RowKit Go.Lib
set_option linter.unusedVariables false
set_option linter.unusedSimpArgs false
abbrev Bs := List UInt8
/-- a name's kind and number -/
noncomputable def num (l : Bs) : Int × Int := open Classical in if h : ∃ p : Int × Int, good p.1 p.2 ∧ l = fileL p.1 p.2 then Classical.choose h else (0, 0)
theorem num_is (l : Bs) : IsNum l (num l).1 (num l).2 := by
  unfold num
  split
  · rename_i h
    exact .inl (Classical.choose_spec h)
  · rename_i h
    exact .inr ⟨rfl, rfl, fun k n g e => h ⟨(k, n), g, e⟩⟩
theorem num_eq {l : Bs} {k n : Int} (h : IsNum l k n) : num l = (k, n) := by
  obtain ⟨h1, h2⟩ := (num_is l).unique h
  exact Prod.ext h1 h2
theorem num_rng (l : Bs) : (num l).1 = 0 ∨ (num l).1 = 1 ∨ (num l).1 = 2 ∨ (num l).1 = 3 := by
  rcases num_is l with ⟨g, _⟩ | ⟨h, _⟩
  · have := g.1; have := g.2.1; omega
  · exact .inl h
theorem num_file {l : Bs} (h : (num l).1 ≠ 0) : good (num l).1 (num l).2 ∧ l = fileL (num l).1 (num l).2 := by
  rcases num_is l with h1 | ⟨h2, _⟩
  · exact h1
  · exact absurd h2 h
theorem file_num {k n : Int} (h : good k n) : num (fileL k n) = (k, n) := num_eq (isNum_file h)
/-- the numbers of a kind, in the names' order -/
noncomputable def nums (k : Int) (l : List Bs) : List Int := (l.filter fun s => decide ((num s).1 = k)).map fun s => (num s).2
noncomputable def oth (l : List Bs) : List Bs := l.filter fun s => decide ((num s).1 = 0)
theorem nums_snoc (k : Int) (l : List Bs) (x : Bs) : nums k (l ++ [x]) = if (num x).1 = k then nums k l ++ [(num x).2] else nums k l := by
  unfold nums
  rw [List.filter_append]
  by_cases h : (num x).1 = k
  · rw [if_pos h, List.filter_cons_of_pos (by simpa using h), List.filter_nil, List.map_append]; rfl
  · rw [if_neg h, List.filter_cons_of_neg (by simpa using h), List.filter_nil, List.append_nil]
theorem oth_snoc (l : List Bs) (x : Bs) : oth (l ++ [x]) = if (num x).1 = 0 then oth l ++ [x] else oth l := by
  unfold oth
  rw [List.filter_append]
  by_cases h : (num x).1 = 0
  · rw [if_pos h, List.filter_cons_of_pos (by simpa using h), List.filter_nil]
  · rw [if_neg h, List.filter_cons_of_neg (by simpa using h), List.filter_nil, List.append_nil]
theorem nums_len (k : Int) (l : List Bs) : (nums k l).length ≤ l.length := by
  unfold nums
  rw [List.length_map]
  exact List.length_filter_le _ _
theorem oth_len (l : List Bs) : (oth l).length ≤ l.length := List.length_filter_le _ _
theorem nums_mem {k n : Int} {l : List Bs} : n ∈ nums k l ↔ ∃ s ∈ l, num s = (k, n) := by
  unfold nums
  simp only [List.mem_map, List.mem_filter, decide_eq_true_eq]
  constructor
  · rintro ⟨s, ⟨h1, h2⟩, h3⟩
    exact ⟨s, h1, Prod.ext h2 h3⟩
  · rintro ⟨s, h1, h2⟩
    exact ⟨s, ⟨h1, by rw [h2]⟩, by rw [h2]⟩
/-- a number of a kind is there, told by its file -/
theorem nums_file {k n : Int} {l : List Bs} (hk : k ≠ 0) : n ∈ nums k l ↔ good k n ∧ fileL k n ∈ l := by
  rw [nums_mem]
  constructor
  · rintro ⟨s, h1, h2⟩
    have h3 := num_file (l := s) (by rw [h2]; exact hk)
    rw [h2] at h3
    exact ⟨h3.1, h3.2 ▸ h1⟩
  · rintro ⟨g, h⟩
    exact ⟨_, h, file_num g⟩
/-! ### what is stale -/
def tmpB : Bs := [112, 111, 105, 110, 116, 46, 116, 109, 112]
def stale (sg ht pt : List Int) (ot : List Bs) : List Bs :=
  (if tmpB ∈ ot then [tmpB] else []) ++ ((ht.filter fun n => decide (n ∉ sg)).map (fileL 2)) ++ (pt.take (pt.length - 1)).map (fileL 3)
/-- a roster of names -/
structure Ros where
  sg : List Int
  ht : List Int
  pt : List Int
  ot : List Bs
noncomputable def ros (l : List Bs) : Ros := ⟨norm (nums 1 l), norm (nums 2 l), norm (nums 3 l), oth l⟩
def Ros.stale (r : Ros) : List Bs := Go.Proofs.YtfhimpkpfelilaaDoor.stale r.sg r.ht r.pt r.ot
theorem norm_same {a b : List Int} (h : ∀ x, x ∈ a ↔ x ∈ b) : norm a = norm b :=
  (norm_asc a).unique (norm_asc b) (fun x => by rw [norm_mem, norm_mem, h])
theorem ros_rev (l : List Bs) : (ros l.reverse).sg = (ros l).sg ∧ (ros l.reverse).ht = (ros l).ht ∧ (ros l.reverse).pt = (ros l).pt := by
  have h : ∀ k, norm (nums k l.reverse) = norm (nums k l) := fun k => norm_same (fun x => by rw [nums_mem, nums_mem]; simp)
  exact ⟨h 1, h 2, h 3⟩
theorem take_last {l : List Int} (h : AscI l) {n : Int} (hn : n ∈ l) (ht : n ∉ l.take (l.length - 1)) : ∀ m ∈ l, m ≤ n := by
  intro m hm
  obtain ⟨i, hi⟩ := List.mem_iff_getElem?.1 hn
  obtain ⟨j, hj⟩ := List.mem_iff_getElem?.1 hm
  obtain ⟨hil, rfl⟩ := List.getElem?_eq_some_iff.1 hi
  obtain ⟨hjl, rfl⟩ := List.getElem?_eq_some_iff.1 hj
  have hie : i = l.length - 1 := by
    by_cases hlt : i < l.length - 1
    · exact absurd (List.mem_iff_getElem?.2 ⟨i, by rw [List.getElem?_take, if_pos hlt]; exact hi⟩) ht
    · omega
  by_cases he : j = i
  · subst he; exact Int.le_refl _
  · exact Int.le_of_lt (List.pairwise_iff_getElem.1 h j i hjl hil (by omega))
/-- without what is stale nothing is -/
theorem stale_left (l : List Bs) {left : List Bs} (hl : ∀ s, s ∈ left ↔ s ∈ l ∧ s ∉ (ros l).stale) : (ros left).stale = [] := by
  have hst : ∀ s, s ∈ (ros l).stale ↔ (s = tmpB ∧ tmpB ∈ oth l) ∨ (∃ n, (n ∈ nums 2 l ∧ n ∉ nums 1 l) ∧ fileL 2 n = s) ∨ (∃ n ∈ (norm (nums 3 l)).take ((norm (nums 3 l)).length - 1), fileL 3 n = s) := by
    intro s
    unfold Ros.stale stale ros
    simp only [List.mem_append, List.mem_map, List.mem_filter, decide_eq_true_eq, norm_mem]
    constructor
    · rintro ((h | h) | h)
      · left
        split at h
        · rename_i ht
          exact ⟨List.mem_singleton.1 h, ht⟩
        · cases h
      · exact .inr (.inl h)
      · exact .inr (.inr h)
    · rintro (⟨rfl, h⟩ | h | h)
      · left; left
        rw [if_pos h]; simp
      · exact .inl (.inr h)
      · exact .inr h
  have h1 : ∀ n, n ∈ nums 1 left ↔ n ∈ nums 1 l := by
    intro n
    rw [nums_file (by decide), nums_file (by decide), hl, hst]
    constructor
    · rintro ⟨g, h, _⟩; exact ⟨g, h⟩
    · rintro ⟨g, h⟩
      refine ⟨g, h, ?_⟩
      rintro (⟨h1, h2⟩ | ⟨m, ⟨h1, _⟩, h2⟩ | ⟨m, h1, h2⟩)
      · unfold oth at h2
        rw [List.mem_filter, ← h1, file_num g] at h2
        simp at h2
      · have gm := ((nums_file (by decide)).1 h1).1
        have := (fileL_inj gm g h2).1
        omega
      · have gm := ((nums_file (by decide)).1 ((norm_mem _ _).1 (List.mem_of_mem_take h1))).1
        have := (fileL_inj gm g h2).1
        omega
  have h2 : ∀ n, n ∈ nums 2 left → n ∈ nums 1 l := by
    intro n hn
    obtain ⟨g, h⟩ := (nums_file (by decide)).1 hn
    rw [hl, hst] at h
    by_cases hs : n ∈ nums 1 l
    · exact hs
    · exact absurd (.inr (.inl ⟨n, ⟨(nums_file (by decide)).2 ⟨g, h.1⟩, hs⟩, rfl⟩)) h.2
  have h3 : ∀ n, n ∈ nums 3 left → ∀ m, m ∈ nums 3 l → m ≤ n := by
    intro n hn m hm
    obtain ⟨g, h⟩ := (nums_file (by decide)).1 hn
    rw [hl, hst] at h
    refine take_last (norm_asc (nums 3 l)) ((norm_mem _ _).2 ((nums_file (by decide)).2 ⟨g, h.1⟩)) (fun ht => ?_) m ((norm_mem _ _).2 hm)
    exact h.2 (.inr (.inr ⟨n, ht, rfl⟩))
  have h3l : ∀ n, n ∈ nums 3 left → n ∈ nums 3 l := by
    intro n hn
    obtain ⟨g, h⟩ := (nums_file (by decide)).1 hn
    rw [hl] at h
    exact (nums_file (by decide)).2 ⟨g, h.1⟩
  unfold Ros.stale stale ros
  dsimp only
  have e1 : tmpB ∉ oth left := by
    intro h
    have h' : tmpB ∈ left := (List.mem_filter.1 h).1
    rw [hl, hst] at h'
    refine h'.2 (.inl ⟨rfl, ?_⟩)
    unfold oth at h ⊢
    rw [List.mem_filter] at h ⊢
    exact ⟨h'.1, h.2⟩
  have e2 : (norm (nums 2 left)).filter (fun n => decide (n ∉ norm (nums 1 left))) = [] := by
    rw [List.filter_eq_nil_iff]
    intro n hn
    rw [norm_mem] at hn
    have := (h1 n).2 (h2 n hn)
    simp [norm_mem, this]
  have e3 : (norm (nums 3 left)).take ((norm (nums 3 left)).length - 1) = [] := by
    have ha := norm_asc (nums 3 left)
    have hm := fun x => norm_mem (nums 3 left) x
    generalize norm (nums 3 left) = p at ha hm
    match p, ha, hm with
    | [], _, _ => rfl
    | [_], _, _ => rfl
    | x :: y :: r, ha, hm =>
      exfalso
      have h4 := List.rel_of_pairwise_cons ha (List.mem_cons_self (a := y) (l := r))
      have hx := (hm x).1 (List.mem_cons_self ..)
      have hy := (hm y).1 (List.mem_cons_of_mem _ (List.mem_cons_self ..))
      have := h3 x hx y (h3l y hy)
      omega
  rw [if_neg e1, e2, e3]; rfl
end Go.Proofs.YtfhimpkpfelilaaDoor
