/- ints in order, each once -/
import Derived.Test.YtfhimpkpfelilaaDoorLInt0
namespace Go.Proofs.YtfhimpkpfelilaaDoor
open Go.GV Go.RowKit Go.Lib
set_option linter.unusedVariables false
set_option linter.unusedSimpArgs false
/-! ### the plain functions -/
def addS (n : Int) (s : List Int × Bool) (x : Int) : List Int × Bool :=
  if !s.2 && decide (n ≤ x) then ((if n < x then s.1 ++ [n] else s.1) ++ [x], true) else (s.1 ++ [x], s.2)
def addI (l : List Int) (n : Int) : List Int :=
  if (l.foldl (addS n) ([], false)).2 then (l.foldl (addS n) ([], false)).1 else (l.foldl (addS n) ([], false)).1 ++ [n]
def addR (n : Int) : List Int → List Int
  | [] => [n]
  | x :: xs => if n ≤ x then (if n < x then n :: x :: xs else x :: xs) else x :: addR n xs
theorem addS_done (n : Int) : ∀ (l o : List Int), l.foldl (addS n) (o, true) = (o ++ l, true)
  | [], o => by simp
  | x :: xs, o => by
    show xs.foldl (addS n) (addS n (o, true) x) = _
    have : addS n (o, true) x = (o ++ [x], true) := by simp [addS]
    rw [this, addS_done n xs (o ++ [x])]
    simp
theorem addS_fold (n : Int) : ∀ (l o : List Int), (if (l.foldl (addS n) (o, false)).2 then (l.foldl (addS n) (o, false)).1 else (l.foldl (addS n) (o, false)).1 ++ [n]) = o ++ addR n l
  | [], o => by simp [addR]
  | x :: xs, o => by
    show (if (xs.foldl (addS n) (addS n (o, false) x)).2 then (xs.foldl (addS n) (addS n (o, false) x)).1 else (xs.foldl (addS n) (addS n (o, false) x)).1 ++ [n]) = _
    unfold addR
    by_cases h : n ≤ x
    · have e : addS n (o, false) x = ((if n < x then o ++ [n] else o) ++ [x], true) := by simp [addS, h]
      rw [e, addS_done]
      rw [if_pos rfl, if_pos h]
      by_cases h2 : n < x
      · rw [if_pos h2, if_pos h2]; simp
      · rw [if_neg h2, if_neg h2]; simp
    · have e : addS n (o, false) x = (o ++ [x], false) := by simp [addS, h]
      rw [e, addS_fold n xs (o ++ [x]), if_neg h]
      simp
theorem addI_eq (l : List Int) (n : Int) : addI l n = addR n l := addS_fold n l []
theorem addR_mem (n : Int) : ∀ (l : List Int) (y : Int), y ∈ addR n l ↔ y = n ∨ y ∈ l
  | [], y => by simp [addR]
  | x :: xs, y => by
    unfold addR
    by_cases h : n ≤ x
    · rw [if_pos h]
      by_cases h2 : n < x
      · rw [if_pos h2]; simp
      · rw [if_neg h2]
        have : n = x := by omega
        subst this
        simp
    · rw [if_neg h]
      simp only [List.mem_cons, addR_mem n xs y]
      constructor
      · rintro (h1 | h1 | h1)
        · exact .inr (.inl h1)
        · exact .inl h1
        · exact .inr (.inr h1)
      · rintro (h1 | h1 | h1)
        · exact .inr (.inl h1)
        · exact .inl h1
        · exact .inr (.inr h1)
def AscI (l : List Int) : Prop := l.Pairwise (· < ·)
theorem addR_asc (n : Int) : ∀ {l : List Int}, AscI l → AscI (addR n l)
  | [], _ => List.pairwise_singleton _ _
  | x :: xs, h => by
    unfold addR
    have hc := List.pairwise_cons.1 h
    by_cases h1 : n ≤ x
    · rw [if_pos h1]
      by_cases h2 : n < x
      · rw [if_pos h2]
        refine List.pairwise_cons.2 ⟨fun y hy => ?_, h⟩
        rcases List.mem_cons.1 hy with rfl | hy
        · exact h2
        · have := hc.1 y hy; omega
      · rw [if_neg h2]; exact h
    · rw [if_neg h1]
      refine List.pairwise_cons.2 ⟨fun y hy => ?_, addR_asc n hc.2⟩
      rcases (addR_mem n xs y).1 hy with rfl | hy
      · omega
      · exact hc.1 y hy
theorem AscI.unique : ∀ {a b : List Int}, AscI a → AscI b → (∀ x, x ∈ a ↔ x ∈ b) → a = b
  | [], [], _, _, _ => rfl
  | [], y :: ys, _, _, h => absurd ((h y).2 (List.mem_cons_self ..)) (by simp)
  | x :: xs, [], _, _, h => absurd ((h x).1 (List.mem_cons_self ..)) (by simp)
  | x :: xs, y :: ys, ha, hb, h => by
    have ha' := List.pairwise_cons.1 ha
    have hb' := List.pairwise_cons.1 hb
    have hxy : x = y := by
      rcases List.mem_cons.1 ((h x).1 (List.mem_cons_self ..)) with e | e
      · exact e
      · rcases List.mem_cons.1 ((h y).2 (List.mem_cons_self ..)) with e' | e'
        · exact e'.symm
        · have := hb'.1 x e; have := ha'.1 y e'; omega
    subst hxy
    congr 1
    refine AscI.unique ha'.2 hb'.2 (fun z => ?_)
    constructor
    · intro hz
      rcases List.mem_cons.1 ((h z).1 (List.mem_cons_of_mem _ hz)) with e | e
      · subst e; have := ha'.1 z hz; omega
      · exact e
    · intro hz
      rcases List.mem_cons.1 ((h z).2 (List.mem_cons_of_mem _ hz)) with e | e
      · subst e; have := hb'.1 z hz; omega
      · exact e
/-- a row, rising, each once -/
def norm (l : List Int) : List Int := l.foldl addI []
theorem norm_snoc (l : List Int) (x : Int) : norm (l ++ [x]) = addI (norm l) x := by simp [norm]
theorem norm_both : ∀ (l : List Int) (acc : List Int), AscI acc → AscI (l.foldl addI acc) ∧ ∀ y, y ∈ l.foldl addI acc ↔ y ∈ acc ∨ y ∈ l
  | [], acc, h => ⟨h, by simp⟩
  | x :: xs, acc, h => by
    obtain ⟨h1, h2⟩ := norm_both xs (addI acc x) (by rw [addI_eq]; exact addR_asc x h)
    refine ⟨h1, fun y => ?_⟩
    show y ∈ xs.foldl addI (addI acc x) ↔ _
    rw [h2, addI_eq, addR_mem, List.mem_cons]
    constructor
    · rintro ((h3 | h3) | h3)
      · exact .inr (.inl h3)
      · exact .inl h3
      · exact .inr (.inr h3)
    · rintro (h3 | h3 | h3)
      · exact .inl (.inr h3)
      · exact .inl (.inl h3)
      · exact .inr h3
theorem norm_asc (l : List Int) : AscI (norm l) := (norm_both l [] List.Pairwise.nil).1
theorem norm_mem (l : List Int) (y : Int) : y ∈ norm l ↔ y ∈ l := by rw [norm, (norm_both l [] List.Pairwise.nil).2]; simp
theorem norm_eq {l r : List Int} (h : AscI r) (hm : ∀ y, y ∈ r ↔ y ∈ l) : r = norm l := h.unique (norm_asc l) (fun y => by rw [hm, norm_mem])
theorem addS_len (n : Int) : ∀ (l : List Int) (s : List Int × Bool), (l.foldl (addS n) s).1.length ≤ s.1.length + l.length + (if s.2 then 0 else 1)
  | [], s => by simp
  | x :: xs, s => by
    have h := addS_len n xs (addS n s x)
    show (xs.foldl (addS n) (addS n s x)).1.length ≤ _
    refine Nat.le_trans h ?_
    obtain ⟨o, d⟩ := s
    cases d with
    | true => simp [addS]; omega
    | false =>
      by_cases h1 : n ≤ x
      · by_cases h2 : n < x
        · simp [addS, h1, h2]; omega
        · simp [addS, h1, h2]; omega
      · simp [addS, h1]; omega
theorem addR_len (n : Int) : ∀ l : List Int, (addR n l).length ≤ l.length + 1
  | [] => by simp [addR]
  | x :: xs => by
    unfold addR
    split
    · split <;> simp
    · have := addR_len n xs; simp; omega
theorem norm_len (l : List Int) : (norm l).length ≤ l.length := by
  have h : ∀ (l acc : List Int), (l.foldl addI acc).length ≤ acc.length + l.length := by
    intro l
    induction l with
    | nil => intro acc; simp
    | cons x xs ih =>
      intro acc
      have h1 := ih (addI acc x)
      have h2 := addR_len x acc
      rw [← addI_eq] at h2
      show (xs.foldl addI (addI acc x)).length ≤ _
      simp; omega
  have := h l []
  simp only [List.length_nil, Nat.zero_add] at this
  exact this
/-! ### Add -/
end Go.Proofs.YtfhimpkpfelilaaDoor
