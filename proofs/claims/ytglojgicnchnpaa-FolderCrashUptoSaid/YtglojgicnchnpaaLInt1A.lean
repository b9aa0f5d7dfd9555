/- ints in order, each once -/
import Derived.Test.YtglojgicnchnpaaLInt0
namespace Go.Proofs.Ytglojgicnchnpaa
open Go.GV Go.RowKit Go.Lib
set_option linter.unusedVariables false
set_option linter.unusedSimpArgs false
/-! ### the plain functions -/
def addS (n : Int) (s : List Int × Bool) (x : Int) : List Int × Bool :=
  if !s.2 && decide (n ≤ x) then ((if n < x then s.1 ++ [n] else s.1) ++ [x], true) else (s.1 ++ [x], s.2)
def addI (l : List Int) (n : Int) : List Int :=
  if (l.foldl (addS n) ([], false)).2 then (l.foldl (addS n) ([], false)).1 else (l.foldl (addS n) ([], false)).1 ++ [n]
def addR (n : Int) : List Int → List Int
  | [] => [n]
  | x :: xs => if n ≤ x then (if n < x then n :: x :: xs else x :: xs) else x :: addR n xs
theorem addS_done (n : Int) : ∀ (l o : List Int), l.foldl (addS n) (o, true) = (o ++ l, true)
  | [], o => by simp
  | x :: xs, o => by
    show xs.foldl (addS n) (addS n (o, true) x) = _
    have : addS n (o, true) x = (o ++ [x], true) := by simp [addS]
    rw [this, addS_done n xs (o ++ [x])]
    simp
theorem addS_fold (n : Int) : ∀ (l o : List Int), (if (l.foldl (addS n) (o, false)).2 then (l.foldl (addS n) (o, false)).1 else (l.foldl (addS n) (o, false)).1 ++ [n]) = o ++ addR n l
  | [], o => by simp [addR]
  | x :: xs, o => by
    show (if (xs.foldl (addS n) (addS n (o, false) x)).2 then (xs.foldl (addS n) (addS n (o, false) x)).1 else (xs.foldl (addS n) (addS n (o, false) x)).1 ++ [n]) = _
    unfold addR
    by_cases h : n ≤ x
    · have e : addS n (o, false) x = ((if n < x then o ++ [n] else o) ++ [x], true) := by simp [addS, h]
      rw [e, addS_done]
      rw [if_pos rfl, if_pos h]
      by_cases h2 : n < x
      · rw [if_pos h2, if_pos h2]; simp
      · rw [if_neg h2, if_neg h2]; simp
    · have e : addS n (o, false) x = (o ++ [x], false) := by simp [addS, h]
      rw [e, addS_fold n xs (o ++ [x]), if_neg h]
      simp
theorem addI_eq (l : List Int) (n : Int) : addI l n = addR n l := addS_fold n l []
theorem addR_mem (n : Int) : ∀ (l : List Int) (y : Int), y ∈ addR n l ↔ y = n ∨ y ∈ l
  | [], y => by simp [addR]
  | x :: xs, y => by
    unfold addR
    by_cases h : n ≤ x
    · rw [if_pos h]
      by_cases h2 : n < x
      · rw [if_pos h2]; simp
      · rw [if_neg h2]
        have : n = x := by omega
        subst this
        simp
    · rw [if_neg h]
      simp only [List.mem_cons, addR_mem n xs y]
      constructor
      · rintro (h1 | h1 | h1)
        · exact .inr (.inl h1)
        · exact .inl h1
        · exact .inr (.inr h1)
      · rintro (h1 | h1 | h1)
        · exact .inr (.inl h1)
        · exact .inl h1
        · exact .inr (.inr h1)
def AscI (l : List Int) : Prop := l.Pairwise (· < ·)
theorem addR_asc (n : Int) : ∀ {l : List Int}, AscI l → AscI (addR n l)
  | [], _ => List.pairwise_singleton _ _
  | x :: xs, h => by
    unfold addR
    have hc := List.pairwise_cons.1 h
    by_cases h1 : n ≤ x
    · rw [if_pos h1]
      by_cases h2 : n < x
      · rw [if_pos h2]
        refine List.pairwise_cons.2 ⟨fun y hy => ?_, h⟩
        rcases List.mem_cons.1 hy with rfl | hy
        · exact h2
        · have := hc.1 y hy; omega
      · rw [if_neg h2]; exact h
    · rw [if_neg h1]
      refine List.pairwise_cons.2 ⟨fun y hy => ?_, addR_asc n hc.2⟩
      rcases (addR_mem n xs y).1 hy with rfl | hy
      · omega
      · exact hc.1 y hy
theorem AscI.unique : ∀ {a b : List Int}, AscI a → AscI b → (∀ x, x ∈ a ↔ x ∈ b) → a = b
  | [], [], _, _, _ => rfl
  | [], y :: ys, _, _, h => absurd ((h y).2 (List.mem_cons_self ..)) (by simp)
  | x :: xs, [], _, _, h => absurd ((h x).1 (List.mem_cons_self ..)) (by simp)
  | x :: xs, y :: ys, ha, hb, h => by
    have ha' := List.pairwise_cons.1 ha
    have hb' := List.pairwise_cons.1 hb
    have hxy : x = y := by
      rcases List.mem_cons.1 ((h x).1 (List.mem_cons_self ..)) with e | e
      · exact e
      · rcases List.mem_cons.1 ((h y).2 (List.mem_cons_self ..)) with e' | e'
        · exact e'.symm
        · have := hb'.1 x e; have := ha'.1 y e'; omega
    subst hxy
    congr 1
    refine AscI.unique ha'.2 hb'.2 (fun z => ?_)
    constructor
    · intro hz
      rcases List.mem_cons.1 ((h z).1 (List.mem_cons_of_mem _ hz)) with e | e
      · subst e; have := ha'.1 z hz; omega
      · exact e
    · intro hz
      rcases List.mem_cons.1 ((h z).2 (List.mem_cons_of_mem _ hz)) with e | e
      · subst e; have := hb'.1 z hz; omega
      · exact e
/-- a row, rising, each once -/
def norm (l : List Int) : List Int := l.foldl addI []
theorem norm_snoc (l : List Int) (x : Int) : norm (l ++ [x]) = addI (norm l) x := by simp [norm]
theorem norm_both : ∀ (l : List Int) (acc : List Int), AscI acc → AscI (l.foldl addI acc) ∧ ∀ y, y ∈ l.foldl addI acc ↔ y ∈ acc ∨ y ∈ l
  | [], acc, h => ⟨h, by simp⟩
  | x :: xs, acc, h => by
    obtain ⟨h1, h2⟩ := norm_both xs (addI acc x) (by rw [addI_eq]; exact addR_asc x h)
    refine ⟨h1, fun y => ?_⟩
    show y ∈ xs.foldl addI (addI acc x) ↔ _
    rw [h2, addI_eq, addR_mem, List.mem_cons]
    constructor
    · rintro ((h3 | h3) | h3)
      · exact .inr (.inl h3)
      · exact .inl h3
      · exact .inr (.inr h3)
    · rintro (h3 | h3 | h3)
      · exact .inl (.inr h3)
      · exact .inl (.inl h3)
      · exact .inr h3
theorem norm_asc (l : List Int) : AscI (norm l) := (norm_both l [] List.Pairwise.nil).1
theorem norm_mem (l : List Int) (y : Int) : y ∈ norm l ↔ y ∈ l := by rw [norm, (norm_both l [] List.Pairwise.nil).2]; simp
theorem norm_eq {l r : List Int} (h : AscI r) (hm : ∀ y, y ∈ r ↔ y ∈ l) : r = norm l := h.unique (norm_asc l) (fun y => by rw [hm, norm_mem])
theorem addS_len (n : Int) : ∀ (l : List Int) (s : List Int × Bool), (l.foldl (addS n) s).1.length ≤ s.1.length + l.length + (if s.2 then 0 else 1)
  | [], s => by simp
  | x :: xs, s => by
    have h := addS_len n xs (addS n s x)
    show (xs.foldl (addS n) (addS n s x)).1.length ≤ _
    refine Nat.le_trans h ?_
    obtain ⟨o, d⟩ := s
    cases d with
    | true => simp [addS]; omega
    | false =>
      by_cases h1 : n ≤ x
      · by_cases h2 : n < x
        · simp [addS, h1, h2]; omega
        · simp [addS, h1, h2]; omega
      · simp [addS, h1]; omega
theorem addR_len (n : Int) : ∀ l : List Int, (addR n l).length ≤ l.length + 1
  | [] => by simp [addR]
  | x :: xs => by
    unfold addR
    split
    · split <;> simp
    · have := addR_len n xs; simp; omega
theorem norm_len (l : List Int) : (norm l).length ≤ l.length := by
  have h : ∀ (l acc : List Int), (l.foldl addI acc).length ≤ acc.length + l.length := by
    intro l
    induction l with
    | nil => intro acc; simp
    | cons x xs ih =>
      intro acc
      have h1 := ih (addI acc x)
      have h2 := addR_len x acc
      rw [← addI_eq] at h2
      show (xs.foldl addI (addI acc x)).length ≤ _
      simp; omega
  have := h l []
  simp only [List.length_nil, Nat.zero_add] at this
  exact this
/-! ### Add -/
theorem add_calls (A : Option Addr) (n c : Nat) (l : List Int) (x : Int) (w : World) (h : Sl w 1 A n (ivs l)) (hn : n ≤ 549755813888) :
    Calls Try.prog 32 #[.slice A n c, .int .i64 x] w fun e w' => Fr (fun _ => False) w w' ∧ ∃ A' c', e = .returned (.slice A' (addI l x).length c') ∧ Row w' w.heap.size 3 1 A' (addI l x).length c' (ivs (addI l x)) := by
  refine (F32.of A n c x w (Q := fun v w' => Fr (fun _ => False) w w' ∧ ∃ A' c', v = .slice A' (addI l x).length c' ∧ Row w' w.heap.size 3 1 A' (addI l x).length c' (ivs (addI l x))) ?_).mono (fun e w' ⟨v, he, hf, A', c', hv, h⟩ => ⟨hf, A', c', by rw [he, hv], h⟩)
  have hl := sl_n h
  refine jnC_mk (loop_rule (fun s u => Fr (fun _ => False) w u ∧ ∃ (i : Nat) (out : List Int) (dn : Bool) (A5 : Option Addr) (c5 : Nat), i ≤ n ∧ s = ((A, n, c), x, (A5, out.length, c5), dn, (i : Int), ()) ∧ Row u w.heap.size 3 1 A5 out.length c5 (ivs out) ∧ (l.take i).foldl (addS x) ([], false) = (out, dn))
    (fun s _ => (n - s.2.2.2.2.1).toNat) ?_ _ _ ⟨Fr.refl _ _, 0, [], false, none, 0, by omega, rfl, Row.nil _ _ _ _, by simp⟩)
  rintro s u C ⟨hf, i, out, dn, A5, c5, hi, rfl, hr5, hinv⟩ hC _
  have hol : out.length ≤ i + 1 := by
    have := addS_len x (l.take i) ([], false)
    rw [hinv, List.length_take] at this
    simp at this; omega
  have fsz := hf.size
  refine vIf_mk (fun hlt => ?_) (fun hge => ?_)
  · have hlt2 : (i : Int) < (n : Int) := of_decide_eq_true hlt
    have gi := at_lt (l := l) (i := i) (by omega)
    generalize hy : l[i]'(by omega) = y at gi
    have rd : ∀ {v : World}, Fr (fun _ => False) w v → Sl v 1 A n (ivs l) := fun fv => fv.sl h (fun _ _ _ h => h)
    -- the last step: l[i] is appended
    have last : ∀ (u2 : World) (out2 : List Int) (dn2 : Bool) (A2 : Option Addr) (c2 : Nat), Fr (fun _ => False) w u2 → Row u2 w.heap.size 3 1 A2 out2.length c2 (ivs out2) → out2.length ≤ i + 2 → addS x (out, dn) y = (out2 ++ [y], dn2) →
        jnC (F32.k10 (fun v w' => Fr (fun _ => False) w w' ∧ ∃ A' c', v = .slice A' (addI l x).length c' ∧ Row w' w.heap.size 3 1 A' (addI l x).length c' (ivs (addI l x))) C) ((A, n, c), x, (A2, out2.length, c2), dn2, (i : Int), ()) u2 := by
      intro u2 out2 dn2 A2 c2 fu2 hr2 ho2 hst
      refine jnC_mk (fun _ => sl_rd (rd fu2) (by omega) gi ?_)
      refine push_int (n := out2.length) hr2 fu2.size (by omega) (fun A' c' w' hr' f' => ?_)
      have hl1 : out2.length + 1 = (out2 ++ [y]).length := by simp
      refine jnC_mk (hC _ _ ⟨own_fr fu2 hr2 f', i + 1, out2 ++ [y], dn2, A', c', by omega, ?_, by rw [← hl1]; exact hr', ?_⟩ ?_)
      · show (_, _, _, _, IntKind.wrap .i64 ((i : Int) + 1), ()) = _
        rw [ei i (by omega), hl1]
      · rw [take_succ_at gi, List.foldl_append, hinv]; exact hst
      · show ((n : Int) - IntKind.wrap .i64 ((i : Int) + 1)).toNat < ((n : Int) - (i : Int)).toNat
        rw [ei i (by omega)]; omega
    cases dn with
    | true =>
      refine vIf_f rfl (jnC_mk (fun _ => vIf_f rfl ?_))
      exact last u out true A5 c5 hf hr5 (by omega) (by simp [addS])
    | false =>
      refine vIf_t rfl (sl_rd (rd hf) (by omega) gi (jnC_mk (fun _ => ?_)))
      by_cases hxy : x ≤ y
      · refine vIf_t (decide_eq_true hxy) (sl_rd (rd hf) (by omega) gi ?_)
        refine vIf_mk (fun hlt => ?_) (fun hnl => ?_)
        · have hlt : x < y := of_decide_eq_true hlt
          refine push_int (n := out.length) hr5 fsz (by omega) (fun A' c' w' hr' f' => ?_)
          have hl1 : out.length + 1 = (out ++ [x]).length := by simp
          rw [hl1] at hr' ⊢
          exact last w' (out ++ [x]) true A' c' (own_fr hf hr5 f') hr' (by simp; omega) (by simp [addS, hxy, hlt])
        · have hnl : ¬ x < y := of_decide_eq_false hnl
          exact last u out true A5 c5 hf hr5 (by omega) (by simp [addS, hxy, hnl])
      · exact vIf_f (decide_eq_false hxy) (last u out false A5 c5 hf hr5 (by omega) (by simp [addS, hxy]))
  · have hge2 : ¬ (i : Int) < (n : Int) := of_decide_eq_false hge
    rw [List.take_of_length_le (by omega)] at hinv
    cases dn with
    | true =>
      have he : addI l x = out := by unfold addI; rw [hinv]; rfl
      rw [he]
      exact vIf_f rfl ⟨hf, A5, c5, rfl, hr5⟩
    | false =>
      have he : addI l x = out ++ [x] := by unfold addI; rw [hinv]; rfl
      rw [he]
      refine vIf_t rfl (push_int (n := out.length) hr5 fsz (by omega) (fun A' c' w' hr' f' => ?_))
      have hl1 : out.length + 1 = (out ++ [x]).length := by simp
      rw [hl1] at hr' ⊢
      exact ⟨own_fr hf hr5 f', A', c', rfl, hr'⟩
/-! ### Row -/
theorem norm_step {l : List Int} {i : Nat} {x : Int} (h : l[i]? = some x) : norm (l.take (i + 1)) = addI (norm (l.take i)) x := by rw [take_succ_at h, norm_snoc]
end Go.Proofs.Ytglojgicnchnpaa
