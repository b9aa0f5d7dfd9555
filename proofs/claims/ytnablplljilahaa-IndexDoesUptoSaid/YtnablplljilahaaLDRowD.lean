/- rows of digests: how they lie; a row that rises -/
import Derived.Test.YtnablplljilahaaLDCmp
namespace Go.Proofs.Ytnablplljilahaa.Dg
open Go.GV Go.RowKit Go.Lib
set_option linter.unusedVariables false
set_option linter.unusedSimpArgs false
abbrev Dig := List UInt8
def dcs (r : List Dig) : List Value := (r.map (fun d => d.map bv)).flatten
def W32 (r : List Dig) : Prop := ∀ d ∈ r, d.length = 32
theorem W32.at {r : List Dig} (h : W32 r) {i : Nat} {d : Dig} (hi : r[i]? = some d) : d.length = 32 := h d (List.mem_of_getElem? hi)
theorem dcs_flat {r : List Dig} (h : W32 r) : (dcs r).length = r.length * 32 ∧ ∀ (i : Nat) (d : Dig) (j : Nat), r[i]? = some d → j < 32 → (dcs r)[i * 32 + j]? = (d.map bv)[j]? := by
  obtain ⟨h1, h2⟩ := flatten_get (vss := r.map (fun d => d.map bv)) (k := 32) (fun i v hv => by
    rw [List.getElem?_map] at hv
    cases hr : r[i]? with
    | none => rw [hr] at hv; cases hv
    | some d => rw [hr] at hv; injection hv with hv; subst hv; rw [List.length_map]; exact h.at hr)
  refine ⟨by unfold dcs; rw [h1, List.length_map], fun i d j hi hj => ?_⟩
  exact h2 i _ j (by rw [List.getElem?_map, hi]; rfl) hj
theorem dcs_len {r : List Dig} (h : W32 r) : (dcs r).length = r.length * 32 := (dcs_flat h).1
theorem dcs_at {r : List Dig} (h : W32 r) {i : Nat} {d : Dig} (hi : r[i]? = some d) (j : Nat) (v : Value) (hv : (d.map bv)[j]? = some v) : (dcs r)[i * 32 + j]? = some v := by
  have hj := (List.getElem?_eq_some_iff.1 hv).1
  rw [List.length_map, h.at hi] at hj
  rw [(dcs_flat h).2 i d j hi hj]; exact hv
theorem dcs_append (a b : List Dig) : dcs (a ++ b) = dcs a ++ dcs b := by simp [dcs]
theorem dcs_one (d : Dig) : dcs [d] = d.map bv := by simp [dcs]
theorem dcs_oneCell (r : List Dig) : ∀ v ∈ dcs r, v.oneCell' = true := by
  intro v hv
  simp only [dcs, List.mem_flatten, List.mem_map] at hv
  obtain ⟨l, ⟨d, _, rfl⟩, hv⟩ := hv
  exact bvs_one d v hv
theorem dcs_take {r : List Dig} (h : W32 r) (k : Nat) : dcs (r.take k) = (dcs r).take (k * 32) := by
  by_cases hk : k ≤ r.length
  · have e : dcs r = dcs (r.take k) ++ dcs (r.drop k) := by rw [← dcs_append, List.take_append_drop]
    have hl : (dcs (r.take k)).length = k * 32 := by rw [dcs_len (fun d hd => h d (List.mem_of_mem_take hd)), List.length_take]; congr 1; omega
    rw [e, List.take_append_of_le_length (by omega), List.take_of_length_le (l := dcs (r.take k)) (by omega)]
  · rw [List.take_of_length_le (by omega), List.take_of_length_le (by rw [dcs_len h]; omega)]
/-- an element of a slice of digests -/
theorem sl_dig {w : World} {A : Option Addr} {n : Nat} {r : List Dig} (hs : Sl w 32 A n (dcs r)) (hw : W32 r) {i : Nat} (hi : i < n) : ∃ b o, A = some ⟨b, o, none⟩ ∧ ∀ j d, r[j]? = some d → cellsAt w b (o + j * 32) (d.map bv) := by
  obtain ⟨b, o, hA, hc⟩ := hs.2 (by omega)
  refine ⟨b, o, hA, fun j d hj q v hq => ?_⟩
  rw [Nat.add_assoc]
  exact hc _ v (dcs_at hw hj q v hq)
theorem sl_len {w : World} {A : Option Addr} {n : Nat} {r : List Dig} (hs : Sl w 32 A n (dcs r)) (hw : W32 r) : r.length = n := by
  have := hs.1
  rw [dcs_len hw] at this
  omega
/-! ### rows that rise -/
def LeD (a b : Dig) : Prop := compareBytes a b ≤ 0
def LtD (a b : Dig) : Prop := compareBytes a b < 0
theorem LtD.trans {a b c : Dig} (h1 : LtD a b) (h2 : LtD b c) : LtD a c := by
  have h := cmp_trans a b c (by unfold LtD at h1; omega) (by unfold LtD at h2; omega)
  unfold LtD at *
  rcases cmp_range a c with h' | h' | h'
  · omega
  · have := (cmp_zero a c).1 h'
    subst this
    have := cmp_anti a b
    omega
  · omega
theorem LtD.irrefl {a : Dig} : ¬ LtD a a := by unfold LtD; rw [cmp_self]; omega
theorem LeD.lt {a b : Dig} (h : LeD a b) (hn : a ≠ b) : LtD a b := by
  unfold LeD LtD at *
  have : compareBytes a b ≠ 0 := fun h' => hn ((cmp_zero a b).1 h')
  omega
theorem LeD.trans {a b c : Dig} (h1 : LeD a b) (h2 : LeD b c) : LeD a c := cmp_trans a b c h1 h2
theorem LeD.of_lt {a b : Dig} (h : LtD a b) : LeD a b := by unfold LeD LtD at *; omega
theorem LeD.refl (a : Dig) : LeD a a := by unfold LeD; rw [cmp_self]; omega
theorem leD_lt {a b c : Dig} (h1 : LeD a b) (h2 : LtD b c) : LtD a c := by
  by_cases h : a = b
  · subst h; exact h2
  · exact (h1.lt h).trans h2
def Asc (r : List Dig) : Prop := r.Pairwise LtD
/-- a row that rises is told by its members -/
theorem Asc.unique : ∀ {r s : List Dig}, Asc r → Asc s → (∀ d, d ∈ r ↔ d ∈ s) → r = s
  | [], [], _, _, _ => rfl
  | [], b :: s, _, _, h => by have := (h b).2 (List.mem_cons_self ..); cases this
  | a :: r, [], _, _, h => by have := (h a).1 (List.mem_cons_self ..); cases this
  | a :: r, b :: s, hr, hs, h => by
    obtain ⟨hr1, hr2⟩ := List.pairwise_cons.1 hr
    obtain ⟨hs1, hs2⟩ := List.pairwise_cons.1 hs
    have hab : a = b := by
      rcases List.mem_cons.1 ((h a).1 (List.mem_cons_self ..)) with e | h1
      · exact e
      · rcases List.mem_cons.1 ((h b).2 (List.mem_cons_self ..)) with e | h2
        · exact e.symm
        · exact absurd ((hs1 a h1).trans (hr1 b h2)) LtD.irrefl
    subst hab
    congr 1
    refine Asc.unique hr2 hs2 (fun d => ⟨fun hd => ?_, fun hd => ?_⟩)
    · rcases List.mem_cons.1 ((h d).1 (List.mem_cons_of_mem _ hd)) with e | h1
      · subst e; exact absurd (hr1 d hd) LtD.irrefl
      · exact h1
    · rcases List.mem_cons.1 ((h d).2 (List.mem_cons_of_mem _ hd)) with e | h1
      · subst e; exact absurd (hs1 d hd) LtD.irrefl
      · exact h1
/-- without neighbours that are one -/
def cpt (r : List Dig) : Nat → List Dig
  | 0 => []
  | n + 1 => cpt r n ++ (if n ≠ 0 ∧ r[n]? = r[n - 1]? then [] else r[n]?.toList)
theorem cpt_len (r : List Dig) : ∀ n, (cpt r n).length ≤ n
  | 0 => Nat.le_refl _
  | n + 1 => by
    have := cpt_len r n
    simp only [cpt, List.length_append]
    split
    · simp; omega
    · cases r[n]? <;> simp <;> omega
theorem cpt_mem (r : List Dig) : ∀ n d, d ∈ cpt r n ↔ d ∈ r.take n
  | 0, d => by simp [cpt]
  | n + 1, d => by
    have ih := cpt_mem r n d
    rw [cpt, List.take_add_one, List.mem_append, List.mem_append, ih]
    by_cases h : n ≠ 0 ∧ r[n]? = r[n - 1]?
    · rw [if_pos h]
      constructor
      · intro h'; exact h'.elim .inl (fun h => by cases h)
      · rintro (h' | h')
        · exact .inl h'
        · left
          rw [h.2] at h'
          cases hr : r[n - 1]? with
          | none => rw [hr] at h'; cases h'
          | some x =>
            rw [hr] at h'
            simp at h'
            subst h'
            exact List.mem_of_getElem? (i := n - 1) (by rw [List.getElem?_take, if_pos (by omega)]; exact hr)
    · rw [if_neg h]
theorem cpt_asc {r : List Dig} (h : r.Pairwise LeD) : ∀ n, n ≤ r.length → Asc (cpt r n)
  | 0, _ => List.Pairwise.nil
  | n + 1, hn => by
    have ih := cpt_asc h n (by omega)
    rw [cpt]
    by_cases hc : n ≠ 0 ∧ r[n]? = r[n - 1]?
    · rw [if_pos hc, List.append_nil]; exact ih
    · rw [if_neg hc, List.getElem?_eq_getElem (by omega)]
      refine List.pairwise_append.2 ⟨ih, by simp, fun a ha b hb => ?_⟩
      simp at hb
      subst hb
      have ha' := (cpt_mem r n a).1 ha
      obtain ⟨i, hi, hai⟩ := List.mem_iff_getElem.1 ha'
      rw [List.length_take] at hi
      rw [List.getElem_take] at hai
      have hn0 : n ≠ 0 := by omega
      have hprev : r[n - 1]'(by omega) ≠ r[n]'(by omega) := by
        intro he
        apply hc
        refine ⟨hn0, ?_⟩
        rw [List.getElem?_eq_getElem (by omega), List.getElem?_eq_getElem (by omega), he]
      have hp := List.pairwise_iff_getElem.1 h
      have h2 : LtD (r[n - 1]'(by omega)) (r[n]'(by omega)) := (hp (n - 1) n (by omega) (by omega) (by omega)).lt hprev
      subst hai
      by_cases hin : i = n - 1
      · subst hin; exact h2
      · exact leD_lt (hp i (n - 1) (by omega) (by omega) (by omega)) h2
theorem cpt_W32 {r : List Dig} (h : W32 r) (n : Nat) : W32 (cpt r n) := fun d hd => h d (List.mem_of_mem_take ((cpt_mem r n d).1 hd))
end Go.Proofs.Ytnablplljilahaa.Dg
