/- the document's rows of digests: Row; are two rows the same? -/
import Derived.Test.YtbifohpdlknjiaaLDRef
namespace Go.Proofs.Ytbifohpdlknjiaa
open Go.GV Go.RowKit Go.Lib
set_option linter.unusedVariables false
set_option linter.unusedSimpArgs false
theorem rrow_calls (A : Option Addr) (n c : Nat) (r : List Dig) (w : World) (h : Sl w 32 A n (dcs r)) (hw : W32 r) (hn : n ≤ 1099511627775) :
    Calls Try.prog 19 #[.slice A n c] w fun e w' => Fr (fun _ => False) w w' ∧ ∃ A' c' r', e = .returned (.slice A' r'.length c') ∧ Row w' w.heap.size 27 32 A' r'.length c' (dcs r') ∧ W32 r' ∧ Asc r' ∧ r'.length ≤ n ∧ ∀ x, x ∈ r' ↔ x ∈ r := by
  refine (F19.of A n c w (Q := fun v w' => Fr (fun _ => False) w w' ∧ ∃ A' c' r', v = .slice A' r'.length c' ∧ Row w' w.heap.size 27 32 A' r'.length c' (dcs r') ∧ W32 r' ∧ Asc r' ∧ r'.length ≤ n ∧ ∀ x, x ∈ r' ↔ x ∈ r) ?_).mono (fun e w' ⟨v, he, hf, A', c', r', hv, h⟩ => ⟨hf, A', c', r', by rw [he, hv], h⟩)
  have hrl := sl_len h hw
  refine jnC_mk (loop_rule (fun s u => Fr (fun _ => False) w u ∧ ∃ (i : Nat) (out : List Dig) (A5 : Option Addr) (c5 : Nat), i ≤ n ∧ s = ((A, n, c), (A5, out.length, c5), (i : Int), ()) ∧ Row u w.heap.size 27 32 A5 out.length c5 (dcs out) ∧ W32 out ∧ Asc out ∧ out.length ≤ i ∧ ∀ x, x ∈ out ↔ x ∈ r.take i)
    (fun s _ => (n - s.2.2.1).toNat) ?_ _ _ ⟨Fr.refl _ _, 0, [], none, 0, by omega, rfl, Row.nil _ _ _ _, (fun x hx => by cases hx), List.Pairwise.nil, Nat.le_refl _, fun x => by simp⟩)
  rintro s u C ⟨hf, i, out, A5, c5, hi, rfl, hr5, hw5, ha5, hol, hmem⟩ hC _
  have hus := hf.size
  refine vIf_mk (fun hlt => ?_) (fun hge => ?_)
  · have hlt2 : (i : Int) < (n : Int) := of_decide_eq_true hlt
    have gi : r[i]? = some (r[i]'(by omega)) := List.getElem?_eq_getElem (by omega)
    have li := hw.at gi
    obtain ⟨b, o, hA, hcell⟩ := sl_dig (hf.sl h (fun _ _ _ h => h)) hw (i := i) (by omega)
    subst hA
    refine dr_mk (gd_mk (decide_eq_true (by show (0 : Int) ≤ (i : Int); omega)) (gd_mk (decide_eq_true hlt2) ⟨(r[i]'(by omega)).map bv, by rw [List.length_map]; exact li, by show cellsAt u b (o + ((i : Int)).toNat * 32) _; rw [Int.toNat_natCast]; exact hcell i _ gi, ?_⟩))
    refine (put_calls A5 out.length c5 out _ u hr5.sl hw5 ha5 li (by omega)).mono ?_
    rintro e u2 ⟨f2, A6, c6, r6, rfl, hr6, hw6, ha6, hl6, hm6⟩
    refine ⟨_, _, _, rfl, jnC_mk (hC _ _ ⟨hf.trans1 f2, i + 1, r6, A6, c6, by omega, ?_, ⟨hr6.len, hr6.le, ?_⟩, hw6, ha6, by omega, fun x => ?_⟩ ?_)⟩
    · show (_, _, IntKind.wrap .i64 ((i : Int) + 1), ()) = _
      rw [i64_id (by omega) (by omega)]; rfl
    · rcases hr6.at_ with h' | ⟨b', cs', q1, q2, q3⟩
      · exact .inl h'
      · exact .inr ⟨b', cs', q1, by omega, q3⟩
    · rw [hm6, hmem, List.take_add_one, gi]
      simp only [List.mem_append, Option.toList_some, List.mem_singleton]
      exact Or.comm
    · show ((n : Int) - IntKind.wrap .i64 ((i : Int) + 1)).toNat < ((n : Int) - (i : Int)).toNat
      rw [i64_id (by omega) (by omega)]; omega
  · have hge2 : ¬ (i : Int) < (n : Int) := of_decide_eq_false hge
    refine ⟨hf, A5, c5, out, rfl, hr5, hw5, ha5, by omega, fun x => ?_⟩
    rw [hmem, List.take_of_length_le (by omega)]
theorem same_dig (A : Option Addr) (n c : Nat) (r : List Dig) (A' : Option Addr) (n' c' : Nat) (r' : List Dig) (w : World) (h : Sl w 32 A n (dcs r)) (hw : W32 r) (h' : Sl w 32 A' n' (dcs r')) (hw' : W32 r') (hn : n ≤ 1099511627776) :
    Calls Try.prog 9 #[.slice A n c, .slice A' n' c'] w fun e w' => e = .returned (.bool (decide (r = r'))) ∧ Fr (fun _ => False) w w' := by
  refine (F9.of A n c A' n' c' w (Q := fun v w' => v = .bool (decide (r = r')) ∧ Fr (fun _ => False) w w') ?_).mono (fun e w' ⟨v, he, hv, h⟩ => ⟨by rw [he, hv], h⟩)
  have hl := sl_len h hw
  have hl' := sl_len h' hw'
  refine vIf_mk (fun h0 => ?_) (fun h0 => jnC_mk ?_)
  · have h0 : (n : Int) ≠ n' := by simpa using h0
    refine ⟨?_, Fr.refl _ _⟩
    rw [decide_eq_false]
    intro e; subst e; omega
  have h0 : n = n' := by have : (n : Int) = n' := by simpa using h0
                         omega
  subst h0
  refine loop_rule (fun s u => Fr (fun _ => False) w u ∧ ∃ i : Nat, i ≤ n ∧ s = ((A, n, c), (A', n, c'), (i : Int), ()) ∧ r.take i = r'.take i)
    (fun s _ => (n - s.2.2.1).toNat) ?_ _ _ ⟨Fr.refl _ _, 0, by omega, rfl, by simp⟩
  rintro s u C ⟨hf, i, hi, rfl, ht⟩ hC _
  refine vIf_mk (fun hlt => ?_) (fun hge => ?_)
  · have hlt2 : (i : Int) < (n : Int) := of_decide_eq_true hlt
    have fd : Fr (fun _ => False) u u.drew := Fr.drew _ _
    have gi : r[i]? = some (r[i]'(by omega)) := List.getElem?_eq_getElem (by omega)
    have gi' : r'[i]? = some (r'[i]'(by omega)) := List.getElem?_eq_getElem (by omega)
    have li := hw.at gi
    have li' := hw'.at gi'
    obtain ⟨b, o, hA, hcell⟩ := sl_dig ((hf.trans1 fd).sl h (fun _ _ _ h => h)) hw (i := i) (by omega)
    obtain ⟨b', o', hA', hcell'⟩ := sl_dig ((hf.trans1 fd).sl h' (fun _ _ _ h => h)) hw' (i := i) (by omega)
    subst hA; subst hA'
    have d0 : decide (0 ≤ (i : Int)) = true := decide_eq_true (by omega)
    refine dr_mk (gd_mk d0 (gd_mk (decide_eq_true hlt2) ⟨_, by rw [List.length_map]; exact li, by show cellsAt u.drew b (o + ((i : Int)).toNat * 32) _; rw [Int.toNat_natCast]; exact hcell i _ gi, dr_mk (gd_mk d0 (gd_mk (decide_eq_true hlt2) ⟨_, by rw [List.length_map]; exact li', by show cellsAt u.drew b' (o' + ((i : Int)).toNat * 32) _; rw [Int.toNat_natCast]; exact hcell' i _ gi', ⟨_, _, li, li', rfl, rfl, ?_⟩⟩))⟩))
    refine vIf_mk (fun hne => ⟨?_, hf.trans1 fd⟩) (fun he => jnC_mk (hC _ _ ⟨hf.trans1 fd, i + 1, by omega, ?_, ?_⟩ ?_))
    · rw [decide_eq_false]
      intro e
      subst e
      simp at hne
    · show (_, _, IntKind.wrap .i64 ((i : Int) + 1), ()) = _
      rw [i64_id (by omega) (by omega)]; rfl
    · have he2 : r[i]'(by omega) = r'[i]'(by omega) := by simpa using he
      rw [List.take_add_one, List.take_add_one, ht, gi, gi', he2]
    · show ((n : Int) - IntKind.wrap .i64 ((i : Int) + 1)).toNat < ((n : Int) - (i : Int)).toNat
      rw [i64_id (by omega) (by omega)]; omega
  · have hge2 : ¬ (i : Int) < (n : Int) := of_decide_eq_false hge
    refine ⟨?_, hf⟩
    rw [decide_eq_true]
    rw [← List.take_of_length_le (l := r) (i := i) (by omega), ← List.take_of_length_le (l := r') (i := i) (by omega)]; exact ht
end Go.Proofs.Ytbifohpdlknjiaa
