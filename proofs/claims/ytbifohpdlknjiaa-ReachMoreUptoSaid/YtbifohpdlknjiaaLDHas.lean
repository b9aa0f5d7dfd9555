/- the document's rows of digests: is one in a list? -/
import Derived.Test.YtbifohpdlknjiaaLDRef
namespace Go.Proofs.Ytbifohpdlknjiaa
open Go.GV Go.RowKit Go.Lib
set_option linter.unusedVariables false
set_option linter.unusedSimpArgs false
theorem rhas_calls (A : Option Addr) (n c : Nat) (r : List Dig) (d : Dig) (w : World) (h : Sl w 32 A n (dcs r)) (hw : W32 r) (hd : d.length = 32) (hn : n ≤ 1099511627776) :
    Calls Try.prog 7 #[.slice A n c, ofL (d.map bv)] w fun e w' => e = .returned (.bool (decide (d ∈ r))) ∧ Fr (fun _ => False) w w' := by
  refine (F7.of A n c (d.map bv) w (Q := fun v w' => v = .bool (decide (d ∈ r)) ∧ Fr (fun _ => False) w w') ?_).mono (fun e w' ⟨v, he, hv, h⟩ => ⟨by rw [he, hv], h⟩)
  have hl := sl_len h hw
  have ld : (d.map bv).length = 32 := by simp [hd]
  refine nw_mk (jnC_mk ?_)
  have f1 : Fr (fun _ => False) w (w.alloc (.cells (d.map bv).toArray 27)) := Fr.alloc _ _ _
  have r1 : RecAt (w.alloc (.cells (d.map bv).toArray 27)) w.heap.size 27 (d.map bv) := RecAt.new w _ _
  generalize w.alloc (.cells (d.map bv).toArray 27) = w1 at f1 r1 ⊢
  generalize w.heap.size = b1 at r1 ⊢
  refine loop_rule (fun s u => Fr (fun _ => False) w u ∧ RecAt u b1 27 (d.map bv) ∧ ∃ i : Nat, i ≤ n ∧ s = ((A, n, c), (b1, 0), (i : Int), ()) ∧ d ∉ r.take i)
    (fun s _ => (n - s.2.2.1).toNat) ?_ _ _ ⟨f1, r1, 0, by omega, rfl, by simp⟩
  rintro s u C ⟨hf, hr1, i, hi, rfl, ht⟩ hC _
  refine vIf_mk (fun hlt => ?_) (fun hge => ?_)
  · have hlt2 : (i : Int) < (n : Int) := of_decide_eq_true hlt
    have fd : Fr (fun _ => False) u u.drew := Fr.drew _ _
    have gi : r[i]? = some (r[i]'(by omega)) := List.getElem?_eq_getElem (by omega)
    have li := hw.at gi
    obtain ⟨b, o, hA, hcell⟩ := sl_dig ((hf.trans1 fd).sl h (fun _ _ _ h => h)) hw (i := i) (by omega)
    subst hA
    have d0 : decide (0 ≤ (i : Int)) = true := decide_eq_true (by omega)
    refine dr_mk (gd_mk d0 (gd_mk (decide_eq_true hlt2) ⟨_, by rw [List.length_map]; exact li, by show cellsAt u.drew b (o + ((i : Int)).toNat * 32) _; rw [Int.toNat_natCast]; exact hcell i _ gi, _, ld, cellsB (show RecAt u.drew b1 _ _ from hr1), ⟨_, _, li, hd, rfl, rfl, ?_⟩⟩))
    refine vIf_mk (fun he => ⟨?_, hf.trans1 fd⟩) (fun hne => jnC_mk (hC _ _ ⟨hf.trans1 fd, hr1, i + 1, by omega, ?_, ?_⟩ ?_))
    · have he2 : r[i]'(by omega) = d := by simpa using he
      rw [decide_eq_true]
      exact he2 ▸ List.getElem_mem _
    · show (_, _, IntKind.wrap .i64 ((i : Int) + 1), ()) = _
      rw [i64_id (by omega) (by omega)]; rfl
    · have hne2 : r[i]'(by omega) ≠ d := by
        intro he; rw [he] at hne; simp at hne
      rw [List.take_add_one, gi]
      simp only [List.mem_append, Option.toList_some, List.mem_singleton, not_or]
      exact ⟨ht, fun h => hne2 h.symm⟩
    · show ((n : Int) - IntKind.wrap .i64 ((i : Int) + 1)).toNat < ((n : Int) - (i : Int)).toNat
      rw [i64_id (by omega) (by omega)]; omega
  · have hge2 : ¬ (i : Int) < (n : Int) := of_decide_eq_false hge
    rw [List.take_of_length_le (by omega)] at ht
    exact ⟨by rw [decide_eq_false ht], hf⟩
end Go.Proofs.Ytbifohpdlknjiaa
