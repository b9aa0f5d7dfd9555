/- Two rows of bytes are held against each other (the document's Same). -/
import Derived.Test.YtihifmamdeafdaaV
import Derived.Test.YtihifmamdeafdaaG8
namespace Go.Proofs.Ytihifmamdeafdaa
open Go.GV Go.RowKit
set_option linter.unusedVariables false
/-! ### two rows of bytes are one -/
theorem same_calls (A : Option Addr) (n c : Nat) (l : List UInt8) (A' : Option Addr) (n' c' : Nat) (l' : List UInt8) (w : World) (h : Sl w 1 A n (l.map bv)) (h' : Sl w 1 A' n' (l'.map bv)) (hn : n < 4611686018427387904) :
    Calls Try.prog 10 #[.slice A n c, .slice A' n' c'] w fun e w' => e = .returned (.bool (l == l')) ∧ Fr (fun _ => False) w w' := by
  have hl : l.length = n := by simpa using h.1
  have hl' : l'.length = n' := by simpa using h'.1
  refine (F10.of A n c A' n' c' w (Q := fun v w' => v = .bool (l == l') ∧ Fr (fun _ => False) w w') ?_).mono (fun e w' ⟨v, he, hv, h⟩ => ⟨by rw [he, hv], h⟩)
  refine vIf_mk (fun h0 => ?_) (fun h0 => jnC_mk ?_)
  · have h0 : (n : Int) ≠ n' := by simpa using h0
    refine ⟨?_, Fr.refl _ _⟩
    have : (l == l') = false := by
      rw [beq_eq_false_iff_ne]
      intro e; subst e; omega
    rw [this]
  · have h0 : n = n' := by have : (n : Int) = n' := by simpa using h0
                           omega
    refine loop_rule (fun s u => Fr (fun _ => False) w u ∧ ∃ i : Nat, i ≤ n ∧ s = ((A, n, c), (A', n', c'), (i : Int), ()) ∧ l.take i = l'.take i)
      (fun s _ => (n - s.2.2.1).toNat) ?_ _ _ ⟨Fr.refl _ _, 0, by omega, rfl, by simp⟩
    rintro s u C ⟨hf, i, hi, rfl, ht⟩ hC _
    refine vIf_mk (fun hlt => ?_) (fun hge => ?_)
    · have hlt2 : (i : Int) < n := of_decide_eq_true hlt
      have hf' : Fr (fun _ => False) w u.drew := hf.trans1 (Fr.drew _ _)
      have e1 : l[i]? = some (l[i]'(by omega)) := List.getElem?_eq_getElem (by omega)
      have e2 : l'[i]? = some (l'[i]'(by omega)) := List.getElem?_eq_getElem (by omega)
      obtain ⟨b, o, hA, hc⟩ := (hf'.sl h (fun _ _ _ h => h)).get (i := i) (by omega) (v := bv (l[i]'(by omega))) (by rw [List.getElem?_map, e1]; rfl)
      obtain ⟨b', o', hA', hc'⟩ := (hf'.sl h' (fun _ _ _ h => h)).get (i := i) (by omega) (v := bv (l'[i]'(by omega))) (by rw [List.getElem?_map, e2]; rfl)
      subst hA; subst hA'
      have hw : IntKind.wrap .i64 ((i : Int) + 1) = ((i + 1 : Nat) : Int) := by rw [i64_id (by omega) (by omega)]; rfl
      refine dr_mk (gd_mk (decide_eq_true (Int.natCast_nonneg i)) (gd_mk (decide_eq_true hlt2) ⟨_, hc, dr_mk (gd_mk (decide_eq_true (Int.natCast_nonneg i)) (gd_mk (decide_eq_true (show (i : Int) < n' by omega)) ⟨_, hc', vIf_mk (fun hd => ⟨?_, hf'⟩) (fun he => jnC_mk (hC _ _ ⟨hf', i + 1, by omega, ?_, ?_⟩ ?_))⟩))⟩))
      · have hd : l[i]'(by omega) ≠ l'[i]'(by omega) := by
          intro e; rw [e] at hd; simp at hd
        have : (l == l') = false := by
          rw [beq_eq_false_iff_ne]
          intro e; subst e; exact hd rfl
        rw [this]
      · show ((_, n, c), (_, n', c'), IntKind.wrap .i64 ((i : Int) + 1), ()) = _
        rw [hw]
      · have he : l[i]'(by omega) = l'[i]'(by omega) := by
          have : ((l[i]'(by omega)).toNat : Int) = ((l'[i]'(by omega)).toNat : Int) := by simpa using he
          exact UInt8.toNat_inj.1 (by omega)
        rw [List.take_add_one, List.take_add_one, ht, e1, e2, he]
      · show ((n : Int) - IntKind.wrap .i64 ((i : Int) + 1)).toNat < ((n : Int) - i).toNat
        rw [hw]; omega
    · have hge : ¬ ((i : Int) < n) := of_decide_eq_false hge
      refine ⟨?_, hf⟩
      have hin : i = n := by omega
      subst hin
      rw [List.take_of_length_le (by omega), List.take_of_length_le (by omega)] at ht
      subst ht
      rw [beq_self_eq_true]
end Go.Proofs.Ytihifmamdeafdaa
