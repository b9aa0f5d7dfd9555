/- Clone of rows of ints -/
import Derived.Test.YtnablplljilahaaLWdF
namespace Go.Proofs.Ytnablplljilahaa
open Go.GV Go.RowKit Go.Lib
set_option linter.unusedVariables false
set_option linter.unusedSimpArgs false
/-! ### copies -/
theorem blk_none {A : Option Addr} (h : A.isNone = true) : A = none := by simpa using h
theorem clI_calls (A : Option Addr) (n c : Nat) (l : List Int) (w : World) (h : Sl w 1 A n (ivs l)) (hn : n ≤ 17179869184) :
    Calls Try.prog 36 #[.slice A n c] w fun e w' => Fr (fun _ => False) w w' ∧ ∃ A' c', e = .returned (.slice A' n c') ∧ Row w' w.heap.size 3 1 A' n c' (ivs l) := by
  refine (F36.of A n c w (Q := fun v w' => Fr (fun _ => False) w w' ∧ ∃ A' c', v = .slice A' n c' ∧ Row w' w.heap.size 3 1 A' n c' (ivs l)) ?_).mono (fun e w' ⟨v, he, hf, A', c', hv, h⟩ => ⟨hf, A', c', by rw [he, hv], h⟩)
  have hl := sl_n h
  refine vIf_mk (fun h0 => ?_) (fun h0 => nw_mk ?_)
  · have : n = 0 := by
      refine Classical.byContradiction fun hn0 => ?_
      obtain ⟨b, o, hA, _⟩ := h.2 hn0
      rw [hA] at h0; cases h0
    subst this
    have : l = [] := List.length_eq_zero_iff.1 hl
    subst this
    exact ⟨Fr.refl _ _, none, 0, rfl, Row.nil _ _ _ _⟩
  · have f1 : Fr (fun _ => False) w (w.alloc (.cells ([] : List Value).toArray 3)) := Fr.alloc _ _ _
    have r1 : Row (w.alloc (.cells ([] : List Value).toArray 3)) w.heap.size 3 1 (some ⟨w.heap.size, 0, none⟩) 0 0 [] := Row.new (Nat.le_refl _) rfl
    have hs : (w.alloc (.cells ([] : List Value).toArray 3)).heap.size = w.heap.size + 1 := alloc_size _ _
    generalize w.alloc (.cells ([] : List Value).toArray 3) = w1 at f1 r1 hs ⊢
    refine app_row r1 (sl_fr h f1).src (ivs_one l) rfl (by omega) (by omega) (by omega) (fun A' c' w' hr' f' => ⟨?_, A', c', ?_, ?_⟩)
    · exact f1.trans f' (fun _ _ h => h) (fun k hk h' => by simp only [blkOf, Option.some.injEq] at h'; omega)
    · rw [Nat.zero_add]
    · rw [Nat.zero_add, List.nil_append] at hr'; exact hr'
end Go.Proofs.Ytnablplljilahaa
