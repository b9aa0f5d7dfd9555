/- slices.Clone: rows of api.Named -/
import Derived.Test.YtglojgicnchnpaaV
import Derived.Test.YtglojgicnchnpaaG14
namespace Go.Proofs.Ytglojgicnchnpaa.ClnNm
open Go.GV Go.RowKit
set_option linter.unusedVariables false
theorem clone_calls (A : Option Addr) (n c : Nat) (vs : List Value) (w : World) (h : Sl w 2 A n vs) (ho : ∀ v ∈ vs, v.oneCell' = true) (hn : n ≤ 1073741824) :
    Calls Try.prog 40 #[.slice A n c] w fun e w' => Fr (fun _ => False) w w' ∧ ∃ A' c', e = .returned (.slice A' n c') ∧ Row w' w.heap.size 48 2 A' n c' vs := by
  refine (F40.of A n c w (Q := fun v w' => Fr (fun _ => False) w w' ∧ ∃ A' c', v = .slice A' n c' ∧ Row w' w.heap.size 48 2 A' n c' vs) ?_).mono (fun e w' ⟨v, he, hf, A', c', hv, h⟩ => ⟨hf, A', c', by rw [he, hv], h⟩)
  refine vIf_mk (fun h0 => ?_) (fun h0 => nw_mk ?_)
  · have : n = 0 := by
      refine Classical.byContradiction fun hn0 => ?_
      obtain ⟨b, o, hA, _⟩ := h.2 hn0
      rw [hA] at h0; cases h0
    subst this
    have : vs = [] := List.length_eq_zero_iff.1 (by have := h.1; omega)
    subst this
    exact ⟨Fr.refl _ _, none, 0, rfl, Row.nil _ _ _ _⟩
  · have f1 : Fr (fun _ => False) w (w.alloc (.cells ([] : List Value).toArray 48)) := Fr.alloc _ _ _
    have r1 : Row (w.alloc (.cells ([] : List Value).toArray 48)) w.heap.size 48 2 (some ⟨w.heap.size, 0, none⟩) 0 0 [] := Row.new (Nat.le_refl _) rfl
    have hs : (w.alloc (.cells ([] : List Value).toArray 48)).heap.size = w.heap.size + 1 := alloc_size _ _
    generalize w.alloc (.cells ([] : List Value).toArray 48) = w1 at f1 r1 hs ⊢
    refine app_row r1 (f1.sl h (fun _ _ _ h => h)).src ho rfl (by omega) (by omega) (by omega) (fun A' c' w' hr' f' => ⟨?_, A', c', ?_, ?_⟩)
    · exact f1.trans f' (fun _ _ h => h) (fun k hk h' => by simp only [blkOf, Option.some.injEq] at h'; omega)
    · rw [Nat.zero_add]
    · rw [Nat.zero_add, List.nil_append] at hr'; exact hr'
end Go.Proofs.Ytglojgicnchnpaa.ClnNm
