/- chapter 37: nil uploads. -/
import Derived.Test.YtihifmamdeafdaaHL
namespace Go.Proofs.Ytihifmamdeafdaa
open Go.GV Go.RowKit
set_option linter.unusedVariables false
theorem find_nil (id : Int) (w : World) : Calls Try.prog 19 #[.pointer none, .int .i64 id] w fun e w' => e = .returned (.tuple #[.int .i64 0, .int .i64 1]) ∧ w' = w :=
  (F19.of none id w (Q := fun v w' => v = .tuple #[.int .i64 0, .int .i64 1] ∧ w' = w) (vIf_t rfl ⟨rfl, rfl⟩)).mono (fun e w' ⟨v, he, hv, h⟩ => ⟨by rw [he, hv], h⟩)
theorem begin_nil (w : World) : Calls Try.prog 7 #[.pointer none] w fun e w' => e = .returned (.tuple #[.int .i64 0, .int .i64 1]) ∧ w' = w :=
  (F7.of none w (Q := fun v w' => v = .tuple #[.int .i64 0, .int .i64 1] ∧ w' = w) (vIf_t rfl ⟨rfl, rfl⟩)).mono (fun e w' ⟨v, he, hv, h⟩ => ⟨by rw [he, hv], h⟩)
theorem data_nil (id : Int) (w : World) : Calls Try.prog 9 #[.pointer none, .int .i64 id] w fun e w' => e = .returned (.tuple #[.slice none 0 0, .int .i64 1]) ∧ w' = w := by
  refine (F9.of none id w (Q := fun v w' => v = .tuple #[.slice none 0 0, .int .i64 1] ∧ w' = w) ?_).mono (fun e w' ⟨v, he, hv, h⟩ => ⟨by rw [he, hv], h⟩)
  refine (find_nil id w).mono ?_
  rintro e w1 ⟨rfl, rfl⟩
  exact ⟨0, 1, rfl, vIf_t rfl ⟨rfl, rfl⟩⟩
theorem chunk_nil (id off : Int) (A : Option Addr) (n c : Nat) (most : Int) (w : World) : Calls Try.prog 8 #[.pointer none, .int .i64 id, .int .i64 off, .slice A n c, .int .i64 most] w fun e w' => e = .returned (.int .i64 1) ∧ w' = w := by
  refine (F8.of none id off A n c most w (Q := fun v w' => v = .int .i64 1 ∧ w' = w) ?_).mono (fun e w' ⟨v, he, hv, h⟩ => ⟨by rw [he, hv], h⟩)
  refine (find_nil id w).mono ?_
  rintro e w1 ⟨rfl, rfl⟩
  exact ⟨0, 1, rfl, vIf_t rfl ⟨rfl, rfl⟩⟩
theorem end_nil (id : Int) (w : World) : Calls Try.prog 14 #[.pointer none, .int .i64 id] w fun e w' => e = .returned (.int .i64 1) ∧ w' = w := by
  refine (F14.of none id w (Q := fun v w' => v = .int .i64 1 ∧ w' = w) ?_).mono (fun e w' ⟨v, he, hv, h⟩ => ⟨by rw [he, hv], h⟩)
  refine (find_nil id w).mono ?_
  rintro e w1 ⟨rfl, rfl⟩
  exact ⟨0, 1, rfl, vIf_f rfl ⟨rfl, rfl⟩⟩
theorem open_nil (w : World) : Calls Try.prog 17 #[.pointer none] w fun e w' => e = .returned (.slice none 0 0) ∧ w' = w :=
  (F17.of none w (Q := fun v w' => v = .slice none 0 0 ∧ w' = w) (vIf_t rfl ⟨rfl, rfl⟩)).mono (fun e w' ⟨v, he, hv, h⟩ => ⟨by rw [he, hv], h⟩)
theorem none_law (kind id off most : Int) (A : Option Addr) (n c : Nat) (w : World) :
    Calls Try.prog 5 #[ofL [.int .i64 kind, .int .i64 id, .int .i64 off, .slice A n c, .int .i64 most]] w fun e w' => e = .returned (.bool true) ∧ Fr (fun _ => False) w w' := by
  refine (F5.of [.int .i64 kind, .int .i64 id, .int .i64 off, .slice A n c, .int .i64 most] w (Q := fun v w' => v = .bool true ∧ Fr (fun _ => False) w w') ?_).mono (fun e w' ⟨v, he, hv, h⟩ => ⟨by rw [he, hv], h⟩)
  refine nw_mk ?_
  have hr := RecAt.new w [.int .i64 kind, .int .i64 id, .int .i64 off, .slice A n c, .int .i64 most] 40
  have f1 : Fr (fun _ => False) w (w.alloc (.cells [Value.int .i64 kind, .int .i64 id, .int .i64 off, .slice A n c, .int .i64 most].toArray 40)) := Fr.alloc _ _ _
  generalize w.alloc (.cells [Value.int .i64 kind, .int .i64 id, .int .i64 off, .slice A n c, .int .i64 most].toArray 40) = w1 at hr f1 ⊢
  refine (begin_nil w1).mono ?_
  rintro e u ⟨rfl, rfl⟩
  refine ⟨0, 1, rfl, ⟨id, hr.cell rfl, (data_nil id u).mono ?_⟩⟩
  rintro e u2 ⟨rfl, rfl⟩
  refine ⟨none, 0, 0, 1, rfl, vIf_t rfl (vIf_t rfl (vIf_t rfl (vIf_t rfl ⟨id, hr.cell rfl, off, hr.cell rfl, A, n, c, hr.cell rfl, most, hr.cell rfl, (chunk_nil id off A n c most u2).mono ?_⟩)))⟩
  rintro e u3 ⟨rfl, rfl⟩
  refine ⟨1, rfl, vIf_t rfl ⟨id, hr.cell rfl, (end_nil id u3).mono ?_⟩⟩
  rintro e u4 ⟨rfl, rfl⟩
  refine ⟨1, rfl, vIf_t rfl ((open_nil u4).mono ?_)⟩
  rintro e u5 ⟨rfl, rfl⟩
  refine ⟨none, 0, 0, rfl, vIf_t rfl ((lives_calls u5).mono ?_)⟩
  rintro e u6 ⟨rfl, f6⟩
  exact ⟨true, rfl, rfl, f1.trans1 f6⟩
end Go.Proofs.Ytihifmamdeafdaa
