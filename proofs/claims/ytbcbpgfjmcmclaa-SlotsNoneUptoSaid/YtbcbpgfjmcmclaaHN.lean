/- chapter 18: the law of a nil table. -/
import Derived.Test.YtbcbpgfjmcmclaaHF
namespace Go.Proofs.Ytbcbpgfjmcmclaa
open Go.GV Go.RowKit Go.Slots
set_option linter.unusedVariables false
theorem none_law (cs : List Value) (hl : cs.length = 32) (w : World) : Calls Try.prog 5 #[ofL cs] w fun e w' => e = .returned (.bool true) ∧ Fr (fun _ => False) w w' := by
  refine (F5.of cs w (Q := fun v w' => v = .bool true ∧ Fr (fun _ => False) w w') ?_).mono (fun e w' ⟨v, he, hv, h⟩ => ⟨by rw [he, hv], h⟩)
  refine nw_mk ?_
  have f1 : Fr (fun _ => False) w (w.alloc (.cells cs.toArray 28)) := Fr.alloc _ _ _
  have r1 : RecAt (w.alloc (.cells cs.toArray 28)) w.heap.size 28 cs := RecAt.new w _ _
  generalize w.alloc (.cells cs.toArray 28) = w1 at f1 r1 ⊢
  refine ⟨cs, hl, r1.cells (fun j v hj => by simpa using hj), ?_⟩
  refine (F20.of none cs _ w1 (Q := fun v w' => v = .tuple #[] ∧ Fr (fun _ => False) w w' ∧ RecAt w' w.heap.size 28 cs) (nw_mk (vIf_t rfl ⟨rfl, f1.trans1 (Fr.alloc _ _ _), r1.fr (Fr.alloc (fun _ => False) _ _) (fun h => h)⟩))).mono ?_
  rintro e w2 ⟨v, rfl, rfl, f2, r2⟩
  refine ⟨rfl, cs, hl, r2.cells (fun j v hj => by simpa using hj), ?_⟩
  refine (F21.of none cs w2 (Q := fun v w' => v = .tuple #[.string ⟨#[]⟩, .bool false] ∧ Fr (fun _ => False) w w' ∧ RecAt w' w.heap.size 28 cs) (nw_mk (vIf_t rfl ⟨rfl, f2.trans1 (Fr.alloc _ _ _), r2.fr (Fr.alloc (fun _ => False) _ _) (fun h => h)⟩))).mono ?_
  rintro e w3 ⟨v, rfl, rfl, f3, r3⟩
  refine ⟨_, _, rfl, vIf_t (by simp) (vIf_t rfl ⟨cs, hl, r3.cells (fun j v hj => by simpa using hj), ?_⟩)⟩
  refine (F22.of none cs w3 (Q := fun v w' => v = .bool false ∧ Fr (fun _ => False) w w') (nw_mk (vIf_t rfl ⟨rfl, f3.trans1 (Fr.alloc _ _ _)⟩))).mono ?_
  rintro e w4 ⟨v, rfl, rfl, f4⟩
  refine ⟨_, rfl, vIf_t rfl ?_⟩
  refine (F23.of none w4 (Q := fun v w' => v = .int .i64 0 ∧ Fr (fun _ => False) w w') (vIf_t rfl ⟨rfl, f4⟩)).mono ?_
  rintro e w5 ⟨v, rfl, rfl, f5⟩
  refine ⟨_, rfl, vIf_t rfl ?_⟩
  refine (F24.of none w5 (Q := fun v w' => v = .int .i64 0 ∧ Fr (fun _ => False) w w') (vIf_t rfl ⟨rfl, f5⟩)).mono ?_
  rintro e w6 ⟨v, rfl, rfl, f6⟩
  refine ⟨_, rfl, vIf_t rfl ?_⟩
  refine (F25.of none w6 (Q := fun v w' => v = .slice none 0 0 ∧ Fr (fun _ => False) w w') (vIf_t rfl ⟨rfl, f6⟩)).mono ?_
  rintro e w7 ⟨v, rfl, rfl, f7⟩
  refine ⟨_, _, _, rfl, vIf_t rfl ((lives_calls w7).mono ?_)⟩
  rintro e w8 ⟨rfl, f8⟩
  exact ⟨_, rfl, rfl, f7.trans1 f8⟩
end Go.Proofs.Ytbcbpgfjmcmclaa
