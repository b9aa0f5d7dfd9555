/- digest: the order of two -/
import Derived.Test.YtnablplljilahaaV
import Derived.Test.YtnablplljilahaaG8
import Derived.Test.YtnablplljilahaaG11
namespace Go.Proofs.Ytnablplljilahaa.Dg
open Go.GV Go.RowKit
set_option linter.unusedVariables false
set_option linter.unusedSimpArgs false
theorem eqAB_bytes {n : Nat} {a b : List UInt8} {K : Bool → Prop} (ha : a.length = n) (hb : b.length = n) (hK : K (a == b)) : eqAB n (a.map bv) (b.map bv) K := ⟨a, b, ha, hb, rfl, rfl, hK⟩
open Lib in
theorem cmp_calls (a b : List UInt8) (w : World) (ha : a.length = 32) (hb : b.length = 32) :
    Calls Try.prog 56 #[ofL (a.map bv), ofL (b.map bv)] w fun e w' => e = .returned (.int .i64 (compareBytes a b)) ∧ Fr (fun _ => False) w w' := by
  refine (F56.of (a.map bv) (b.map bv) w (Q := fun v w' => v = .int .i64 (compareBytes a b) ∧ Fr (fun _ => False) w w') ?_).mono (fun e w' ⟨v, he, hv, h⟩ => ⟨by rw [he, hv], h⟩)
  refine nw_mk (nw_mk ?_)
  have f1 : Fr (fun _ => False) w (w.alloc (.cells (a.map bv).toArray 29)) := Fr.alloc _ _ _
  have r1 : RecAt (w.alloc (.cells (a.map bv).toArray 29)) w.heap.size 29 (a.map bv) := RecAt.new w _ _
  generalize w.alloc (.cells (a.map bv).toArray 29) = w1 at f1 r1 ⊢
  have f2 : Fr (fun _ => False) w1 (w1.alloc (.cells (b.map bv).toArray 29)) := Fr.alloc _ _ _
  have r2 : RecAt (w1.alloc (.cells (b.map bv).toArray 29)) w1.heap.size 29 (b.map bv) := RecAt.new w1 _ _
  have r12 := r1.fr f2 (fun h => h)
  generalize w1.alloc (.cells (b.map bv).toArray 29) = w2 at f2 r2 r12 ⊢
  have cell : ∀ {l : List UInt8} {u : World} {g : Nat} {ty : TypeId}, RecAt u g ty (l.map bv) → cellsAt u g 0 (l.map bv) := fun r => r.cells (o := 0) (fun q v hq => by simpa using hq)
  refine ⟨a.map bv, by simp [ha], cell r12, b.map bv, by simp [hb], cell r2, eqAB_bytes ha hb (vIf_mk (fun he => ?_) (fun hne => ?_))⟩
  · have he : a = b := by simpa using he
    subst he
    exact ⟨by rw [cmp_self], f1.trans1 f2⟩
  · have s1 : Sl w2.drew 1 (some ⟨w.heap.size, 0, none⟩) 32 (a.map bv) := ⟨by simp [ha], fun _ => ⟨_, 0, rfl, cell (show RecAt w2.drew _ _ _ from r12)⟩⟩
    have s2 : Sl w2.drew 1 (some ⟨w1.heap.size, 0, none⟩) 32 (b.map bv) := ⟨by simp [hb], fun _ => ⟨_, 0, rfl, cell (show RecAt w2.drew _ _ _ from r2)⟩⟩
    refine (F63.of _ 32 32 _ 32 32 w2.drew (Q := fun v w' => v = .int .i64 (compareBytes a b) ∧ w' = w2.drew) (compare_ext Try.func83 (by kernel_rfl) (by kernel_rfl) (by kernel_rfl) s1 s2 ⟨_, rfl, rfl, rfl⟩)).mono ?_
    rintro e w3 ⟨v, rfl, rfl, rfl⟩
    exact ⟨_, rfl, rfl, (f1.trans1 f2).trans1 (Fr.drew _ _)⟩
end Go.Proofs.Ytnablplljilahaa.Dg
