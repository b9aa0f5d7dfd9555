/- chapter 06: the law of order -/
import Derived.Test.YtmjdcgphahdhbaaDoorLDLess
namespace Go.Proofs.YtmjdcgphahdhbaaDoor
open Go.GV Go.RowKit Go.Lib
set_option linter.unusedVariables false
set_option linter.unusedSimpArgs false
theorem lives_calls (w : World) (hK : KAt w) : Calls Tryd.prog 9 #[] w fun e w' => e = .returned (.bool true) ∧ Fr (fun _ => False) w w' := by
  refine (F9.of w (Q := fun v w' => v = .bool true ∧ Fr (fun _ => False) w w') ?_).mono (fun e w' ⟨v, he, hv, h⟩ => ⟨by rw [he, hv], h⟩)
  refine (of_calls none 0 0 [] w (Sl.nil _ _ _) hK (by decide)).mono ?_
  rintro e w1 ⟨rfl, f1⟩
  refine ⟨_, rfl, (dtext_calls (shaP []) w1 (shaP_len _)).mono ?_⟩
  rintro e w2 ⟨rfl, f2⟩
  refine ⟨_, rfl, ?_, f1.trans1 f2⟩
  congr 1
  rw [sha_nil]
  have : (⟨(kindB ++ enc emptyP).toArray⟩ : ByteArray) = S0 := by
    apply ByteArray.ext
    apply Array.toList_inj.1
    decide +kernel
  rw [this]
  exact beq_self_eq_true _
theorem order_law (a b c : List UInt8) (w : World) (ha : a.length = 32) (hb : b.length = 32) (hc : c.length = 32) (hK : KAt w) :
    Calls Tryd.prog 3 #[ofL (a.map bv), ofL (b.map bv), ofL (c.map bv)] w fun e w' => e = .returned (.bool true) ∧ Fr (fun _ => False) w w' := by
  refine (F3.of (a.map bv) (b.map bv) (c.map bv) w (Q := fun v w' => v = .bool true ∧ Fr (fun _ => False) w w') ?_).mono (fun e w' ⟨v, he, hv, h⟩ => ⟨by rw [he, hv], h⟩)
  refine nw_mk (nw_mk (nw_mk ?_))
  have f1 : Fr (fun _ => False) w (w.alloc (.cells (a.map bv).toArray 23)) := Fr.alloc _ _ _
  have r1 : RecAt (w.alloc (.cells (a.map bv).toArray 23)) w.heap.size 23 (a.map bv) := RecAt.new w _ _
  generalize w.alloc (.cells (a.map bv).toArray 23) = w1 at f1 r1 ⊢
  have f2 : Fr (fun _ => False) w1 (w1.alloc (.cells (b.map bv).toArray 23)) := Fr.alloc _ _ _
  have r2 : RecAt (w1.alloc (.cells (b.map bv).toArray 23)) w1.heap.size 23 (b.map bv) := RecAt.new w1 _ _
  have r12 := r1.fr f2 (fun h => h)
  generalize w1.alloc (.cells (b.map bv).toArray 23) = w2 at f2 r2 r12 ⊢
  have f3 : Fr (fun _ => False) w2 (w2.alloc (.cells (c.map bv).toArray 23)) := Fr.alloc _ _ _
  have r3 : RecAt (w2.alloc (.cells (c.map bv).toArray 23)) w2.heap.size 23 (c.map bv) := RecAt.new w2 _ _
  have r13 := r12.fr f3 (fun h => h)
  have r23 := r2.fr f3 (fun h => h)
  have f13 := (f1.trans1 f2).trans1 f3
  generalize w2.alloc (.cells (c.map bv).toArray 23) = w3 at f3 r3 r13 r23 f13 ⊢
  generalize w.heap.size = b1 at *
  generalize w1.heap.size = b3 at *
  generalize w2.heap.size = b5 at *
  have cell : ∀ {l : List UInt8} {u : World} {g : Nat} {ty : TypeId}, RecAt u g ty (l.map bv) → cellsAt u g 0 (l.map bv) := fun r => r.cells (o := 0) (fun q v hq => by simpa using hq)
  have la : (a.map bv).length = 32 := by simp [ha]
  have lb : (b.map bv).length = 32 := by simp [hb]
  have lc : (c.map bv).length = 32 := by simp [hc]
  refine ⟨_, la, cell r13, _, lb, cell r23, (cmp_calls a b w3 ha hb).mono ?_⟩
  rintro e w4 ⟨rfl, f4⟩
  refine ⟨_, rfl, _, lb, cell (r23.fr f4 (fun h => h)), _, la, cell (r13.fr f4 (fun h => h)), (cmp_calls b a w4 hb ha).mono ?_⟩
  rintro e w5 ⟨rfl, f5⟩
  have f35 := f4.trans1 f5
  have hr := cmp_range a b
  have hrb := cmp_range b a
  have han := cmp_anti a b
  refine ⟨_, rfl, vIf_f (by rw [i64_id (by omega) (by omega)]; simp; omega) (vIf_f (decide_eq_false (by omega)) (vIf_f (decide_eq_false (by omega)) ⟨_, la, cell (r13.fr f35 (fun h => h)), _, lb, cell (r23.fr f35 (fun h => h)), (less_calls a b w5 ha hb).mono ?_⟩))⟩
  rintro e w6 ⟨rfl, f6⟩
  have f36 := f35.trans1 f6
  refine ⟨_, rfl, vIf_f (by simp) ⟨_, la, cell (r13.fr f36 (fun h => h)), _, lb, cell (r23.fr f36 (fun h => h)), eqAB_bytes ha hb (vIf_f ?_ (jnC_mk ?_))⟩⟩
  · have := cmp_zero a b
    by_cases h : a = b
    · have h0 := this.2 h
      rw [h0, h]; simp
    · have h0 : compareBytes a b ≠ 0 := fun h' => h (this.1 h')
      have e1 : (compareBytes a b == 0) = false := by simpa using h0
      have e2 : (a == b) = false := by simpa using h
      rw [e1, e2]; rfl
  intro _
  have f06 := f13.trans1 f36
  have live : ∀ u, Fr (fun _ => False) w u → Calls Tryd.prog 9 #[] u fun e w' => ∃ t : Bool, e = .returned (.bool t) ∧ (Value.bool t = .bool true ∧ Fr (fun _ => False) w w') := fun u hu => (lives_calls u (hK.fr hu (fun h => h))).mono (fun e w' ⟨he, hf⟩ => ⟨true, he, rfl, hu.trans1 hf⟩)
  refine vIf_mk (fun _ => live _ f06) (fun hle => ⟨_, lb, cell (r23.fr f36 (fun h => h)), _, lc, cell (r3.fr f36 (fun h => h)), (cmp_calls b c w6 hb hc).mono ?_⟩)
  have hle : ¬ compareBytes a b > 0 := of_decide_eq_false hle
  rintro e w7 ⟨rfl, f7⟩
  have f37 := f36.trans1 f7
  refine ⟨_, rfl, vIf_mk (fun _ => live _ (f13.trans1 f37)) (fun hle2 => ⟨_, la, cell (r13.fr f37 (fun h => h)), _, lc, cell (r3.fr f37 (fun h => h)), (cmp_calls a c w7 ha hc).mono ?_⟩)⟩
  have hle2 : ¬ compareBytes b c > 0 := of_decide_eq_false hle2
  rintro e w8 ⟨rfl, f8⟩
  exact ⟨_, rfl, vIf_t (decide_eq_true (cmp_trans a b c (by omega) (by omega))) (live _ (f13.trans1 (f37.trans1 f8)))⟩
end Go.Proofs.YtmjdcgphahdhbaaDoor
