/- the document's order of digests -/
import Derived.Test.YtnablplljilahaaLDCmp
namespace Go.Proofs.Ytnablplljilahaa.Dg
open Go.GV Go.RowKit Go.Lib
set_option linter.unusedVariables false
set_option linter.unusedSimpArgs false
theorem less_calls (a b : List UInt8) (w : World) (ha : a.length = 32) (hb : b.length = 32) :
    Calls Try.prog 37 #[ofL (a.map bv), ofL (b.map bv)] w fun e w' => e = .returned (.bool (decide (compareBytes a b < 0))) ∧ Fr (fun _ => False) w w' := by
  refine (F37.of (a.map bv) (b.map bv) w (Q := fun v w' => v = .bool (decide (compareBytes a b < 0)) ∧ Fr (fun _ => False) w w') ?_).mono (fun e w' ⟨v, he, hv, h⟩ => ⟨by rw [he, hv], h⟩)
  refine nw_mk (nw_mk (jnC_mk ?_))
  have f1 : Fr (fun _ => False) w (w.alloc (.cells (a.map bv).toArray 29)) := Fr.alloc _ _ _
  have r1 : RecAt (w.alloc (.cells (a.map bv).toArray 29)) w.heap.size 29 (a.map bv) := RecAt.new w _ _
  generalize w.alloc (.cells (a.map bv).toArray 29) = w1 at f1 r1 ⊢
  have f2 : Fr (fun _ => False) w1 (w1.alloc (.cells (b.map bv).toArray 29)) := Fr.alloc _ _ _
  have r2 : RecAt (w1.alloc (.cells (b.map bv).toArray 29)) w1.heap.size 29 (b.map bv) := RecAt.new w1 _ _
  have r12 := r1.fr f2 (fun h => h)
  generalize w1.alloc (.cells (b.map bv).toArray 29) = w2 at f2 r2 r12 ⊢
  generalize w.heap.size = b1 at *
  generalize w1.heap.size = b3 at *
  refine loop_rule (fun s u => Fr (fun _ => False) w u ∧ RecAt u b1 29 (a.map bv) ∧ RecAt u b3 29 (b.map bv) ∧ ∃ i : Nat, i ≤ 32 ∧ s = ((b1, 0), (b3, 0), (i : Int), ()) ∧ a.take i = b.take i)
    (fun s _ => (32 - s.2.2.1).toNat) ?_ _ _ ⟨f1.trans1 f2, r12, r2, 0, by omega, rfl, rfl⟩
  rintro s u C ⟨hf, hr1, hr3, i, hi, rfl, hp⟩ hC _
  have hat := cmp_at i a b hp
  refine vIf_mk (fun hlt => ?_) (fun hge => ?_)
  · have hlt2 : (i : Int) < 32 := of_decide_eq_true hlt
    have ca : cellAt u.drew b1 (0 + (i : Int).toNat * 1) = some (.int .u8 (a[i]'(by omega)).toNat) := by
      rw [Int.toNat_natCast, Nat.mul_one, Nat.zero_add]
      exact (show RecAt u.drew b1 _ _ from hr1).cell (by rw [List.getElem?_map, List.getElem?_eq_getElem (by omega)]; rfl)
    have cb : cellAt u.drew b3 (0 + (i : Int).toNat * 1) = some (.int .u8 (b[i]'(by omega)).toNat) := by
      rw [Int.toNat_natCast, Nat.mul_one, Nat.zero_add]
      exact (show RecAt u.drew b3 _ _ from hr3).cell (by rw [List.getElem?_map, List.getElem?_eq_getElem (by omega)]; rfl)
    rw [List.drop_eq_getElem_cons (show i < a.length by omega), List.drop_eq_getElem_cons (show i < b.length by omega)] at hat
    have h0 : decide (0 ≤ (i : Int)) = true := decide_eq_true (Int.natCast_nonneg i)
    refine gd_mk h0 (gd_mk (decide_eq_true hlt2) ⟨_, ca, gd_mk h0 (gd_mk (decide_eq_true hlt2) ⟨_, cb, ?_⟩)⟩)
    refine vIf_mk (fun hne => ?_) (fun heq => ?_)
    · have hne2 : a[i]'(by omega) ≠ b[i]'(by omega) := by
        intro h; rw [h] at hne; simp at hne
      refine gd_mk h0 (gd_mk (decide_eq_true hlt2) ⟨_, ca, gd_mk h0 (gd_mk (decide_eq_true hlt2) ⟨_, cb, ?_, hf.trans1 ((Fr.drew _ _).trans1 (Fr.drew _ _))⟩)⟩)
      congr 1
      apply decide_eq_decide.2
      rw [hat]
      unfold compareBytes
      constructor
      · intro h
        have : a[i]'(by omega) < b[i]'(by omega) := UInt8.lt_iff_toNat_lt.2 (by omega)
        rw [if_pos this]; decide
      · intro h
        by_cases h1 : a[i]'(by omega) < b[i]'(by omega)
        · have := UInt8.lt_iff_toNat_lt.1 h1; omega
        · rw [if_neg h1] at h
          by_cases h2 : b[i]'(by omega) < a[i]'(by omega)
          · rw [if_pos h2] at h; omega
          · exact absurd (UInt8.le_antisymm (UInt8.not_lt.1 h2) (UInt8.not_lt.1 h1)) hne2
    · have heq2 : a[i]'(by omega) = b[i]'(by omega) := by
        apply UInt8.toNat_inj.1
        have : ((a[i]'(by omega)).toNat : Int) = ((b[i]'(by omega)).toNat : Int) := by simpa using heq
        omega
      refine jnC_mk (hC _ _ ⟨hf.trans1 (Fr.drew _ _), hr1, hr3, i + 1, by omega, ?_, ?_⟩ ?_)
      · show (_, _, IntKind.wrap .i64 ((i : Int) + 1), ()) = _
        rw [i64_id (by omega) (by omega)]; rfl
      · rw [List.take_add_one, List.take_add_one, hp, List.getElem?_eq_getElem (by omega), List.getElem?_eq_getElem (by omega), heq2]
      · show (32 - IntKind.wrap .i64 ((i : Int) + 1)).toNat < (32 - (i : Int)).toNat
        rw [i64_id (by omega) (by omega)]; omega
  · have hge2 : ¬ (i : Int) < 32 := of_decide_eq_false hge
    have hab : a = b := by
      rw [← List.take_of_length_le (l := a) (i := i) (by omega), ← List.take_of_length_le (l := b) (i := i) (by omega)]; exact hp
    refine ⟨?_, hf⟩
    subst hab
    rw [cmp_self]; rfl
end Go.Proofs.Ytnablplljilahaa.Dg
