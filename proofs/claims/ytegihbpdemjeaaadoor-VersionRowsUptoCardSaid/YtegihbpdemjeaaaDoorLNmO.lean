/- the order of texts, plainly; strings.Compare -/
import Derived.Test.YtegihbpdemjeaaaDoorV
import Derived.Test.YtegihbpdemjeaaaDoorG11
import Derived.Lib.Bytealg
namespace Go.Proofs.YtegihbpdemjeaaaDoor
open Go.GV Go.RowKit Go.Lib
set_option linter.unusedVariables false
set_option linter.unusedSimpArgs false
/-! ### the order of texts -/
def cmpN (a b : ByteArray) : Int := compareBytes a.data.toList b.data.toList
theorem bless_cmp : ∀ (a b : List UInt8), Op.bytesLess a b = decide (compareBytes a b < 0)
  | [], [] => by simp [Op.bytesLess, compareBytes]
  | _ :: _, [] => by simp [Op.bytesLess, compareBytes]
  | [], _ :: _ => by simp [Op.bytesLess, compareBytes]
  | a :: x, b :: y => by
    rw [Op.bytesLess, compareBytes, bless_cmp x y]
    by_cases h1 : a < b
    · rw [if_pos h1, decide_eq_true h1]; rfl
    · rw [if_neg h1, decide_eq_false h1, Bool.false_or]
      by_cases h2 : b < a
      · rw [if_pos h2]
        have : (a == b) = false := by
          rw [beq_eq_false_iff_ne]; intro h; subst h; exact h1 h2
        rw [this]; rfl
      · have : a = b := by
          rw [UInt8.lt_iff_toNat_lt] at h1 h2
          exact UInt8.toNat_inj.1 (by omega)
        rw [if_neg h2, this]
        simp
theorem ba_ext {a b : ByteArray} (h : a.data.toList = b.data.toList) : a = b := by
  obtain ⟨⟨x⟩⟩ := a
  obtain ⟨⟨y⟩⟩ := b
  have h : x = y := h
  rw [h]
theorem nlt (a b : ByteArray) : Op.bytesLess a.toList b.toList = decide (cmpN a b < 0) := by
  rw [bless_cmp, toList_data, toList_data]; rfl
theorem neq (a b : ByteArray) : (a.toList == b.toList) = decide (a = b) := by
  rw [toList_data, toList_data, Bool.eq_iff_iff, beq_iff_eq, decide_eq_true_iff]
  exact ⟨ba_ext, fun h => by rw [h]⟩
theorem cmpN_zero (a b : ByteArray) : cmpN a b = 0 ↔ a = b := by
  unfold cmpN
  rw [cmp_zero]
  exact ⟨ba_ext, fun h => by rw [h]⟩
theorem cmpN_self (a : ByteArray) : cmpN a a = 0 := (cmpN_zero a a).2 rfl
theorem cmpN_anti (a b : ByteArray) : cmpN a b = - cmpN b a := cmp_anti _ _
theorem cmpN_trans {a b c : ByteArray} (h1 : cmpN a b < 0) (h2 : cmpN b c < 0) : cmpN a c < 0 := by
  have h := cmp_trans a.data.toList b.data.toList c.data.toList (by unfold cmpN at h1; omega) (by unfold cmpN at h2; omega)
  have h : cmpN a c ≤ 0 := h
  by_cases h0 : cmpN a c = 0
  · have := (cmpN_zero a c).1 h0
    subst this
    have := cmpN_anti a b
    omega
  · omega
theorem cmpN_range (a b : ByteArray) : cmpN a b = -1 ∨ cmpN a b = 0 ∨ cmpN a b = 1 := cmp_range _ _
theorem cmpN_le_lt {a b c : ByteArray} (h1 : ¬ cmpN a b < 0) (h2 : cmpN a c < 0) : cmpN b c < 0 := by
  by_cases h : cmpN a b = 0
  · rw [← (cmpN_zero a b).1 h]; exact h2
  · exact cmpN_trans (by have := cmpN_anti a b; omega) h2
theorem strcmp_calls (a b : ByteArray) (w : World) : Calls Tryd.prog 24 #[.string a, .string b] w fun e w' => e = .returned (.int .i64 (cmpN a b)) ∧ w' = w := by
  refine (F24.of a b w (Q := fun v w' => v = .int .i64 (cmpN a b) ∧ w' = w) ?_).mono (fun e w' ⟨v, he, hv, h⟩ => ⟨by rw [he, hv], h⟩)
  refine (F32.of a b w (Q := fun v w' => v = .int .i64 (cmpN a b) ∧ w' = w) ?_).mono ?_
  · exact ⟨_, Extern.BytealgCompare.compare, _, _, Tryd.func40, by kernel_rfl, by kernel_rfl, by kernel_rfl, Lib.run_compareString a b w, cmpN a b, rfl, rfl, rfl⟩
  · rintro e w' ⟨v, rfl, rfl, rfl⟩
    exact ⟨_, rfl, rfl, rfl⟩
end Go.Proofs.YtegihbpdemjeaaaDoor
