/- files' names: name.Disk and the document's -/
import Derived.Test.YtglojgicnchnpaaLInt0
import Derived.Test.YtglojgicnchnpaaG12
namespace Go.Proofs.Ytglojgicnchnpaa
open Go.GV Go.RowKit Go.Lib
set_option linter.unusedVariables false
set_option linter.unusedSimpArgs false
theorem nil_iff (s : ByteArray) : (s.toList == (⟨#[]⟩ : ByteArray).toList) = decide (s.size = 0) := by
  rw [ByteArray.toList_eq, ByteArray.toList_eq]
  have h : s.size = s.data.toList.length := by rw [Array.length_toList]; rfl
  rw [h]
  cases hl : s.data.toList with
  | nil => rfl
  | cons a r => simp
def DiskP (s : ByteArray) : Prop := (∀ i, i < s.size → 33 ≤ byteAt s i ∧ byteAt s i ≤ 126 ∧ byteAt s i ≠ 47) ∧ 1 ≤ s.size ∧ s.size ≤ 32
theorem disk_calls (s : ByteArray) (w : World) (hs : s.size ≤ 1099511627775) :
    Calls Try.prog 33 #[.string s] w fun e w' => (∃ t, e = .returned (.bool t) ∧ (t = true ↔ DiskP s)) ∧ w' = w := by
  refine (F33.of s w (Q := fun v w' => (∃ t, v = .bool t ∧ (t = true ↔ DiskP s)) ∧ w' = w) ?_).mono (fun e w' ⟨v, he, ⟨t, hv, h⟩, h'⟩ => ⟨⟨t, by rw [he, hv], h⟩, h'⟩)
  have no : ∀ u : World, u = w → ¬ DiskP s → (∃ t, Value.bool false = .bool t ∧ (t = true ↔ DiskP s)) ∧ u = w := fun u hu h => ⟨⟨false, rfl, ⟨(fun h => by cases h), fun h' => absurd h' h⟩⟩, hu⟩
  refine vIf_mk (fun h0 => no w rfl ?_) (fun h0 => vIf_mk (fun h32 => no w rfl ?_) (fun h32 => jnC_mk (fun _ => jnC_mk ?_)))
  · rw [nil_iff] at h0
    have := of_decide_eq_true h0
    intro h
    have := h.2.1
    omega
  · have h32 := of_decide_eq_true h32
    intro h
    have := h.2.2
    omega
  · rw [nil_iff] at h0
    have h0 := of_decide_eq_false h0
    have h32 := of_decide_eq_false h32
    refine loop_rule (fun p v => v = w ∧ ∃ i : Nat, i ≤ s.size ∧ p = (s, (s.size : Int), (i : Int), ()) ∧ ∀ j, j < i → 33 ≤ byteAt s j ∧ byteAt s j ≤ 126 ∧ byteAt s j ≠ 47) (fun p _ => (s.size - p.2.2.1).toNat) ?_ _ _ ⟨rfl, 0, by omega, rfl, fun j hj => by omega⟩
    rintro p v C ⟨rfl, i, hi, rfl, hall⟩ hC _
    refine vIf_mk (fun hlt => ?_) (fun hge => ?_)
    · have hlt2 : (i : Int) < (s.size : Int) := of_decide_eq_true hlt
      refine gd_mk (decide_eq_true (by show (0 : Int) ≤ (i : Int); omega)) (gd_mk hlt (vIf_mk (fun h1 => no v rfl ?_) (fun h1 => vIf_mk (fun h2 => no v rfl ?_) (fun h2 => vIf_mk (fun h3 => no v rfl ?_) (fun h3 => ?_)))))
      · have h1 : byteAt s i < 33 := of_decide_eq_true h1
        intro h; have := h.1 i (by omega); omega
      · have h2 : byteAt s i > 126 := of_decide_eq_true h2
        intro h; have := h.1 i (by omega); omega
      · have h3 : byteAt s i = 47 := by simpa using h3
        intro h; have := h.1 i (by omega); omega
      · have h1 : ¬ byteAt s i < 33 := of_decide_eq_false h1
        have h2 : ¬ byteAt s i > 126 := of_decide_eq_false h2
        have h3 : byteAt s i ≠ 47 := by simpa using h3
        refine jnC_mk (hC _ _ ⟨rfl, i + 1, by omega, by rw [ei i (by omega)], fun j hj => ?_⟩ ?_)
        · by_cases hji : j = i
          · subst hji; exact ⟨by omega, by omega, h3⟩
          · exact hall j (by omega)
        · show ((s.size : Int) - IntKind.wrap .i64 ((i : Int) + 1)).toNat < ((s.size : Int) - (i : Int)).toNat
          rw [ei i (by omega)]; omega
    · have hge2 : ¬ (i : Int) < (s.size : Int) := of_decide_eq_false hge
      exact ⟨⟨true, rfl, ⟨fun _ => ⟨fun j hj => hall j (by omega), by omega, by omega⟩, fun _ => rfl⟩⟩, rfl⟩
theorem rdisk_calls (s : ByteArray) (w : World) (hs : s.size ≤ 1099511627775) :
    Calls Try.prog 23 #[.string s] w fun e w' => (∃ t, e = .returned (.bool t) ∧ (t = true ↔ DiskP s)) ∧ w' = w := by
  refine (F23.of s w (Q := fun v w' => (∃ t, v = .bool t ∧ (t = true ↔ DiskP s)) ∧ w' = w) ?_).mono (fun e w' ⟨v, he, ⟨t, hv, h⟩, h'⟩ => ⟨⟨t, by rw [he, hv], h⟩, h'⟩)
  have no : ∀ u : World, u = w → ¬ DiskP s → (∃ t, Value.bool false = .bool t ∧ (t = true ↔ DiskP s)) ∧ u = w := fun u hu h => ⟨⟨false, rfl, ⟨(fun h => by cases h), fun h' => absurd h' h⟩⟩, hu⟩
  refine jnC_mk (loop_rule (fun p v => v = w ∧ ∃ i : Nat, i ≤ s.size ∧ p = (s, (i : Int), ()) ∧ ∀ j, j < i → 33 ≤ byteAt s j ∧ byteAt s j ≤ 126 ∧ byteAt s j ≠ 47) (fun p _ => (s.size - p.2.1).toNat) ?_ _ _ ⟨rfl, 0, by omega, rfl, fun j hj => by omega⟩)
  rintro p v C ⟨rfl, i, hi, rfl, hall⟩ hC _
  refine vIf_mk (fun hlt => ?_) (fun hge => ?_)
  · have hlt2 : (i : Int) < (s.size : Int) := of_decide_eq_true hlt
    have d0 : decide (0 ≤ (i : Int)) = true := decide_eq_true (by omega)
    refine gd_mk d0 (gd_mk hlt (vIf_mk (fun h1 => no v rfl ?_) (fun h1 => gd_mk d0 (gd_mk hlt (vIf_mk (fun h2 => no v rfl ?_) (fun h2 => gd_mk d0 (gd_mk hlt (vIf_mk (fun h3 => no v rfl ?_) (fun h3 => ?_)))))))))
    · have h1 : byteAt s i ≤ 32 := of_decide_eq_true h1
      intro h; have := h.1 i (by omega); omega
    · have h2 : byteAt s i ≥ 127 := of_decide_eq_true h2
      intro h; have := h.1 i (by omega); omega
    · have h3 : byteAt s i = 47 := by simpa using h3
      intro h; have := h.1 i (by omega); omega
    · have h1 : ¬ byteAt s i ≤ 32 := of_decide_eq_false h1
      have h2 : ¬ byteAt s i ≥ 127 := of_decide_eq_false h2
      have h3 : byteAt s i ≠ 47 := by simpa using h3
      refine jnC_mk (hC _ _ ⟨rfl, i + 1, by omega, by rw [ei i (by omega)], fun j hj => ?_⟩ ?_)
      · by_cases hji : j = i
        · subst hji; exact ⟨by omega, by omega, h3⟩
        · exact hall j (by omega)
      · show ((s.size : Int) - IntKind.wrap .i64 ((i : Int) + 1)).toNat < ((s.size : Int) - (i : Int)).toNat
        rw [ei i (by omega)]; omega
  · have hge2 : ¬ (i : Int) < (s.size : Int) := of_decide_eq_false hge
    refine vIf_mk (fun h1 => ⟨⟨_, rfl, ?_⟩, rfl⟩) (fun h1 => no v rfl ?_)
    · have h1 : (s.size : Int) ≥ 1 := of_decide_eq_true h1
      show decide ((s.size : Int) ≤ 32) = true ↔ _
      rw [decide_eq_true_iff]
      exact ⟨fun h => ⟨fun j hj => hall j (by omega), by omega, by omega⟩, fun h => by have := h.2.2; omega⟩
    · have h1 : ¬ (s.size : Int) ≥ 1 := of_decide_eq_false h1
      intro h
      have := h.2.1
      omega
end Go.Proofs.Ytglojgicnchnpaa
