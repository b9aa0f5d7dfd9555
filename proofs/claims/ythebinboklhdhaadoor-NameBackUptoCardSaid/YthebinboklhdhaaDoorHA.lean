/- chapter 08: which texts are names -/
import Derived.Test.YthebinboklhdhaaDoorV
import Derived.Test.YthebinboklhdhaaDoorG12
namespace Go.Proofs.YthebinboklhdhaaDoor
open Go.GV Go.RowKit Go.Lib
set_option linter.unusedVariables false
set_option linter.unusedSimpArgs false
theorem ei (i : Nat) (h : i < 1099511627776) : IntKind.wrap .i64 ((i : Int) + 1) = ((i + 1 : Nat) : Int) := by rw [i64_id (by omega) (by omega)]; rfl
theorem nil_iff (s : ByteArray) : (s.toList == (⟨#[]⟩ : ByteArray).toList) = decide (s.size = 0) := by
  rw [ByteArray.toList_eq, ByteArray.toList_eq]
  have h : s.size = s.data.toList.length := by rw [Array.length_toList]; rfl
  rw [h]
  cases hl : s.data.toList with
  | nil => rfl
  | cons a r => simp
theorem ndec_t {p : Prop} [Decidable p] (h : (!decide p) = true) : ¬ p := by simpa using h
theorem ndec_f {p : Prop} [Decidable p] (h : (!decide p) = false) : p := by simpa using h
abbrev plainI (c : Int) : Prop := (97 ≤ c ∧ c ≤ 122) ∨ (48 ≤ c ∧ c ≤ 57)
abbrev extraI (c : Int) : Prop := c = 46 ∨ c = 95 ∨ c = 45
theorem plain_calls (c : Int) (w : World) : Calls Tryd.prog 21 #[.int .u8 c] w fun e w' => e = .returned (.bool (decide (plainI c))) ∧ w' = w := by
  refine (F21.of c w (Q := fun v w' => v = .bool (decide (plainI c)) ∧ w' = w) ?_).mono (fun e w' ⟨v, he, hv, h⟩ => ⟨by rw [he, hv], h⟩)
  refine vIf_mk (fun h1 => vIf_mk (fun h2 => ⟨?_, rfl⟩) (fun h2 => vIf_mk (fun h3 => ⟨?_, rfl⟩) (fun h3 => ⟨?_, rfl⟩))) (fun h1 => vIf_mk (fun h3 => ⟨?_, rfl⟩) (fun h3 => ⟨?_, rfl⟩))
  · have h1 := of_decide_eq_true h1; have h2 := of_decide_eq_true h2
    rw [decide_eq_true (p := plainI c) (.inl ⟨h1, h2⟩)]
  · have h1 := of_decide_eq_true h1; have h2 := of_decide_eq_false h2
    have h3 := of_decide_eq_true h3
    congr 1
    exact decide_eq_decide.2 ⟨fun h => .inr ⟨h3, h⟩, fun h => h.elim (fun h => absurd h.2 h2) (fun h => h.2)⟩
  · have h1 := of_decide_eq_true h1; have h2 := of_decide_eq_false h2
    have h3 := of_decide_eq_false h3
    exact absurd (show c ≥ 48 by omega) h3
  · have h1 := of_decide_eq_false h1
    have h3 := of_decide_eq_true h3
    congr 1
    exact decide_eq_decide.2 ⟨fun h => .inr ⟨h3, h⟩, fun h => h.elim (fun h => absurd h.1 h1) (fun h => h.2)⟩
  · have h1 := of_decide_eq_false h1
    have h3 := of_decide_eq_false h3
    rw [decide_eq_false (p := plainI c) (fun h => h.elim (fun h => h1 h.1) (fun h => h3 h.1))]
theorem one_calls (c : Int) (s : ByteArray) (w : World) (hs : s.size ≤ 1099511627775) :
    Calls Tryd.prog 22 #[.int .u8 c, .string s] w fun e w' => (∃ t, e = .returned (.bool t) ∧ (t = true ↔ ∃ i, i < s.size ∧ byteAt s i = c)) ∧ w' = w := by
  refine (F22.of c s w (Q := fun v w' => (∃ t, v = .bool t ∧ (t = true ↔ ∃ i, i < s.size ∧ byteAt s i = c)) ∧ w' = w) ?_).mono (fun e w' ⟨v, he, ⟨t, hv, h⟩, h'⟩ => ⟨⟨t, by rw [he, hv], h⟩, h'⟩)
  refine jnC_mk (loop_rule (fun p u => u = w ∧ ∃ i : Nat, i ≤ s.size ∧ p = (c, s, (i : Int), ()) ∧ ∀ j, j < i → byteAt s j ≠ c) (fun p _ => (s.size - p.2.2.1).toNat) ?_ _ _ ⟨rfl, 0, by omega, rfl, fun j hj => by omega⟩)
  rintro p u C ⟨rfl, i, hi, rfl, hno⟩ hC _
  refine vIf_mk (fun hlt => ?_) (fun hge => ?_)
  · have hlt2 : (i : Int) < (s.size : Int) := of_decide_eq_true hlt
    refine gd_mk (decide_eq_true (by show (0 : Int) ≤ (i : Int); omega)) (gd_mk hlt (vIf_mk (fun he => ?_) (fun he => ?_)))
    · have he : byteAt s i = c := by simpa using he
      exact ⟨⟨true, rfl, ⟨fun _ => ⟨i, by omega, he⟩, fun _ => rfl⟩⟩, rfl⟩
    · have he : byteAt s i ≠ c := by simpa using he
      refine jnC_mk (hC _ _ ⟨rfl, i + 1, by omega, by rw [ei i (by omega)], fun j hj => ?_⟩ ?_)
      · by_cases hji : j = i
        · subst hji; exact he
        · exact hno j (by omega)
      · show ((s.size : Int) - IntKind.wrap .i64 ((i : Int) + 1)).toNat < ((s.size : Int) - (i : Int)).toNat
        rw [ei i (by omega)]; omega
  · have hge2 : ¬ (i : Int) < (s.size : Int) := of_decide_eq_false hge
    exact ⟨⟨false, rfl, ⟨(fun h => by cases h), fun ⟨j, hj, hje⟩ => absurd hje (hno j (by omega))⟩⟩, rfl⟩
def firstS : ByteArray := ⟨#[97, 98, 99, 100, 101, 102, 103, 104, 105, 106, 107, 108, 109, 110, 111, 112, 113, 114, 115, 116, 117, 118, 119, 120, 121, 122, 48, 49, 50, 51, 52, 53, 54, 55, 56, 57]⟩
theorem first_at : ∀ i, i < 36 → byteAt firstS i = if i < 26 then 97 + (i : Int) else 48 + ((i - 26 : Nat) : Int) := by decide
theorem first_iff (c : Int) : (∃ i, i < firstS.size ∧ byteAt firstS i = c) ↔ plainI c := by
  have hs : firstS.size = 36 := rfl
  rw [hs]
  constructor
  · rintro ⟨i, hi, he⟩
    rw [first_at i hi] at he
    split at he
    · left; omega
    · right; omega
  · rintro (h | h)
    · exact ⟨(c - 97).toNat, by omega, by rw [first_at _ (by omega), if_pos (by omega)]; omega⟩
    · exact ⟨26 + (c - 48).toNat, by omega, by rw [first_at _ (by omega), if_neg (by omega)]; omega⟩
def extraS : ByteArray := ⟨#[46, 95, 45]⟩
theorem extra_iff (c : Int) : (∃ i, i < extraS.size ∧ byteAt extraS i = c) ↔ extraI c := by
  have hs : extraS.size = 3 := rfl
  have h0 : byteAt extraS 0 = 46 := by decide
  have h1 : byteAt extraS 1 = 95 := by decide
  have h2 : byteAt extraS 2 = 45 := by decide
  rw [hs]
  constructor
  · rintro ⟨i, hi, he⟩
    match i, hi with
    | 0, _ => left; rw [← he, h0]
    | 1, _ => right; left; rw [← he, h1]
    | 2, _ => right; right; rw [← he, h2]
  · rintro (h | h | h)
    · exact ⟨0, by omega, by rw [h0, h]⟩
    · exact ⟨1, by omega, by rw [h1, h]⟩
    · exact ⟨2, by omega, by rw [h2, h]⟩
def tagOk (s : ByteArray) (i : Nat) : Prop := plainI (byteAt s i) ∨ (i ≠ 0 ∧ extraI (byteAt s i))
def TagP (s : ByteArray) : Prop := (∀ i, i < s.size → tagOk s i) ∧ 1 ≤ s.size ∧ s.size ≤ 32
def DiskP (s : ByteArray) : Prop := (∀ i, i < s.size → 33 ≤ byteAt s i ∧ byteAt s i ≤ 126 ∧ byteAt s i ≠ 47) ∧ 1 ≤ s.size ∧ s.size ≤ 32
theorem tag_calls (s : ByteArray) (w : World) (hs : s.size ≤ 1099511627775) :
    Calls Tryd.prog 11 #[.string s] w fun e w' => (∃ t, e = .returned (.bool t) ∧ (t = true ↔ TagP s)) ∧ w' = w := by
  refine (F11.of s w (Q := fun v w' => (∃ t, v = .bool t ∧ (t = true ↔ TagP s)) ∧ w' = w) ?_).mono (fun e w' ⟨v, he, ⟨t, hv, h⟩, h'⟩ => ⟨⟨t, by rw [he, hv], h⟩, h'⟩)
  have no : ∀ u : World, u = w → ¬ TagP s → (∃ t, Value.bool false = .bool t ∧ (t = true ↔ TagP s)) ∧ u = w := fun u hu h => ⟨⟨false, rfl, ⟨(fun h => by cases h), fun h' => absurd h' h⟩⟩, hu⟩
  refine vIf_mk (fun h0 => no w rfl ?_) (fun h0 => vIf_mk (fun h32 => no w rfl ?_) (fun h32 => ?_))
  · rw [nil_iff] at h0
    have := of_decide_eq_true h0
    intro h
    have := h.2.1
    omega
  · have h32 := of_decide_eq_true h32
    intro h
    have := h.2.2
    omega
  · rw [nil_iff] at h0
    have h0 := of_decide_eq_false h0
    have h32 := of_decide_eq_false h32
    refine gd_mk (decide_eq_true (by omega)) ((plain_calls _ w).mono ?_)
    rintro e u ⟨rfl, rfl⟩
    refine ⟨_, rfl, vIf_mk (fun hp => no u rfl ?_) (fun hp => jnC_mk (fun _ => jnC_mk ?_))⟩
    · have hp : ¬ plainI (byteAt s 0) := ndec_t hp
      intro h
      rcases h.1 0 (by omega) with h' | h'
      · exact hp h'
      · exact h'.1 rfl
    · have hp : plainI (byteAt s 0) := ndec_f hp
      refine loop_rule (fun p v => v = u ∧ ∃ i : Nat, i ≤ s.size ∧ p = (s, (s.size : Int), (i : Int), ()) ∧ ∀ j, j < i → tagOk s j) (fun p _ => (s.size - p.2.2.1).toNat) ?_ _ _ ⟨rfl, 0, by omega, rfl, fun j hj => by omega⟩
      rintro p v C ⟨rfl, i, hi, rfl, hall⟩ hC _
      refine vIf_mk (fun hlt => ?_) (fun hge => ?_)
      · have hlt2 : (i : Int) < (s.size : Int) := of_decide_eq_true hlt
        refine gd_mk (decide_eq_true (by show (0 : Int) ≤ (i : Int); omega)) (gd_mk hlt ((plain_calls _ v).mono ?_))
        rintro e v2 ⟨rfl, rfl⟩
        have next : tagOk s i → jnC C (s, (s.size : Int), IntKind.wrap .i64 ((i : Int) + 1), ()) v2 := fun hok => by
          refine jnC_mk (hC _ _ ⟨rfl, i + 1, by omega, by rw [ei i (by omega)], fun j hj => ?_⟩ ?_)
          · by_cases hji : j = i
            · subst hji; exact hok
            · exact hall j (by omega)
          · show ((s.size : Int) - IntKind.wrap .i64 ((i : Int) + 1)).toNat < ((s.size : Int) - (i : Int)).toNat
            rw [ei i (by omega)]; omega
        refine ⟨_, rfl, vIf_mk (fun hn => ?_) (fun hy => next (.inl (ndec_f hy)))⟩
        have hn : ¬ plainI (byteAt s i) := ndec_t hn
        have hi0 : i ≠ 0 := fun h => by subst h; exact hn hp
        refine vIf_mk (fun h1 => vIf_mk (fun h2 => vIf_mk (fun h3 => no v2 rfl ?_) (fun h3 => next (.inr ⟨hi0, .inr (.inr (by simpa using h3))⟩))) (fun h2 => next (.inr ⟨hi0, .inr (.inl (by simpa using h2))⟩))) (fun h1 => next (.inr ⟨hi0, .inl (by simpa using h1)⟩))
        have h1 : byteAt s i ≠ 46 := by simpa using h1
        have h2 : byteAt s i ≠ 95 := by simpa using h2
        have h3 : byteAt s i ≠ 45 := by simpa using h3
        intro h
        rcases h.1 i (by omega) with h' | ⟨_, h' | h' | h'⟩
        · exact hn h'
        · exact h1 h'
        · exact h2 h'
        · exact h3 h'
      · have hge2 : ¬ (i : Int) < (s.size : Int) := of_decide_eq_false hge
        exact ⟨⟨true, rfl, ⟨fun _ => ⟨fun j hj => hall j (by omega), by omega, by omega⟩, fun _ => rfl⟩⟩, rfl⟩
theorem rtag_calls (s : ByteArray) (w : World) (hs : s.size ≤ 1099511627775) :
    Calls Tryd.prog 12 #[.string s] w fun e w' => (∃ t, e = .returned (.bool t) ∧ (t = true ↔ TagP s)) ∧ w' = w := by
  refine (F12.of s w (Q := fun v w' => (∃ t, v = .bool t ∧ (t = true ↔ TagP s)) ∧ w' = w) ?_).mono (fun e w' ⟨v, he, ⟨t, hv, h⟩, h'⟩ => ⟨⟨t, by rw [he, hv], h⟩, h'⟩)
  have no : ∀ u : World, u = w → ¬ TagP s → (∃ t, Value.bool false = .bool t ∧ (t = true ↔ TagP s)) ∧ u = w := fun u hu h => ⟨⟨false, rfl, ⟨(fun h => by cases h), fun h' => absurd h' h⟩⟩, hu⟩
  refine jnC_mk (loop_rule (fun p v => v = w ∧ ∃ i : Nat, i ≤ s.size ∧ p = (s, firstS, (i : Int), ()) ∧ ∀ j, j < i → tagOk s j) (fun p _ => (s.size - p.2.2.1).toNat) ?_ _ _ ⟨rfl, 0, by omega, rfl, fun j hj => by omega⟩)
  rintro p v C ⟨rfl, i, hi, rfl, hall⟩ hC _
  refine vIf_mk (fun hlt => ?_) (fun hge => ?_)
  · have hlt2 : (i : Int) < (s.size : Int) := of_decide_eq_true hlt
    have next : tagOk s i → jnC C (s, firstS, IntKind.wrap .i64 ((i : Int) + 1), ()) v := fun hok => by
      refine jnC_mk (hC _ _ ⟨rfl, i + 1, by omega, by rw [ei i (by omega)], fun j hj => ?_⟩ ?_)
      · by_cases hji : j = i
        · subst hji; exact hok
        · exact hall j (by omega)
      · show ((s.size : Int) - IntKind.wrap .i64 ((i : Int) + 1)).toNat < ((s.size : Int) - (i : Int)).toNat
        rw [ei i (by omega)]; omega
    refine gd_mk (decide_eq_true (by show (0 : Int) ≤ (i : Int); omega)) (gd_mk hlt ((one_calls _ firstS v (by decide)).mono ?_))
    rintro e v2 ⟨⟨t, rfl, ht⟩, rfl⟩
    rw [first_iff] at ht
    refine ⟨_, rfl, vIf_mk (fun hn => vIf_mk (fun hi0 => no v2 rfl ?_) (fun hi0 => ?_)) (fun hy => next (.inl (ht.1 (by simpa using hy))))⟩
    · have hi0 : i = 0 := by simpa using hi0
      have hn : t = false := by simpa using hn
      intro h
      rcases h.1 i (by omega) with h' | h'
      · rw [ht.2 h'] at hn; cases hn
      · exact h'.1 hi0
    · have hi0 : i ≠ 0 := by simpa using hi0
      have hn : t = false := by simpa using hn
      refine gd_mk (decide_eq_true (by show (0 : Int) ≤ (i : Int); omega)) (gd_mk hlt ((one_calls _ extraS v2 (by decide)).mono ?_))
      rintro e v3 ⟨⟨t2, rfl, ht2⟩, rfl⟩
      rw [extra_iff] at ht2
      refine ⟨_, rfl, vIf_mk (fun hn2 => no v3 rfl ?_) (fun hy => next (.inr ⟨hi0, ht2.1 (by simpa using hy)⟩))⟩
      have hn2 : t2 = false := by simpa using hn2
      intro h
      rcases h.1 i (by omega) with h' | h'
      · rw [ht.2 h'] at hn; cases hn
      · rw [ht2.2 h'.2] at hn2; cases hn2
  · have hge2 : ¬ (i : Int) < (s.size : Int) := of_decide_eq_false hge
    refine vIf_mk (fun h1 => ⟨⟨_, rfl, ?_⟩, rfl⟩) (fun h1 => no v rfl ?_)
    · have h1 : (s.size : Int) ≥ 1 := of_decide_eq_true h1
      show decide ((s.size : Int) ≤ 32) = true ↔ _
      rw [decide_eq_true_iff]
      exact ⟨fun h => ⟨fun j hj => hall j (by omega), by omega, by omega⟩, fun h => by have := h.2.2; omega⟩
    · have h1 : ¬ (s.size : Int) ≥ 1 := of_decide_eq_false h1
      intro h
      have := h.2.1
      omega
theorem disk_calls (s : ByteArray) (w : World) (hs : s.size ≤ 1099511627775) :
    Calls Tryd.prog 13 #[.string s] w fun e w' => (∃ t, e = .returned (.bool t) ∧ (t = true ↔ DiskP s)) ∧ w' = w := by
  refine (F13.of s w (Q := fun v w' => (∃ t, v = .bool t ∧ (t = true ↔ DiskP s)) ∧ w' = w) ?_).mono (fun e w' ⟨v, he, ⟨t, hv, h⟩, h'⟩ => ⟨⟨t, by rw [he, hv], h⟩, h'⟩)
  have no : ∀ u : World, u = w → ¬ DiskP s → (∃ t, Value.bool false = .bool t ∧ (t = true ↔ DiskP s)) ∧ u = w := fun u hu h => ⟨⟨false, rfl, ⟨(fun h => by cases h), fun h' => absurd h' h⟩⟩, hu⟩
  refine vIf_mk (fun h0 => no w rfl ?_) (fun h0 => vIf_mk (fun h32 => no w rfl ?_) (fun h32 => jnC_mk (fun _ => jnC_mk ?_)))
  · rw [nil_iff] at h0
    have := of_decide_eq_true h0
    intro h
    have := h.2.1
    omega
  · have h32 := of_decide_eq_true h32
    intro h
    have := h.2.2
    omega
  · rw [nil_iff] at h0
    have h0 := of_decide_eq_false h0
    have h32 := of_decide_eq_false h32
    refine loop_rule (fun p v => v = w ∧ ∃ i : Nat, i ≤ s.size ∧ p = (s, (s.size : Int), (i : Int), ()) ∧ ∀ j, j < i → 33 ≤ byteAt s j ∧ byteAt s j ≤ 126 ∧ byteAt s j ≠ 47) (fun p _ => (s.size - p.2.2.1).toNat) ?_ _ _ ⟨rfl, 0, by omega, rfl, fun j hj => by omega⟩
    rintro p v C ⟨rfl, i, hi, rfl, hall⟩ hC _
    refine vIf_mk (fun hlt => ?_) (fun hge => ?_)
    · have hlt2 : (i : Int) < (s.size : Int) := of_decide_eq_true hlt
      refine gd_mk (decide_eq_true (by show (0 : Int) ≤ (i : Int); omega)) (gd_mk hlt (vIf_mk (fun h1 => no v rfl ?_) (fun h1 => vIf_mk (fun h2 => no v rfl ?_) (fun h2 => vIf_mk (fun h3 => no v rfl ?_) (fun h3 => ?_)))))
      · have h1 : byteAt s i < 33 := of_decide_eq_true h1
        intro h; have := h.1 i (by omega); omega
      · have h2 : byteAt s i > 126 := of_decide_eq_true h2
        intro h; have := h.1 i (by omega); omega
      · have h3 : byteAt s i = 47 := by simpa using h3
        intro h; have := h.1 i (by omega); omega
      · have h1 : ¬ byteAt s i < 33 := of_decide_eq_false h1
        have h2 : ¬ byteAt s i > 126 := of_decide_eq_false h2
        have h3 : byteAt s i ≠ 47 := by simpa using h3
        refine jnC_mk (hC _ _ ⟨rfl, i + 1, by omega, by rw [ei i (by omega)], fun j hj => ?_⟩ ?_)
        · by_cases hji : j = i
          · subst hji; exact ⟨by omega, by omega, h3⟩
          · exact hall j (by omega)
        · show ((s.size : Int) - IntKind.wrap .i64 ((i : Int) + 1)).toNat < ((s.size : Int) - (i : Int)).toNat
          rw [ei i (by omega)]; omega
    · have hge2 : ¬ (i : Int) < (s.size : Int) := of_decide_eq_false hge
      exact ⟨⟨true, rfl, ⟨fun _ => ⟨fun j hj => hall j (by omega), by omega, by omega⟩, fun _ => rfl⟩⟩, rfl⟩
theorem rdisk_calls (s : ByteArray) (w : World) (hs : s.size ≤ 1099511627775) :
    Calls Tryd.prog 14 #[.string s] w fun e w' => (∃ t, e = .returned (.bool t) ∧ (t = true ↔ DiskP s)) ∧ w' = w := by
  refine (F14.of s w (Q := fun v w' => (∃ t, v = .bool t ∧ (t = true ↔ DiskP s)) ∧ w' = w) ?_).mono (fun e w' ⟨v, he, ⟨t, hv, h⟩, h'⟩ => ⟨⟨t, by rw [he, hv], h⟩, h'⟩)
  have no : ∀ u : World, u = w → ¬ DiskP s → (∃ t, Value.bool false = .bool t ∧ (t = true ↔ DiskP s)) ∧ u = w := fun u hu h => ⟨⟨false, rfl, ⟨(fun h => by cases h), fun h' => absurd h' h⟩⟩, hu⟩
  refine jnC_mk (loop_rule (fun p v => v = w ∧ ∃ i : Nat, i ≤ s.size ∧ p = (s, (i : Int), ()) ∧ ∀ j, j < i → 33 ≤ byteAt s j ∧ byteAt s j ≤ 126 ∧ byteAt s j ≠ 47) (fun p _ => (s.size - p.2.1).toNat) ?_ _ _ ⟨rfl, 0, by omega, rfl, fun j hj => by omega⟩)
  rintro p v C ⟨rfl, i, hi, rfl, hall⟩ hC _
  refine vIf_mk (fun hlt => ?_) (fun hge => ?_)
  · have hlt2 : (i : Int) < (s.size : Int) := of_decide_eq_true hlt
    have d0 : decide (0 ≤ (i : Int)) = true := decide_eq_true (by omega)
    refine gd_mk d0 (gd_mk hlt (vIf_mk (fun h1 => no v rfl ?_) (fun h1 => gd_mk d0 (gd_mk hlt (vIf_mk (fun h2 => no v rfl ?_) (fun h2 => gd_mk d0 (gd_mk hlt (vIf_mk (fun h3 => no v rfl ?_) (fun h3 => ?_)))))))))
    · have h1 : byteAt s i ≤ 32 := of_decide_eq_true h1
      intro h; have := h.1 i (by omega); omega
    · have h2 : byteAt s i ≥ 127 := of_decide_eq_true h2
      intro h; have := h.1 i (by omega); omega
    · have h3 : byteAt s i = 47 := by simpa using h3
      intro h; have := h.1 i (by omega); omega
    · have h1 : ¬ byteAt s i ≤ 32 := of_decide_eq_false h1
      have h2 : ¬ byteAt s i ≥ 127 := of_decide_eq_false h2
      have h3 : byteAt s i ≠ 47 := by simpa using h3
      refine jnC_mk (hC _ _ ⟨rfl, i + 1, by omega, by rw [ei i (by omega)], fun j hj => ?_⟩ ?_)
      · by_cases hji : j = i
        · subst hji; exact ⟨by omega, by omega, h3⟩
        · exact hall j (by omega)
      · show ((s.size : Int) - IntKind.wrap .i64 ((i : Int) + 1)).toNat < ((s.size : Int) - (i : Int)).toNat
        rw [ei i (by omega)]; omega
  · have hge2 : ¬ (i : Int) < (s.size : Int) := of_decide_eq_false hge
    refine vIf_mk (fun h1 => ⟨⟨_, rfl, ?_⟩, rfl⟩) (fun h1 => no v rfl ?_)
    · have h1 : (s.size : Int) ≥ 1 := of_decide_eq_true h1
      show decide ((s.size : Int) ≤ 32) = true ↔ _
      rw [decide_eq_true_iff]
      exact ⟨fun h => ⟨fun j hj => hall j (by omega), by omega, by omega⟩, fun h => by have := h.2.2; omega⟩
    · have h1 : ¬ (s.size : Int) ≥ 1 := of_decide_eq_false h1
      intro h
      have := h.2.1
      omega
end Go.Proofs.YthebinboklhdhaaDoor
