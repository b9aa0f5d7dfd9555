/- MY OWN ENGINE, part 12: a loop whose measure is handed on; a row of one's own that does not begin its block. -/
import Derived.Test.YtfhimpkpfelilaaDoorG11
namespace Go.GV
open Go Go.RowKit
set_option linter.unusedSimpArgs false
set_option linter.unusedVariables false
theorem loop_ruleN {σ : Type} {B : σ → World → (σ → World → Prop) → Prop} (I : Nat → σ → World → Prop)
    (h : ∀ n s w C, I n s w → (∀ n' s' w', n' < n → I n' s' w' → C s' w') → B s w C) (n : Nat) (s : σ) (w : World) (hI : I n s w) : ∃ k, loopC B k s w := by
  have key : ∀ k n s w, I n s w → n < k → loopC B k s w := by
    intro k
    induction k with
    | zero => intro n s w _ h; omega
    | succ k ih =>
      intro n s w hI hm
      exact h n s w _ hI (fun n' s' w' hlt hI' => ih n' s' w' hI' (by omega))
  exact ⟨_, key _ n s w hI (Nat.lt_succ_self _)⟩
theorem splice_full {c vs : List Value} (h : vs.length = c.length) : splice c 0 vs = vs := by
  unfold splice
  rw [List.take_zero, List.nil_append, Nat.zero_add, h, List.drop_length, List.append_nil]
structure RowO (w : World) (B : Nat) (e : TypeId) (sz : Nat) (A : Option Addr) (n c : Nat) (vs : List Value) : Prop where
  len : vs.length = n * sz
  le : n ≤ c
  at_ : (A = none ∧ n = 0 ∧ c = 0) ∨ ∃ b o cs, A = some ⟨b, o, none⟩ ∧ B ≤ b ∧ w.heap[b]? = some (.cells cs e (0, 0)) ∧ o + c * sz ≤ cs.size ∧ (cs.toList.drop o).take (n * sz) = vs
theorem Row.toO {w : World} {B : Nat} {e : TypeId} {sz : Nat} {A : Option Addr} {n c : Nat} {vs : List Value} (h : Row w B e sz A n c vs) : RowO w B e sz A n c vs := by
  refine ⟨h.len, h.le, ?_⟩
  rcases h.at_ with h1 | ⟨b, cs, h1, h2, h3, h4, h5⟩
  · exact .inl h1
  · exact .inr ⟨b, 0, cs, h1, h2, h3, by omega, by rw [List.drop_zero]; exact h5⟩
theorem RowO.sl {w : World} {B : Nat} {e : TypeId} {sz : Nat} {A : Option Addr} {n c : Nat} {vs : List Value} (h : RowO w B e sz A n c vs) : Sl w sz A n vs := by
  refine ⟨h.len, fun h0 => ?_⟩
  rcases h.at_ with ⟨_, h1, _⟩ | ⟨b, o, cs, rfl, _, hb, hs, ht⟩
  · exact absurd h1 h0
  · refine ⟨b, o, rfl, fun j v hj => ?_⟩
    rw [cellAt_blk hb]
    rw [← ht, List.getElem?_take] at hj
    split at hj
    · rw [List.getElem?_drop] at hj
      simpa using hj
    · cases hj
theorem RowO.blt {w : World} {B : Nat} {e : TypeId} {sz : Nat} {A : Option Addr} {n c : Nat} {vs : List Value} (h : RowO w B e sz A n c vs) {b : Nat} (hb : blkOf A = some b) : B ≤ b ∧ b < w.heap.size := by
  rcases h.at_ with ⟨rfl, _, _⟩ | ⟨b', o, cs, rfl, hB, hh, _, _⟩
  · simp [blkOf] at hb
  · simp only [blkOf, Option.some.injEq] at hb; subst hb; exact ⟨hB, heap_lt hh⟩
theorem Fr.rowO {S : Nat → Prop} {w w' : World} (h : Fr S w w') {B : Nat} {e : TypeId} {sz : Nat} {A : Option Addr} {n c : Nat} {vs : List Value} (hr : RowO w B e sz A n c vs) (hn : ∀ b, blkOf A = some b → ¬ S b) : RowO w' B e sz A n c vs := by
  refine ⟨hr.len, hr.le, ?_⟩
  rcases hr.at_ with h1 | ⟨b, o, cs, rfl, hB, hb, hs, ht⟩
  · exact .inl h1
  · exact .inr ⟨b, o, cs, rfl, hB, h.at hb (hn b rfl), hs, ht⟩
theorem RowO.tail {w : World} {B : Nat} {e : TypeId} {sz : Nat} {A : Option Addr} {n c : Nat} {x r : List Value} (h : RowO w B e sz A n c (x ++ r)) (hx : x.length = sz) (hn : n ≠ 0) : RowO w B e sz (slA A c 1 sz) (n - 1) (c - 1) r := by
  have hl := h.len
  have hle := h.le
  obtain ⟨m, rfl⟩ : ∃ m, n = m + 1 := ⟨n - 1, by omega⟩
  obtain ⟨d, rfl⟩ : ∃ d, c = d + 1 := ⟨c - 1, by omega⟩
  rw [List.length_append, hx, Nat.add_mul, Nat.one_mul] at hl
  have hmd : m * sz ≤ d * sz := Nat.mul_le_mul_right _ (by omega)
  refine ⟨by show r.length = m * sz; omega, by show m ≤ d; omega, ?_⟩
  rcases h.at_ with ⟨_, h1, _⟩ | ⟨b, o, cs, rfl, hB, hb, hs, ht⟩
  · omega
  rw [Nat.add_mul, Nat.one_mul] at hs ht
  right
  by_cases hd : d = 0
  · subst hd
    have hm0 : m = 0 := by omega
    subst hm0
    refine ⟨b, o, cs, by simp [slA], hB, hb, by omega, ?_⟩
    have : r = [] := List.length_eq_zero_iff.1 (by omega)
    subst this
    simp
  · refine ⟨b, o + sz, cs, ?_, hB, hb, by show o + sz + d * sz ≤ cs.size; omega, ?_⟩
    · unfold slA
      rw [if_neg (by omega), Option.map_some, Nat.one_mul]
      unfold Addr.add
      split <;> simp_all
    · show (cs.toList.drop (o + sz)).take (m * sz) = r
      have e1 : (x ++ r).drop sz = r := by
        rw [List.drop_append, List.drop_eq_nil_of_le («as» := x) (by omega), hx, Nat.sub_self]; rfl
      have e2 : (List.take (m * sz + sz) (cs.toList.drop o)).drop sz = (cs.toList.drop (o + sz)).take (m * sz) := by
        rw [List.drop_take, List.drop_drop, Nat.add_sub_cancel]
      rw [← e2, ht, e1]
/-- append to such a row -/
theorem app_rowO {w : World} {B : Nat} {e : TypeId} {sz bytes : Nat} {z : List Value} {A : Option Addr} {n c : Nat} {x : Value} {old us : List Value} {m : Nat} {K : Option Addr → Nat → Nat → World → Prop}
    (hr : RowO w B e sz A n c old) (hx : srcOf w sz x m us) (h1 : ∀ v ∈ us, v.oneCell' = true) (hz : z.length = sz) (hb : (n + m) * bytes ≤ 140737488355328) (hm : n + m ≤ 9223372036854775807) (hB : B ≤ w.heap.size)
    (hK : ∀ A' c' w', RowO w' B e sz A' (n + m) c' (old ++ us) → Fr (fun k => blkOf A = some k) w w' → (∀ k, blkOf A' = some k → blkOf A = some k ∨ w.heap.size ≤ k) → K A' (n + m) c' w') : app w sz bytes z e A n c x K := by
  have hul : us.length = m * sz := by
    unfold srcOf at hx
    split at hx
    · obtain ⟨rfl, h, _⟩ := hx; exact h
    · obtain ⟨rfl, rfl, rfl⟩ := hx; simp
    · exact hx.elim
  refine ⟨m, us, hx, h1, hb, hm, fun hle => ⟨fun h0 => ?_, fun h0 => ?_⟩, fun hlt => ⟨old, hr.sl.src, fun cap hc1 hc2 => ?_⟩⟩
  · subst h0
    have : us = [] := List.length_eq_zero_iff.1 (by simpa using hul)
    subst this
    exact hK A c w (by rw [List.append_nil]; exact hr) (Fr.refl _ _) (fun _ h => .inl h)
  · rcases hr.at_ with ⟨rfl, rfl, rfl⟩ | ⟨b, o, cs, rfl, hBb, hh, hs, ht⟩
    · omega
    · have hmul : (n + m) * sz ≤ c * sz := Nat.mul_le_mul_right _ hle
      rw [Nat.add_mul] at hmul
      have hfit : (o + n * sz) + us.length ≤ cs.toList.length := by have hcl : cs.toList.length = cs.size := Array.length_toList; omega
      show st w b (o + n * sz) us _
      refine ⟨⟨cs, e, 0, 0, hh, by simpa using hfit, .inl (Nat.zero_le _)⟩, h1, ?_⟩
      refine hK _ _ _ ⟨by rw [List.length_append, hr.len, hul, Nat.add_mul], hle, .inr ⟨b, o, _, rfl, hBb, stB_heap hh, ?_, ?_⟩⟩ (Fr.st (fun _ => rfl)) (fun _ h => .inl h)
      · simp only [List.size_toArray]; rw [splice_length hfit]; simpa using hs
      · have hol := hr.len
        apply List.ext_getElem?
        intro j
        rw [List.getElem?_take, Nat.add_mul]
        by_cases hj : j < n * sz + m * sz
        · rw [if_pos hj, List.getElem?_drop, splice_get hfit]
          by_cases hj2 : j < n * sz
          · rw [if_pos (by omega), List.getElem?_append_left (by omega), ← ht, List.getElem?_take, if_pos hj2, List.getElem?_drop]
          · rw [if_neg (by omega), if_pos (by omega), List.getElem?_append_right (by omega)]
            congr 1; omega
        · rw [if_neg hj, List.getElem?_eq_none (by rw [List.length_append]; omega)]
  · have h2 := Row.new (w := w.drew) (B := B) (e := e) (sz := sz) (n := cap) (vs := old ++ us ++ zeros (cap - (n + m)) z) hB (by simp only [List.length_append, zeros_length, hr.len, hul, hz, ← Nat.add_mul]; congr 1; omega)
    refine hK _ _ _ ⟨by rw [List.length_append, hr.len, hul, Nat.add_mul], hc1, .inr ⟨_, 0, _, rfl, hB, heap_alloc_at _ _, ?_, ?_⟩⟩ ?_ (fun k hk => .inr (by simp only [blkOf, Option.some.injEq] at hk; subst hk; exact Nat.le_refl _))
    · simp only [List.size_toArray, List.length_append, zeros_length, hr.len, hul, hz, ← Nat.add_mul, Nat.zero_add]
      rw [show n + m + (cap - (n + m)) = cap by omega]; exact Nat.le_refl _
    · simp only [List.append_assoc, List.drop_zero]
      rw [← List.append_assoc, List.take_append_of_le_length (by rw [List.length_append, hr.len, hul, ← Nat.add_mul]; exact Nat.le_refl _), List.take_of_length_le (by rw [List.length_append, hr.len, hul, ← Nat.add_mul]; exact Nat.le_refl _)]
    · exact (Fr.drew _ w).trans1 (Fr.alloc _ _ _)
end Go.GV
