/- MY OWN ENGINE, part 13: rows of elements of one size, each of which lies as its cells. -/
import Derived.Test.YtfhimpkpfelilaaDoorG12
namespace Go.GV
open Go Go.RowKit
set_option linter.unusedSimpArgs false
set_option linter.unusedVariables false
section
variable {α : Type} {enc : α → List Value} {sz : Nat}
def flt (enc : α → List Value) (l : List α) : List Value := (l.map enc).flatten
theorem flt_nil : flt enc [] = [] := rfl
theorem flt_app (a b : List α) : flt enc (a ++ b) = flt enc a ++ flt enc b := by simp [flt]
theorem flt_one (x : α) : flt enc [x] = enc x := by simp [flt]
theorem flt_cons (x : α) (l : List α) : flt enc (x :: l) = enc x ++ flt enc l := by simp [flt]
theorem flt_len : ∀ {l : List α}, (∀ x ∈ l, (enc x).length = sz) → (flt enc l).length = l.length * sz
  | [], _ => by simp [flt]
  | x :: r, h => by
    rw [flt_cons, List.length_append, h x (List.mem_cons_self ..), flt_len (fun y hy => h y (List.mem_cons_of_mem _ hy)), List.length_cons, Nat.add_mul]; omega
theorem flt_get : ∀ {l : List α}, (∀ x ∈ l, (enc x).length = sz) → ∀ {i : Nat} {x : α}, l[i]? = some x → ∀ j, j < sz → (flt enc l)[i * sz + j]? = (enc x)[j]?
  | [], _, i, x, h, _, _ => by simp at h
  | y :: r, hl, 0, x, h, j, hj => by
    simp only [List.getElem?_cons_zero, Option.some.injEq] at h
    subst h
    rw [flt_cons, Nat.zero_mul, Nat.zero_add, List.getElem?_append_left (by rw [hl y (List.mem_cons_self ..)]; exact hj)]
  | y :: r, hl, i + 1, x, h, j, hj => by
    have h1 := hl y (List.mem_cons_self ..)
    have ih := flt_get (fun z hz => hl z (List.mem_cons_of_mem _ hz)) (i := i) (x := x) (by simpa using h) j hj
    rw [flt_cons, List.getElem?_append_right (by rw [h1, Nat.add_mul]; omega), h1, ← ih]
    congr 1
    rw [Nat.add_mul]; omega
theorem flt_oneCell {l : List α} (h : ∀ x ∈ l, ∀ v ∈ enc x, v.oneCell' = true) : ∀ v ∈ flt enc l, v.oneCell' = true := by
  intro v hv
  simp only [flt, List.mem_flatten, List.mem_map] at hv
  obtain ⟨_, ⟨x, hx, rfl⟩, hv⟩ := hv
  exact h x hx v hv
theorem flt_take {l : List α} (hl : ∀ x ∈ l, (enc x).length = sz) {k : Nat} (hk : k ≤ l.length) : (flt enc l).take (k * sz) = flt enc (l.take k) := by
  conv => lhs; rw [← List.take_append_drop k l, flt_app]
  have h1 : (flt enc (l.take k)).length = k * sz := by rw [flt_len (fun x hx => hl x (List.mem_of_mem_take hx)), List.length_take, Nat.min_eq_left hk]
  rw [← h1, List.take_left]
theorem flt_drop {l : List α} (hl : ∀ x ∈ l, (enc x).length = sz) {k : Nat} (hk : k ≤ l.length) : (flt enc l).drop (k * sz) = flt enc (l.drop k) := by
  conv => lhs; rw [← List.take_append_drop k l, flt_app]
  have h1 : (flt enc (l.take k)).length = k * sz := by rw [flt_len (fun x hx => hl x (List.mem_of_mem_take hx)), List.length_take, Nat.min_eq_left hk]
  rw [← h1, List.drop_left]
theorem flt_set {l : List α} (hl : ∀ x ∈ l, (enc x).length = sz) {i : Nat} (hi : i < l.length) {y : α} (hy : (enc y).length = sz) : splice (flt enc l) (i * sz) (enc y) = flt enc (l.set i y) := by
  unfold splice
  rw [flt_take hl (by omega), hy, show i * sz + sz = (i + 1) * sz by rw [Nat.add_mul]; omega, flt_drop hl (by omega), List.set_eq_take_append_cons_drop, if_pos hi, flt_app, flt_cons, List.append_assoc]
end
/-- part of a row of one's own is written -/
theorem row_putG {w : World} {B : Nat} {e : TypeId} {sz : Nat} {A : Option Addr} {n c : Nat} {vs us : List Value} {o' : Nat} {K : World → Prop} (hr : Row w B e sz A n c vs) (hn : n ≠ 0) (hfit : o' + us.length ≤ n * sz) (h1 : ∀ v ∈ us, v.oneCell' = true)
    (hK : ∀ w', Row w' B e sz A n c (splice vs o' us) → Fr (fun k => blkOf A = some k) w w' → K w') : dr A fun b o => st w b (o + o') us K := by
  rcases hr.at_ with ⟨_, h0, _⟩ | ⟨b, cs, rfl, hB, hh, hs, ht⟩
  · exact absurd h0 hn
  · have hle := hr.le
    have hl := hr.len
    have hmul : n * sz ≤ c * sz := Nat.mul_le_mul_right _ hle
    show st w b (0 + o') us K
    rw [Nat.zero_add]
    have hfit2 : o' + us.length ≤ cs.toList.length := by simp; omega
    refine ⟨⟨cs, e, 0, 0, hh, by simpa using hfit2, .inl (Nat.zero_le _)⟩, h1, hK _ ⟨by rw [splice_length (by omega)]; exact hl, hle, .inr ⟨b, _, rfl, hB, stB_heap hh, ?_, ?_⟩⟩ (Fr.st (fun _ => rfl))⟩
    · simp only [List.size_toArray]; rw [splice_length hfit2]; simpa using hs
    · apply List.ext_getElem?
      intro i
      rw [List.getElem?_take]
      by_cases hi : i < n * sz
      · rw [if_pos hi, splice_get hfit2, splice_get (by omega)]
        by_cases h2 : i < o'
        · rw [if_pos h2, if_pos h2, ← ht, List.getElem?_take, if_pos hi]
        · rw [if_neg h2, if_neg h2]
          by_cases h3 : i < o' + us.length
          · rw [if_pos h3, if_pos h3]
          · rw [if_neg h3, if_neg h3, ← ht, List.getElem?_take, if_pos hi]
      · rw [if_neg hi, List.getElem?_eq_none]
        rw [splice_length (by omega)]; omega
section
variable {α : Type} {enc : α → List Value} {sz : Nat}
/-- one element is read -/
theorem el_rd {w : World} {A : Option Addr} {n : Nat} {l : List α} (h : Sl w sz A n (flt enc l)) (hl : ∀ x ∈ l, (enc x).length = sz) {i : Nat} {x : α} (hi : l[i]? = some x) {ii : Int} (hii : ii = (i : Int)) {X : Nat → Nat → Prop} (hn : l.length = n)
    (hX : ∀ b o, A = some ⟨b, o, none⟩ → cellsAt w b (o + ii.toNat * sz) (enc x) → X b o) : dr A fun b o => gd (decide (0 ≤ ii)) (gd (decide (ii < ((n : Nat) : Int))) (X b o)) := by
  subst hii
  have hil := (List.getElem?_eq_some_iff.1 hi).1
  obtain ⟨b, o, rfl, hc⟩ := h.2 (by omega)
  refine dr_mk (gd_mk (decide_eq_true (by omega)) (gd_mk (decide_eq_true (by omega)) (hX b o rfl ?_)))
  rw [Int.toNat_natCast]
  intro j v hj
  have hj' : j < sz := by have := (List.getElem?_eq_some_iff.1 hj).1; rw [hl x (List.mem_of_getElem? hi)] at this; exact this
  rw [Nat.add_assoc]
  exact hc _ v (by rw [flt_get hl hi j hj']; exact hj)
/-- one element is written -/
theorem el_put {w : World} {B : Nat} {e : TypeId} {A : Option Addr} {n c : Nat} {l : List α} (hr : Row w B e sz A n c (flt enc l)) (hl : ∀ x ∈ l, (enc x).length = sz) (hn : l.length = n) {i : Nat} (hi : i < n) {ii : Int} (hii : ii = (i : Int)) {y : α} (hy : (enc y).length = sz) (h1 : ∀ v ∈ enc y, v.oneCell' = true) {K : World → Prop}
    (hK : ∀ w', Row w' B e sz A n c (flt enc (l.set i y)) → Fr (fun k => blkOf A = some k) w w' → K w') :
    dr A fun b o => gd (decide (0 ≤ ii)) (gd (decide (ii < ((n : Nat) : Int))) (gd ((enc y).length == sz) (st w b (o + ii.toNat * sz) (enc y) K))) := by
  subst hii
  have hmul : (i + 1) * sz ≤ n * sz := Nat.mul_le_mul_right _ hi
  rw [Nat.add_mul] at hmul
  have h := row_putG (o' := i * sz) (us := enc y) (K := K) hr (by omega) (by omega) h1 (fun w' hr' f' => hK w' (by rw [← flt_set hl (by omega) hy]; exact hr') f')
  rw [dr_iff] at h
  obtain ⟨b, o, rfl, h⟩ := h
  refine dr_mk (gd_mk (decide_eq_true (by omega)) (gd_mk (decide_eq_true (by omega)) (gd_mk (by rw [hy]; simp) ?_)))
  rw [Int.toNat_natCast]
  exact h
end
end Go.GV
