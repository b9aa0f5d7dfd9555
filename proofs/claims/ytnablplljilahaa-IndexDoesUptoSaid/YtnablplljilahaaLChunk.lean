/- a row of cells as chunks of 38 -/
import Derived.Test.YtnablplljilahaaLWdF
namespace Go.Proofs.Ytnablplljilahaa
open Go.GV Go.RowKit Go.Lib
set_option linter.unusedVariables false
set_option linter.unusedSimpArgs false
/-! ### a row of cells as chunks -/
def chunk (vs : List Value) (i : Nat) : List Value := (vs.drop (i * 38)).take 38
theorem chunk_l {vs us : List Value} {i : Nat} (h : (i + 1) * 38 ≤ vs.length) : chunk (vs ++ us) i = chunk vs i := by
  unfold chunk
  rw [List.drop_append_of_le_length (by omega), List.take_append_of_le_length (by rw [List.length_drop]; omega)]
theorem chunk_r {vs us : List Value} {n j : Nat} (h : vs.length = n * 38) : chunk (vs ++ us) (n + j) = chunk us j := by
  unfold chunk
  rw [Nat.add_mul, ← h, List.drop_append, List.drop_of_length_le (by omega), List.nil_append]
  congr 2; omega
theorem chunk_take {vs : List Value} {k i : Nat} (h : i < k) : chunk (vs.take (k * 38)) i = chunk vs i := by
  unfold chunk
  rw [List.drop_take, List.take_take, Nat.min_eq_left (by omega)]
theorem chunk_drop {vs : List Value} {k i : Nat} : chunk (vs.drop (k * 38)) i = chunk vs (k + i) := by
  unfold chunk
  rw [List.drop_drop, Nat.add_mul]
theorem chunk_one {cs : List Value} (h : cs.length = 38) : chunk cs 0 = cs := by
  unfold chunk
  rw [Nat.zero_mul, List.drop_zero, List.take_of_length_le (by omega)]
theorem chunk_get {vs : List Value} {i j : Nat} (hj : j < 38) : (chunk vs i)[j]? = vs[i * 38 + j]? := by
  unfold chunk
  rw [List.getElem?_take, if_pos hj, List.getElem?_drop]
theorem chunk_set {vs cs : List Value} {k i : Nat} (hl : cs.length = 38) (hk : (k + 1) * 38 ≤ vs.length) : chunk (splice vs (k * 38) cs) i = if i = k then cs else chunk vs i := by
  have hfit : k * 38 + cs.length ≤ vs.length := by omega
  apply List.ext_getElem?
  intro j
  by_cases hj : j < 38
  · rw [chunk_get hj, splice_get hfit, hl]
    by_cases hik : i = k
    · subst hik
      rw [if_pos rfl, if_neg (by omega), if_pos (by omega)]
      congr 1; omega
    · rw [if_neg hik, chunk_get hj]
      by_cases h1 : i < k
      · rw [if_pos (by omega)]
      · rw [if_neg (by omega), if_neg (by omega)]
  · have hlen : ∀ x : List Value, (chunk x i)[j]? = none := fun x => by
      unfold chunk
      rw [List.getElem?_take, if_neg hj]
    rw [hlen]
    split
    · rw [List.getElem?_eq_none (by omega)]
    · rw [hlen]
end Go.Proofs.Ytnablplljilahaa
