/- figures, and files' names, plainly (from chapter 08) -/
import Derived.Test.YtfhimpkpfelilaaDoorLTxtB
import Derived.Test.YtfhimpkpfelilaaDoorG12
import Derived.Lib.ItoaNum
import Derived.Lib.Atoi
import Derived.Lib.Repeat
import Derived.Lib.Strings
namespace Go.Proofs.YtfhimpkpfelilaaDoor
open Go.GV Go.RowKit Go.Lib
set_option linter.unusedVariables false
set_option linter.unusedSimpArgs false
theorem nil_iff (s : ByteArray) : (s.toList == (⟨#[]⟩ : ByteArray).toList) = decide (s.size = 0) := by
  rw [ByteArray.toList_eq, ByteArray.toList_eq]
  have h : s.size = s.data.toList.length := by rw [Array.length_toList]; rfl
  rw [h]
  cases hl : s.data.toList with
  | nil => rfl
  | cons a r => simp
theorem ndec_t {p : Prop} [Decidable p] (h : (!decide p) = true) : ¬ p := by simpa using h
theorem ndec_f {p : Prop} [Decidable p] (h : (!decide p) = false) : p := by simpa using h
def dg (n : Nat) : UInt8 := UInt8.ofNat (48 + n % 10)
theorem dg_nat (n : Nat) : (dg n).toNat = 48 + n % 10 := by
  unfold dg
  rw [UInt8.toNat_ofNat']
  omega
def digs : Nat → Nat → List UInt8
  | 0, _ => []
  | k + 1, n => digs k (n / 10) ++ [dg n]
theorem digs_len : ∀ k n, (digs k n).length = k
  | 0, _ => rfl
  | k + 1, n => by simp [digs, digs_len k]
theorem digs_cons : ∀ k n, digs (k + 1) n = dg (n / 10 ^ k) :: digs k n
  | 0, n => by simp [digs]
  | k + 1, n => by
    have h : digs (k + 2) n = digs (k + 1) (n / 10) ++ [dg n] := rfl
    rw [h, digs_cons k (n / 10)]
    show dg (n / 10 / 10 ^ k) :: (digs k (n / 10) ++ [dg n]) = _
    have e : n / 10 / 10 ^ k = n / 10 ^ (k + 1) := by rw [Nat.div_div_eq_div_mul, Nat.pow_succ, Nat.mul_comm]
    rw [e]; rfl
theorem digitVal_dg (n : Nat) : digitVal (dg n) = some (n % 10) := by
  unfold digitVal
  rw [dg_nat, if_pos (by omega)]
  congr 1; omega
theorem decFrom_app : ∀ (a b : List UInt8) (acc : Nat), decFrom acc (a ++ b) = (decFrom acc a).bind fun m => decFrom m b
  | [], b, acc => rfl
  | x :: a, b, acc => by
    show (match digitVal x with | some d => decFrom (acc * 10 + d) (a ++ b) | none => none) = (match digitVal x with | some d => decFrom (acc * 10 + d) a | none => none).bind fun m => decFrom m b
    cases digitVal x with
    | none => rfl
    | some d => exact decFrom_app a b _
theorem mod_succ (n k : Nat) : n % 10 ^ (k + 1) = n / 10 % 10 ^ k * 10 + n % 10 := by
  rw [Nat.pow_succ, Nat.mul_comm (10 ^ k) 10, Nat.mod_mul]
  omega
theorem decFrom_digs : ∀ k n acc, decFrom acc (digs k n) = some (acc * 10 ^ k + n % 10 ^ k)
  | 0, n, acc => by simp [digs, decFrom, Nat.mod_one]
  | k + 1, n, acc => by
    show decFrom acc (digs k (n / 10) ++ [dg n]) = _
    rw [decFrom_app, decFrom_digs k, Option.bind_some]
    show (match digitVal (dg n) with | some d => decFrom ((acc * 10 ^ k + n / 10 % 10 ^ k) * 10 + d) [] | none => none) = _
    rw [digitVal_dg]
    show some ((acc * 10 ^ k + n / 10 % 10 ^ k) * 10 + n % 10) = _
    rw [mod_succ, Nat.pow_succ, Nat.add_mul, Nat.mul_assoc]
    congr 1
    omega
theorem digs_inj {k u v : Nat} (hu : u < 10 ^ k) (hv : v < 10 ^ k) (h : digs k u = digs k v) : u = v := by
  have h1 := decFrom_digs k u 0
  have h2 := decFrom_digs k v 0
  rw [h, h2] at h1
  rw [Nat.mod_eq_of_lt hu, Nat.mod_eq_of_lt hv] at h1
  simp at h1
  omega
theorem digs_of : ∀ (k : Nat) (l : List UInt8) (m : Nat), l.length = k → decFrom 0 l = some m → l = digs k m
  | 0, l, m, hl, _ => List.length_eq_zero_iff.1 hl
  | k + 1, l, m, hl, h => by
    obtain ⟨l', b, rfl⟩ : ∃ l' b, l = l' ++ [b] := by
      refine ⟨l.dropLast, l.getLast (by intro h; rw [h] at hl; cases hl), (List.dropLast_concat_getLast _).symm⟩
    rw [List.length_append, List.length_singleton] at hl
    rw [decFrom_app] at h
    cases hm : decFrom 0 l' with
    | none => rw [hm] at h; cases h
    | some m' =>
      rw [hm, Option.bind_some] at h
      unfold decFrom at h
      cases hd : digitVal b with
      | none => rw [hd] at h; cases h
      | some d =>
        rw [hd] at h
        have h : some (m' * 10 + d) = some m := h
        injection h with h
        have hb : 48 ≤ b.toNat ∧ b.toNat ≤ 57 ∧ d = b.toNat - 48 := by
          unfold digitVal at hd
          split at hd
          · rename_i hc
            injection hd with hd
            exact ⟨hc.1, hc.2, hd.symm⟩
          · cases hd
        have h10 : m / 10 = m' := by omega
        have e := digs_of k l' m' (by omega) hm
        show l' ++ [b] = digs k (m / 10) ++ [dg m]
        rw [h10, ← e]
        congr 2
        apply UInt8.toNat_inj.1
        rw [dg_nat]
        omega
theorem dg_ne {n : Nat} {b : UInt8} (hb : b.toNat < 48) : (dg n == b) = false := by
  rw [beq_eq_false_iff_ne]
  intro h
  have := congrArg UInt8.toNat h
  rw [dg_nat] at this
  omega
theorem atoi_cons (b : UInt8) (r : List UInt8) : atoi (b :: r) = if b == 45 then (decNat r).map fun (m : Nat) => -(m : Int) else if b == 43 then (decNat r).map fun (m : Nat) => (m : Int) else (decNat (b :: r)).map fun (m : Nat) => (m : Int) := rfl
theorem atoi_digs {u : Nat} (hu : u < 100000000) : atoi (digs 8 u) = some (u : Int) := by
  rw [digs_cons, atoi_cons, dg_ne (by decide), dg_ne (by decide)]
  simp only [Bool.false_eq_true, if_false]
  rw [← digs_cons]
  unfold decNat
  have h0 : (digs (7 + 1) u).isEmpty = false := by rw [digs_cons]; rfl
  rw [h0]
  simp only [Bool.false_eq_true, if_false]
  rw [decFrom_digs, Nat.mod_eq_of_lt (by omega)]
  simp
theorem digs_zero : ∀ k, digs k 0 = repeatL [48] k
  | 0 => rfl
  | k + 1 => by
    rw [digs_cons, Nat.zero_div, digs_zero k]; rfl
theorem dec_small {u : Nat} (h : u < 10) : decDigits u = [dg u] := by
  rw [decDigits, dif_pos h]
  unfold dg
  rw [Nat.mod_eq_of_lt h]
theorem dec_big {u : Nat} (h : ¬ u < 10) : decDigits u = decDigits (u / 10) ++ [dg u] := by
  rw [decDigits, dif_neg h]; rfl
theorem pad_digs : ∀ (k u : Nat), u < 10 ^ (k + 1) → (decDigits u).length ≤ k + 1 ∧ repeatL [48] (k + 1 - (decDigits u).length) ++ decDigits u = digs (k + 1) u
  | 0, u, h => by
    have h : u < 10 := by simpa using h
    rw [dec_small h]
    exact ⟨Nat.le_refl _, rfl⟩
  | k + 1, u, h => by
    by_cases h10 : u < 10
    · rw [dec_small h10]
      refine ⟨by simp, ?_⟩
      show repeatL [48] (k + 1) ++ [dg u] = digs (k + 1) (u / 10) ++ [dg u]
      rw [Nat.div_eq_of_lt h10, digs_zero]
    · have hd : u / 10 < 10 ^ (k + 1) := by rw [Nat.pow_succ] at h; omega
      obtain ⟨h1, h2⟩ := pad_digs k (u / 10) hd
      rw [dec_big h10, List.length_append, List.length_singleton]
      refine ⟨by omega, ?_⟩
      rw [show k + 1 + 1 - ((decDigits (u / 10)).length + 1) = k + 1 - (decDigits (u / 10)).length by omega, ← List.append_assoc, h2]
      rfl
/-! ### files' names -/
def wl (k : Int) : List UInt8 := if k = 1 then [115, 101, 103, 45] else if k = 2 then [104, 105, 110, 116, 45] else if k = 3 then [112, 111, 105, 110, 116, 45] else []
def good (k n : Int) : Prop := 1 ≤ k ∧ k ≤ 3 ∧ 1 ≤ n ∧ n ≤ 99999999
instance (k n : Int) : Decidable (good k n) := by unfold good; infer_instance
def fileL (k n : Int) : List UInt8 := if good k n then wl k ++ digs 8 n.toNat else []
theorem fileL_good {k n : Int} (h : good k n) : fileL k n = wl k ++ digs 8 n.toNat := if_pos h
theorem fileL_nil {k n : Int} (h : ¬ good k n) : fileL k n = [] := if_neg h
theorem kinds {k : Int} (h1 : 1 ≤ k) (h3 : k ≤ 3) : k = 1 ∨ k = 2 ∨ k = 3 := by omega
theorem wl_ne {k k' : Int} (h1 : 1 ≤ k) (h3 : k ≤ 3) (h1' : 1 ≤ k') (h3' : k' ≤ 3) {a b : List UInt8} (h : wl k ++ a = wl k' ++ b) : k = k' := by
  rcases kinds h1 h3 with rfl | rfl | rfl <;> rcases kinds h1' h3' with rfl | rfl | rfl <;> first | rfl | (simp [wl] at h)
theorem fileL_inj {k n k' n' : Int} (h : good k n) (h' : good k' n') (he : fileL k n = fileL k' n') : k = k' ∧ n = n' := by
  rw [fileL_good h, fileL_good h'] at he
  obtain ⟨a, b, c, d⟩ := h
  obtain ⟨a', b', c', d'⟩ := h'
  have hk := wl_ne a b a' b' he
  subst hk
  have := digs_inj (k := 8) (u := n.toNat) (v := n'.toNat) (by omega) (by omega) (List.append_cancel_left he)
  exact ⟨rfl, by omega⟩
theorem fileL_ne {k n : Int} (h : good k n) : fileL k n ≠ [] := by
  rw [fileL_good h]
  intro h0
  have := congrArg List.length h0
  rw [List.length_append, digs_len] at this
  simp at this
/-- which file a name is of -/
def IsNum (l : List UInt8) (k n : Int) : Prop := (good k n ∧ l = fileL k n) ∨ (k = 0 ∧ n = 0 ∧ ∀ k' n', good k' n' → l ≠ fileL k' n')
theorem IsNum.unique {l : List UInt8} {k n k' n' : Int} (h : IsNum l k n) (h' : IsNum l k' n') : k = k' ∧ n = n' := by
  rcases h with ⟨g, e⟩ | ⟨rfl, rfl, e⟩ <;> rcases h' with ⟨g', e'⟩ | ⟨rfl, rfl, e'⟩
  · exact fileL_inj g g' (e.symm.trans e')
  · exact absurd e (e' _ _ g)
  · exact absurd e' (e _ _ g')
  · exact ⟨rfl, rfl⟩
theorem isNum_file {k n : Int} (h : good k n) : IsNum (fileL k n) k n := .inl ⟨h, rfl⟩
end Go.Proofs.YtfhimpkpfelilaaDoor
