/- MY OWN ENGINE, part 11: the comparison of bytes (a function without a body); opening an array of bytes. -/
import Derived.Test.YtfhimpkpfelilaaDoorG10
import Derived.Lib.Bytealg
namespace Go.GV
open Go Go.RowKit Go.ChangeShapes Go.WideShapes Go.ChangeAt
set_option linter.unusedSimpArgs false
set_option linter.unusedVariables false
theorem loadBytes_run {P : Program} {w : World} : ∀ (l : List UInt8) (b o : Nat) (acc : ByteArray), cellsAt w b o (l.map bv) → (Extern.Bytes.loadBytes ⟨b, o, none⟩ l.length acc).run P w = .ok ⟨(acc.data.toList ++ l).toArray⟩ w
  | [], b, o, acc, _ => by
    simp only [Extern.Bytes.loadBytes, List.length_nil, Sem.run_pure, List.append_nil]
  | x :: l, b, o, acc, h => by
    have h0 : w.cell? ⟨b, o, none⟩ = some (.int .u8 x.toNat) := by
      exact h 0 (bv x) rfl
    have hr := loadBytes_run (P := P) (w := w) l b (o + 1) (acc.push x) (fun j v hj => by
      have := h (j + 1) v (by simpa using hj)
      rw [Nat.add_assoc, Nat.add_comm 1 j]; exact this)
    simp only [List.length_cons, Extern.Bytes.loadBytes, Sem.run_bind, run_load, h0, Result.andThen, add_none]
    have e1 : ((x.toNat : Int).toNat).toUInt8 = x := by simp
    rw [e1, hr]
    simp [ByteArray.push]
theorem bytesOf_run {P : Program} {w : World} {A : Option Addr} {n c : Nat} {l : List UInt8} (h : Sl w 1 A n (l.map bv)) : (Extern.Bytes.bytesOf (.slice A n c)).run P w = .ok ⟨l.toArray⟩ w := by
  have hl : l.length = n := by simpa using h.1
  cases A with
  | none =>
    have h0 : n = 0 := by
      by_cases h0 : n = 0
      · exact h0
      · obtain ⟨b, o, hA, _⟩ := h.2 h0; cases hA
    have : l = [] := List.length_eq_zero_iff.1 (by omega)
    subst this
    rfl
  | some a =>
    by_cases h0 : n = 0
    · have : l = [] := List.length_eq_zero_iff.1 (by omega)
      subst this; subst h0
      rfl
    · obtain ⟨b, o, hA, hc⟩ := h.2 h0
      injection hA with hA
      subst hA; subst hl
      have := loadBytes_run (P := P) l b o .empty hc
      simpa [Extern.Bytes.bytesOf] using this
theorem compare_ext {P : Program} {f : FuncId} {fn : Func} {w : World} {A A' : Option Addr} {n c n' c' : Nat} {l l' : List UInt8} {K : Value → World → Prop}
    (hf : P.funcs[f]? = some fn) (hb : fn.body.isNone = true) (hn : Extern.findNext fn = none) (he : Extern.find fn = some Extern.BytealgCompare.compare)
    (h : Sl w 1 A n (l.map bv)) (h' : Sl w 1 A' n' (l'.map bv)) (hK : K (.int .i64 (Lib.compareBytes l l')) w) : extC P f #[.slice A n c, .slice A' n' c'] w K := by
  refine ⟨fn, _, _, w, hf, hb, hn, he, ?_, hK⟩
  change Sem.run P (do pure (goInt (Extern.BytealgCompare.cmp (← Extern.Bytes.bytesOf (.slice A n c)) (← Extern.Bytes.bytesOf (.slice A' n' c'))))) w = _
  simp only [Sem.run_bind, Sem.run_pure, Result.andThen, bytesOf_run h, bytesOf_run h', Lib.cmp_eq]
  rfl
/-! ### the order of bytes -/
open Lib in
theorem cmp_self : ∀ l : List UInt8, compareBytes l l = 0
  | [] => rfl
  | a :: l => by
    unfold compareBytes
    rw [if_neg (UInt8.lt_irrefl a), if_neg (UInt8.lt_irrefl a), cmp_self l]
open Lib in
theorem cmp_anti : ∀ a b : List UInt8, compareBytes a b = - compareBytes b a
  | [], [] => rfl
  | [], _ :: _ => rfl
  | _ :: _, [] => rfl
  | x :: a, y :: b => by
    unfold compareBytes
    by_cases h1 : x < y
    · rw [if_pos h1, if_neg (UInt8.lt_asymm h1), if_pos h1]
    · by_cases h2 : y < x
      · rw [if_neg h1, if_pos h2, if_pos h2]; rfl
      · rw [if_neg h1, if_neg h2, if_neg h2, if_neg h1, cmp_anti a b]
open Lib in
theorem cmp_range : ∀ a b : List UInt8, compareBytes a b = -1 ∨ compareBytes a b = 0 ∨ compareBytes a b = 1
  | [], [] => .inr (.inl rfl)
  | [], _ :: _ => .inl rfl
  | _ :: _, [] => .inr (.inr rfl)
  | x :: a, y :: b => by
    unfold compareBytes
    split
    · exact .inl rfl
    · split
      · exact .inr (.inr rfl)
      · exact cmp_range a b
open Lib in
theorem cmp_zero : ∀ a b : List UInt8, compareBytes a b = 0 ↔ a = b
  | [], [] => ⟨fun _ => rfl, fun _ => rfl⟩
  | [], _ :: _ => by simp [compareBytes]
  | _ :: _, [] => by simp [compareBytes]
  | x :: a, y :: b => by
    unfold compareBytes
    have ih := cmp_zero a b
    by_cases h1 : x < y
    · rw [if_pos h1]
      constructor
      · intro h; cases h
      · intro h; injection h with h; subst h; exact absurd h1 (UInt8.lt_irrefl x)
    · by_cases h2 : y < x
      · rw [if_neg h1, if_pos h2]
        constructor
        · intro h; cases h
        · intro h; injection h with h; subst h; exact absurd h2 (UInt8.lt_irrefl x)
      · rw [if_neg h1, if_neg h2, ih]
        have : x = y := UInt8.le_antisymm (UInt8.not_lt.1 h2) (UInt8.not_lt.1 h1)
        subst this
        simp
open Lib in
theorem cmp_trans : ∀ a b c : List UInt8, compareBytes a b ≤ 0 → compareBytes b c ≤ 0 → compareBytes a c ≤ 0
  | [], b, [], _, _ => by simp [compareBytes]
  | [], b, _ :: _, _, _ => by simp [compareBytes]
  | _ :: _, [], c, h, _ => by simp [compareBytes] at h
  | _ :: _, _ :: _, [], _, h => by simp [compareBytes] at h
  | x :: a, y :: b, z :: c, h1, h2 => by
    have ih := cmp_trans a b c
    unfold compareBytes at h1 h2 ⊢
    by_cases xy : x < y
    · by_cases yz : y < z
      · rw [if_pos (UInt8.lt_trans xy yz)]; omega
      · rw [if_neg yz] at h2
        by_cases zy : z < y
        · rw [if_pos zy] at h2; omega
        · have : y = z := UInt8.le_antisymm (UInt8.not_lt.1 zy) (UInt8.not_lt.1 yz)
          subst this
          rw [if_pos xy]; omega
    · rw [if_neg xy] at h1
      by_cases yx : y < x
      · rw [if_pos yx] at h1; omega
      · have : x = y := UInt8.le_antisymm (UInt8.not_lt.1 yx) (UInt8.not_lt.1 xy)
        subst this
        rw [if_neg yx] at h1
        by_cases xz : x < z
        · rw [if_pos xz]; omega
        · rw [if_neg xz] at h2 ⊢
          by_cases zx : z < x
          · rw [if_pos zx] at h2; omega
          · rw [if_neg zx] at h2 ⊢
            exact ih h1 h2
open Lib in
/-- the first place where two rows of bytes differ -/
theorem cmp_at : ∀ (i : Nat) (a b : List UInt8), a.take i = b.take i → compareBytes a b = compareBytes (a.drop i) (b.drop i)
  | 0, a, b, _ => rfl
  | i + 1, [], [], _ => rfl
  | i + 1, [], y :: b, h => by simp at h
  | i + 1, x :: a, [], h => by simp at h
  | i + 1, x :: a, y :: b, h => by
    simp only [List.take_succ_cons, List.cons.injEq] at h
    obtain ⟨rfl, h⟩ := h
    simp only [List.drop_succ_cons]
    rw [← cmp_at i a b h]
    show (if x < x then -1 else if x < x then 1 else compareBytes a b) = _
    rw [if_neg (UInt8.lt_irrefl x), if_neg (UInt8.lt_irrefl x)]
/-! ### arrays of bytes -/
variable {H : Type} {enc : TypeId × Value → H} {P : Program} {w : World}
theorem agg_of_array {v : Value} {t e : TypeId} {k b0 : Nat} (ht : P.underlying t = some (.array k e)) (hval : Value.okWide P w .any b0 t v) : ∃ cs : List Value, v = ofL cs ∧ v.cells.toList = cs := by
  cases v with
  | agg cs => exact ⟨cs.toList, by simp [ofL], rfl⟩
  | _ =>
    exfalso
    simp [Value.okWide, Cell.okWide, Cell.ok, ht] at hval
theorem tr_byteArray {fuel : Nat} {t e : TypeId} {k : Nat} {cs : List Value} {x : DataW H × List MemPlace} (ht : P.underlying t = some (.array k e)) (he : P.underlying e = some (.int .u8)) (hc : P.cellsOf e = 1) (hk : P.cellsOf t = k) (h : TR enc P w fuel t cs x) :
    ∃ l : List UInt8, cs = l.map bv ∧ l.length = k := by
  obtain ⟨hl, ds, _, _, hi⟩ := tr_array ht h
  rw [hk] at hl
  have each : ∀ (i : Nat) (v : Value), cs[i]? = some v → ∃ b : UInt8, v = bv b := fun i v hv => by
    have hil := (List.getElem?_eq_some_iff.1 hv).1
    obtain ⟨m, y, hy, _⟩ := hi i (by omega)
    rw [hc, Nat.mul_one] at hy
    obtain ⟨z, hz, hw, _⟩ := tr_int he hy
    have h1 : ((cs.drop i).take 1)[0]? = some v := by rw [List.getElem?_take, if_pos (by omega), List.getElem?_drop, Nat.add_zero]; exact hv
    rw [hz] at h1
    simp only [List.getElem?_cons_zero, Option.some.injEq] at h1
    simp only [Lit.wf, IntKind.has, Bool.and_eq_true, decide_eq_true_eq] at hw
    have e1 : IntKind.u8.min = 0 := by decide
    have e2 : IntKind.u8.max = 255 := by decide
    refine ⟨UInt8.ofNat z.toNat, ?_⟩
    rw [← h1]
    unfold bv
    congr 1
    simp; omega
  obtain ⟨l, hl2, hl3⟩ := choose_list (R := fun _ v (b : UInt8) => v = bv b) cs (fun i v hv => each i v hv)
  refine ⟨l, ?_, by omega⟩
  apply List.ext_getElem?
  intro i
  by_cases hi : i < cs.length
  · obtain ⟨b, hb, hvb⟩ := hl3 i _ (List.getElem?_eq_getElem hi)
    rw [List.getElem?_map, hb, List.getElem?_eq_getElem hi, hvb]; rfl
  · rw [List.getElem?_eq_none (by omega), List.getElem?_eq_none (by simp; omega)]
end Go.GV
