/- MY OWN ENGINE, part 10: opening arguments of any type. -/
import Derived.Test.YtfhimpkpfelilaaDoorG9
namespace Go.GV
open Go Go.RowKit Go.ChangeShapes Go.WideShapes Go.ChangeAt
set_option linter.unusedSimpArgs false
set_option linter.unusedVariables false
section
variable {H : Type} {enc : TypeId × Value → H} {P : Program} {w : World}
/-- cells of a type read as a datum -/
def TR (enc : TypeId × Value → H) (P : Program) (w : World) (fuel : Nat) (t : TypeId) (cs : List Value) (x : DataW H × List MemPlace) : Prop := DataW.trod enc P w 0 (fun _ => true) true fuel t cs = some x
theorem mapM_some {α β : Type} {f : α → Option β} : ∀ {l : List α} {r : List β}, l.mapM f = some r → r.length = l.length ∧ ∀ (i : Nat) (a : α), l[i]? = some a → ∃ b, r[i]? = some b ∧ f a = some b
  | [], r, h => by
    have : r = [] := by simpa [pure] using h.symm
    subst this
    exact ⟨rfl, fun i a h => by simp at h⟩
  | a :: l, r, h => by
    rw [List.mapM_cons] at h
    cases hf : f a with
    | none => rw [hf] at h; cases h
    | some b =>
      rw [hf] at h
      cases hm : l.mapM f with
      | none => rw [hm] at h; cases h
      | some r' =>
        rw [hm] at h
        have : b :: r' = r := by simpa using h
        subst this
        obtain ⟨h1, h2⟩ := mapM_some hm
        refine ⟨by simp [h1], fun i x hx => ?_⟩
        cases i with
        | zero => simp only [List.getElem?_cons_zero, Option.some.injEq] at hx; subst hx; exact ⟨b, rfl, hf⟩
        | succ i => simp only [List.getElem?_cons_succ] at hx ⊢; exact h2 i x hx
theorem cells_some {a : Addr} {n : Nat} {cs : List Value} (h : w.cells? 0 a n = some cs) : cs.length = n ∧ ∀ (j : Nat) (v : Value), cs[j]? = some v → w.cell? (a.add j) = some v := by
  unfold World.cells? at h
  rw [if_pos (Nat.zero_le _)] at h
  obtain ⟨h1, h2⟩ := mapM_some h
  have h1' : cs.length = n := by simpa using h1
  refine ⟨h1', fun j v hj => ?_⟩
  have hjl := (List.getElem?_eq_some_iff.1 hj).1
  obtain ⟨b, hb, hc⟩ := h2 j j (by rw [List.getElem?_range (by omega)])
  rw [hj] at hb
  injection hb with hb
  subst hb
  exact hc
theorem tr_int {fuel : Nat} {t : TypeId} {k : IntKind} {cs : List Value} {x : DataW H × List MemPlace} (ht : P.underlying t = some (.int k)) (h : TR enc P w fuel t cs x) : ∃ n, cs = [.int k n] ∧ (Lit.int k n).wf = true ∧ x = (.lit (.int k n), []) := by
  cases fuel with
  | zero => cases h
  | succ m =>
    unfold TR DataW.trod at h
    rw [ht] at h
    split at h <;> simp_all
theorem tr_bool {fuel : Nat} {t : TypeId} {cs : List Value} {x : DataW H × List MemPlace} (ht : P.underlying t = some .bool) (h : TR enc P w fuel t cs x) : ∃ b, cs = [.bool b] ∧ x = (.lit (.bool b), []) := by
  cases fuel with
  | zero => cases h
  | succ m =>
    unfold TR DataW.trod at h
    rw [ht] at h
    split at h <;> simp_all
theorem tr_string {fuel : Nat} {t : TypeId} {cs : List Value} {x : DataW H × List MemPlace} (ht : P.underlying t = some .string) (h : TR enc P w fuel t cs x) : ∃ s, cs = [.string s] ∧ s.size ≤ maxLen ∧ x = (.lit (.string s.data.toList), []) := by
  cases fuel with
  | zero => cases h
  | succ m =>
    unfold TR DataW.trod at h
    rw [ht] at h
    split at h <;> simp_all
theorem tr_struct {fuel : Nat} {t : TypeId} {fs : Array Field} {cs : List Value} {x : DataW H × List MemPlace} (ht : P.underlying t = some (.struct fs)) (h : TR enc P w fuel t cs x) :
    cs.length = P.cellsOf t ∧ ∃ ds : List (DataW H), x.1 = .agg ds ∧ ds.length = fs.size ∧ ∀ (i : Nat) (f : Field), fs[i]? = some f → ∃ m y, TR enc P w m f.type ((cs.drop f.offset).take (P.cellsOf f.type)) y ∧ ds[i]? = some y.1 := by
  cases fuel with
  | zero => cases h
  | succ m =>
    unfold TR DataW.trod at h
    simp only [ht] at h
    split at h
    · rename_i hl
      cases hm : (fs.toList.mapM fun f => DataW.trod enc P w 0 (fun _ => true) true m f.type ((cs.drop f.offset).take (P.cellsOf f.type))) with
      | none => rw [hm] at h; cases h
      | some xs =>
        rw [hm] at h
        simp only [Option.map_some, Option.some.injEq] at h
        subst h
        obtain ⟨h1, h2⟩ := mapM_some hm
        refine ⟨hl, _, rfl, by simp [h1], fun i f hf => ?_⟩
        obtain ⟨y, hy, hr⟩ := h2 i f (by simpa using hf)
        exact ⟨m, y, hr, by rw [List.getElem?_map, hy]; rfl⟩
    · cases h
theorem tr_array {fuel : Nat} {t e : TypeId} {k : Nat} {cs : List Value} {x : DataW H × List MemPlace} (ht : P.underlying t = some (.array k e)) (h : TR enc P w fuel t cs x) :
    cs.length = P.cellsOf t ∧ ∃ ds : List (DataW H), x.1 = .agg ds ∧ ds.length = k ∧ ∀ i, i < k → ∃ m y, TR enc P w m e ((cs.drop (i * P.cellsOf e)).take (P.cellsOf e)) y ∧ ds[i]? = some y.1 := by
  cases fuel with
  | zero => cases h
  | succ m =>
    unfold TR DataW.trod at h
    simp only [ht] at h
    split at h
    · rename_i hl
      cases hm : ((List.range k).mapM fun i => DataW.trod enc P w 0 (fun _ => true) true m e ((cs.drop (i * P.cellsOf e)).take (P.cellsOf e))) with
      | none => rw [hm] at h; cases h
      | some xs =>
        rw [hm] at h
        simp only [Option.map_some, Option.some.injEq] at h
        subst h
        obtain ⟨h1, h2⟩ := mapM_some hm
        refine ⟨hl, _, rfl, by simpa using h1, fun i hi => ?_⟩
        obtain ⟨y, hy, hr⟩ := h2 i i (by rw [List.getElem?_range hi])
        exact ⟨m, y, hr, by rw [List.getElem?_map, hy]; rfl⟩
    · cases h
theorem flatten_get {vss : List (List Value)} {k : Nat} (hk : ∀ (i : Nat) (v : List Value), vss[i]? = some v → v.length = k) : vss.flatten.length = vss.length * k ∧ ∀ (i : Nat) (v : List Value) (j : Nat), vss[i]? = some v → j < k → vss.flatten[i * k + j]? = v[j]? := by
  induction vss with
  | nil => exact ⟨by simp, fun i v j h => by simp at h⟩
  | cons a r ih =>
    have ha := hk 0 a rfl
    obtain ⟨h1, h2⟩ := ih (fun i v h => hk (i + 1) v (by simpa using h))
    refine ⟨by simp only [List.flatten_cons, List.length_append, h1, ha, List.length_cons, Nat.succ_mul]; omega, fun i v j hi hj => ?_⟩
    cases i with
    | zero =>
      simp only [List.getElem?_cons_zero, Option.some.injEq] at hi
      subst hi
      rw [List.flatten_cons, Nat.zero_mul, Nat.zero_add, List.getElem?_append_left (by omega)]
    | succ i =>
      simp only [List.getElem?_cons_succ] at hi
      rw [List.flatten_cons, List.getElem?_append_right (by rw [ha, Nat.succ_mul]; omega), ha, Nat.succ_mul, show i * k + k + j - k = i * k + j by omega]
      exact h2 i v j hi hj
theorem choose_list {α β : Type} {R : Nat → α → β → Prop} : ∀ (l : List α), (∀ (i : Nat) (a : α), l[i]? = some a → ∃ b, R i a b) → ∃ bs : List β, bs.length = l.length ∧ ∀ (i : Nat) (a : α), l[i]? = some a → ∃ b, bs[i]? = some b ∧ R i a b
  | [], _ => ⟨[], rfl, fun i a h => by simp at h⟩
  | a :: l, h => by
    obtain ⟨b, hb⟩ := h 0 a rfl
    obtain ⟨bs, h1, h2⟩ := choose_list (R := fun i => R (i + 1)) l (fun i x hx => h (i + 1) x (by simpa using hx))
    refine ⟨b :: bs, by simp [h1], fun i x hx => ?_⟩
    cases i with
    | zero => simp only [List.getElem?_cons_zero, Option.some.injEq] at hx; subst hx; exact ⟨b, rfl, hb⟩
    | succ i => simp only [List.getElem?_cons_succ] at hx ⊢; exact h2 i x hx
theorem tr_slice {fuel : Nat} {t e : TypeId} {cs : List Value} {x : DataW H × List MemPlace} (ht : P.underlying t = some (.slice e)) (hc : P.cellsOf e ≠ 0) (h : TR enc P w fuel t cs x) :
    ∃ (A : Option Addr) (n c : Nat) (vss : List (List Value)), cs = [Value.slice A n c] ∧ vss.length = n ∧ n ≤ c ∧ c ≤ maxLen ∧ (∀ (i : Nat) (v : List Value), vss[i]? = some v → v.length = P.cellsOf e) ∧ Sl w (P.cellsOf e) A n vss.flatten ∧
      ((x.1 = .nil ∧ A = none ∧ n = 0 ∧ c = 0) ∨ ∃ es sp, x.1 = .slice es sp ∧ A ≠ none ∧ es.length = n ∧ ∀ (i : Nat) (v : List Value), vss[i]? = some v → ∃ m y, TR enc P w m e v y ∧ es[i]? = some y.1) := by
  rcases DataW.trod_slice ht h with ⟨rfl, rfl⟩ | ⟨a, len, cap, elems, rest, n, _, rfl, rfl, hb, hl, hm, hlen, hel, _, _⟩
  · exact ⟨none, 0, 0, [], rfl, rfl, Nat.le_refl _, Nat.zero_le _, fun i v h => by simp at h, ⟨by simp, fun h => absurd rfl h⟩, .inl ⟨rfl, rfl, rfl, rfl⟩⟩
  · have each : ∀ (i : Nat) (y : DataW H × List MemPlace), elems[i]? = some y → ∃ v : List Value, v.length = P.cellsOf e ∧ (∀ (j : Nat) (u : Value), v[j]? = some u → w.cell? ((a.add (i * P.cellsOf e)).add j) = some u) ∧ TR enc P w n e v y := by
      intro i y hy
      have hil := (List.getElem?_eq_some_iff.1 hy).1
      have h1 := hel i (by omega)
      rw [hy] at h1
      cases hcs : w.cells? 0 (a.add (i * P.cellsOf e)) (P.cellsOf e) with
      | none => rw [hcs] at h1; cases h1
      | some v =>
        rw [hcs] at h1
        obtain ⟨h2, h3⟩ := cells_some hcs
        exact ⟨v, h2, h3, h1⟩
    obtain ⟨vss, hvl, hv⟩ := choose_list (R := fun i y v => v.length = P.cellsOf e ∧ (∀ (j : Nat) (u : Value), v[j]? = some u → w.cell? ((a.add (i * P.cellsOf e)).add j) = some u) ∧ TR enc P w n e v y) elems each
    have back : ∀ (i : Nat) (v : List Value), vss[i]? = some v → ∃ y, elems[i]? = some y ∧ v.length = P.cellsOf e ∧ (∀ (j : Nat) (u : Value), v[j]? = some u → w.cell? ((a.add (i * P.cellsOf e)).add j) = some u) ∧ TR enc P w n e v y := by
      intro i v hi
      have hil := (List.getElem?_eq_some_iff.1 hi).1
      obtain ⟨v', h1, h2⟩ := hv i _ (List.getElem?_eq_getElem (by omega))
      rw [hi] at h1
      injection h1 with h1
      subst h1
      exact ⟨_, List.getElem?_eq_getElem (by omega), h2⟩
    have hk : ∀ (i : Nat) (v : List Value), vss[i]? = some v → v.length = P.cellsOf e := fun i v h => by obtain ⟨_, _, h2, _⟩ := back i v h; exact h2
    obtain ⟨f1, f2⟩ := flatten_get hk
    have hspot : len ≠ 0 → a.spot = none := fun h0 => by
      obtain ⟨y, _, h2, h3, _⟩ := back 0 _ (List.getElem?_eq_getElem (show 0 < vss.length by omega))
      cases hs : a.spot with
      | none => rfl
      | some sp =>
        exfalso
        have h4 := h3 0 _ (List.getElem?_eq_getElem (by omega))
        revert h4
        simp only [World.cell?, Addr.add, hs, Option.isSome_some, if_true, Nat.zero_mul, Nat.add_zero]
        split <;> simp
    refine ⟨some a, len, cap, vss, rfl, by omega, hl, hm, hk, ⟨by rw [f1]; congr 1; omega, fun h0 => ?_⟩, .inr ⟨_, _, rfl, by simp, by simpa using hlen, fun i v hi => ?_⟩⟩
    · have hs := hspot h0
      obtain ⟨ab, ao, asp⟩ := a
      simp only at hs
      subst hs
      refine ⟨ab, ao, rfl, fun q u hq => ?_⟩
      have hql := (List.getElem?_eq_some_iff.1 hq).1
      rw [f1] at hql
      have hkp : 0 < P.cellsOf e := Nat.pos_of_ne_zero hc
      have hdi : q / P.cellsOf e < vss.length := Nat.div_lt_of_lt_mul (by rw [Nat.mul_comm]; exact hql)
      have hmo := Nat.mod_lt q hkp
      have hqq : q / P.cellsOf e * P.cellsOf e + q % P.cellsOf e = q := by rw [Nat.mul_comm]; exact Nat.div_add_mod q _
      have hg := f2 _ _ _ (List.getElem?_eq_getElem hdi) hmo
      rw [hqq, hq] at hg
      obtain ⟨y, _, _, h3, _⟩ := back _ _ (List.getElem?_eq_getElem hdi)
      have h4 := h3 _ u hg.symm
      rw [add_none, add_none, Nat.add_assoc, hqq] at h4
      exact h4
    · obtain ⟨y, h1, _, _, h4⟩ := back i v hi
      exact ⟨n, y, h4, by rw [List.getElem?_map, h1]; rfl⟩
/-- bytes -/
theorem tr_bytes {fuel : Nat} {t e : TypeId} {cs : List Value} {x : DataW H × List MemPlace} (ht : P.underlying t = some (.slice e)) (he : P.underlying e = some (.int .u8)) (hc : P.cellsOf e = 1) (h : TR enc P w fuel t cs x) :
    ∃ (A : Option Addr) (n c : Nat) (l : List UInt8), cs = [Value.slice A n c] ∧ Sl w 1 A n (l.map bv) ∧ n ≤ c ∧ c ≤ maxLen ∧ ((x.1 = .nil ∧ A = none ∧ n = 0) ∨ ∃ es sp, x.1 = .slice es sp ∧ es.length = n) := by
  obtain ⟨A, n, c, vss, rfl, h1, h2, h3, h4, h5, h6⟩ := tr_slice ht (by rw [hc]; decide) h
  rcases h6 with ⟨h7, rfl, rfl, rfl⟩ | ⟨es, sp, h7, h8, h9, h10⟩
  · exact ⟨none, 0, 0, [], rfl, Sl.nil _ _ _, Nat.le_refl _, Nat.zero_le _, .inl ⟨h7, rfl, rfl⟩⟩
  · obtain ⟨l, hl, hv⟩ := choose_list (R := fun _ v (b : UInt8) => v = [bv b]) vss (fun i v hi => by
      obtain ⟨m, y, hy, _⟩ := h10 i v hi
      obtain ⟨z, rfl, hw, _⟩ := tr_int he hy
      simp only [Lit.wf, IntKind.has, Bool.and_eq_true, decide_eq_true_eq] at hw
      have e1 : IntKind.u8.min = 0 := by decide
      have e2 : IntKind.u8.max = 255 := by decide
      refine ⟨UInt8.ofNat z.toNat, ?_⟩
      unfold bv
      congr 2
      simp; omega)
    have hfl : vss.flatten = l.map bv := by
      apply List.ext_getElem?
      intro i
      obtain ⟨f1, f2⟩ := flatten_get h4
      rw [hc] at f1 f2
      by_cases hi : i < vss.length
      · obtain ⟨b, hb, hvb⟩ := hv i _ (List.getElem?_eq_getElem hi)
        have := f2 i _ 0 (List.getElem?_eq_getElem hi) (by omega)
        rw [Nat.mul_one, Nat.add_zero] at this
        rw [this, List.getElem?_map, hb, hvb]
        rfl
      · rw [List.getElem?_eq_none (by omega), List.getElem?_eq_none (by simp; omega)]
    rw [hfl, hc] at h5
    exact ⟨A, n, c, l, rfl, h5, h2, h3, .inr ⟨es, sp, h7, h9⟩⟩
theorem agg_of_struct {v : Value} {t : TypeId} {fs : Array Field} (ht : P.underlying t = some (.struct fs)) (hval : Value.okWide P w .any 0 t v) : ∃ cs : List Value, v = ofL cs ∧ v.cells.toList = cs := by
  cases v with
  | agg cs => exact ⟨cs.toList, by simp [ofL], rfl⟩
  | _ =>
    exfalso
    simp [Value.okWide, Cell.okWide, Cell.ok, ht] at hval
/-- a slice's value, from its cells -/
theorem slice_of_cells {v : Value} {t e : TypeId} {A : Option Addr} {n c : Nat} (ht : P.underlying t = some (.slice e)) (hval : Value.okWide P w .any 0 t v) (hu : v.cells.toList = [.slice A n c]) : v = .slice A n c := by
  cases v with
  | agg cs =>
    exfalso
    simp [Value.okWide, Cell.okWide, Cell.ok, ht] at hval
  | _ => simp_all [Value.cells]
end
end Go.GV
