/- an index, plainly: entries that rise by their digests -/
import Derived.Test.YtnablplljilahaaLEnF
import Derived.Test.YtnablplljilahaaLDRowD
namespace Go.Proofs.Ytnablplljilahaa
open Go.GV Go.RowKit Go.Lib
set_option linter.unusedVariables false
set_option linter.unusedSimpArgs false
def cmpD (a b : List UInt8) : Int := compareBytes a b
theorem cmpD_zero (a b : List UInt8) : cmpD a b = 0 ↔ a = b := cmp_zero a b
theorem cmpD_self (a : List UInt8) : cmpD a a = 0 := (cmpD_zero a a).2 rfl
theorem cmpD_anti (a b : List UInt8) : cmpD a b = - cmpD b a := cmp_anti _ _
theorem cmpD_trans {a b c : List UInt8} (h1 : cmpD a b < 0) (h2 : cmpD b c < 0) : cmpD a c < 0 := Dg.LtD.trans h1 h2
theorem cmpD_le_lt {a b c : List UInt8} (h1 : ¬ cmpD a b < 0) (h2 : cmpD a c < 0) : cmpD b c < 0 := by
  by_cases h : cmpD a b = 0
  · rw [← (cmpD_zero a b).1 h]; exact h2
  · exact cmpD_trans (by have := cmpD_anti a b; omega) h2
/-! ### tables -/
def AscE (l : List En) : Prop := l.Pairwise (fun a b => cmpD a.d b.d < 0)
def setE (e : En) : List En → List En
  | [] => [e]
  | x :: xs => if cmpD x.d e.d < 0 then x :: setE e xs else if x.d = e.d then e :: xs else e :: x :: xs
theorem setE_mem (e : En) : ∀ (l : List En) (y : En), y ∈ setE e l → y = e ∨ y ∈ l
  | [], y, h => by simp [setE] at h; exact .inl h
  | x :: xs, y, h => by
    unfold setE at h
    split at h
    · rcases List.mem_cons.1 h with h | h
      · exact .inr (h ▸ List.mem_cons_self ..)
      · exact (setE_mem e xs y h).imp id (List.mem_cons_of_mem _)
    · split at h
      · rcases List.mem_cons.1 h with h | h
        · exact .inl h
        · exact .inr (List.mem_cons_of_mem _ h)
      · rcases List.mem_cons.1 h with h | h
        · exact .inl h
        · exact .inr h
theorem setE_len (e : En) : ∀ l : List En, (setE e l).length ≤ l.length + 1
  | [] => by simp [setE]
  | x :: xs => by
    have := setE_len e xs
    unfold setE
    split
    · simp; omega
    · split <;> simp
theorem setE_asc (e : En) : ∀ {l : List En}, AscE l → AscE (setE e l)
  | [], _ => List.pairwise_singleton _ _
  | x :: xs, h => by
    have hc := List.pairwise_cons.1 h
    unfold setE
    by_cases h1 : cmpD x.d e.d < 0
    · rw [if_pos h1]
      refine List.pairwise_cons.2 ⟨fun y hy => ?_, setE_asc e hc.2⟩
      rcases setE_mem e xs y hy with rfl | hy
      · exact h1
      · exact hc.1 y hy
    · rw [if_neg h1]
      by_cases h2 : x.d = e.d
      · rw [if_pos h2]
        exact List.pairwise_cons.2 ⟨fun y hy => by rw [← h2]; exact hc.1 y hy, hc.2⟩
      · rw [if_neg h2]
        have hlt : cmpD e.d x.d < 0 := by
          have := cmpD_anti x.d e.d
          have : cmpD x.d e.d ≠ 0 := fun h => h2 ((cmpD_zero _ _).1 h)
          omega
        refine List.pairwise_cons.2 ⟨fun y hy => ?_, h⟩
        rcases List.mem_cons.1 hy with rfl | hy
        · exact hlt
        · exact cmpD_trans hlt (hc.1 y hy)
/-- what a table says of a name -/
def getE (dg : List UInt8) (l : List En) : En × Bool := match l.find? (fun x => decide (x.d = dg)) with
  | some e => (e, true)
  | none => (zE, false)
theorem getE_none {dg : List UInt8} {l : List En} (h : ∀ x ∈ l, x.d ≠ dg) : getE dg l = (zE, false) := by
  unfold getE
  rw [List.find?_eq_none.2 (fun x hx => by simpa using h x hx)]
theorem getE_snoc {dg : List UInt8} {a b : List En} {e : En} (h : ∀ x ∈ a, x.d ≠ dg) (he : e.d = dg) : getE dg (a ++ e :: b) = (e, true) := by
  unfold getE
  rw [List.find?_append, List.find?_eq_none.2 (fun x hx => by simpa using h x hx), List.find?_cons_of_pos (by simpa using he)]
  rfl
theorem at_splitE {α : Type} {l : List α} {i : Nat} {e : α} (h : l[i]? = some e) : l = l.take i ++ e :: l.drop (i + 1) := by
  obtain ⟨hi, he⟩ := List.getElem?_eq_some_iff.1 h
  subst he
  rw [List.getElem_cons_drop, List.take_append_drop]
/-! ### the document's Set -/
def setSE (e : En) (s : List En × Bool) (x : En) : List En × Bool :=
  let t := if !s.2 && !decide (cmpD x.d e.d < 0) then (s.1 ++ [e], true) else s
  (if x.d = e.d then t.1 else t.1 ++ [x], t.2)
def setFE (e : En) (s : List En × Bool) : List En := if s.2 then s.1 else s.1 ++ [e]
theorem setSE_done (e : En) : ∀ (l o : List En), (∀ x ∈ l, x.d ≠ e.d) → l.foldl (setSE e) (o, true) = (o ++ l, true)
  | [], o, _ => by simp
  | x :: xs, o, h => by
    have h0 : setSE e (o, true) x = (o ++ [x], true) := by simp [setSE, h x (List.mem_cons_self ..)]
    show xs.foldl (setSE e) (setSE e (o, true) x) = _
    rw [h0, setSE_done e xs (o ++ [x]) (fun y hy => h y (List.mem_cons_of_mem _ hy))]
    simp
theorem setSE_fold (e : En) : ∀ (l o : List En), AscE l → setFE e (l.foldl (setSE e) (o, false)) = o ++ setE e l
  | [], o, _ => by simp [setFE, setE]
  | x :: xs, o, h => by
    have hc := List.pairwise_cons.1 h
    show setFE e (xs.foldl (setSE e) (setSE e (o, false) x)) = _
    unfold setE
    by_cases h1 : cmpD x.d e.d < 0
    · have hne : x.d ≠ e.d := fun h => by rw [h, cmpD_self] at h1; omega
      have h0 : setSE e (o, false) x = (o ++ [x], false) := by simp [setSE, h1, hne]
      rw [h0, setSE_fold e xs (o ++ [x]) hc.2, if_pos h1]
      simp
    · rw [if_neg h1]
      have hgt : ∀ y ∈ xs, y.d ≠ e.d := fun y hy he => by
        have h2 := hc.1 y hy
        have := cmpD_le_lt h1 h2
        rw [he, cmpD_self] at this; omega
      by_cases h2 : x.d = e.d
      · have h0 : setSE e (o, false) x = (o ++ [e], true) := by simp [setSE, h1, h2, cmpD_self]
        rw [h0, setSE_done e xs _ hgt, if_pos h2]
        simp [setFE]
      · have h0 : setSE e (o, false) x = (o ++ [e] ++ [x], true) := by simp [setSE, h1, h2]
        rw [h0, setSE_done e xs _ hgt, if_neg h2]
        simp [setFE]
theorem setSE_len (e : En) : ∀ (l : List En) (s : List En × Bool), (l.foldl (setSE e) s).1.length ≤ s.1.length + l.length + 1
  | l, s => by
    have h : ∀ (l : List En) (s : List En × Bool), (l.foldl (setSE e) s).1.length ≤ s.1.length + l.length + (if s.2 then 0 else 1) := by
      intro l
      induction l with
      | nil => intro s; simp
      | cons x xs ih =>
        intro s
        obtain ⟨o, d⟩ := s
        have := ih (setSE e (o, d) x)
        show (xs.foldl (setSE e) (setSE e (o, d) x)).1.length ≤ _
        refine Nat.le_trans this ?_
        cases d <;> by_cases h1 : cmpD x.d e.d < 0 <;> by_cases h2 : x.d = e.d <;> simp [setSE, h1, h2, cmpD_self] <;> omega
    have := h l s
    split at this <;> omega
/-! ### what is left, what is there -/
def keepLE (sg : List Int) (l : List En) : List En := l.filterMap (fun e => if (keepE e sg).2 then some (keepE e sg).1 else none)
theorem keepE_d {e : En} {sg : List Int} (h : (keepE e sg).2 = true) : (keepE e sg).1.d = e.d := by
  unfold keepE at h ⊢
  split at h
  · cases h
  · rw [if_neg (by assumption)]
    split <;> rfl
theorem keepLE_len (sg : List Int) (l : List En) : (keepLE sg l).length ≤ l.length := List.length_filterMap_le _ _
theorem keepLE_asc (sg : List Int) {l : List En} (h : AscE l) : AscE (keepLE sg l) := by
  unfold AscE keepLE
  refine List.Pairwise.filterMap _ (fun a b hab x hx y hy => ?_) h
  split at hx
  · split at hy
    · injection hx with hx; injection hy with hy
      subst hx; subst hy
      rw [keepE_d (by assumption), keepE_d (by assumption)]
      exact hab
    · cases hy
  · cases hx
theorem keepLE_step {sg : List Int} {l : List En} {i : Nat} {e : En} (h : l[i]? = some e) : keepLE sg (l.take (i + 1)) = if (keepE e sg).2 then keepLE sg (l.take i) ++ [(keepE e sg).1] else keepLE sg (l.take i) := by
  unfold keepLE
  rw [List.take_add_one, h, List.filterMap_append]
  simp only [Option.toList_some, List.filterMap_cons, List.filterMap_nil]
  by_cases h1 : (keepE e sg).2 = true
  · simp [h1]
  · simp [h1]
/-! ### what a table has -/
theorem setE_mem_self (e : En) : ∀ l : List En, e ∈ setE e l
  | [] => by simp [setE]
  | x :: xs => by
    unfold setE
    split
    · exact List.mem_cons_of_mem _ (setE_mem_self e xs)
    · split <;> exact List.mem_cons_self ..
theorem setE_keep (e : En) : ∀ (l : List En) (y : En), y ∈ l → y.d ≠ e.d → y ∈ setE e l
  | [], y, h, _ => by cases h
  | x :: xs, y, h, hne => by
    unfold setE
    rcases List.mem_cons.1 h with h | h
    · subst h
      split
      · exact List.mem_cons_self ..
      · exact List.mem_cons_of_mem _ (List.mem_cons_self ..)
    · split
      · exact List.mem_cons_of_mem _ (setE_keep e xs y h hne)
      · split
        · exact List.mem_cons_of_mem _ h
        · exact List.mem_cons_of_mem _ (List.mem_cons_of_mem _ h)
theorem asc_uniq {l : List En} (h : AscE l) {x y : En} (hx : x ∈ l) (hy : y ∈ l) (hd : x.d = y.d) : x = y := by
  induction l with
  | nil => cases hx
  | cons a l ih =>
    have hc := List.pairwise_cons.1 h
    rcases List.mem_cons.1 hx with h1 | h1 <;> rcases List.mem_cons.1 hy with h2 | h2
    · rw [h1, h2]
    · have := hc.1 y h2; rw [← h1, hd, cmpD_self] at this; omega
    · have := hc.1 x h1; rw [← h2, ← hd, cmpD_self] at this; omega
    · exact ih hc.2 h1 h2
theorem setE_only {e : En} {l : List En} (ha : AscE l) {y : En} (hy : y ∈ setE e l) : y = e ∨ (y ∈ l ∧ y.d ≠ e.d) := by
  by_cases hd : y.d = e.d
  · exact .inl (asc_uniq (setE_asc e ha) hy (setE_mem_self e l) hd)
  · rcases setE_mem e l y hy with h | h
    · exact .inl h
    · exact .inr ⟨h, hd⟩
theorem getE_mem {dg : List UInt8} {l : List En} (h : (getE dg l).2 = true) : (getE dg l).1 ∈ l ∧ (getE dg l).1.d = dg := by
  unfold getE at h ⊢
  split at h
  · rename_i e he
    have := List.find?_some he
    exact ⟨List.mem_of_find?_eq_some he, by simpa using this⟩
  · cases h
theorem getE_of {dg : List UInt8} {l : List En} (ha : AscE l) {e : En} (he : e ∈ l) (hd : e.d = dg) : getE dg l = (e, true) := by
  unfold getE
  cases hf : l.find? (fun x => decide (x.d = dg)) with
  | none =>
    rw [List.find?_eq_none] at hf
    exact absurd hd (by simpa using hf e he)
  | some x =>
    have h1 := List.find?_some hf
    have h2 := List.mem_of_find?_eq_some hf
    have h1 : x.d = dg := by simpa using h1
    rw [asc_uniq ha h2 he (h1.trans hd.symm)]
def digsE (l : List En) : List (List UInt8) := l.map (·.d)
theorem digsE_asc {l : List En} (h : AscE l) : (digsE l).Pairwise (fun a b => cmpD a b < 0) := List.pairwise_map.2 h
/-- two rows that rise with the same members are one -/
theorem asc_ext : ∀ {a b : List (List UInt8)}, a.Pairwise (fun x y => cmpD x y < 0) → b.Pairwise (fun x y => cmpD x y < 0) → (∀ d, d ∈ a ↔ d ∈ b) → a = b
  | [], [], _, _, _ => rfl
  | [], y :: b, _, _, h => by have := (h y).2 (List.mem_cons_self ..); cases this
  | x :: a, [], _, _, h => by have := (h x).1 (List.mem_cons_self ..); cases this
  | x :: a, y :: b, ha, hb, h => by
    have hca := List.pairwise_cons.1 ha
    have hcb := List.pairwise_cons.1 hb
    have hxy : x = y := by
      rcases List.mem_cons.1 ((h x).1 (List.mem_cons_self ..)) with h1 | h1
      · exact h1
      · rcases List.mem_cons.1 ((h y).2 (List.mem_cons_self ..)) with h2 | h2
        · exact h2.symm
        · have h3 := hcb.1 x h1
          have h4 := hca.1 y h2
          have := cmpD_trans h3 h4
          rw [cmpD_self] at this; omega
    subst hxy
    congr 1
    refine asc_ext hca.2 hcb.2 (fun d => ⟨fun hd => ?_, fun hd => ?_⟩)
    · rcases List.mem_cons.1 ((h d).1 (List.mem_cons_of_mem _ hd)) with h1 | h1
      · subst h1; have := hca.1 d hd; rw [cmpD_self] at this; omega
      · exact h1
    · rcases List.mem_cons.1 ((h d).2 (List.mem_cons_of_mem _ hd)) with h1 | h1
      · subst h1; have := hcb.1 d hd; rw [cmpD_self] at this; omega
      · exact h1
/-! ### bounds; New, Apply -/
def BdE (M : Nat) (l : List En) : Prop := ∀ e ∈ l, e.l.length ≤ M
theorem BdE.at {M : Nat} {l : List En} (h : BdE M l) {i : Nat} {e : En} (hi : l[i]? = some e) : e.l.length ≤ M := h e (List.mem_of_getElem? hi)
theorem BdE.mono {M M' : Nat} {l : List En} (h : BdE M l) (hM : M ≤ M') : BdE M' l := fun e he => Nat.le_trans (h e he) hM
theorem BdE.set {M : Nat} {l : List En} (h : BdE M l) {e : En} (he : e.l.length ≤ M) : BdE M (setE e l) := fun x hx => by
  rcases setE_mem e l x hx with rfl | hx
  · exact he
  · exact h x hx
theorem BdE.get {M : Nat} {l : List En} (h : BdE M l) (dg : List UInt8) : (getE dg l).1.l.length ≤ M := by
  cases hb : (getE dg l).2 with
  | true => exact h _ (getE_mem hb).1
  | false =>
    unfold getE at hb ⊢
    split at hb
    · cases hb
    · exact Nat.zero_le _
theorem BdE.keep {M : Nat} {l : List En} (h : BdE M l) (sg : List Int) : BdE M (keepLE sg l) := fun x hx => by
  unfold keepLE at hx
  obtain ⟨y, hy, h1⟩ := List.mem_filterMap.1 hx
  split at h1
  · injection h1 with h1; subst h1; exact Nat.le_trans (keepE_len y sg) (h y hy)
  · cases h1
def newE (l : List En) : List En := l.foldl (fun t e => setE e t) []
theorem newE_step {l : List En} {i : Nat} {e : En} (h : l[i]? = some e) : newE (l.take (i + 1)) = setE e (newE (l.take i)) := by
  unfold newE
  rw [List.take_add_one, h, List.foldl_append]
  rfl
theorem newE_asc (l : List En) : ∀ i, AscE (newE (l.take i))
  | 0 => by rw [List.take_zero]; exact List.Pairwise.nil
  | i + 1 => by
    cases h : l[i]? with
    | none => rw [List.take_add_one, h, Option.toList_none, List.append_nil]; exact newE_asc l i
    | some e => rw [newE_step h]; exact setE_asc e (newE_asc l i)
theorem newE_len (l : List En) : ∀ i, (newE (l.take i)).length ≤ i
  | 0 => by rw [List.take_zero]; exact Nat.le_refl _
  | i + 1 => by
    have := newE_len l i
    cases h : l[i]? with
    | none => rw [List.take_add_one, h, Option.toList_none, List.append_nil]; omega
    | some e => rw [newE_step h]; have := setE_len e (newE (l.take i)); omega
theorem newE_bd {M : Nat} {l : List En} (hb : BdE M l) : ∀ i, BdE M (newE (l.take i))
  | 0 => by rw [List.take_zero]; intro e he; cases he
  | i + 1 => by
    cases h : l[i]? with
    | none => rw [List.take_add_one, h, Option.toList_none, List.append_nil]; exact newE_bd hb i
    | some e => rw [newE_step h]; exact (newE_bd hb i).set (hb.at h)
theorem newE_all (l : List En) : newE (l.take l.length) = newE l := by rw [List.take_length]
def applyE (l : List En) (x : Wd) : List En :=
  if x.k = 1 ∨ x.k = 2 then setE (putE (getE x.d l).1 x) l else if x.k = 5 ∧ (getE x.d l).2 = true then setE (delE (getE x.d l).1 x) l else l
theorem applyE_asc {l : List En} (h : AscE l) (x : Wd) : AscE (applyE l x) := by
  unfold applyE
  split
  · exact setE_asc _ h
  · split
    · exact setE_asc _ h
    · exact h
theorem applyE_len (l : List En) (x : Wd) : (applyE l x).length ≤ l.length + 1 := by
  unfold applyE
  split
  · exact setE_len _ _
  · split
    · exact setE_len _ _
    · omega
theorem applyE_bd {M : Nat} {l : List En} (h : BdE M l) (x : Wd) : BdE (M + 1) (applyE l x) := by
  have hg := h.get x.d
  unfold applyE
  split
  · refine (h.mono (Nat.le_succ M)).set ?_
    show (norm ((getE x.d l).1.l ++ [x.s])).length ≤ M + 1
    exact Nat.le_trans (norm_one_le _ _) (by omega)
  · split
    · refine (h.mono (Nat.le_succ M)).set ?_
      show (norm (getE x.d l).1.l).length ≤ M + 1
      exact Nat.le_trans (norm_len _) (by omega)
    · exact h.mono (Nat.le_succ M)
/-- how many are there, and their bytes -/
def wr (n : Int) : Int := IntKind.wrap .i64 n
def cntE (l : List En) : Int × Int := l.foldl (fun s e => if e.k = 5 then s else (wr (s.1 + 1), wr (s.2 + e.z))) (0, 0)
theorem cntE_step {l : List En} {i : Nat} {e : En} (h : l[i]? = some e) : cntE (l.take (i + 1)) = if e.k = 5 then cntE (l.take i) else (wr ((cntE (l.take i)).1 + 1), wr ((cntE (l.take i)).2 + e.z)) := by
  unfold cntE
  rw [List.take_add_one, h, List.foldl_append]
  rfl
end Go.Proofs.Ytnablplljilahaa
