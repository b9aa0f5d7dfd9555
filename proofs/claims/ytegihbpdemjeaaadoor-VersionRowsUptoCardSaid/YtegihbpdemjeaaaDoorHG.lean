/- chapter 51, plainly: rows of names that rise -/
import Derived.Test.YtegihbpdemjeaaaDoorHE
namespace Go.Proofs.YtegihbpdemjeaaaDoor
open Go.GV Go.RowKit Go.Lib
set_option linter.unusedVariables false
set_option linter.unusedSimpArgs false
def LeV (a b : Bs) : Prop := verC a b ≤ 0
def LtV (a b : Bs) : Prop := verC a b < 0
theorem LtV.irrefl {a : Bs} : ¬ LtV a a := by
  unfold LtV
  rw [(verC_ord.ze a a).2 rfl]; omega
theorem LeV.lt {a b : Bs} (h : LeV a b) (hn : a ≠ b) : LtV a b := by
  unfold LeV LtV at *
  have : verC a b ≠ 0 := fun h' => hn ((verC_ord.ze a b).1 h')
  omega
theorem LeV.of_lt {a b : Bs} (h : LtV a b) : LeV a b := by unfold LeV LtV at *; omega
theorem LeV.refl (a : Bs) : LeV a a := by unfold LeV; rw [(verC_ord.ze a a).2 rfl]; omega
theorem LeV.of_not {a b : Bs} (h : ¬ LtV a b) : LeV b a := by
  unfold LeV LtV at *
  have := verC_ord.an a b
  omega
theorem LtV.trans {a b c : Bs} (h1 : LtV a b) (h2 : LtV b c) : LtV a c := by
  have h := verC_ord.tr a b c (by unfold LtV at h1; omega) (by unfold LtV at h2; omega)
  refine LeV.lt h (fun e => ?_)
  subst e
  unfold LtV at h1 h2
  have := verC_ord.an a b
  omega
theorem le_ltV {a b c : Bs} (h1 : LeV a b) (h2 : LtV b c) : LtV a c := by
  by_cases h : a = b
  · subst h; exact h2
  · exact (h1.lt h).trans h2
def Asc (r : List Bs) : Prop := r.Pairwise LtV
/-- a row that rises is told by its members -/
theorem Asc.unique : ∀ {r s : List Bs}, Asc r → Asc s → (∀ d, d ∈ r ↔ d ∈ s) → r = s
  | [], [], _, _, _ => rfl
  | [], b :: s, _, _, h => by have := (h b).2 (List.mem_cons_self ..); cases this
  | a :: r, [], _, _, h => by have := (h a).1 (List.mem_cons_self ..); cases this
  | a :: r, b :: s, hr, hs, h => by
    obtain ⟨hr1, hr2⟩ := List.pairwise_cons.1 hr
    obtain ⟨hs1, hs2⟩ := List.pairwise_cons.1 hs
    have hab : a = b := by
      rcases List.mem_cons.1 ((h a).1 (List.mem_cons_self ..)) with e | h1
      · exact e
      · rcases List.mem_cons.1 ((h b).2 (List.mem_cons_self ..)) with e | h2
        · exact e.symm
        · exact absurd ((hs1 a h1).trans (hr1 b h2)) LtV.irrefl
    subst hab
    congr 1
    refine Asc.unique hr2 hs2 (fun d => ⟨fun hd => ?_, fun hd => ?_⟩)
    · rcases List.mem_cons.1 ((h d).1 (List.mem_cons_of_mem _ hd)) with e | h1
      · subst e; exact absurd (hr1 d hd) LtV.irrefl
      · exact h1
    · rcases List.mem_cons.1 ((h d).2 (List.mem_cons_of_mem _ hd)) with e | h1
      · subst e; exact absurd (hs1 d hd) LtV.irrefl
      · exact h1
/-- without neighbours that are one -/
def cpt (r : List Bs) : Nat → List Bs
  | 0 => []
  | n + 1 => cpt r n ++ (if n ≠ 0 ∧ r[n]? = r[n - 1]? then [] else r[n]?.toList)
theorem cpt_len (r : List Bs) : ∀ n, (cpt r n).length ≤ n
  | 0 => Nat.le_refl _
  | n + 1 => by
    have := cpt_len r n
    simp only [cpt, List.length_append]
    split
    · simp; omega
    · cases r[n]? <;> simp <;> omega
theorem cpt_mem (r : List Bs) : ∀ n d, d ∈ cpt r n ↔ d ∈ r.take n
  | 0, d => by simp [cpt]
  | n + 1, d => by
    have ih := cpt_mem r n d
    rw [cpt, List.take_add_one, List.mem_append, List.mem_append, ih]
    by_cases h : n ≠ 0 ∧ r[n]? = r[n - 1]?
    · rw [if_pos h]
      constructor
      · intro h'; exact h'.elim .inl (fun h => by cases h)
      · rintro (h' | h')
        · exact .inl h'
        · left
          rw [h.2] at h'
          cases hr : r[n - 1]? with
          | none => rw [hr] at h'; cases h'
          | some x =>
            rw [hr] at h'
            simp at h'
            subst h'
            exact List.mem_of_getElem? (i := n - 1) (by rw [List.getElem?_take, if_pos (by omega)]; exact hr)
    · rw [if_neg h]
theorem cpt_asc {r : List Bs} (h : r.Pairwise LeV) : ∀ n, n ≤ r.length → Asc (cpt r n)
  | 0, _ => List.Pairwise.nil
  | n + 1, hn => by
    have ih := cpt_asc h n (by omega)
    rw [cpt]
    by_cases hc : n ≠ 0 ∧ r[n]? = r[n - 1]?
    · rw [if_pos hc, List.append_nil]; exact ih
    · rw [if_neg hc, List.getElem?_eq_getElem (by omega)]
      refine List.pairwise_append.2 ⟨ih, by simp, fun a ha b hb => ?_⟩
      simp at hb
      subst hb
      have ha' := (cpt_mem r n a).1 ha
      obtain ⟨i, hi, hai⟩ := List.mem_iff_getElem.1 ha'
      rw [List.length_take] at hi
      rw [List.getElem_take] at hai
      have hn0 : n ≠ 0 := by omega
      have hprev : r[n - 1]'(by omega) ≠ r[n]'(by omega) := by
        intro he
        apply hc
        refine ⟨hn0, ?_⟩
        rw [List.getElem?_eq_getElem (by omega), List.getElem?_eq_getElem (by omega), he]
      have hp := List.pairwise_iff_getElem.1 h
      have h2 : LtV (r[n - 1]'(by omega)) (r[n]'(by omega)) := (hp (n - 1) n (by omega) (by omega) (by omega)).lt hprev
      subst hai
      by_cases hin : i = n - 1
      · subst hin; exact h2
      · exact le_ltV (hp i (n - 1) (by omega) (by omega) (by omega)) h2
/-! ### the document's row: what lies between two rounds of the inner loop -/
structure InsI (x : Bs) (out : List Bs) (k : Nat) (nx : List Bs) (dn : Bool) : Prop where
  asc : Asc nx
  len : nx.length ≤ k + (if dn then 1 else 0)
  f : dn = false → nx = out.take k ∧ ∀ y ∈ nx, LtV y x
  t : dn = true → (∀ z, z ∈ nx ↔ z = x ∨ z ∈ out.take k) ∧ ∃ y ∈ out.take k, LeV x y
theorem InsI.start (x : Bs) (out : List Bs) : InsI x out 0 [] false := ⟨List.Pairwise.nil, Nat.le_refl _, fun _ => ⟨rfl, fun y hy => by cases hy⟩, fun h => by cases h⟩
theorem asc_take_lt {out : List Bs} (ha : Asc out) {k : Nat} {y : Bs} (hk : out[k]? = some y) : ∀ z ∈ out.take k, LtV z y := by
  intro z hz
  obtain ⟨hkl, rfl⟩ := List.getElem?_eq_some_iff.1 hk
  obtain ⟨i, hi⟩ := List.mem_iff_getElem?.1 hz
  rw [List.getElem?_take] at hi
  split at hi
  · rename_i hik
    obtain ⟨hil, rfl⟩ := List.getElem?_eq_some_iff.1 hi
    exact List.pairwise_iff_getElem.1 ha i k hil hkl hik
  · cases hi
theorem asc_push {l : List Bs} {y : Bs} (ha : Asc l) (h : ∀ z ∈ l, LtV z y) : Asc (l ++ [y]) := by
  refine List.pairwise_append.2 ⟨ha, by simp, fun a h1 b h2 => ?_⟩
  simp at h2
  subst h2
  exact h a h1
theorem InsI.same {x : Bs} {out : List Bs} {k : Nat} {nx : List Bs} (h : InsI x out k nx false) (ha : Asc out) (hk : out[k]? = some x) : InsI x out (k + 1) (nx ++ [x]) true := by
  obtain ⟨e, hl⟩ := h.f rfl
  have hn := h.len
  refine ⟨asc_push h.asc hl, ?_, fun h => (by cases h), fun _ => ⟨fun z => ?_, x, ?_, LeV.refl x⟩⟩
  · simp at hn ⊢; omega
  · rw [List.take_add_one, hk, ← e, Option.toList_some, List.mem_append, List.mem_singleton]
    exact ⟨fun h => .inr h, fun h => h.elim .inr id⟩
  · rw [List.take_add_one, hk]; simp
theorem InsI.ahead {x y : Bs} {out : List Bs} {k : Nat} {nx : List Bs} (h : InsI x out k nx false) (ha : Asc out) (hk : out[k]? = some y) (hy : LtV x y) : InsI x out (k + 1) (nx ++ [x] ++ [y]) true := by
  obtain ⟨e, hl⟩ := h.f rfl
  have hn := h.len
  refine ⟨asc_push (asc_push h.asc hl) (fun z hz => ?_), ?_, fun h => (by cases h), fun _ => ⟨fun z => ?_, y, ?_, LeV.of_lt hy⟩⟩
  · rcases List.mem_append.1 hz with hz | hz
    · exact (hl z hz).trans hy
    · rw [List.mem_singleton.1 hz]; exact hy
  · simp at hn ⊢; omega
  · rw [List.take_add_one, hk, ← e, Option.toList_some]
    simp only [List.mem_append, List.mem_singleton]
    constructor
    · rintro ((h | h) | h)
      · exact .inr (.inl h)
      · exact .inl h
      · exact .inr (.inr h)
    · rintro (h | h | h)
      · exact .inl (.inr h)
      · exact .inl (.inl h)
      · exact .inr h
  · rw [List.take_add_one, hk]; simp
theorem InsI.past {x y : Bs} {out : List Bs} {k : Nat} {nx : List Bs} (h : InsI x out k nx false) (ha : Asc out) (hk : out[k]? = some y) (hne : y ≠ x) (hy : ¬ LtV x y) : InsI x out (k + 1) (nx ++ [y]) false := by
  obtain ⟨e, hl⟩ := h.f rfl
  have hn := h.len
  refine ⟨asc_push h.asc (fun z hz => asc_take_lt ha hk z (e ▸ hz)), ?_, fun _ => ⟨?_, fun z hz => ?_⟩, fun h => (by cases h)⟩
  · simp at hn ⊢; omega
  · rw [List.take_add_one, hk, ← e]; rfl
  · rcases List.mem_append.1 hz with hz | hz
    · exact hl z hz
    · rw [List.mem_singleton.1 hz]
      exact (LeV.of_not hy).lt hne
theorem InsI.done {x y : Bs} {out : List Bs} {k : Nat} {nx : List Bs} (h : InsI x out k nx true) (ha : Asc out) (hk : out[k]? = some y) : InsI x out (k + 1) (nx ++ [y]) true := by
  obtain ⟨hm, u, hu, hxu⟩ := h.t rfl
  have hn := h.len
  have huy := asc_take_lt ha hk u hu
  refine ⟨asc_push h.asc (fun z hz => ?_), ?_, fun h => (by cases h), fun _ => ⟨fun z => ?_, u, ?_, hxu⟩⟩
  · rcases (hm z).1 hz with rfl | hz
    · exact le_ltV hxu huy
    · exact asc_take_lt ha hk z hz
  · simp at hn ⊢; omega
  · rw [List.mem_append, hm, List.take_add_one, hk, Option.toList_some, List.mem_append, or_assoc]
  · rw [List.take_add_one, List.mem_append]; exact .inl hu
/-- the whole row has been gone through -/
theorem InsI.fin {x : Bs} {out : List Bs} {nx : List Bs} {dn : Bool} (h : InsI x out out.length nx dn) (ha : Asc out) : (dn = true → Asc nx ∧ nx.length ≤ out.length + 1 ∧ ∀ z, z ∈ nx ↔ z = x ∨ z ∈ out) ∧ (dn = false → Asc (nx ++ [x]) ∧ (nx ++ [x]).length ≤ out.length + 1 ∧ ∀ z, z ∈ nx ++ [x] ↔ z = x ∨ z ∈ out) := by
  have hl := h.len
  constructor
  · rintro rfl
    obtain ⟨hm, _⟩ := h.t rfl
    rw [List.take_length] at hm
    exact ⟨h.asc, by simpa using hl, hm⟩
  · rintro rfl
    obtain ⟨e, hlt⟩ := h.f rfl
    rw [List.take_length] at e
    refine ⟨asc_push h.asc hlt, by simp at hl ⊢; omega, fun z => ?_⟩
    rw [List.mem_append, List.mem_singleton, e]
    exact Or.comm
/-- the last ones -/
def lastV (r : List Bs) (n : Int) : List Bs := if n > 0 then r.drop (r.length - n.toNat) else []
theorem lastV_step {r : List Bs} {i : Nat} {x : Bs} {n : Int} (h : r[i]? = some x) (hn : n > 0) :
    ((r.length : Int) - i ≤ n → (r.take (i + 1)).drop (r.length - n.toNat) = (r.take i).drop (r.length - n.toNat) ++ [x]) ∧ (¬ (r.length : Int) - i ≤ n → (r.take (i + 1)).drop (r.length - n.toNat) = (r.take i).drop (r.length - n.toNat)) := by
  have hi := (List.getElem?_eq_some_iff.1 h).1
  constructor
  · intro hle
    rw [List.take_add_one, h, Option.toList_some, List.drop_append_of_le_length (by rw [List.length_take]; omega)]
  · intro hgt
    rw [List.drop_eq_nil_of_le (by rw [List.length_take]; omega), List.drop_eq_nil_of_le (by rw [List.length_take]; omega)]
end Go.Proofs.YtegihbpdemjeaaaDoor
