/- chapter 21, plainly: the order of names; tables of names' entries -/
import Derived.Test.YtklanoocjlpemaaLTnF
import Derived.Test.YtklanoocjlpemaaG11
namespace Go.Proofs.Ytklanoocjlpemaa
open Go.GV Go.RowKit Go.Lib
set_option linter.unusedVariables false
set_option linter.unusedSimpArgs false
/-! ### the order of texts -/
def cmpN (a b : ByteArray) : Int := compareBytes a.data.toList b.data.toList
theorem bless_cmp : ∀ (a b : List UInt8), Op.bytesLess a b = decide (compareBytes a b < 0)
  | [], [] => by simp [Op.bytesLess, compareBytes]
  | _ :: _, [] => by simp [Op.bytesLess, compareBytes]
  | [], _ :: _ => by simp [Op.bytesLess, compareBytes]
  | a :: x, b :: y => by
    rw [Op.bytesLess, compareBytes, bless_cmp x y]
    by_cases h1 : a < b
    · rw [if_pos h1, decide_eq_true h1]; rfl
    · rw [if_neg h1, decide_eq_false h1, Bool.false_or]
      by_cases h2 : b < a
      · rw [if_pos h2]
        have : (a == b) = false := by
          rw [beq_eq_false_iff_ne]; intro h; subst h; exact h1 h2
        rw [this]; rfl
      · have : a = b := by
          rw [UInt8.lt_iff_toNat_lt] at h1 h2
          exact UInt8.toNat_inj.1 (by omega)
        rw [if_neg h2, this]
        simp
theorem ba_ext {a b : ByteArray} (h : a.data.toList = b.data.toList) : a = b := by
  obtain ⟨⟨x⟩⟩ := a
  obtain ⟨⟨y⟩⟩ := b
  have h : x = y := h
  rw [h]
theorem nlt (a b : ByteArray) : Op.bytesLess a.toList b.toList = decide (cmpN a b < 0) := by
  rw [bless_cmp, toList_data, toList_data]; rfl
theorem neq (a b : ByteArray) : (a.toList == b.toList) = decide (a = b) := by
  rw [toList_data, toList_data, Bool.eq_iff_iff, beq_iff_eq, decide_eq_true_iff]
  exact ⟨ba_ext, fun h => by rw [h]⟩
theorem cmpN_zero (a b : ByteArray) : cmpN a b = 0 ↔ a = b := by
  unfold cmpN
  rw [cmp_zero]
  exact ⟨ba_ext, fun h => by rw [h]⟩
theorem cmpN_self (a : ByteArray) : cmpN a a = 0 := (cmpN_zero a a).2 rfl
theorem cmpN_anti (a b : ByteArray) : cmpN a b = - cmpN b a := cmp_anti _ _
theorem cmpN_trans {a b c : ByteArray} (h1 : cmpN a b < 0) (h2 : cmpN b c < 0) : cmpN a c < 0 := by
  have h := cmp_trans a.data.toList b.data.toList c.data.toList (by unfold cmpN at h1; omega) (by unfold cmpN at h2; omega)
  have h : cmpN a c ≤ 0 := h
  by_cases h0 : cmpN a c = 0
  · have := (cmpN_zero a c).1 h0
    subst this
    have := cmpN_anti a b
    omega
  · omega
theorem cmpN_range (a b : ByteArray) : cmpN a b = -1 ∨ cmpN a b = 0 ∨ cmpN a b = 1 := cmp_range _ _
theorem cmpN_le_lt {a b c : ByteArray} (h1 : ¬ cmpN a b < 0) (h2 : cmpN a c < 0) : cmpN b c < 0 := by
  by_cases h : cmpN a b = 0
  · rw [← (cmpN_zero a b).1 h]; exact h2
  · exact cmpN_trans (by have := cmpN_anti a b; omega) h2
/-! ### tables -/
def AscT (l : List Tn) : Prop := l.Pairwise (fun a b => cmpN a.nm b.nm < 0)
def setR (e : Tn) : List Tn → List Tn
  | [] => [e]
  | x :: xs => if cmpN x.nm e.nm < 0 then x :: setR e xs else if x.nm = e.nm then e :: xs else e :: x :: xs
theorem setR_mem (e : Tn) : ∀ (l : List Tn) (y : Tn), y ∈ setR e l → y = e ∨ y ∈ l
  | [], y, h => by simp [setR] at h; exact .inl h
  | x :: xs, y, h => by
    unfold setR at h
    split at h
    · rcases List.mem_cons.1 h with h | h
      · exact .inr (h ▸ List.mem_cons_self ..)
      · exact (setR_mem e xs y h).imp id (List.mem_cons_of_mem _)
    · split at h
      · rcases List.mem_cons.1 h with h | h
        · exact .inl h
        · exact .inr (List.mem_cons_of_mem _ h)
      · rcases List.mem_cons.1 h with h | h
        · exact .inl h
        · exact .inr h
theorem setR_len (e : Tn) : ∀ l : List Tn, (setR e l).length ≤ l.length + 1
  | [] => by simp [setR]
  | x :: xs => by
    have := setR_len e xs
    unfold setR
    split
    · simp; omega
    · split <;> simp
theorem setR_asc (e : Tn) : ∀ {l : List Tn}, AscT l → AscT (setR e l)
  | [], _ => List.pairwise_singleton _ _
  | x :: xs, h => by
    have hc := List.pairwise_cons.1 h
    unfold setR
    by_cases h1 : cmpN x.nm e.nm < 0
    · rw [if_pos h1]
      refine List.pairwise_cons.2 ⟨fun y hy => ?_, setR_asc e hc.2⟩
      rcases setR_mem e xs y hy with rfl | hy
      · exact h1
      · exact hc.1 y hy
    · rw [if_neg h1]
      by_cases h2 : x.nm = e.nm
      · rw [if_pos h2]
        exact List.pairwise_cons.2 ⟨fun y hy => by rw [← h2]; exact hc.1 y hy, hc.2⟩
      · rw [if_neg h2]
        have hlt : cmpN e.nm x.nm < 0 := by
          have := cmpN_anti x.nm e.nm
          have : cmpN x.nm e.nm ≠ 0 := fun h => h2 ((cmpN_zero _ _).1 h)
          omega
        refine List.pairwise_cons.2 ⟨fun y hy => ?_, h⟩
        rcases List.mem_cons.1 hy with rfl | hy
        · exact hlt
        · exact cmpN_trans hlt (hc.1 y hy)
/-- where a name stands, or would -/
def Pl (nm : ByteArray) (i : Nat) (l : List Tn) : Prop := i ≤ l.length ∧ (∀ x ∈ l.take i, cmpN x.nm nm < 0) ∧ ∀ x ∈ l.drop i, ¬ cmpN x.nm nm < 0
def isAt (nm : ByteArray) (i : Nat) (l : List Tn) : Bool := match l[i]? with
  | some x => decide (x.nm = nm)
  | none => false
theorem pl_set (e : Tn) : ∀ (l : List Tn) (i : Nat), Pl e.nm i l → setR e l = if isAt e.nm i l then l.set i e else l.take i ++ [e] ++ l.drop i
  | [], i, h => by
    have : i = 0 := by have := h.1; simpa using this
    subst this
    simp [setR, isAt]
  | x :: xs, 0, h => by
    have h0 := h.2.2 x (by simp)
    unfold setR
    rw [if_neg h0]
    by_cases h2 : x.nm = e.nm
    · rw [if_pos h2, if_pos (by simp [isAt, h2])]; rfl
    · rw [if_neg h2, if_neg (by simp [isAt, h2])]; rfl
  | x :: xs, i + 1, h => by
    have h0 := h.2.1 x (by simp)
    unfold setR
    rw [if_pos h0, pl_set e xs i ⟨by have := h.1; simpa using this, fun y hy => h.2.1 y (by simp [hy]), fun y hy => h.2.2 y (by simpa using hy)⟩]
    have : isAt e.nm (i + 1) (x :: xs) = isAt e.nm i xs := rfl
    rw [this]
    split <;> simp
/-- what a table says of a name -/
def getR (nm : ByteArray) (l : List Tn) : Tn × Bool := match l.find? (fun x => decide (x.nm = nm)) with
  | some e => (e, true)
  | none => (zT, false)
theorem getR_none {nm : ByteArray} {l : List Tn} (h : ∀ x ∈ l, x.nm ≠ nm) : getR nm l = (zT, false) := by
  unfold getR
  rw [List.find?_eq_none.2 (fun x hx => by simpa using h x hx)]
theorem getR_snoc {nm : ByteArray} {a b : List Tn} {e : Tn} (h : ∀ x ∈ a, x.nm ≠ nm) (he : e.nm = nm) : getR nm (a ++ e :: b) = (e, true) := by
  unfold getR
  rw [List.find?_append, List.find?_eq_none.2 (fun x hx => by simpa using h x hx), List.find?_cons_of_pos (by simpa using he)]
  rfl
theorem at_split {α : Type} {l : List α} {i : Nat} {e : α} (h : l[i]? = some e) : l = l.take i ++ e :: l.drop (i + 1) := by
  obtain ⟨hi, he⟩ := List.getElem?_eq_some_iff.1 h
  subst he
  rw [List.getElem_cons_drop, List.take_append_drop]
theorem pl_get {nm : ByteArray} {i : Nat} {l : List Tn} (ha : AscT l) (h : Pl nm i l) : (∃ e, l[i]? = some e ∧ isAt nm i l = true ∧ getR nm l = (e, true)) ∨ (isAt nm i l = false ∧ getR nm l = (zT, false)) := by
  have hlow : ∀ x ∈ l.take i, x.nm ≠ nm := fun x hx he => by
    have := h.2.1 x hx
    rw [he, cmpN_self] at this; omega
  cases hi : l[i]? with
  | none =>
    refine .inr ⟨by unfold isAt; rw [hi], ?_⟩
    refine getR_none (fun x hx => hlow x ?_)
    rw [List.take_of_length_le (by rw [List.getElem?_eq_none_iff] at hi; exact hi)]; exact hx
  | some e =>
    have hs := at_split hi
    by_cases he : e.nm = nm
    · refine .inl ⟨e, rfl, by unfold isAt; rw [hi]; exact decide_eq_true he, ?_⟩
      rw [hs]; exact getR_snoc hlow he
    · refine .inr ⟨by unfold isAt; rw [hi]; exact decide_eq_false he, ?_⟩
      refine getR_none (fun x hx => ?_)
      rw [hs] at hx
      rcases List.mem_append.1 hx with hx | hx
      · exact hlow x hx
      · have hd : l.drop i = e :: l.drop (i + 1) := by
          obtain ⟨hi', he'⟩ := List.getElem?_eq_some_iff.1 hi
          subst he'
          rw [List.getElem_cons_drop]
        have h0 := h.2.2 e (by rw [hd]; exact List.mem_cons_self ..)
        have hgt : cmpN nm e.nm < 0 := by
          have := cmpN_anti e.nm nm
          have : cmpN e.nm nm ≠ 0 := fun h => he ((cmpN_zero _ _).1 h)
          omega
        rcases List.mem_cons.1 hx with rfl | hx
        · exact he
        · have hp : AscT (l.drop i) := ha.sublist (List.drop_sublist i l)
          rw [hd] at hp
          have := cmpN_trans hgt ((List.pairwise_cons.1 hp).1 x hx)
          intro hx'
          rw [hx', cmpN_self] at this; omega
/-! ### the document's Set -/
def setS (e : Tn) (s : List Tn × Bool) (x : Tn) : List Tn × Bool :=
  let t := if !s.2 && !decide (cmpN x.nm e.nm < 0) then (s.1 ++ [e], true) else s
  (if x.nm = e.nm then t.1 else t.1 ++ [x], t.2)
def setF (e : Tn) (s : List Tn × Bool) : List Tn := if s.2 then s.1 else s.1 ++ [e]
theorem setS_done (e : Tn) : ∀ (l o : List Tn), (∀ x ∈ l, x.nm ≠ e.nm) → l.foldl (setS e) (o, true) = (o ++ l, true)
  | [], o, _ => by simp
  | x :: xs, o, h => by
    have h0 : setS e (o, true) x = (o ++ [x], true) := by simp [setS, h x (List.mem_cons_self ..)]
    show xs.foldl (setS e) (setS e (o, true) x) = _
    rw [h0, setS_done e xs (o ++ [x]) (fun y hy => h y (List.mem_cons_of_mem _ hy))]
    simp
theorem setS_fold (e : Tn) : ∀ (l o : List Tn), AscT l → setF e (l.foldl (setS e) (o, false)) = o ++ setR e l
  | [], o, _ => by simp [setF, setR]
  | x :: xs, o, h => by
    have hc := List.pairwise_cons.1 h
    show setF e (xs.foldl (setS e) (setS e (o, false) x)) = _
    unfold setR
    by_cases h1 : cmpN x.nm e.nm < 0
    · have hne : x.nm ≠ e.nm := fun h => by rw [h, cmpN_self] at h1; omega
      have h0 : setS e (o, false) x = (o ++ [x], false) := by simp [setS, h1, hne]
      rw [h0, setS_fold e xs (o ++ [x]) hc.2, if_pos h1]
      simp
    · rw [if_neg h1]
      have hgt : ∀ y ∈ xs, y.nm ≠ e.nm := fun y hy he => by
        have h2 := hc.1 y hy
        have := cmpN_le_lt h1 h2
        rw [he, cmpN_self] at this; omega
      by_cases h2 : x.nm = e.nm
      · have h0 : setS e (o, false) x = (o ++ [e], true) := by simp [setS, h1, h2, cmpN_self]
        rw [h0, setS_done e xs _ hgt, if_pos h2]
        simp [setF]
      · have h0 : setS e (o, false) x = (o ++ [e] ++ [x], true) := by simp [setS, h1, h2]
        rw [h0, setS_done e xs _ hgt, if_neg h2]
        simp [setF]
theorem setS_len (e : Tn) : ∀ (l : List Tn) (s : List Tn × Bool), (l.foldl (setS e) s).1.length ≤ s.1.length + l.length + 1
  | l, s => by
    have h : ∀ (l : List Tn) (s : List Tn × Bool), (l.foldl (setS e) s).1.length ≤ s.1.length + l.length + (if s.2 then 0 else 1) := by
      intro l
      induction l with
      | nil => intro s; simp
      | cons x xs ih =>
        intro s
        obtain ⟨o, d⟩ := s
        have := ih (setS e (o, d) x)
        show (xs.foldl (setS e) (setS e (o, d) x)).1.length ≤ _
        refine Nat.le_trans this ?_
        cases d <;> by_cases h1 : cmpN x.nm e.nm < 0 <;> by_cases h2 : x.nm = e.nm <;> simp [setS, h1, h2, cmpN_self] <;> omega
    have := h l s
    split at this <;> omega
/-! ### what is left, what is there -/
def keepL (sg : List Int) (l : List Tn) : List Tn := l.filterMap (fun e => if (keepT e sg).2 then some (keepT e sg).1 else none)
theorem keepT_nm {e : Tn} {sg : List Int} (h : (keepT e sg).2 = true) : (keepT e sg).1.nm = e.nm := by
  unfold keepT at h ⊢
  split at h
  · cases h
  · rw [if_neg (by assumption)]
    split <;> rfl
theorem keepL_len (sg : List Int) (l : List Tn) : (keepL sg l).length ≤ l.length := List.length_filterMap_le _ _
theorem keepL_asc (sg : List Int) {l : List Tn} (h : AscT l) : AscT (keepL sg l) := by
  unfold AscT keepL
  refine List.Pairwise.filterMap _ (fun a b hab x hx y hy => ?_) h
  split at hx
  · split at hy
    · injection hx with hx; injection hy with hy
      subst hx; subst hy
      rw [keepT_nm (by assumption), keepT_nm (by assumption)]
      exact hab
    · cases hy
  · cases hx
theorem keepL_step {sg : List Int} {l : List Tn} {i : Nat} {e : Tn} (h : l[i]? = some e) : keepL sg (l.take (i + 1)) = if (keepT e sg).2 then keepL sg (l.take i) ++ [(keepT e sg).1] else keepL sg (l.take i) := by
  unfold keepL
  rw [List.take_add_one, h, List.filterMap_append]
  simp only [Option.toList_some, List.filterMap_cons, List.filterMap_nil]
  by_cases h1 : (keepT e sg).2 = true
  · simp [h1]
  · simp [h1]
def thereL (l : List Tn) : List Tn := l.filter (fun e => !e.g)
theorem thereL_step {l : List Tn} {i : Nat} {e : Tn} (h : l[i]? = some e) : thereL (l.take (i + 1)) = if e.g then thereL (l.take i) else thereL (l.take i) ++ [e] := by
  unfold thereL
  rw [List.take_add_one, h, List.filter_append]
  cases hg : e.g <;> simp [hg]
def namesB (after : ByteArray) (l : List Tn) : List ByteArray := (l.filter (fun e => decide (cmpN after e.nm < 0))).map (·.nm)
theorem namesB_step {after : ByteArray} {l : List Tn} {i : Nat} {e : Tn} (h : l[i]? = some e) : namesB after (l.take (i + 1)) = if cmpN after e.nm < 0 then namesB after (l.take i) ++ [e.nm] else namesB after (l.take i) := by
  unfold namesB
  rw [List.take_add_one, h, List.filter_append]
  by_cases h1 : cmpN after e.nm < 0 <;> simp [h1]
theorem namesB_app {after : ByteArray} (l : List Tn) (e : Tn) : namesB after (l ++ [e]) = if cmpN after e.nm < 0 then namesB after l ++ [e.nm] else namesB after l := by
  unfold namesB
  rw [List.filter_append]
  by_cases h1 : cmpN after e.nm < 0 <;> simp [h1]
def listL (after : ByteArray) (n : Int) (l : List Tn) : List ByteArray := (namesB after (thereL l)).take n.toNat
theorem take_push {α : Type} (q : List α) (x : α) (k : Nat) : (q ++ [x]).take k = if (q.take k).length < k then q.take k ++ [x] else q.take k := by
  by_cases h : q.length < k
  · rw [if_pos (by rw [List.length_take]; omega), List.take_of_length_le (by simp; omega), List.take_of_length_le (by omega)]
  · rw [if_neg (by rw [List.length_take]; omega), List.take_append_of_le_length (by omega)]
def digL (l : List Tn) : List (List UInt8) := l.map (·.d)
end Go.Proofs.Ytklanoocjlpemaa
