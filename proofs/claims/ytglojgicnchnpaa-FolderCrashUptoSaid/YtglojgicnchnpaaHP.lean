/- chapter 11, plainly: names in order, changes -/
import Derived.Test.YtglojgicnchnpaaLNmO
import Derived.Test.YtglojgicnchnpaaLStbP
import Derived.Test.YtglojgicnchnpaaG14
namespace Go.Proofs.Ytglojgicnchnpaa
open Go.GV Go.RowKit Go.Lib Go.Stb
set_option linter.unusedVariables false
set_option linter.unusedSimpArgs false
abbrev Nm := ByteArray × Int
def encN (x : Nm) : List Value := [.string x.1, .int .i64 x.2]
theorem encN_o : EncO Nm encN 2 := ⟨fun _ => rfl, fun x v hv => by simp [encN] at hv; rcases hv with rfl | rfl <;> rfl⟩
def cmpM (a b : Nm) : Int := cmpN a.1 b.1
theorem cmpM_ord : OrdC cmpM := ⟨fun a b => cmpN_anti _ _, fun a b c h1 h2 => by
  have := cmp_trans a.1.data.toList b.1.data.toList c.1.data.toList h1 h2
  exact this⟩
def findN (s : ByteArray) : List Nm → Option Int
  | [] => none
  | x :: r => if x.1 = s then some x.2 else findN s r
theorem findN_app (s : ByteArray) : ∀ a b : List Nm, findN s (a ++ b) = (findN s a).or (findN s b)
  | [], b => by simp [findN]
  | x :: r, b => by
    rw [List.cons_append, findN, findN, findN_app s r b]
    split <;> simp
theorem findN_none {s : ByteArray} : ∀ {l : List Nm}, (∀ x ∈ l, x.1 ≠ s) → findN s l = none
  | [], _ => rfl
  | x :: r, h => by rw [findN, if_neg (h x (List.mem_cons_self ..)), findN_none (fun y hy => h y (List.mem_cons_of_mem _ hy))]
theorem findN_mem {s : ByteArray} {i : Int} : ∀ {l : List Nm}, findN s l = some i → (s, i) ∈ l
  | [], h => by simp [findN] at h
  | x :: r, h => by
    rw [findN] at h
    split at h
    · rename_i hx
      injection h with h
      rw [← hx, ← h]; exact List.mem_cons_self ..
    · exact List.mem_cons_of_mem _ (findN_mem h)
def AscN (l : List Nm) : Prop := l.Pairwise (fun a b => cmpN a.1 b.1 < 0)
theorem cmp_ne {a b : ByteArray} (h : cmpN a b < 0) : a ≠ b := fun e => by rw [e, cmpN_self] at h; omega
theorem cmp_gt {a b : ByteArray} (h : cmpN a b < 0) : ¬ cmpN b a < 0 := by have := cmpN_anti a b; omega
theorem ascN_ext : ∀ {a b : List Nm}, AscN a → AscN b → (∀ s, findN s a = findN s b) → a = b
  | [], [], _, _, _ => rfl
  | [], y :: b, _, _, h => by have := h y.1; simp [findN] at this
  | x :: a, [], _, _, h => by have := h x.1; simp [findN] at this
  | x :: a, y :: b, ha, hb, h => by
    have ca := List.pairwise_cons.1 ha
    have cb := List.pairwise_cons.1 hb
    have key : ∀ {x y : Nm} {a b : List Nm}, (∀ z ∈ b, cmpN y.1 z.1 < 0) → (findN x.1 (x :: a) = findN x.1 (y :: b)) → x.1 = y.1 ∨ cmpN y.1 x.1 < 0 := by
      intro x y a b hy hf
      rw [findN, if_pos rfl] at hf
      rcases List.mem_cons.1 (findN_mem hf.symm) with h1 | h1
      · left; rw [← h1]
      · right; exact hy _ h1
    have h1 := key cb.1 (h x.1)
    have h2 := key ca.1 (h y.1).symm
    have hxy : x.1 = y.1 := by
      rcases h1 with h1 | h1
      · exact h1
      · rcases h2 with h2 | h2
        · exact h2.symm
        · exact absurd h2 (cmp_gt h1)
    have h3 := h x.1
    rw [findN, findN, if_pos rfl, if_pos hxy.symm] at h3
    injection h3 with h3
    have hx : x = y := Prod.ext hxy h3
    subst hx
    rw [ascN_ext ca.2 cb.2 (fun s => by
      have h4 := h s
      rw [findN, findN] at h4
      by_cases hs : x.1 = s
      · rw [findN_none (fun z hz => fun e => cmp_ne (ca.1 z hz) (by rw [hs, e])), findN_none (fun z hz => fun e => cmp_ne (cb.1 z hz) (by rw [hs, e]))]
      · rw [if_neg hs, if_neg hs] at h4; exact h4)]
/-! ### a name put -/
def putN (x : Nm) : List Nm → List Nm
  | [] => [x]
  | y :: r => if cmpN x.1 y.1 < 0 then x :: y :: r else if x.1 = y.1 then x :: r else y :: putN x r
theorem putN_find (s : ByteArray) (x : Nm) : ∀ l, findN s (putN x l) = if x.1 = s then some x.2 else findN s l
  | [] => by simp [putN, findN]
  | y :: r => by
    have ih := putN_find s x r
    rw [putN]
    split
    · rw [findN]
    · split
      · rename_i h1 h2
        rw [findN]
        by_cases h3 : x.1 = s
        · rw [if_pos h3, if_pos h3]
        · rw [if_neg h3, if_neg h3, findN, if_neg (by rw [← h2]; exact h3)]
      · rename_i h1 h2
        rw [findN, ih, findN]
        by_cases h3 : x.1 = s
        · rw [if_pos h3, if_neg (by rw [← h3]; exact fun e => h2 e.symm), if_pos h3]
        · rw [if_neg h3, if_neg h3]
theorem putN_mem {x z : Nm} : ∀ {l}, z ∈ putN x l → z = x ∨ z ∈ l
  | [], h => by simp [putN] at h; exact .inl h
  | y :: r, h => by
    rw [putN] at h
    split at h
    · exact List.mem_cons.1 h
    · split at h
      · rcases List.mem_cons.1 h with h | h
        · exact .inl h
        · exact .inr (List.mem_cons_of_mem _ h)
      · rcases List.mem_cons.1 h with h | h
        · exact .inr (by rw [h]; exact List.mem_cons_self ..)
        · rcases putN_mem h with h | h
          · exact .inl h
          · exact .inr (List.mem_cons_of_mem _ h)
theorem putN_asc (x : Nm) : ∀ {l}, AscN l → AscN (putN x l)
  | [], _ => List.pairwise_singleton _ _
  | y :: r, h => by
    have c := List.pairwise_cons.1 h
    rw [putN]
    split
    · rename_i h1
      refine List.pairwise_cons.2 ⟨fun z hz => ?_, h⟩
      rcases List.mem_cons.1 hz with rfl | hz
      · exact h1
      · exact cmpN_trans h1 (c.1 z hz)
    · split
      · rename_i h1 h2
        refine List.pairwise_cons.2 ⟨fun z hz => ?_, c.2⟩
        rw [h2]; exact c.1 z hz
      · rename_i h1 h2
        refine List.pairwise_cons.2 ⟨fun z hz => ?_, putN_asc x c.2⟩
        rcases putN_mem hz with rfl | hz
        · have := cmpN_anti z.1 y.1
          have h3 : cmpN z.1 y.1 ≠ 0 := fun e => h2 ((cmpN_zero _ _).1 e)
          omega
        · exact c.1 z hz
theorem putN_len (x : Nm) : ∀ l, (putN x l).length ≤ l.length + 1
  | [] => by simp [putN]
  | y :: r => by
    have := putN_len x r
    rw [putN]
    split
    · simp
    · split <;> simp <;> omega
theorem putN_lt {x : Nm} : ∀ {l : List Nm}, (∀ z ∈ l, cmpN x.1 z.1 < 0) → putN x l = x :: l
  | [], _ => rfl
  | y :: r, h => by rw [putN, if_pos (h y (List.mem_cons_self ..))]
theorem putN_app {x : Nm} : ∀ {U : List Nm} (V : List Nm), (∀ z ∈ U, cmpN z.1 x.1 < 0) → putN x (U ++ V) = U ++ putN x V
  | [], V, _ => rfl
  | y :: r, V, h => by
    have h1 := h y (List.mem_cons_self ..)
    rw [List.cons_append, putN, if_neg (cmp_gt h1), if_neg (fun e => cmp_ne h1 e.symm), putN_app V (fun z hz => h z (List.mem_cons_of_mem _ hz))]
    rfl
/-! the document's put -/
def putS (x : Nm) (s : List Nm × Bool) (y : Nm) : List Nm × Bool :=
  if y.1 = x.1 then (if s.2 = false ∧ cmpN x.1 y.1 < 0 then (s.1 ++ [x], true) else s) else
  ((if s.2 = false ∧ cmpN x.1 y.1 < 0 then (s.1 ++ [x], true) else s).1 ++ [y], (if s.2 = false ∧ cmpN x.1 y.1 < 0 then (s.1 ++ [x], true) else s).2)
def putE (x : Nm) (s : List Nm × Bool) : List Nm := if s.2 = true then s.1 else s.1 ++ [x]
theorem putS_done (x : Nm) : ∀ (l o : List Nm), (∀ z ∈ l, cmpN x.1 z.1 < 0) → l.foldl (putS x) (o, true) = (o ++ l, true)
  | [], o, _ => by simp
  | y :: r, o, h => by
    have h1 := h y (List.mem_cons_self ..)
    rw [List.foldl_cons, putS, if_neg (fun e => cmp_ne h1 e.symm), if_neg (by simp), putS_done x r _ (fun z hz => h z (List.mem_cons_of_mem _ hz))]
    simp
theorem putS_fold (x : Nm) : ∀ (l o : List Nm), AscN l → putE x (l.foldl (putS x) (o, false)) = o ++ putN x l
  | [], o, _ => rfl
  | y :: r, o, h => by
    have c := List.pairwise_cons.1 h
    rw [List.foldl_cons, putS, putN]
    by_cases h1 : cmpN x.1 y.1 < 0
    · rw [if_neg (fun e => cmp_ne h1 e.symm), if_pos ⟨rfl, h1⟩, if_pos h1, putS_done x r _ (fun z hz => cmpN_trans h1 (c.1 z hz))]
      simp [putE]
    · by_cases h2 : x.1 = y.1
      · rw [if_pos h2.symm, if_neg (fun h => h1 h.2), if_neg h1, if_pos h2, putS_fold x r o c.2, putN_lt (fun z hz => by rw [h2]; exact c.1 z hz)]
      · rw [if_neg (fun e => h2 e.symm), if_neg (fun h => h1 h.2), if_neg h1, if_neg h2, putS_fold x r _ c.2]
        simp
/-! ### without a name -/
def woN (s : ByteArray) (l : List Nm) : List Nm := l.filter (fun y => decide (y.1 ≠ s))
theorem woN_step {s : ByteArray} {l : List Nm} {i : Nat} {x : Nm} (h : l[i]? = some x) : woN s (l.take (i + 1)) = if x.1 ≠ s then woN s (l.take i) ++ [x] else woN s (l.take i) := by
  unfold woN
  rw [List.take_add_one, h, Option.toList_some, List.filter_append]
  split
  · rename_i h1; rw [List.filter_cons_of_pos (by simpa using h1)]; rfl
  · rename_i h1; rw [List.filter_cons_of_neg (by simpa using h1)]; simp
theorem woN_find (t s : ByteArray) : ∀ l, findN t (woN s l) = if t = s then none else findN t l
  | [] => by simp [woN, findN]
  | y :: r => by
    have ih := woN_find t s r
    by_cases h : y.1 = s
    · have : woN s (y :: r) = woN s r := List.filter_cons_of_neg (by simpa using h)
      rw [this, ih, findN]
      by_cases h2 : t = s
      · rw [if_pos h2, if_pos h2]
      · rw [if_neg h2, if_neg h2, if_neg (by rw [h]; exact fun e => h2 e.symm)]
    · have : woN s (y :: r) = y :: woN s r := List.filter_cons_of_pos (by simpa using h)
      rw [this, findN, ih, findN]
      by_cases h2 : t = s
      · rw [if_pos h2, if_pos h2, if_neg (by rw [h2]; exact h)]
      · rw [if_neg h2, if_neg h2]
theorem woN_asc (s : ByteArray) {l : List Nm} (h : AscN l) : AscN (woN s l) := h.sublist (List.filter_sublist ..)
theorem woN_len (s : ByteArray) (l : List Nm) : (woN s l).length ≤ l.length := List.length_filter_le _ _
theorem woN_id {s : ByteArray} {l : List Nm} (h : ∀ x ∈ l, x.1 ≠ s) : woN s l = l := List.filter_eq_self.2 (fun x hx => by simpa using h x hx)
/-! ### where a name lies -/
def PlN (s : ByteArray) (i : Nat) (l : List Nm) : Prop := i ≤ l.length ∧ (∀ x ∈ l.take i, cmpN x.1 s < 0) ∧ ∀ x ∈ l.drop i, ¬ cmpN x.1 s < 0
def isN (s : ByteArray) (i : Nat) (l : List Nm) : Bool := match l[i]? with | some x => decide (x.1 = s) | none => false
theorem isN_at {s : ByteArray} {i : Nat} {l : List Nm} (h : isN s i l = true) : ∃ x, l[i]? = some x ∧ x.1 = s := by
  unfold isN at h
  split at h
  · rename_i x hx; exact ⟨x, hx, of_decide_eq_true h⟩
  · cases h
theorem drop_at {α : Type} {l : List α} {i : Nat} {x : α} (h : l[i]? = some x) : l.drop i = x :: l.drop (i + 1) := by
  obtain ⟨h1, rfl⟩ := List.getElem?_eq_some_iff.1 h
  exact List.drop_eq_getElem_cons h1
theorem pl_gt {s : ByteArray} {i : Nat} {l : List Nm} (hp : PlN s i l) (ha : AscN l) (hi : isN s i l = false) : ∀ x ∈ l.drop i, cmpN s x.1 < 0 := by
  intro x hx
  have h1 := hp.2.2 x hx
  cases hd : l.drop i with
  | nil => rw [hd] at hx; cases hx
  | cons y r =>
    have hy : l[i]? = some y := by
      have := congrArg (·[0]?) hd
      simpa using this
    have hne : y.1 ≠ s := by
      unfold isN at hi
      rw [hy] at hi
      exact of_decide_eq_false hi
    have hyl := hp.2.2 y (by rw [hd]; exact List.mem_cons_self ..)
    have h0 : cmpN y.1 s ≠ 0 := fun e => hne ((cmpN_zero _ _).1 e)
    have hsy : cmpN s y.1 < 0 := by have := cmpN_anti y.1 s; omega
    rw [hd] at hx
    rcases List.mem_cons.1 hx with rfl | hx
    · exact hsy
    · have hsub : AscN (y :: r) := by rw [← hd]; exact ha.sublist (List.drop_sublist _ _)
      exact cmpN_trans hsy ((List.pairwise_cons.1 hsub).1 x hx)
theorem put_in {s : ByteArray} {v : Int} {i : Nat} {l : List Nm} {x : Nm} (hp : PlN s i l) (hx : l[i]? = some x) (hs : x.1 = s) : putN (s, v) l = l.set i (s, v) := by
  have hi := (List.getElem?_eq_some_iff.1 hx).1
  conv => lhs; rw [← List.take_append_drop i l]
  rw [putN_app _ hp.2.1, drop_at hx, putN, if_neg (by show ¬ cmpN s x.1 < 0; rw [hs, cmpN_self]; omega), if_pos hs.symm, List.set_eq_take_append_cons_drop, if_pos hi]
theorem put_out {s : ByteArray} {v : Int} {i : Nat} {l : List Nm} (hp : PlN s i l) (ha : AscN l) (hi : isN s i l = false) : putN (s, v) l = l.take i ++ (s, v) :: l.drop i := by
  conv => lhs; rw [← List.take_append_drop i l]
  rw [putN_app _ hp.2.1, putN_lt (pl_gt hp ha hi)]
theorem wo_in {s : ByteArray} {i : Nat} {l : List Nm} {x : Nm} (hp : PlN s i l) (ha : AscN l) (hx : l[i]? = some x) (hs : x.1 = s) : woN s l = l.take i ++ l.drop (i + 1) := by
  have hd := drop_at hx
  conv => lhs; rw [← List.take_append_drop i l, hd]
  unfold woN
  rw [List.filter_append, List.filter_cons_of_neg (by simpa using hs)]
  have hsub : AscN (x :: l.drop (i + 1)) := by rw [← hd]; exact ha.sublist (List.drop_sublist _ _)
  congr 1
  · exact woN_id (fun z hz => cmp_ne (hp.2.1 z hz))
  · exact woN_id (fun z hz e => cmp_ne ((List.pairwise_cons.1 hsub).1 z hz) (by rw [hs, e]))
theorem wo_out {s : ByteArray} {i : Nat} {l : List Nm} (hp : PlN s i l) (ha : AscN l) (hi : isN s i l = false) : woN s l = l ∧ findN s l = none := by
  have h : ∀ z ∈ l, z.1 ≠ s := by
    intro z hz
    rw [← List.take_append_drop i l] at hz
    rcases List.mem_append.1 hz with hz | hz
    · exact cmp_ne (hp.2.1 z hz)
    · exact fun e => cmp_ne (pl_gt hp ha hi z hz) e.symm
  exact ⟨woN_id h, findN_none h⟩
theorem find_in {s : ByteArray} {i : Nat} {l : List Nm} {x : Nm} (hp : PlN s i l) (hx : l[i]? = some x) (hs : x.1 = s) : findN s l = some x.2 := by
  rw [← List.take_append_drop i l, drop_at hx, findN_app, findN_none (fun z hz => cmp_ne (hp.2.1 z hz)), findN, if_pos hs]
  rfl
/-! ### what lasts -/
def lastN (l : List Nm) : List Nm := l.foldr putN []
theorem lastN_asc : ∀ l, AscN (lastN l)
  | [] => List.Pairwise.nil
  | x :: r => putN_asc x (lastN_asc r)
theorem lastN_find (s : ByteArray) : ∀ l, findN s (lastN l) = findN s l
  | [] => rfl
  | x :: r => by
    show findN s (putN x (lastN r)) = _
    rw [putN_find, lastN_find s r, findN]
theorem lastN_len : ∀ l, (lastN l).length ≤ l.length
  | [] => Nat.le_refl _
  | x :: r => by
    have := lastN_len r
    have h2 := putN_len x (lastN r)
    show (putN x (lastN r)).length ≤ _
    rw [List.length_cons]; omega
/-- without neighbours of one name -/
def cptN (r : List Nm) : Nat → List Nm
  | 0 => []
  | n + 1 => cptN r n ++ (if n ≠ 0 ∧ (r[n]?).map (·.1) = (r[n - 1]?).map (·.1) then [] else r[n]?.toList)
theorem cptN_len (r : List Nm) : ∀ n, (cptN r n).length ≤ n
  | 0 => Nat.le_refl _
  | n + 1 => by
    have := cptN_len r n
    simp only [cptN, List.length_append]
    split
    · simp; omega
    · cases r[n]? <;> simp <;> omega
theorem cptN_sub (r : List Nm) : ∀ n d, d ∈ cptN r n → d ∈ r.take n
  | 0, d, h => by simp [cptN] at h
  | n + 1, d, h => by
    rw [cptN] at h
    rw [List.take_add_one]
    rcases List.mem_append.1 h with h | h
    · exact List.mem_append_left _ (cptN_sub r n d h)
    · split at h
      · cases h
      · exact List.mem_append_right _ h
theorem cptN_find (s : ByteArray) (r : List Nm) : ∀ n, findN s (cptN r n) = findN s (r.take n)
  | 0 => by simp [cptN]
  | n + 1 => by
    rw [cptN, List.take_add_one, findN_app, findN_app, cptN_find s r n]
    split
    · rename_i h
      obtain ⟨h0, h⟩ := h
      cases hn : r[n]? with
      | none => rfl
      | some x =>
        rw [hn] at h
        cases hp : r[n - 1]? with
        | none => rw [hp] at h; cases h
        | some y =>
          rw [hp] at h
          simp at h
          rw [Option.toList_some]
          by_cases hs : x.1 = s
          · cases hf : findN s (r.take n) with
            | some v => rfl
            | none =>
              exfalso
              have : r.take n = r.take (n - 1) ++ [y] := by
                conv => lhs; rw [show n = (n - 1) + 1 by omega, List.take_add_one, hp]
                rfl
              rw [this, findN_app, findN, if_pos (by rw [← h]; exact hs)] at hf
              cases h5 : findN s (r.take (n - 1)) <;> rw [h5] at hf <;> cases hf
          · have : findN s [x] = none := by rw [findN, if_neg hs]; rfl
            rw [this]; rfl
    · rfl
theorem cptN_asc {r : List Nm} (h : r.Pairwise (fun a b => cmpM a b ≤ 0)) : ∀ n, n ≤ r.length → AscN (cptN r n)
  | 0, _ => List.Pairwise.nil
  | n + 1, hn => by
    have ih := cptN_asc h n (by omega)
    rw [cptN]
    by_cases hc : n ≠ 0 ∧ (r[n]?).map (·.1) = (r[n - 1]?).map (·.1)
    · rw [if_pos hc, List.append_nil]; exact ih
    · rw [if_neg hc, List.getElem?_eq_getElem (by omega)]
      refine List.pairwise_append.2 ⟨ih, by simp, fun a ha b hb => ?_⟩
      simp at hb
      subst hb
      have ha' := cptN_sub r n a ha
      obtain ⟨i, hi, hai⟩ := List.mem_iff_getElem.1 ha'
      rw [List.length_take] at hi
      rw [List.getElem_take] at hai
      have hn0 : n ≠ 0 := by omega
      have hprev : (r[n - 1]'(by omega)).1 ≠ (r[n]'(by omega)).1 := by
        intro he
        apply hc
        refine ⟨hn0, ?_⟩
        rw [List.getElem?_eq_getElem (by omega), List.getElem?_eq_getElem (by omega), Option.map_some, Option.map_some, he]
      have hp := List.pairwise_iff_getElem.1 h
      have h2 := hp (n - 1) n (by omega) (by omega) (by omega)
      have h2' : cmpN (r[n - 1]'(by omega)).1 (r[n]'(by omega)).1 < 0 := by
        have h3 : cmpN (r[n - 1]'(by omega)).1 (r[n]'(by omega)).1 ≤ 0 := h2
        have h4 : cmpN (r[n - 1]'(by omega)).1 (r[n]'(by omega)).1 ≠ 0 := fun e => hprev ((cmpN_zero _ _).1 e)
        omega
      subst hai
      by_cases hin : i = n - 1
      · subst hin; exact h2'
      · have h3 : cmpM (r[i]'(by omega)) (r[n - 1]'(by omega)) ≤ 0 := hp i (n - 1) (by omega) (by omega) (by omega)
        exact cmpM_ord.le_lt (b := r[n - 1]'(by omega)) h3 h2'
theorem ins_find (s : ByteArray) (x : Nm) : ∀ {a : List Nm}, a.Pairwise (fun a b => cmpM a b ≤ 0) → findN s (ins cmpM x a) = (findN s a).or (if x.1 = s then some x.2 else none)
  | [], _ => by simp [ins, findN]
  | y :: r, h => by
    have c := List.pairwise_cons.1 h
    rw [ins]
    split
    · rename_i h1
      rw [findN]
      by_cases hs : x.1 = s
      · rw [if_pos hs, if_pos hs, findN_none (l := y :: r)]
        · rfl
        · intro z hz
          have hxz : cmpM x z < 0 := by
            rcases List.mem_cons.1 hz with rfl | hz
            · exact h1
            · exact cmpM_ord.lt_le h1 (c.1 z hz)
          rw [← hs]
          exact fun e => cmp_ne (a := x.1) (b := z.1) hxz e.symm
      · rw [if_neg hs, if_neg hs]; simp
    · rw [findN, ins_find s x c.2, findN]
      split <;> simp
theorem stab_weak (l : List Nm) : (stab cmpM l).Pairwise (fun a b => cmpM a b ≤ 0) := by
  obtain ⟨m, h1, h2, h3⟩ := stab_spec cmpM_ord l
  rw [← h3, List.pairwise_map]
  exact h1.imp (fun h => by rcases h with h | h <;> omega)
theorem stab_find (s : ByteArray) (l : List Nm) : findN s (stab cmpM l) = findN s l :=
  snoc_ind (P := fun l => findN s (stab cmpM l) = findN s l) rfl (fun l x ih => by rw [stab_snoc, ins_find s x (stab_weak l), ih, findN_app]; rfl) l
theorem last_eq (l : List Nm) : cptN (stab cmpM l) l.length = lastN l := by
  refine ascN_ext (cptN_asc (stab_weak l) _ (by rw [stab_len]; exact Nat.le_refl _)) (lastN_asc l) (fun s => ?_)
  rw [cptN_find, List.take_of_length_le (by rw [stab_len]; exact Nat.le_refl _), stab_find, lastN_find]
/-! ### changes -/
structure Ch where
  k : Int
  nm : ByteArray
  to : ByteArray
  id : Int
def encC (c : Ch) : List Value := [.int .i64 c.k, .string c.nm, .string c.to, .int .i64 c.id]
theorem encC_o : EncO Ch encC 4 := ⟨fun _ => rfl, fun x v hv => by simp [encC] at hv; rcases hv with rfl | rfl | rfl | rfl <;> rfl⟩
def stepN (l : List Nm) (c : Ch) : List Nm :=
  if c.k = 1 then putN (c.nm, c.id) l
  else if c.k = 2 then (match findN c.nm l with | some id => putN (c.to, id) (woN c.nm l) | none => l)
  else if c.k = 3 then woN c.nm l else l
theorem stepN_asc (c : Ch) {l : List Nm} (h : AscN l) : AscN (stepN l c) := by
  unfold stepN
  split
  · exact putN_asc _ h
  · split
    · split
      · exact putN_asc _ (woN_asc _ h)
      · exact h
    · split
      · exact woN_asc _ h
      · exact h
theorem stepN_len (c : Ch) (l : List Nm) : (stepN l c).length ≤ l.length + 1 := by
  unfold stepN
  split
  · exact putN_len _ _
  · split
    · split
      · have := putN_len (c.to, ‹Int›) (woN c.nm l)
        have := woN_len c.nm l
        omega
      · omega
    · split
      · have := woN_len c.nm l; omega
      · omega
def behN (L : List Nm) (P : List Ch) : List Nm := P.foldl stepN (lastN L)
theorem behN_snoc (L : List Nm) (P : List Ch) (c : Ch) : behN L (P ++ [c]) = stepN (behN L P) c := by unfold behN; rw [List.foldl_append]; rfl
theorem behN_step {L : List Nm} {P : List Ch} {i : Nat} {c : Ch} (h : P[i]? = some c) : behN L (P.take (i + 1)) = stepN (behN L (P.take i)) c := by
  rw [List.take_add_one, h, Option.toList_some, behN_snoc]
theorem behN_asc (L : List Nm) (P : List Ch) : AscN (behN L P) := snoc_ind (P := fun P => AscN (behN L P)) (lastN_asc L) (fun l x ih => by rw [behN_snoc]; exact stepN_asc _ ih) P
theorem behN_len (L : List Nm) (P : List Ch) : (behN L P).length ≤ L.length + P.length := snoc_ind (P := fun P => (behN L P).length ≤ L.length + P.length) (lastN_len L) (fun l x ih => by
  have := stepN_len x (behN L l)
  rw [behN_snoc, List.length_append, List.length_singleton]; omega) P
end Go.Proofs.Ytglojgicnchnpaa
