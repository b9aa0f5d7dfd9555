/- chapter 21: Apply; the document's Set, New, Get, Apply, Keep -/
import Derived.Test.YtklanoocjlpemaaHF
namespace Go.Proofs.Ytklanoocjlpemaa
open Go.GV Go.RowKit Go.Lib
set_option linter.unusedVariables false
set_option linter.unusedSimpArgs false
def applyL (x : Wd) (l : List Tn) : List Tn :=
  if x.k = 3 then setR (tagE (getR x.nm l).1 x) l else if x.k = 4 ∧ (getR x.nm l).2 = true then setR (untE (getR x.nm l).1 x) l else l
theorem applyL_asc (x : Wd) {l : List Tn} (h : AscT l) : AscT (applyL x l) := by
  unfold applyL
  split
  · exact setR_asc _ h
  · split
    · exact setR_asc _ h
    · exact h
theorem applyL_len (x : Wd) (l : List Tn) : (applyL x l).length ≤ l.length + 1 := by
  unfold applyL
  split
  · exact setR_len _ _
  · split
    · exact setR_len _ _
    · omega
theorem getR_bd {M : Nat} {l : List Tn} (h : Bd M l) (nm : ByteArray) : (getR nm l).1.l.length ≤ M := by
  unfold getR
  split
  · exact h _ (List.mem_of_find?_eq_some (by assumption))
  · exact Nat.zero_le _
theorem applyL_bd {M : Nat} {l : List Tn} (h : Bd M l) (x : Wd) : Bd (M + 1) (applyL x l) := by
  have h1 : Bd (M + 1) l := fun e he => by have := h e he; omega
  have hg := getR_bd h x.nm
  unfold applyL
  split
  · refine h1.set ?_
    show (norm ((getR x.nm l).1.l ++ [x.s])).length ≤ _
    have := norm_one_le (getR x.nm l).1.l x.s
    omega
  · split
    · refine h1.set ?_
      show (norm (getR x.nm l).1.l).length ≤ _
      have := norm_len (getR x.nm l).1.l
      omega
    · exact h1
theorem keepL_bd {M : Nat} {l : List Tn} (h : Bd M l) (sg : List Int) : Bd M (keepL sg l) := fun e he => by
  unfold keepL at he
  obtain ⟨x, hx, hx2⟩ := List.mem_filterMap.1 he
  split at hx2
  · injection hx2 with hx2
    subst hx2
    exact Nat.le_trans (keepT_len x sg) (h x hx)
  · cases hx2
theorem wd_len {x : Wd} (hx : x.d.length = 32) : x.cs.length = 39 := by simp [Wd.cs, hx]
set_option maxRecDepth 10000 in
theorem applyT_calls {X : Nat → Prop} (base tb : Nat) (R : Option Addr) (n c : Nat) (l : List Tn) (x : Wd) (w : World) (h : Tab X w base tb R n c l) (ha : AscT l) (hn : n ≤ 1000000000) (hb : Bd 4294967295 l) (hx : x.d.length = 32) (hB : base ≤ w.heap.size) (hX : ∀ k, w.heap.size ≤ k → X k) :
    Calls Try.prog 13 #[.pointer (some ⟨tb, 0, none⟩), ofL x.cs] w fun e w' => e = .returned (.tuple #[]) ∧ Fr (DT tb R) w w' ∧ ∃ R' n' c', Tab X w' base tb R' n' c' (applyL x l) ∧ ∀ k, blkOf R' = some k → blkOf R = some k ∨ w.heap.size ≤ k := by
  refine (F13.of (some ⟨tb, 0, none⟩) x.cs w (Q := fun v w' => v = .tuple #[] ∧ Fr (DT tb R) w w' ∧ ∃ R' n' c', Tab X w' base tb R' n' c' (applyL x l) ∧ ∀ k, blkOf R' = some k → blkOf R = some k ∨ w.heap.size ≤ k) ?_).mono (fun e w' ⟨v, he, hv, h⟩ => ⟨by rw [he, hv], h⟩)
  have hxl := wd_len hx
  have hb2 : Bd 4294967296 l := fun e he => by have := hb e he; omega
  refine nw_mk ?_
  have f1 : Fr (fun _ => False) w (w.alloc (.cells x.cs.toArray 44)) := Fr.alloc _ _ _
  have r1 : RecAt (w.alloc (.cells x.cs.toArray 44)) w.heap.size 44 ([.int .i64 x.k, .int .u64 x.sq] ++ (x.d.map bv ++ [.string x.nm, .int .i64 x.z, .int .i64 x.s, .int .i64 x.o, .int .i64 x.q])) := RecAt.new _ _ _
  generalize w.alloc (.cells x.cs.toArray 44) = w1 at f1 r1 ⊢
  refine vIf_f rfl ⟨x.nm, rec_end r1 (bvl hx) (j := 0) rfl rfl, (getT_calls base tb R n c l x.nm w1 (h.fr0 f1) ha hn hb2).mono ?_⟩
  rintro r w2 ⟨f2, cs2, rfl, h2⟩
  refine ⟨_, _, rfl, var_mk z35 h2.len h2.one (fun b8 u f3 r8 => ?_)⟩
  have f123 := (f1.trans1 f2).trans1 f3
  have r1 := r1.fr (f2.trans1 f3) (fun h => h)
  have hT := h.fr0 f123
  have h2u := h2.fr0 f3
  have hs := f123.size
  have hgb := getR_bd hb x.nm
  -- the put of what a deed gives
  have put : ∀ (y : Tn) (cs : List Value) (v : World), Fr (fun _ => False) u v → TnP (fun k => u.heap.size ≤ k) v cs y → setR y l = applyL x l → Calls Try.prog 25 #[.pointer (some ⟨tb, 0, none⟩), ofL cs] v fun e w' => e = .returned (.tuple #[]) ∧ (Value.tuple #[] = Value.tuple #[] ∧ Fr (DT tb R) w w' ∧ ∃ R' n' c', Tab X w' base tb R' n' c' (applyL x l) ∧ ∀ k, blkOf R' = some k → blkOf R = some k ∨ w.heap.size ≤ k) := by
    intro y cs v fv hy hset
    have g := f123.trans1 fv
    have hsz := fv.size
    refine (putT_calls base tb R n c l y cs v (hT.fr0 fv) ha (hy.mono (fun k _ hk => ⟨fun h' => by have := (hT.lt h').2; omega, hX k (by omega)⟩)) (by omega) hn).mono ?_
    rintro r w' ⟨rfl, g2, R', n', c', h3, hnew⟩
    refine ⟨rfl, rfl, (g.mono (fun _ _ h => h.elim)).trans1 g2, R', n', c', by rw [← hset]; exact h3, fun k hk => ?_⟩
    rcases hnew k hk with h' | h'
    · exact .inl h'
    · exact .inr (by omega)
  have same : applyL x l = l → Value.tuple #[] = Value.tuple #[] ∧ Fr (DT tb R) w u ∧ ∃ R' n' c', Tab X u base tb R' n' c' (applyL x l) ∧ ∀ k, blkOf R' = some k → blkOf R = some k ∨ w.heap.size ≤ k := fun he => ⟨rfl, f123.mono (fun _ _ h => h.elim), R, n, c, by rw [he]; exact hT, fun k hk => .inl hk⟩
  refine ⟨x.k, r1.cell rfl, vIf_mk (fun h3 => ?_) (fun h3 => vIf_mk (fun h4 => vIf_mk (fun h5 => ?_) (fun h5 => ?_)) (fun h4 => ?_))⟩
  · have h3 : x.k = 3 := by simpa using h3
    refine ⟨cs2, h2.len, rec_all r8, x.cs, hxl, rec_all r1, (tag_calls _ x cs2 u h2u.at hx (by omega)).mono ?_⟩
    rintro r v ⟨fv, cs3, rfl, h6⟩
    exact ⟨_, rfl, put _ cs3 v fv h6 (by unfold applyL; rw [if_pos h3])⟩
  · have h3 : ¬ x.k = 3 := by simpa using h3
    have h4 : x.k = 4 := by simpa using h4
    refine ⟨cs2, h2.len, rec_all r8, x.cs, hxl, rec_all r1, (unt_calls _ x cs2 u h2u.at hx (by omega)).mono ?_⟩
    rintro r v ⟨fv, cs3, rfl, h6⟩
    exact ⟨_, rfl, put _ cs3 v fv h6 (by unfold applyL; rw [if_neg h3, if_pos ⟨h4, h5⟩])⟩
  · have h3 : ¬ x.k = 3 := by simpa using h3
    exact same (by unfold applyL; rw [if_neg h3, if_neg (fun h => by rw [h.2] at h5; cases h5)])
  · have h3 : ¬ x.k = 3 := by simpa using h3
    have h4 : ¬ x.k = 4 := by simpa using h4
    exact same (by unfold applyL; rw [if_neg h3, if_neg (fun h => h4 h.1)])
/-! ### the document -/
theorem ge_cmp (a b : ByteArray) : (!(Op.bytesLess a.toList b.toList)) = !decide (cmpN a b < 0) := by rw [nlt]
def SetSt (P : Nat → Prop) (w : World) (cs : List Value) (v : World) (B5 : Option Addr) (k5 : Nat) (o : List Tn) : Prop := Fr (fun _ => False) w v ∧ RecAt v w.heap.size 34 cs ∧ OT (fun k => P k ∧ k < w.heap.size) v (w.heap.size + 1) B5 o.length k5 o
theorem SetSt.drew {P : Nat → Prop} {w : World} {cs : List Value} {v : World} {B5 : Option Addr} {k5 : Nat} {o : List Tn} (h : SetSt P w cs v B5 k5 o) : SetSt P w cs v.drew B5 k5 o :=
  ⟨h.1.trans1 (Fr.drew _ _), h.2.1, h.2.2.fr0 (Fr.drew _ _)⟩
theorem set_push {P : Nat → Prop} {w : World} {cs : List Value} {v : World} {B5 : Option Addr} {k5 : Nat} {o : List Tn} {y : Tn} {ys : List Value} {K : Option Addr → Nat → Nat → World → Prop} (h : SetSt P w cs v B5 k5 o) (hy : TnP (fun k => P k ∧ k < w.heap.size) v ys y) (ho : o.length ≤ 1073741824)
    (hK : ∀ A' c' w', SetSt P w cs w' A' c' (o ++ [y]) → K A' (o ++ [y]).length c' w') :
    gd (ys.length == 38) (nw v (ys ++ []) 34 fun b w' => app w' 38 104 Z34 34 B5 o.length k5 (.slice (some ⟨b, 0, none⟩) 1 1) K) := by
  obtain ⟨hf, r1, hO⟩ := h
  have hlt := r1.lt
  refine pushT hO (hy.mono (fun k _ hk => ⟨fun h' => by have := (hO.blt h').1; have := hk.2; omega, hk⟩)) (by omega) ho (fun A' c' w' hO' f' hnew => ?_)
  have hlen : o.length + 1 = (o ++ [y]).length := by simp
  rw [hlen] at hO' ⊢
  exact hK A' c' w' ⟨hf.trans f' (fun _ _ h => h) (fun k hk h' => by have := (hO.blt h').1; omega), r1.fr f' (fun h' => by have := (hO.blt h').1; omega), hO'⟩
set_option maxHeartbeats 1000000 in
set_option maxRecDepth 10000 in
theorem rset_calls {P : Nat → Prop} (A : Option Addr) (n c : Nat) (l : List Tn) (e : Tn) (cs : List Value) (w : World) (h : RT P w A n l) (ha : AscT l) (he : TnP P w cs e) (hn : n ≤ 1000000000) :
    Calls Try.prog 29 #[.slice A n c, ofL cs] w fun r w' => Fr (fun _ => False) w w' ∧ ∃ A' n' c', r = .returned (.slice A' n' c') ∧ OT P w' w.heap.size A' n' c' (setR e l) := by
  refine (F29.of A n c cs w (Q := fun v w' => Fr (fun _ => False) w w' ∧ ∃ A' n' c', v = .slice A' n' c' ∧ OT P w' w.heap.size A' n' c' (setR e l)) ?_).mono (fun e w' ⟨v, he, hf, a, b, d, hv, h⟩ => ⟨hf, a, b, d, by rw [he, hv], h⟩)
  have hl := h.len
  have hset : setF e (l.foldl (setS e) ([], false)) = setR e l := setS_fold e l [] ha
  have h := h.mono (P' := fun k => P k ∧ k < w.heap.size) (fun k hk h => ⟨h, hk⟩)
  have he := he.mono (P' := fun k => P k ∧ k < w.heap.size) (fun k hk h => ⟨h, hk⟩)
  refine nw_mk ?_
  have f1 : Fr (fun _ => False) w (w.alloc (.cells cs.toArray 34)) := Fr.alloc _ _ _
  have r1 := RecAt.new w cs 34
  generalize w.alloc (.cells cs.toArray 34) = w1 at f1 r1 ⊢
  have fin : ∀ (v : World) (B5 : Option Addr) (k5 : Nat) (o : List Tn), SetSt P w cs v B5 k5 o → o = setR e l → (Fr (fun _ => False) w v ∧ ∃ A' n' c', Value.slice B5 o.length k5 = .slice A' n' c' ∧ OT P v w.heap.size A' n' c' (setR e l)) := fun v B5 k5 o h ho => ⟨h.1, B5, _, k5, rfl, by rw [← ho]; exact h.2.2.mono (by omega) (fun k _ hk => hk.1)⟩
  refine jnC_mk (loop_rule (fun s u => ∃ (i : Nat) (out : List Tn) (dn : Bool) (A5 : Option Addr) (c5 : Nat), i ≤ n ∧ s = ((A, n, c), (w.heap.size, 0), (A5, out.length, c5), dn, (i : Int), ()) ∧ SetSt P w cs u A5 c5 out ∧ (l.take i).foldl (setS e) ([], false) = (out, dn))
    (fun s _ => (n - s.2.2.2.2.1).toNat) ?_ _ _ ⟨0, [], false, none, 0, by omega, rfl, ⟨f1, r1, OT.nil _ _ _⟩, by simp⟩)
  rintro s u C ⟨i, out, dn, A5, c5, hi, rfl, hS, hinv⟩ hC _
  have hol : out.length ≤ i + 1 := by
    have := setS_len e (l.take i) ([], false)
    rw [hinv, List.length_take] at this
    simp at this; omega
  refine vIf_mk (fun hlt => ?_) (fun hge => ?_)
  · have hlt2 : (i : Int) < (n : Int) := of_decide_eq_true hlt
    have gi : l[i]? = some (l[i]'(by omega)) := List.getElem?_eq_getElem (by omega)
    generalize l[i]'(by omega) = x at gi
    have hmeas : ((n : Int) - IntKind.wrap .i64 ((i : Int) + 1)).toNat < ((n : Int) - (i : Int)).toNat := by rw [ei i (by omega)]; omega
    have hsn : (l.take (i + 1)).foldl (setS e) ([], false) = setS e (out, dn) x := by rw [List.take_add_one, gi, List.foldl_append, hinv]; rfl
    -- the second half of a step
    have last : ∀ (u2 : World) (o2 : List Tn) (d2 : Bool) (A2 : Option Addr) (c2 : Nat), SetSt P w cs u2 A2 c2 o2 → o2.length ≤ i + 2 → setS e (out, dn) x = (if x.nm = e.nm then o2 else o2 ++ [x], d2) →
        jnC (F29.k9 (fun v w' => Fr (fun _ => False) w w' ∧ ∃ A' n' c', v = .slice A' n' c' ∧ OT P w' w.heap.size A' n' c' (setR e l)) C) ((A, n, c), (w.heap.size, 0), (A2, o2.length, c2), d2, (i : Int), ()) u2 := by
      intro u2 o2 d2 A2 c2 h2 ho2 hst
      refine jnC_mk (fun _ => ?_)
      have h2d := h2.drew
      refine t_rd (h.fr0 h2d.1) gi (fun b o ys hA hT hc => ⟨x.nm, c_nm hT hc, e.nm, c_nm he (rec_all h2d.2.1), vIf_mk (fun hne => ?_) (fun heq => ?_)⟩)
      · rw [neq] at hne
        have hne : ¬ x.nm = e.nm := by simpa using hne
        rw [if_neg hne] at hst
        refine t_rd (h.fr0 h2d.1) gi (fun b o ys hA hT hc => ⟨ys, hT.len, hc, set_push h2d hT (by omega) (fun A' c' w' h' => jnC_mk (hC _ _ ⟨i + 1, _, d2, A', c', by omega, by rw [ei i (by omega)], h', by rw [hsn, hst]⟩ hmeas))⟩)
      · rw [neq] at heq
        have heq : x.nm = e.nm := by simpa using heq
        rw [if_pos heq] at hst
        exact jnC_mk (hC _ _ ⟨i + 1, o2, d2, A2, c2, by omega, by rw [ei i (by omega)], h2d, by rw [hsn, hst]⟩ hmeas)
    have hSd := hS.drew
    cases dn with
    | true =>
      refine vIf_f rfl (jnC_mk (fun _ => vIf_f rfl ?_))
      exact last u.drew out true A5 c5 hSd (by omega) (by simp [setS])
    | false =>
      refine vIf_t rfl (t_rd (h.fr0 hSd.1) gi (fun b o ys hA hT hc => ⟨x.nm, c_nm hT hc, e.nm, c_nm he (rec_all hSd.2.1), jnC_mk (fun _ => ?_)⟩))
      rw [ge_cmp]
      refine vIf_mk (fun h1 => ?_) (fun h1 => ?_)
      · have h1 : ¬ cmpN x.nm e.nm < 0 := by simpa using h1
        refine ⟨cs, he.len, rec_all hSd.2.1, set_push hSd (he.fr0 hSd.1) (by omega) (fun A' c' w' h' => ?_)⟩
        exact last w' (out ++ [e]) true A' c' h' (by simp; omega) (by simp [setS, h1])
      · have h1 : cmpN x.nm e.nm < 0 := by simpa using h1
        exact last u.drew out false A5 c5 hSd (by omega) (by simp [setS, h1])
  · have hge2 : ¬ (i : Int) < (n : Int) := of_decide_eq_false hge
    rw [List.take_of_length_le (by omega)] at hinv
    rw [hinv] at hset
    cases dn with
    | true => exact vIf_f rfl (fin _ _ _ _ hS hset)
    | false => exact vIf_t rfl ⟨cs, he.len, rec_all hS.2.1, set_push hS (he.fr0 hS.1) (by omega) (fun A' c' w' h' => fin _ _ _ _ h' hset)⟩
end Go.Proofs.Ytklanoocjlpemaa
