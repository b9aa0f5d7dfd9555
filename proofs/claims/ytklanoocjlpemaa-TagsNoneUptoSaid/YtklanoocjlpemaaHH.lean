/- chapter 21: the document's New, Get, Apply, Keep, List, Names, Same, Texts -/
import Derived.Test.YtklanoocjlpemaaHG
namespace Go.Proofs.Ytklanoocjlpemaa
open Go.GV Go.RowKit Go.Lib
set_option linter.unusedVariables false
set_option linter.unusedSimpArgs false
/-- the document's table: off the blocks D -/
def RD (D : Nat → Prop) (w : World) (A : Option Addr) (n : Nat) (l : List Tn) : Prop := RT (fun k => ¬ D k) w A n l ∧ (n ≠ 0 → ∀ k, blkOf A = some k → ¬ D k)
theorem RD.fr0 {D : Nat → Prop} {w w' : World} {A : Option Addr} {n : Nat} {l : List Tn} (h : RD D w A n l) (f : Fr (fun _ => False) w w') : RD D w' A n l := ⟨h.1.fr0 f, h.2⟩
theorem RT.blt {P : Nat → Prop} {w : World} {A : Option Addr} {n : Nat} {l : List Tn} (h : RT P w A n l) (h0 : n ≠ 0) {k : Nat} (hk : blkOf A = some k) : k < w.heap.size := by
  obtain ⟨vs, h1, _⟩ := h
  exact h1.blt (by decide) h0 hk
theorem RD.step {D D' : Nat → Prop} {w w' : World} {A : Option Addr} {n : Nat} {l : List Tn} (h : RD D w A n l) (f : Fr D w w') (hD : ∀ k, D' k → D k ∨ w.heap.size ≤ k) : RD D' w' A n l := by
  have h1 := (h.1.mono (P' := fun k => ¬ D k ∧ k < w.heap.size) (fun k hk h => ⟨h, hk⟩)).fr f (fun k hk => hk.1) h.2
  refine ⟨h1.mono (fun k _ hk h' => ?_), fun h0 k hk h' => ?_⟩
  · rcases hD k h' with h'' | h''
    · exact hk.1 h''
    · have := hk.2; omega
  · have hb := h.1.blt h0 hk
    rcases hD k h' with h'' | h''
    · exact h.2 h0 k hk h''
    · omega
theorem RD.of {D : Nat → Prop} {w : World} {B : Nat} {A : Option Addr} {n c : Nat} {l : List Tn} (h : OT (fun k => ¬ D k) w B A n c l) (hD : ∀ k, D k → k < B) : RD D w A n l :=
  ⟨h.rt, fun _ k hk h' => by have := (h.blt hk).1; have := hD k h'; omega⟩
set_option maxRecDepth 10000 in
theorem rnew_calls {P : Nat → Prop} (A : Option Addr) (n c : Nat) (l : List Tn) (w : World) (h : RT P w A n l) (hn : n ≤ 1000000000) :
    Calls Try.prog 12 #[.slice A n c] w fun r w' => Fr (fun _ => False) w w' ∧ ∃ A' n' c', r = .returned (.slice A' n' c') ∧ OT P w' w.heap.size A' n' c' (newT l) := by
  refine (F12.of A n c w (Q := fun v w' => Fr (fun _ => False) w w' ∧ ∃ A' n' c', v = .slice A' n' c' ∧ OT P w' w.heap.size A' n' c' (newT l)) ?_).mono (fun e w' ⟨v, he, hf, a, b, d, hv, h⟩ => ⟨hf, a, b, d, by rw [he, hv], h⟩)
  have hl := h.len
  refine jnC_mk (loop_rule (fun s u => Fr (fun _ => False) w u ∧ ∃ (i : Nat) (A5 : Option Addr) (n5 c5 : Nat), i ≤ n ∧ s = ((A, n, c), (A5, n5, c5), (i : Int), ()) ∧ OT P u w.heap.size A5 n5 c5 (newT (l.take i)))
    (fun s _ => (n - s.2.2.1).toNat) ?_ _ _ ⟨Fr.refl _ _, 0, none, 0, 0, by omega, rfl, OT.nil _ _ _⟩)
  rintro s u C ⟨hf, i, A5, n5, c5, hi, rfl, hO⟩ hC _
  refine vIf_mk (fun hlt => ?_) (fun hge => ?_)
  · have hlt2 : (i : Int) < (n : Int) := of_decide_eq_true hlt
    have gi : l[i]? = some (l[i]'(by omega)) := List.getElem?_eq_getElem (by omega)
    generalize l[i]'(by omega) = x at gi
    have hlen := newT_len l i
    have h5 := hO.rt.len
    refine t_rd (h.fr0 hf) gi (fun b o cs hA hT hc => ⟨cs, hT.len, hc, (rset_calls A5 n5 c5 (newT (l.take i)) x cs u hO.rt (newT_asc l i) hT (by omega)).mono ?_⟩)
    rintro r u2 ⟨f2, A', n', c', rfl, h2⟩
    rw [← newT_step gi] at h2
    refine ⟨_, _, _, rfl, jnC_mk (hC _ _ ⟨hf.trans1 f2, i + 1, A', n', c', by omega, by rw [ei i (by omega)], h2.mono hf.size (fun _ _ h => h)⟩ ?_)⟩
    show ((n : Int) - IntKind.wrap .i64 ((i : Int) + 1)).toNat < ((n : Int) - (i : Int)).toNat
    rw [ei i (by omega)]; omega
  · have hge2 : ¬ (i : Int) < (n : Int) := of_decide_eq_false hge
    rw [List.take_of_length_le (by omega)] at hO
    exact ⟨hf, A5, n5, c5, rfl, hO⟩
theorem getR_take {nm : ByteArray} {l : List Tn} {i : Nat} {x : Tn} (gi : l[i]? = some x) (h : ∀ y ∈ l.take i, y.nm ≠ nm) (hx : x.nm = nm) : getR nm l = (x, true) := by
  rw [at_split gi]
  exact getR_snoc h hx
set_option maxRecDepth 10000 in
theorem rget_calls {P : Nat → Prop} (A : Option Addr) (n c : Nat) (l : List Tn) (nm : ByteArray) (w : World) (h : RT P w A n l) (hn : n ≤ 17179869184) :
    Calls Try.prog 17 #[.slice A n c, .string nm] w fun r w' => Fr (fun _ => False) w w' ∧ ∃ cs, r = .returned (.tuple #[ofL cs, .bool (getR nm l).2]) ∧ TnP P w' cs (getR nm l).1 := by
  refine (F17.of A n c nm w (Q := fun v w' => Fr (fun _ => False) w w' ∧ ∃ cs, v = .tuple #[ofL cs, .bool (getR nm l).2] ∧ TnP P w' cs (getR nm l).1) ?_).mono (fun e w' ⟨v, he, hf, cs, hv, h⟩ => ⟨hf, cs, by rw [he, hv], h⟩)
  have hl := h.len
  refine nw_mk ?_
  have f1 : Fr (fun _ => False) w (w.alloc (.cells Z34.toArray 34)) := Fr.alloc _ _ _
  have r1 := RecAt.new w Z34 34
  generalize w.alloc (.cells Z34.toArray 34) = w1 at f1 r1 ⊢
  have h := (h.mono (P' := fun k => P k ∧ k < w.heap.size) (fun k hk h => ⟨h, hk⟩)).fr0 f1
  refine jnC_mk (loop_rule (fun s u => u = w1 ∧ ∃ i : Nat, i ≤ n ∧ s = ((A, n, c), nm, (w.heap.size, 0), (i : Int), ()) ∧ ∀ y ∈ l.take i, y.nm ≠ nm)
    (fun s _ => (n - s.2.2.2.1).toNat) ?_ _ _ ⟨rfl, 0, by omega, rfl, by simp⟩)
  rintro s u C ⟨rfl, i, hi, rfl, hno⟩ hC _
  refine vIf_mk (fun hlt => ?_) (fun hge => ?_)
  · have hlt2 : (i : Int) < (n : Int) := of_decide_eq_true hlt
    have gi : l[i]? = some (l[i]'(by omega)) := List.getElem?_eq_getElem (by omega)
    generalize l[i]'(by omega) = x at gi
    refine t_rd h gi (fun b o cs hA hT hc => ⟨x.nm, c_nm hT hc, ?_⟩)
    refine vIf_mk (fun he => ?_) (fun he => ?_)
    all_goals
      have he : (x.nm.toList == nm.toList) = _ := he
      rw [neq] at he
    · have hg := getR_take gi hno (of_decide_eq_true he)
      rw [hg]
      refine t_rd h gi (fun b o cs hA hT hc => ⟨cs, hT.len, hc, gd_mk (by rw [hT.len]; rfl) (st_all r1 z35 hT.len hT.one (fun w4 f4 r4 => ⟨fr_own f1 f4 (Nat.le_refl _), _, rfl, ?_⟩))⟩)
      exact (hT.fr f4 (fun k hk h' => by have h' : k = w.heap.size := h'; have := hk.2; omega)).mono (fun k _ hk => hk.1)
    · refine jnC_mk (hC _ _ ⟨rfl, i + 1, by omega, by rw [ei i (by omega)], fun y hy => ?_⟩ ?_)
      · rw [List.take_add_one, gi] at hy
        rcases List.mem_append.1 hy with hy | hy
        · exact hno y hy
        · simp at hy; subst hy; exact of_decide_eq_false he
      · show ((n : Int) - IntKind.wrap .i64 ((i : Int) + 1)).toNat < ((n : Int) - (i : Int)).toNat
        rw [ei i (by omega)]; omega
  · have hge2 : ¬ (i : Int) < (n : Int) := of_decide_eq_false hge
    rw [List.take_of_length_le (by omega)] at hno
    rw [getR_none hno]
    exact gd_mk rfl (st_all r1 z35 rfl (zT.one none 0 0) (fun w4 f4 r4 => ⟨fr_own f1 f4 (Nat.le_refl _), _, rfl, zTp _⟩))
set_option maxRecDepth 10000 in
theorem rapply_calls {D : Nat → Prop} (A : Option Addr) (n c : Nat) (l : List Tn) (x : Wd) (w : World) (h : RD D w A n l) (ha : AscT l) (hn : n ≤ 1000000000) (hb : Bd 4294967295 l) (hx : x.d.length = 32) (hD : ∀ k, D k → k < w.heap.size) :
    Calls Try.prog 14 #[.slice A n c, ofL x.cs] w fun r w' => Fr (fun _ => False) w w' ∧ ∃ A' n' c', r = .returned (.slice A' n' c') ∧ RD D w' A' n' (applyL x l) := by
  refine (F14.of A n c x.cs w (Q := fun v w' => Fr (fun _ => False) w w' ∧ ∃ A' n' c', v = .slice A' n' c' ∧ RD D w' A' n' (applyL x l)) ?_).mono (fun e w' ⟨v, he, hf, a, b, d, hv, h⟩ => ⟨hf, a, b, d, by rw [he, hv], h⟩)
  have hxl := wd_len hx
  refine nw_mk ?_
  have f1 : Fr (fun _ => False) w (w.alloc (.cells x.cs.toArray 44)) := Fr.alloc _ _ _
  have r1 : RecAt (w.alloc (.cells x.cs.toArray 44)) w.heap.size 44 ([.int .i64 x.k, .int .u64 x.sq] ++ (x.d.map bv ++ [.string x.nm, .int .i64 x.z, .int .i64 x.s, .int .i64 x.o, .int .i64 x.q])) := RecAt.new _ _ _
  generalize w.alloc (.cells x.cs.toArray 44) = w1 at f1 r1 ⊢
  refine ⟨x.nm, rec_end r1 (bvl hx) (j := 0) rfl rfl, (rget_calls A n c l x.nm w1 (h.1.fr0 f1) (by omega)).mono ?_⟩
  rintro r w2 ⟨f2, cs2, rfl, h2⟩
  refine ⟨_, _, rfl, var_mk z35 h2.len h2.one (fun b8 u f3 r8 => ?_)⟩
  have f123 := (f1.trans1 f2).trans1 f3
  have r1 := r1.fr (f2.trans1 f3) (fun h => h)
  have hT := h.fr0 f123
  have h2u := h2.fr0 f3
  have hs := f123.size
  have hgb := getR_bd hb x.nm
  have put : ∀ (y : Tn) (cs : List Value) (v : World), Fr (fun _ => False) u v → TnP (fun k => u.heap.size ≤ k) v cs y → setR y l = applyL x l → Calls Try.prog 29 #[.slice A n c, ofL cs] v fun e w' => ∃ (A30 : Option Addr) (n31 c32 : Nat), e = .returned (Value.slice A30 n31 c32) ∧ (Fr (fun _ => False) w w' ∧ ∃ A' n' c', Value.slice A30 n31 c32 = .slice A' n' c' ∧ RD D w' A' n' (applyL x l)) := by
    intro y cs v fv hy hset
    have g := f123.trans1 fv
    have hsz := g.size
    refine (rset_calls A n c l y cs v (hT.fr0 fv).1 ha (hy.mono (fun k _ hk h' => by have := hD k h'; omega)) hn).mono ?_
    rintro r w' ⟨g2, A', n', c', rfl, h3⟩
    exact ⟨_, _, _, rfl, g.trans1 g2, A', n', c', rfl, by rw [← hset]; exact RD.of h3 (fun k hk => by have := hD k hk; omega)⟩
  have fin : ∀ t27 : Bool, ¬ x.k = 3 → t27 = decide (x.k = 4 ∧ (getR x.nm l).2 = true) → jnC (F14.k5 (fun v w' => Fr (fun _ => False) w w' ∧ ∃ A' n' c', v = .slice A' n' c' ∧ RD D w' A' n' (applyL x l))) ((A, n, c), (w.heap.size, 0), (b8, 0), t27, ()) u := by
    intro t27 h3 ht
    refine jnC_mk (fun _ => vIf_mk (fun h1 => ?_) (fun h1 => ?_))
    · have h1 : t27 = true := h1
      rw [h1] at ht
      refine ⟨cs2, h2.len, rec_all r8, x.cs, hxl, rec_all r1, (runt_calls _ x cs2 u h2u.at hx (by omega)).mono ?_⟩
      rintro r v ⟨fv, cs3, rfl, h6⟩
      exact ⟨_, rfl, put _ cs3 v fv h6 (by unfold applyL; rw [if_neg h3, if_pos (of_decide_eq_true ht.symm)])⟩
    · have h1 : t27 = false := h1
      rw [h1] at ht
      refine ⟨f123, A, n, c, rfl, ?_⟩
      have : applyL x l = l := by unfold applyL; rw [if_neg h3, if_neg (of_decide_eq_false ht.symm)]
      rw [this]; exact hT
  refine ⟨x.k, r1.cell rfl, vIf_mk (fun h3 => ?_) (fun h3 => ⟨x.k, r1.cell rfl, vIf_mk (fun h4 => fin _ (by simpa using h3) ?_) (fun h4 => fin _ (by simpa using h3) ?_)⟩)⟩
  · have h3 : x.k = 3 := by simpa using h3
    refine ⟨cs2, h2.len, rec_all r8, x.cs, hxl, rec_all r1, (rtag_calls _ x cs2 u h2u.at hx (by omega)).mono ?_⟩
    rintro r v ⟨fv, cs3, rfl, h6⟩
    exact ⟨_, rfl, put _ cs3 v fv h6 (by unfold applyL; rw [if_pos h3])⟩
  · have h4 : x.k = 4 := by simpa using h4
    rw [Bool.eq_iff_iff, decide_eq_true_iff]
    exact ⟨fun h => ⟨h4, h⟩, fun h => h.2⟩
  · have h4 : ¬ x.k = 4 := by simpa using h4
    rw [decide_eq_false (fun h => h4 h.1)]
set_option maxRecDepth 10000 in
theorem rkeepTab_calls {D : Nat → Prop} (A : Option Addr) (n c : Nat) (l : List Tn) (S : Option Addr) (m k : Nat) (sg : List Int) (w : World) (h : RD D w A n l) (hn : n ≤ 1000000000) (hb : Bd 4294967296 l) (hsg : Sl w 1 S m (ivs sg)) (hm : m ≤ 8589934592) (hD : ∀ k, D k → k < w.heap.size) :
    Calls Try.prog 16 #[.slice A n c, .slice S m k] w fun r w' => Fr (fun _ => False) w w' ∧ ∃ A' n' c', r = .returned (.slice A' n' c') ∧ RD D w' A' n' (keepL sg l) := by
  refine (F16.of A n c S m k w (Q := fun v w' => Fr (fun _ => False) w w' ∧ ∃ A' n' c', v = .slice A' n' c' ∧ RD D w' A' n' (keepL sg l)) ?_).mono (fun e w' ⟨v, he, hf, a, b, d, hv, h⟩ => ⟨hf, a, b, d, by rw [he, hv], h⟩)
  have hl := h.1.len
  refine jnC_mk (loop_rule (fun s u => Fr (fun _ => False) w u ∧ ∃ (i : Nat) (A5 : Option Addr) (c5 : Nat), i ≤ n ∧ s = ((A, n, c), (S, m, k), (A5, (keepL sg (l.take i)).length, c5), (i : Int), ()) ∧ OT (fun k => ¬ D k) u w.heap.size A5 (keepL sg (l.take i)).length c5 (keepL sg (l.take i)))
    (fun s _ => (n - s.2.2.2.1).toNat) ?_ _ _ ⟨Fr.refl _ _, 0, none, 0, by omega, rfl, OT.nil _ _ _⟩)
  rintro s u C ⟨hf, i, A5, c5, hi, rfl, hO⟩ hC _
  refine vIf_mk (fun hlt => ?_) (fun hge => ?_)
  · have hlt2 : (i : Int) < (n : Int) := of_decide_eq_true hlt
    have gi : l[i]? = some (l[i]'(by omega)) := List.getElem?_eq_getElem (by omega)
    generalize l[i]'(by omega) = x at gi
    have hstep := keepL_step (sg := sg) gi
    have hkl := keepL_len sg (l.take i)
    rw [List.length_take] at hkl
    have hmeas : ((n : Int) - IntKind.wrap .i64 ((i : Int) + 1)).toNat < ((n : Int) - (i : Int)).toNat := by rw [ei i (by omega)]; omega
    refine t_rd (h.fr0 hf).1 gi (fun b o cs hA hTn hc => ⟨cs, hTn.len, hc, (rkeepT_calls x cs S m k sg u hTn.at (sl_fr hsg hf) (hb.at gi) hm).mono ?_⟩)
    rintro r u2 ⟨g2, cs2, rfl, hT2⟩
    refine ⟨_, _, rfl, var_mk z35 hT2.len hT2.one (fun b17 u3 g3 r17 => ?_)⟩
    have g13 := g2.trans1 g3
    have hs := hf.size
    refine vIf_mk (fun hk => ⟨cs2, hT2.len, rec_all r17, pushT (hO.fr0 g13) ((hT2.fr0 g3).mono (fun k _ hk => ⟨fun h' => by have := (hO.blt h').2; omega, fun h' => by have := hD k h'; omega⟩)) (hf.trans1 g13).size (by show (keepL sg (l.take i)).length ≤ 1073741824; omega) (fun A' c' w' hO' f' hnew => ?_)⟩) (fun hk => ?_)
    · rw [if_pos hk] at hstep
      have hlen : (keepL sg (l.take i)).length + 1 = (keepL sg (l.take (i + 1))).length := by rw [hstep]; simp
      refine jnC_mk (hC _ _ ⟨(hf.trans1 g13).trans f' (fun _ _ h => h) (fun k hk h' => by have := (hO.blt h').1; omega), i + 1, A', c', by omega, by rw [ei i (by omega), hlen], by rw [← hlen, hstep]; exact hO'⟩ hmeas)
    · rw [if_neg (by rw [hk]; decide)] at hstep
      exact jnC_mk (hC _ _ ⟨hf.trans1 g13, i + 1, A5, c5, by omega, by rw [ei i (by omega), hstep], by rw [hstep]; exact hO.fr0 g13⟩ hmeas)
  · have hge2 : ¬ (i : Int) < (n : Int) := of_decide_eq_false hge
    rw [List.take_of_length_le (by omega)] at hO ⊢
    exact ⟨hf, A5, _, c5, rfl, RD.of hO hD⟩
theorem listL_step {after : ByteArray} {n : Int} {l : List Tn} {i : Nat} {e : Tn} (h : l[i]? = some e) : listL after n (l.take (i + 1)) = if e.g = false ∧ cmpN after e.nm < 0 ∧ ((listL after n (l.take i)).length : Int) < n then listL after n (l.take i) ++ [e.nm] else listL after n (l.take i) := by
  unfold listL
  rw [thereL_step h]
  cases hg : e.g with
  | true => rw [if_pos rfl, if_neg (fun h => by cases h.1)]
  | false =>
    rw [if_neg (by decide), namesB_app]
    by_cases h1 : cmpN after e.nm < 0
    · rw [if_pos h1, take_push]
      by_cases h2 : ((namesB after (thereL (l.take i))).take n.toNat).length < n.toNat
      · rw [if_pos h2, if_pos ⟨rfl, h1, by omega⟩]
      · rw [if_neg h2, if_neg (fun h => h2 (by have := h.2.2; omega))]
    · rw [if_neg h1, if_neg (fun h => h1 h.2.1)]
theorem listL_len (after : ByteArray) (n : Int) (l : List Tn) : (listL after n l).length ≤ l.length := by
  unfold listL
  rw [List.length_take]
  have := namesB_len after (thereL l)
  have := thereL_len l
  omega
set_option maxRecDepth 10000 in
theorem rlist_calls {P : Nat → Prop} (A : Option Addr) (n c : Nat) (l : List Tn) (after : ByteArray) (m : Int) (w : World) (h : RT P w A n l) (hn : n ≤ 1000000000) :
    Calls Try.prog 20 #[.slice A n c, .string after, .int .i64 m] w fun r w' => Fr (fun _ => False) w w' ∧ ∃ A' c', r = .returned (.slice A' (listL after m l).length c') ∧ Row w' w.heap.size 9 1 A' (listL after m l).length c' (svs (listL after m l)) := by
  refine (F20.of A n c after m w (Q := fun v w' => Fr (fun _ => False) w w' ∧ ∃ A' c', v = .slice A' (listL after m l).length c' ∧ Row w' w.heap.size 9 1 A' (listL after m l).length c' (svs (listL after m l))) ?_).mono (fun e w' ⟨v, he, hf, a, b, hv, h⟩ => ⟨hf, a, b, by rw [he, hv], h⟩)
  have hl := h.len
  refine jnC_mk (loop_rule (fun s u => Fr (fun _ => False) w u ∧ ∃ (i : Nat) (A5 : Option Addr) (c5 : Nat), i ≤ n ∧ s = ((A, n, c), after, m, (A5, (listL after m (l.take i)).length, c5), (i : Int), ()) ∧ Row u w.heap.size 9 1 A5 (listL after m (l.take i)).length c5 (svs (listL after m (l.take i))))
    (fun s _ => (n - s.2.2.2.2.1).toNat) ?_ _ _ ⟨Fr.refl _ _, 0, none, 0, by omega, by simp [listL, namesB, thereL], by simp [listL, namesB, thereL, svs]; exact Row.nil _ _ _ _⟩)
  rintro s u C ⟨hf, i, A5, c5, hi, rfl, hr⟩ hC _
  refine vIf_mk (fun hlt => ?_) (fun hge => ?_)
  · have hlt2 : (i : Int) < (n : Int) := of_decide_eq_true hlt
    have gi : l[i]? = some (l[i]'(by omega)) := List.getElem?_eq_getElem (by omega)
    generalize l[i]'(by omega) = x at gi
    have hstep := listL_step (after := after) (n := m) gi
    have hfl := listL_len after m (l.take i)
    rw [List.length_take] at hfl
    have hmeas : ((n : Int) - IntKind.wrap .i64 ((i : Int) + 1)).toNat < ((n : Int) - (i : Int)).toNat := by rw [ei i (by omega)]; omega
    have hu := h.fr0 hf
    have fin : ∀ tk : Bool, tk = decide (x.g = false ∧ cmpN after x.nm < 0 ∧ ((listL after m (l.take i)).length : Int) < m) → jnC (F20.k6 (fun v w' => Fr (fun _ => False) w w' ∧ ∃ A' c', v = .slice A' (listL after m l).length c' ∧ Row w' w.heap.size 9 1 A' (listL after m l).length c' (svs (listL after m l))) C) ((A, n, c), after, m, (A5, (listL after m (l.take i)).length, c5), (i : Int), tk, ()) u := by
      intro tk htk
      refine jnC_mk (fun _ => vIf_mk (fun h1 => t_rd hu gi (fun b o cs hA hT hc => ⟨x.nm, c_nm hT hc, ?_⟩)) (fun h1 => ?_))
      · have h1 : tk = true := h1
        rw [h1] at htk
        rw [if_pos (of_decide_eq_true htk.symm)] at hstep
        have hlen : (listL after m (l.take i)).length + 1 = (listL after m (l.take (i + 1))).length := by rw [hstep]; simp
        refine push_s hr hf.size (by show (listL after m (l.take i)).length ≤ _; omega) (fun A' c' w' hr' f' => jnC_mk (hC _ _ ⟨own_fr hf hr f', i + 1, A', c', by omega, by rw [ei i (by omega), ← hlen], by rw [← hlen, hstep]; exact hr'⟩ hmeas))
      · have h1 : tk = false := h1
        rw [h1] at htk
        rw [if_neg (of_decide_eq_false htk.symm)] at hstep
        exact jnC_mk (hC _ _ ⟨hf, i + 1, A5, c5, by omega, by rw [ei i (by omega), hstep], by rw [hstep]; exact hr⟩ hmeas)
    refine t_rd hu gi (fun b o cs hA hT hc => ⟨x.g, c_gone hT hc, vIf_mk (fun hg => t_rd hu gi (fun b o cs hA hT hc => ⟨x.nm, c_nm hT hc, ?_⟩)) (fun hg => fin _ ?_)⟩)
    · have hg : x.g = false := by simpa using hg
      refine vIf_mk (fun h0 => fin _ ?_) (fun h0 => fin _ ?_)
      all_goals
        have h0 : Op.bytesLess after.toList x.nm.toList = _ := h0
        rw [nlt] at h0
      · have h0 := of_decide_eq_true h0
        exact decide_eq_decide.2 ⟨fun h => ⟨hg, h0, h⟩, fun h => h.2.2⟩
      · have h0 := of_decide_eq_false h0
        rw [decide_eq_false (fun h => h0 h.2.1)]
    · have hg : x.g = true := by simpa using hg
      rw [decide_eq_false (fun h => by rw [hg] at h; cases h.1)]
  · have hge2 : ¬ (i : Int) < (n : Int) := of_decide_eq_false hge
    rw [List.take_of_length_le (by omega)] at hr ⊢
    exact ⟨hf, A5, c5, rfl, hr⟩
theorem nameD_step {l : List Tn} {i : Nat} {e : Tn} (h : l[i]? = some e) : digL (thereL (l.take (i + 1))) = if e.g then digL (thereL (l.take i)) else digL (thereL (l.take i)) ++ [e.d] := by
  rw [thereL_step h]
  cases e.g
  · simp [digL]
  · rfl
set_option maxRecDepth 10000 in
theorem rnames_calls {P : Nat → Prop} (A : Option Addr) (n c : Nat) (l : List Tn) (w : World) (h : RT P w A n l) (hn : n ≤ 1000000000) :
    Calls Try.prog 19 #[.slice A n c] w fun r w' => Fr (fun _ => False) w w' ∧ ∃ A' c', r = .returned (.slice A' (digL (thereL l)).length c') ∧ Row w' w.heap.size 29 32 A' (digL (thereL l)).length c' (dcs (digL (thereL l))) := by
  refine (F19.of A n c w (Q := fun v w' => Fr (fun _ => False) w w' ∧ ∃ A' c', v = .slice A' (digL (thereL l)).length c' ∧ Row w' w.heap.size 29 32 A' (digL (thereL l)).length c' (dcs (digL (thereL l)))) ?_).mono (fun e w' ⟨v, he, hf, a, b, hv, h⟩ => ⟨hf, a, b, by rw [he, hv], h⟩)
  have hl := h.len
  refine jnC_mk (loop_rule (fun s u => Fr (fun _ => False) w u ∧ ∃ (i : Nat) (A5 : Option Addr) (c5 : Nat), i ≤ n ∧ s = ((A, n, c), (A5, (digL (thereL (l.take i))).length, c5), (i : Int), ()) ∧ Row u w.heap.size 29 32 A5 (digL (thereL (l.take i))).length c5 (dcs (digL (thereL (l.take i)))))
    (fun s _ => (n - s.2.2.1).toNat) ?_ _ _ ⟨Fr.refl _ _, 0, none, 0, by omega, rfl, Row.nil _ _ _ _⟩)
  rintro s u C ⟨hf, i, A5, c5, hi, rfl, hr⟩ hC _
  refine vIf_mk (fun hlt => ?_) (fun hge => ?_)
  · have hlt2 : (i : Int) < (n : Int) := of_decide_eq_true hlt
    have gi : l[i]? = some (l[i]'(by omega)) := List.getElem?_eq_getElem (by omega)
    generalize l[i]'(by omega) = x at gi
    have hstep := nameD_step gi
    have hfl : (digL (thereL (l.take i))).length ≤ i := by
      rw [digL_len]
      have := thereL_len (l.take i)
      rw [List.length_take] at this
      omega
    have hmeas : ((n : Int) - IntKind.wrap .i64 ((i : Int) + 1)).toNat < ((n : Int) - (i : Int)).toNat := by rw [ei i (by omega)]; omega
    have hu := h.fr0 hf
    refine t_rd hu gi (fun b o cs hA hT hc => ⟨x.g, c_gone hT hc, vIf_mk (fun hg => t_rd hu gi (fun b o cs hA hT hc => ⟨x.d.map bv, bvl hT.dl, c_dig hT hc, gd_mk (len1 hT.dl) ?_⟩)) (fun hg => ?_)⟩)
    · have hg : x.g = false := by simpa using hg
      rw [if_neg (by rw [hg]; decide)] at hstep
      have hlen : (digL (thereL (l.take i))).length + 1 = (digL (thereL (l.take (i + 1)))).length := by rw [hstep]; simp
      refine push_dig hr hT.dl hf.size (by show (digL (thereL (l.take i))).length ≤ _; omega) (fun A' c' w' hr' f' => jnC_mk (hC _ _ ⟨own_fr hf hr f', i + 1, A', c', by omega, by rw [ei i (by omega), ← hlen], by rw [← hlen, hstep]; exact hr'⟩ hmeas))
    · have hg : x.g = true := by simpa using hg
      rw [if_pos hg] at hstep
      exact jnC_mk (hC _ _ ⟨hf, i + 1, A5, c5, by omega, by rw [ei i (by omega), hstep], by rw [hstep]; exact hr⟩ hmeas)
  · have hge2 : ¬ (i : Int) < (n : Int) := of_decide_eq_false hge
    rw [List.take_of_length_le (by omega)] at hr ⊢
    exact ⟨hf, A5, c5, rfl, hr⟩
/-! ### the same -/
theorem sameL_calls {P P' : Nat → Prop} (A : Option Addr) (n c : Nat) (A' : Option Addr) (n' c' : Nat) (l : List Tn) (w : World) (h : RT P w A n l) (h' : RT P' w A' n' l) (hn : n ≤ 1000000000) (hb : Bd 4294967296 l) :
    Calls Try.prog 23 #[.slice A n c, .slice A' n' c'] w fun r w' => r = .returned (.bool true) ∧ Fr (fun _ => False) w w' := by
  refine (F23.of A n c A' n' c' w (Q := fun v w' => v = .bool true ∧ Fr (fun _ => False) w w') ?_).mono (fun e w' ⟨v, he, hv, h⟩ => ⟨by rw [he, hv], h⟩)
  have hl := h.len
  have hl' := h'.len
  have : n = n' := by omega
  subst this
  refine vIf_f (by simp) (jnC_mk (loop_rule (fun s u => Fr (fun _ => False) w u ∧ ∃ i : Nat, i ≤ n ∧ s = ((A, n, c), (A', n, c'), (i : Int), ())) (fun s _ => (n - s.2.2.1).toNat) ?_ _ _ ⟨Fr.refl _ _, 0, by omega, rfl⟩))
  rintro s u C ⟨hf, i, hi, rfl⟩ hC _
  refine vIf_mk (fun hlt => ?_) (fun hge => ?_)
  · have hlt2 : (i : Int) < (n : Int) := of_decide_eq_true hlt
    have gi : l[i]? = some (l[i]'(by omega)) := List.getElem?_eq_getElem (by omega)
    generalize l[i]'(by omega) = x at gi
    have fd := hf.trans1 (Fr.drew _ u)
    refine t_rd (h.fr0 fd) gi (fun b o cs hA hT hc => ⟨cs, hT.len, hc, t_rd (h'.fr0 fd) gi (fun b' o' cs' hA' hT' hc' => ⟨cs', hT'.len, hc', (sameT_calls x cs cs' u.drew hT.at hT'.at (by have := hb.at gi; omega)).mono ?_⟩)⟩)
    rintro r u2 ⟨rfl, f2⟩
    refine ⟨_, rfl, vIf_f rfl (jnC_mk (hC _ _ ⟨fd.trans1 f2, i + 1, by omega, by rw [ei i (by omega)]⟩ ?_))⟩
    show ((n : Int) - IntKind.wrap .i64 ((i : Int) + 1)).toNat < ((n : Int) - (i : Int)).toNat
    rw [ei i (by omega)]; omega
  · exact ⟨rfl, hf⟩
theorem texts_calls (A : Option Addr) (n c : Nat) (A' : Option Addr) (n' c' : Nat) (l : List ByteArray) (w : World) (h : Sl w 1 A n (svs l)) (h' : Sl w 1 A' n' (svs l)) (hn : n ≤ 1000000000) :
    Calls Try.prog 10 #[.slice A n c, .slice A' n' c'] w fun r w' => r = .returned (.bool true) ∧ Fr (fun _ => False) w w' := by
  refine (F10.of A n c A' n' c' w (Q := fun v w' => v = .bool true ∧ Fr (fun _ => False) w w') ?_).mono (fun e w' ⟨v, he, hv, h⟩ => ⟨by rw [he, hv], h⟩)
  have hl := ss_n h
  have hl' := ss_n h'
  have : n = n' := by omega
  subst this
  refine vIf_f (by simp) (jnC_mk (loop_rule (fun s u => Fr (fun _ => False) w u ∧ ∃ i : Nat, i ≤ n ∧ s = ((A, n, c), (A', n, c'), (i : Int), ())) (fun s _ => (n - s.2.2.1).toNat) ?_ _ _ ⟨Fr.refl _ _, 0, by omega, rfl⟩))
  rintro s u C ⟨hf, i, hi, rfl⟩ hC _
  refine vIf_mk (fun hlt => ?_) (fun hge => ?_)
  · have hlt2 : (i : Int) < (n : Int) := of_decide_eq_true hlt
    have gi : l[i]? = some (l[i]'(by omega)) := List.getElem?_eq_getElem (by omega)
    generalize l[i]'(by omega) = x at gi
    have fd := hf.trans1 (Fr.drew _ u)
    refine ss_rd (fd.sl h (fun _ _ _ h => h)) (by omega) gi (ss_rd (fd.sl h' (fun _ _ _ h => h)) (by omega) gi (vIf_f (by simp) (jnC_mk (hC _ _ ⟨fd, i + 1, by omega, by rw [ei i (by omega)]⟩ ?_))))
    show ((n : Int) - IntKind.wrap .i64 ((i : Int) + 1)).toNat < ((n : Int) - (i : Int)).toNat
    rw [ei i (by omega)]; omega
  · exact ⟨rfl, hf⟩
end Go.Proofs.Ytklanoocjlpemaa
