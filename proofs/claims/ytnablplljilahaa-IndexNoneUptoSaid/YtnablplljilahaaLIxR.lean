/- an index, by the document: Set, New, Get, Apply, Keep, Count, Same -/
import Derived.Test.YtnablplljilahaaLIxT
import Derived.Test.YtnablplljilahaaLDLess
namespace Go.Proofs.Ytnablplljilahaa
open Go.GV Go.RowKit Go.Lib
set_option linter.unusedVariables false
set_option linter.unusedSimpArgs false
def SetStE (P : Nat → Prop) (w : World) (cs : List Value) (v : World) (B5 : Option Addr) (k5 : Nat) (o : List En) : Prop := Fr (fun _ => False) w v ∧ RecAt v w.heap.size 42 cs ∧ OE (fun k => P k ∧ k < w.heap.size) v (w.heap.size + 1) B5 o.length k5 o
theorem SetStE.drew {P : Nat → Prop} {w : World} {cs : List Value} {v : World} {B5 : Option Addr} {k5 : Nat} {o : List En} (h : SetStE P w cs v B5 k5 o) : SetStE P w cs v.drew B5 k5 o :=
  ⟨h.1.trans1 (Fr.drew _ _), h.2.1, h.2.2.fr0 (Fr.drew _ _)⟩
theorem set_pushE {P : Nat → Prop} {w : World} {cs : List Value} {v : World} {B5 : Option Addr} {k5 : Nat} {o : List En} {y : En} {ys : List Value} {K : Option Addr → Nat → Nat → World → Prop} (h : SetStE P w cs v B5 k5 o) (hy : EnP (fun k => P k ∧ k < w.heap.size) v ys y) (ho : o.length ≤ 1073741824)
    (hK : ∀ A' c' w', SetStE P w cs w' A' c' (o ++ [y]) → K A' (o ++ [y]).length c' w') :
    gd (ys.length == 38) (nw v (ys ++ []) 42 fun b w' => app w' 38 96 Z42 42 B5 o.length k5 (.slice (some ⟨b, 0, none⟩) 1 1) K) := by
  obtain ⟨hf, r1, hO⟩ := h
  have hlt := r1.lt
  refine pushE hO (hy.mono (fun k _ hk => ⟨fun h' => by have := (hO.blt h').1; have := hk.2; omega, hk⟩)) (by omega) ho (fun A' c' w' hO' f' hnew => ?_)
  have hlen : o.length + 1 = (o ++ [y]).length := by simp
  rw [hlen] at hO' ⊢
  exact hK A' c' w' ⟨hf.trans f' (fun _ _ h => h) (fun k hk h' => by have := (hO.blt h').1; omega), r1.fr f' (fun h' => by have := (hO.blt h').1; omega), hO'⟩
theorem SetStE.fr0 {P : Nat → Prop} {w : World} {cs : List Value} {v v' : World} {B5 : Option Addr} {k5 : Nat} {o : List En} (h : SetStE P w cs v B5 k5 o) (f : Fr (fun _ => False) v v') : SetStE P w cs v' B5 k5 o :=
  ⟨h.1.trans1 f, h.2.1.fr f (fun h => h), h.2.2.fr0 f⟩
set_option maxHeartbeats 1000000 in
set_option maxRecDepth 10000 in
theorem rset_calls {P : Nat → Prop} (A : Option Addr) (n c : Nat) (l : List En) (e : En) (cs : List Value) (w : World) (h : RE P w A n l) (ha : AscE l) (he : EnP P w cs e) (hn : n ≤ 1000000000) :
    Calls Try.prog 23 #[.slice A n c, ofL cs] w fun r w' => Fr (fun _ => False) w w' ∧ ∃ A' n' c', r = .returned (.slice A' n' c') ∧ OE P w' w.heap.size A' n' c' (setE e l) := by
  refine (F23.of A n c cs w (Q := fun v w' => Fr (fun _ => False) w w' ∧ ∃ A' n' c', v = .slice A' n' c' ∧ OE P w' w.heap.size A' n' c' (setE e l)) ?_).mono (fun e w' ⟨v, he, hf, a, b, d, hv, h⟩ => ⟨hf, a, b, d, by rw [he, hv], h⟩)
  have hl := h.len
  have hset : setFE e (l.foldl (setSE e) ([], false)) = setE e l := setSE_fold e l [] ha
  have h := h.mono (P' := fun k => P k ∧ k < w.heap.size) (fun k hk h => ⟨h, hk⟩)
  have he := he.mono (P' := fun k => P k ∧ k < w.heap.size) (fun k hk h => ⟨h, hk⟩)
  refine nw_mk ?_
  have f1 : Fr (fun _ => False) w (w.alloc (.cells cs.toArray 42)) := Fr.alloc _ _ _
  have r1 := RecAt.new w cs 42
  generalize w.alloc (.cells cs.toArray 42) = w1 at f1 r1 ⊢
  have fin : ∀ (v : World) (B5 : Option Addr) (k5 : Nat) (o : List En), SetStE P w cs v B5 k5 o → o = setE e l → (Fr (fun _ => False) w v ∧ ∃ A' n' c', Value.slice B5 o.length k5 = .slice A' n' c' ∧ OE P v w.heap.size A' n' c' (setE e l)) := fun v B5 k5 o h ho => ⟨h.1, B5, _, k5, rfl, by rw [← ho]; exact h.2.2.mono (by omega) (fun k _ hk => hk.1)⟩
  refine jnC_mk (loop_rule (fun s u => ∃ (i : Nat) (out : List En) (dn : Bool) (A5 : Option Addr) (c5 : Nat), i ≤ n ∧ s = ((A, n, c), (w.heap.size, 0), (A5, out.length, c5), dn, (i : Int), ()) ∧ SetStE P w cs u A5 c5 out ∧ (l.take i).foldl (setSE e) ([], false) = (out, dn))
    (fun s _ => (n - s.2.2.2.2.1).toNat) ?_ _ _ ⟨0, [], false, none, 0, by omega, rfl, ⟨f1, r1, OE.nil _ _ _⟩, by simp⟩)
  rintro s u C ⟨i, out, dn, A5, c5, hi, rfl, hS, hinv⟩ hC _
  have hol : out.length ≤ i + 1 := by
    have := setSE_len e (l.take i) ([], false)
    rw [hinv, List.length_take] at this
    simp at this; omega
  refine vIf_mk (fun hlt => ?_) (fun hge => ?_)
  · have hlt2 : (i : Int) < (n : Int) := of_decide_eq_true hlt
    have gi : l[i]? = some (l[i]'(by omega)) := List.getElem?_eq_getElem (by omega)
    generalize l[i]'(by omega) = x at gi
    have hmeas : ((n : Int) - IntKind.wrap .i64 ((i : Int) + 1)).toNat < ((n : Int) - (i : Int)).toNat := by rw [ei i (by omega)]; omega
    have hsn : (l.take (i + 1)).foldl (setSE e) ([], false) = setSE e (out, dn) x := by rw [List.take_add_one, gi, List.foldl_append, hinv]; rfl
    -- the second half of a step
    have last : ∀ (u2 : World) (o2 : List En) (d2 : Bool) (A2 : Option Addr) (c2 : Nat), SetStE P w cs u2 A2 c2 o2 → o2.length ≤ i + 2 → setSE e (out, dn) x = (if x.d = e.d then o2 else o2 ++ [x], d2) →
        jnC (F23.k9 (fun v w' => Fr (fun _ => False) w w' ∧ ∃ A' n' c', v = .slice A' n' c' ∧ OE P w' w.heap.size A' n' c' (setE e l)) C) ((A, n, c), (w.heap.size, 0), (A2, o2.length, c2), d2, (i : Int), ()) u2 := by
      intro u2 o2 d2 A2 c2 h2 ho2 hst
      refine jnC_mk (fun _ => ?_)
      have h2d := h2.drew
      refine e_rd (h.fr0 h2d.1) gi (fun b o ys hA hT hc => ⟨x.d.map bv, bvl hT.dl, e_dig hT hc, e.d.map bv, bvl he.dl, e_dig he (rec_all h2d.2.1), x.d, e.d, hT.dl, he.dl, rfl, rfl, vIf_mk (fun hne => ?_) (fun heq => ?_)⟩)
      · have hne : ¬ x.d = e.d := by simpa using hne
        rw [if_neg hne] at hst
        refine e_rd (h.fr0 h2d.1) gi (fun b o ys hA hT hc => ⟨ys, hT.len, hc, set_pushE h2d hT (by omega) (fun A' c' w' h' => jnC_mk (hC _ _ ⟨i + 1, _, d2, A', c', by omega, by rw [ei i (by omega)], h', by rw [hsn, hst]⟩ hmeas))⟩)
      · have heq : x.d = e.d := by simpa using heq
        rw [if_pos heq] at hst
        exact jnC_mk (hC _ _ ⟨i + 1, o2, d2, A2, c2, by omega, by rw [ei i (by omega)], h2d, by rw [hsn, hst]⟩ hmeas)
    have hSd := hS.drew
    cases dn with
    | true =>
      refine vIf_f rfl (jnC_mk (fun _ => vIf_f rfl ?_))
      exact last u.drew out true A5 c5 hSd (by omega) (by simp [setSE])
    | false =>
      refine vIf_t rfl (e_rd (h.fr0 hSd.1) gi (fun b o ys hA hT hc => ⟨x.d.map bv, bvl hT.dl, e_dig hT hc, e.d.map bv, bvl he.dl, e_dig he (rec_all hSd.2.1), (Dg.less_calls x.d e.d u.drew hT.dl he.dl).mono ?_⟩))
      rintro r u7 ⟨rfl, f7⟩
      have hS7 := hSd.fr0 f7
      refine ⟨_, rfl, jnC_mk (fun _ => vIf_mk (fun h1 => ?_) (fun h1 => ?_))⟩
      · have h1 : ¬ cmpD x.d e.d < 0 := by
          have h1 : (!decide (compareBytes x.d e.d < 0)) = true := h1
          simpa [cmpD] using h1
        refine ⟨cs, he.len, rec_all hS7.2.1, set_pushE hS7 (he.fr0 hS7.1) (by omega) (fun A' c' w' h' => ?_)⟩
        exact last w' (out ++ [e]) true A' c' h' (by simp; omega) (by simp [setSE, h1])
      · have h1 : cmpD x.d e.d < 0 := by
          have h1 : (!decide (compareBytes x.d e.d < 0)) = false := h1
          simpa [cmpD] using h1
        exact last u7 out false A5 c5 hS7 (by omega) (by simp [setSE, h1])
  · have hge2 : ¬ (i : Int) < (n : Int) := of_decide_eq_false hge
    rw [List.take_of_length_le (by omega)] at hinv
    rw [hinv] at hset
    cases dn with
    | true => exact vIf_f rfl (fin _ _ _ _ hS hset)
    | false => exact vIf_t rfl ⟨cs, he.len, rec_all hS.2.1, set_pushE hS (he.fr0 hS.1) (by omega) (fun A' c' w' h' => fin _ _ _ _ h' hset)⟩
/-- the document's table: off the blocks D -/
def RDE (D : Nat → Prop) (w : World) (A : Option Addr) (n : Nat) (l : List En) : Prop := RE (fun k => ¬ D k) w A n l ∧ (n ≠ 0 → ∀ k, blkOf A = some k → ¬ D k)
theorem RDE.fr0 {D : Nat → Prop} {w w' : World} {A : Option Addr} {n : Nat} {l : List En} (h : RDE D w A n l) (f : Fr (fun _ => False) w w') : RDE D w' A n l := ⟨h.1.fr0 f, h.2⟩
theorem RE.blt {P : Nat → Prop} {w : World} {A : Option Addr} {n : Nat} {l : List En} (h : RE P w A n l) (h0 : n ≠ 0) {k : Nat} (hk : blkOf A = some k) : k < w.heap.size := by
  obtain ⟨vs, h1, _⟩ := h
  exact h1.blt (by decide) h0 hk
theorem RDE.step {D D' : Nat → Prop} {w w' : World} {A : Option Addr} {n : Nat} {l : List En} (h : RDE D w A n l) (f : Fr D w w') (hD : ∀ k, D' k → D k ∨ w.heap.size ≤ k) : RDE D' w' A n l := by
  have h1 := (h.1.mono (P' := fun k => ¬ D k ∧ k < w.heap.size) (fun k hk h => ⟨h, hk⟩)).fr f (fun k hk => hk.1) h.2
  refine ⟨h1.mono (fun k _ hk h' => ?_), fun h0 k hk h' => ?_⟩
  · rcases hD k h' with h'' | h''
    · exact hk.1 h''
    · have := hk.2; omega
  · have hb := h.1.blt h0 hk
    rcases hD k h' with h'' | h''
    · exact h.2 h0 k hk h''
    · omega
theorem RDE.of {D : Nat → Prop} {w : World} {B : Nat} {A : Option Addr} {n c : Nat} {l : List En} (h : OE (fun k => ¬ D k) w B A n c l) (hD : ∀ k, D k → k < B) : RDE D w A n l :=
  ⟨h.rt, fun _ k hk h' => by have := (h.blt hk).1; have := hD k h'; omega⟩
set_option maxRecDepth 10000 in
theorem rnew_calls {P : Nat → Prop} (A : Option Addr) (n c : Nat) (l : List En) (w : World) (h : RE P w A n l) (hn : n ≤ 1000000000) :
    Calls Try.prog 7 #[.slice A n c] w fun r w' => Fr (fun _ => False) w w' ∧ ∃ A' n' c', r = .returned (.slice A' n' c') ∧ OE P w' w.heap.size A' n' c' (newE l) := by
  refine (F7.of A n c w (Q := fun v w' => Fr (fun _ => False) w w' ∧ ∃ A' n' c', v = .slice A' n' c' ∧ OE P w' w.heap.size A' n' c' (newE l)) ?_).mono (fun e w' ⟨v, he, hf, a, b, d, hv, h⟩ => ⟨hf, a, b, d, by rw [he, hv], h⟩)
  have hl := h.len
  refine jnC_mk (loop_rule (fun s u => Fr (fun _ => False) w u ∧ ∃ (i : Nat) (A5 : Option Addr) (n5 c5 : Nat), i ≤ n ∧ s = ((A, n, c), (A5, n5, c5), (i : Int), ()) ∧ OE P u w.heap.size A5 n5 c5 (newE (l.take i)))
    (fun s _ => (n - s.2.2.1).toNat) ?_ _ _ ⟨Fr.refl _ _, 0, none, 0, 0, by omega, rfl, OE.nil _ _ _⟩)
  rintro s u C ⟨hf, i, A5, n5, c5, hi, rfl, hO⟩ hC _
  refine vIf_mk (fun hlt => ?_) (fun hge => ?_)
  · have hlt2 : (i : Int) < (n : Int) := of_decide_eq_true hlt
    have gi : l[i]? = some (l[i]'(by omega)) := List.getElem?_eq_getElem (by omega)
    generalize l[i]'(by omega) = x at gi
    have hlen := newE_len l i
    have h5 := hO.rt.len
    refine e_rd (h.fr0 hf) gi (fun b o cs hA hT hc => ⟨cs, hT.len, hc, (rset_calls A5 n5 c5 (newE (l.take i)) x cs u hO.rt (newE_asc l i) hT (by omega)).mono ?_⟩)
    rintro r u2 ⟨f2, A', n', c', rfl, h2⟩
    rw [← newE_step gi] at h2
    refine ⟨_, _, _, rfl, jnC_mk (hC _ _ ⟨hf.trans1 f2, i + 1, A', n', c', by omega, by rw [ei i (by omega)], h2.mono hf.size (fun _ _ h => h)⟩ ?_)⟩
    show ((n : Int) - IntKind.wrap .i64 ((i : Int) + 1)).toNat < ((n : Int) - (i : Int)).toNat
    rw [ei i (by omega)]; omega
  · have hge2 : ¬ (i : Int) < (n : Int) := of_decide_eq_false hge
    rw [List.take_of_length_le (by omega)] at hO
    exact ⟨hf, A5, n5, c5, rfl, hO⟩
theorem getE_take {dg : List UInt8} {l : List En} {i : Nat} {x : En} (gi : l[i]? = some x) (h : ∀ y ∈ l.take i, y.d ≠ dg) (hx : x.d = dg) : getE dg l = (x, true) := by
  rw [at_splitE gi]
  exact getE_snoc h hx
set_option maxRecDepth 10000 in
theorem rget_calls {P : Nat → Prop} (A : Option Addr) (n c : Nat) (l : List En) (dg : List UInt8) (w : World) (h : RE P w A n l) (hd : dg.length = 32) (hn : n ≤ 17179869184) :
    Calls Try.prog 13 #[.slice A n c, ofL (dg.map bv)] w fun r w' => Fr (fun _ => False) w w' ∧ ∃ cs, r = .returned (.tuple #[ofL cs, .bool (getE dg l).2]) ∧ EnP P w' cs (getE dg l).1 := by
  refine (F13.of A n c (dg.map bv) w (Q := fun v w' => Fr (fun _ => False) w w' ∧ ∃ cs, v = .tuple #[ofL cs, .bool (getE dg l).2] ∧ EnP P w' cs (getE dg l).1) ?_).mono (fun e w' ⟨v, he, hf, cs, hv, h⟩ => ⟨hf, cs, by rw [he, hv], h⟩)
  have hl := h.len
  refine nw2 (fun b1 b3 u f r1 r3 hb1w hb3w n13 => ?_)
  have h := (h.mono (P' := fun k => P k ∧ k < w.heap.size) (fun k hk h => ⟨h, hk⟩)).fr0 f
  refine jnC_mk (loop_rule (fun s v => Fr (fun _ => False) u v ∧ ∃ i : Nat, i ≤ n ∧ s = ((A, n, c), (b1, 0), (b3, 0), (i : Int), ()) ∧ ∀ y ∈ l.take i, y.d ≠ dg)
    (fun s _ => (n - s.2.2.2.1).toNat) ?_ _ _ ⟨Fr.refl _ _, 0, by omega, rfl, by simp⟩)
  rintro s v C ⟨g, i, hi, rfl, hno⟩ hC _
  refine vIf_mk (fun hlt => ?_) (fun hge => ?_)
  · have hlt2 : (i : Int) < (n : Int) := of_decide_eq_true hlt
    have gi : l[i]? = some (l[i]'(by omega)) := List.getElem?_eq_getElem (by omega)
    generalize l[i]'(by omega) = x at gi
    have gd1 := g.trans1 (Fr.drew _ v)
    have hv := h.fr0 gd1
    have q1 := r1.fr gd1 (fun h => h)
    have q3 := r3.fr gd1 (fun h => h)
    generalize v.drew = v at gd1 hv q1 q3 ⊢
    refine e_rd hv gi (fun b o cs hA hT hc => ⟨x.d.map bv, bvl hT.dl, e_dig hT hc, dg.map bv, bvl hd, rec_all q1, x.d, dg, hT.dl, hd, rfl, rfl, vIf_mk (fun he => ?_) (fun he => ?_)⟩)
    · have he : x.d = dg := by simpa using he
      have hg := getE_take gi hno he
      rw [hg]
      refine e_rd hv gi (fun b o cs hA hT hc => ⟨cs, hT.len, hc, gd_mk (by rw [hT.len]; rfl) (st_all q3 z28 hT.len hT.one (fun w4 f4 r4 => ⟨fr_own (f.trans1 gd1) f4 hb3w, _, rfl, ?_⟩))⟩)
      exact (hT.fr f4 (fun k hk h' => by have h' : k = b3 := h'; have := hk.2; omega)).mono (fun k _ hk => hk.1)
    · have he : x.d ≠ dg := by simpa using he
      refine jnC_mk (hC _ _ ⟨gd1, i + 1, by omega, by rw [ei i (by omega)], fun y hy => ?_⟩ ?_)
      · rw [List.take_add_one, gi] at hy
        rcases List.mem_append.1 hy with hy | hy
        · exact hno y hy
        · simp at hy; subst hy; exact he
      · show ((n : Int) - IntKind.wrap .i64 ((i : Int) + 1)).toNat < ((n : Int) - (i : Int)).toNat
        rw [ei i (by omega)]; omega
  · have hge2 : ¬ (i : Int) < (n : Int) := of_decide_eq_false hge
    rw [List.take_of_length_le (by omega)] at hno
    rw [getE_none hno]
    exact gd_mk rfl (st_all (r3.fr g (fun h => h)) z28 rfl (zE.one none 0 0) (fun w4 f4 r4 => ⟨fr_own (f.trans1 g) f4 hb3w, _, rfl, zEp _⟩))
theorem wd_len {x : Wd} (hx : x.d.length = 32) : x.cs.length = 39 := by simp [Wd.cs, hx]
set_option maxRecDepth 10000 in
theorem rapplyIx_calls {D : Nat → Prop} (A : Option Addr) (n c : Nat) (l : List En) (x : Wd) (w : World) (h : RDE D w A n l) (ha : AscE l) (hn : n ≤ 1000000000) (hb : BdE 4294967295 l) (hx : x.d.length = 32) (hD : ∀ k, D k → k < w.heap.size) :
    Calls Try.prog 9 #[.slice A n c, ofL x.cs] w fun r w' => Fr (fun _ => False) w w' ∧ ∃ A' n' c', r = .returned (.slice A' n' c') ∧ RDE D w' A' n' (applyE l x) := by
  refine (F9.of A n c x.cs w (Q := fun v w' => Fr (fun _ => False) w w' ∧ ∃ A' n' c', v = .slice A' n' c' ∧ RDE D w' A' n' (applyE l x)) ?_).mono (fun e w' ⟨v, he, hf, a, b, d, hv, h⟩ => ⟨hf, a, b, d, by rw [he, hv], h⟩)
  have hxl := wd_len hx
  refine nw_mk ?_
  have f1 : Fr (fun _ => False) w (w.alloc (.cells x.cs.toArray 33)) := Fr.alloc _ _ _
  have r1 : RecAt (w.alloc (.cells x.cs.toArray 33)) w.heap.size 33 ([.int .i64 x.k, .int .u64 x.sq] ++ (x.d.map bv ++ [.string x.nm, .int .i64 x.z, .int .i64 x.s, .int .i64 x.o, .int .i64 x.q])) := RecAt.new _ _ _
  generalize w.alloc (.cells x.cs.toArray 33) = w1 at f1 r1 ⊢
  refine ⟨x.d.map bv, bvl hx, rec_mid r1, (rget_calls A n c l x.d w1 (h.1.fr0 f1) hx (by omega)).mono ?_⟩
  rintro r w2 ⟨f2, cs2, rfl, h2⟩
  refine ⟨_, _, rfl, var_mk z28 h2.len h2.one (fun b8 u f3 r8 => ?_)⟩
  have f123 := (f1.trans1 f2).trans1 f3
  have r1 := r1.fr (f2.trans1 f3) (fun h => h)
  have hT := h.fr0 f123
  have h2u := h2.fr0 f3
  have hs := f123.size
  have hgb := hb.get x.d
  have put : ∀ (y : En) (cs : List Value) (v : World), Fr (fun _ => False) u v → EnP (fun k => u.heap.size ≤ k) v cs y → setE y l = applyE l x → Calls Try.prog 23 #[.slice A n c, ofL cs] v fun e w' => ∃ (A30 : Option Addr) (n31 c32 : Nat), e = .returned (Value.slice A30 n31 c32) ∧ (Fr (fun _ => False) w w' ∧ ∃ A' n' c', Value.slice A30 n31 c32 = .slice A' n' c' ∧ RDE D w' A' n' (applyE l x)) := by
    intro y cs v fv hy hset
    have g := f123.trans1 fv
    have hsz := g.size
    refine (rset_calls A n c l y cs v (hT.fr0 fv).1 ha (hy.mono (fun k _ hk h' => by have := hD k h'; omega)) hn).mono ?_
    rintro r w' ⟨g2, A', n', c', rfl, h3⟩
    exact ⟨_, _, _, rfl, g.trans1 g2, A', n', c', rfl, by rw [← hset]; exact RDE.of h3 (fun k hk => by have := hD k hk; omega)⟩
  have k5 : ∀ t27 : Bool, ¬ (x.k = 1 ∨ x.k = 2) → t27 = decide (x.k = 5 ∧ (getE x.d l).2 = true) → jnC (F9.k5 (fun v w' => Fr (fun _ => False) w w' ∧ ∃ A' n' c', v = .slice A' n' c' ∧ RDE D w' A' n' (applyE l x))) ((A, n, c), (w.heap.size, 0), (b8, 0), t27, ()) u := by
    intro t27 h3 ht
    refine jnC_mk (fun _ => vIf_mk (fun h1 => ?_) (fun h1 => ?_))
    · have h1 : t27 = true := h1
      rw [h1] at ht
      refine ⟨cs2, h2.len, rec_all r8, x.cs, hxl, rec_all r1, (rdel_calls _ x cs2 u h2u.at hx (by omega)).mono ?_⟩
      rintro r v ⟨fv, cs3, rfl, h6⟩
      exact ⟨_, rfl, put _ cs3 v fv h6 (by unfold applyE; rw [if_neg h3, if_pos (of_decide_eq_true ht.symm)])⟩
    · have h1 : t27 = false := h1
      rw [h1] at ht
      refine ⟨f123, A, n, c, rfl, ?_⟩
      have : applyE l x = l := by unfold applyE; rw [if_neg h3, if_neg (of_decide_eq_false ht.symm)]
      rw [this]; exact hT
  have k3 : ∀ t21 : Bool, t21 = decide (x.k = 1 ∨ x.k = 2) → jnC (F9.k3 (fun v w' => Fr (fun _ => False) w w' ∧ ∃ A' n' c', v = .slice A' n' c' ∧ RDE D w' A' n' (applyE l x))) ((A, n, c), (w.heap.size, 0), (b8, 0), (getE x.d l).2, t21, ()) u := by
    intro t21 ht
    refine jnC_mk (fun _ => vIf_mk (fun h1 => ?_) (fun h1 => jnC_mk (fun _ => ⟨x.k, r1.cell rfl, vIf_mk (fun h5 => k5 _ ?_ ?_) (fun h5 => k5 _ ?_ ?_)⟩)))
    · have h1 : t21 = true := h1
      rw [h1] at ht
      refine ⟨cs2, h2.len, rec_all r8, x.cs, hxl, rec_all r1, (rput_calls _ x cs2 u h2u.at hx (by omega)).mono ?_⟩
      rintro r v ⟨fv, cs3, rfl, h6⟩
      exact ⟨_, rfl, put _ cs3 v fv h6 (by unfold applyE; rw [if_pos (of_decide_eq_true ht.symm)])⟩
    all_goals
      have h1 : t21 = false := h1
      rw [h1] at ht
      have h3 := of_decide_eq_false ht.symm
    · exact h3
    · have h5 : x.k = 5 := by simpa using h5
      show (getE x.d l).2 = _
      rw [Bool.eq_iff_iff, decide_eq_true_iff]
      exact ⟨fun h => ⟨h5, h⟩, fun h => h.2⟩
    · exact h3
    · have h5 : ¬ x.k = 5 := by simpa using h5
      rw [decide_eq_false (fun h => h5 h.1)]
  refine ⟨x.k, r1.cell rfl, vIf_mk (fun h3 => k3 _ ?_) (fun h3 => ⟨x.k, r1.cell rfl, k3 _ ?_⟩)⟩
  · have h3 : x.k = 1 := by simpa using h3
    rw [decide_eq_true (.inl h3)]
  · have h3 : ¬ x.k = 1 := by simpa using h3
    rw [Bool.eq_iff_iff, decide_eq_true_iff]
    simp [h3]
set_option maxRecDepth 10000 in
theorem rkeepIx_calls {D : Nat → Prop} (A : Option Addr) (n c : Nat) (l : List En) (S : Option Addr) (m k : Nat) (sg : List Int) (w : World) (h : RDE D w A n l) (hn : n ≤ 1000000000) (hb : BdE 4294967296 l) (hsg : Sl w 1 S m (ivs sg)) (hm : m ≤ 8589934592) (hD : ∀ k, D k → k < w.heap.size) :
    Calls Try.prog 11 #[.slice A n c, .slice S m k] w fun r w' => Fr (fun _ => False) w w' ∧ ∃ A' n' c', r = .returned (.slice A' n' c') ∧ RDE D w' A' n' (keepLE sg l) := by
  refine (F11.of A n c S m k w (Q := fun v w' => Fr (fun _ => False) w w' ∧ ∃ A' n' c', v = .slice A' n' c' ∧ RDE D w' A' n' (keepLE sg l)) ?_).mono (fun e w' ⟨v, he, hf, a, b, d, hv, h⟩ => ⟨hf, a, b, d, by rw [he, hv], h⟩)
  have hl := h.1.len
  refine jnC_mk (loop_rule (fun s u => Fr (fun _ => False) w u ∧ ∃ (i : Nat) (A5 : Option Addr) (c5 : Nat), i ≤ n ∧ s = ((A, n, c), (S, m, k), (A5, (keepLE sg (l.take i)).length, c5), (i : Int), ()) ∧ OE (fun k => ¬ D k) u w.heap.size A5 (keepLE sg (l.take i)).length c5 (keepLE sg (l.take i)))
    (fun s _ => (n - s.2.2.2.1).toNat) ?_ _ _ ⟨Fr.refl _ _, 0, none, 0, by omega, rfl, OE.nil _ _ _⟩)
  rintro s u C ⟨hf, i, A5, c5, hi, rfl, hO⟩ hC _
  refine vIf_mk (fun hlt => ?_) (fun hge => ?_)
  · have hlt2 : (i : Int) < (n : Int) := of_decide_eq_true hlt
    have gi : l[i]? = some (l[i]'(by omega)) := List.getElem?_eq_getElem (by omega)
    generalize l[i]'(by omega) = x at gi
    have hstep := keepLE_step (sg := sg) gi
    have hkl := keepLE_len sg (l.take i)
    rw [List.length_take] at hkl
    have hmeas : ((n : Int) - IntKind.wrap .i64 ((i : Int) + 1)).toNat < ((n : Int) - (i : Int)).toNat := by rw [ei i (by omega)]; omega
    refine e_rd (h.fr0 hf).1 gi (fun b o cs hA hTn hc => ⟨cs, hTn.len, hc, (rkeep_calls x cs S m k sg u hTn.at (sl_fr hsg hf) (hb.at gi) hm).mono ?_⟩)
    rintro r u2 ⟨g2, cs2, rfl, hT2⟩
    refine ⟨_, _, rfl, var_mk z28 hT2.len hT2.one (fun b17 u3 g3 r17 => ?_)⟩
    have g13 := g2.trans1 g3
    have hs := hf.size
    refine vIf_mk (fun hk => ⟨cs2, hT2.len, rec_all r17, pushE (hO.fr0 g13) ((hT2.fr0 g3).mono (fun k _ hk => ⟨fun h' => by have := (hO.blt h').2; omega, fun h' => by have := hD k h'; omega⟩)) (hf.trans1 g13).size (by show (keepLE sg (l.take i)).length ≤ 1073741824; omega) (fun A' c' w' hO' f' hnew => ?_)⟩) (fun hk => ?_)
    · rw [if_pos hk] at hstep
      have hlen : (keepLE sg (l.take i)).length + 1 = (keepLE sg (l.take (i + 1))).length := by rw [hstep]; simp
      refine jnC_mk (hC _ _ ⟨(hf.trans1 g13).trans f' (fun _ _ h => h) (fun k hk h' => by have := (hO.blt h').1; omega), i + 1, A', c', by omega, by rw [ei i (by omega), hlen], by rw [← hlen, hstep]; exact hO'⟩ hmeas)
    · rw [if_neg (by rw [hk]; decide)] at hstep
      exact jnC_mk (hC _ _ ⟨hf.trans1 g13, i + 1, A5, c5, by omega, by rw [ei i (by omega), hstep], by rw [hstep]; exact hO.fr0 g13⟩ hmeas)
  · have hge2 : ¬ (i : Int) < (n : Int) := of_decide_eq_false hge
    rw [List.take_of_length_le (by omega)] at hO ⊢
    exact ⟨hf, A5, _, c5, rfl, RDE.of hO hD⟩
set_option maxRecDepth 10000 in
theorem rcountIx_calls {P : Nat → Prop} (A : Option Addr) (n c : Nat) (l : List En) (w : World) (h : RE P w A n l) (hn : n ≤ 1000000000) :
    Calls Try.prog 15 #[.slice A n c] w fun e w' => Fr (fun _ => False) w w' ∧ e = .returned (.tuple #[.int .i64 (cntE l).1, .int .i64 (cntE l).2]) := by
  refine (F15.of A n c w (Q := fun v w' => Fr (fun _ => False) w w' ∧ v = .tuple #[.int .i64 (cntE l).1, .int .i64 (cntE l).2]) ?_).mono (fun e w' ⟨v, he, hf, hv⟩ => ⟨hf, by rw [he, hv]⟩)
  have hl := h.len
  refine jnC_mk (loop_rule (fun s u => u = w ∧ ∃ i : Nat, i ≤ n ∧ s = ((A, n, c), (cntE (l.take i)).1, (cntE (l.take i)).2, (i : Int), ()))
    (fun s _ => (n - s.2.2.2.1).toNat) ?_ _ _ ⟨rfl, 0, by omega, rfl⟩)
  rintro s u C ⟨rfl, i, hi, rfl⟩ hC _
  refine vIf_mk (fun hlt => ?_) (fun hge => ?_)
  · have hlt2 : (i : Int) < (n : Int) := of_decide_eq_true hlt
    have gi : l[i]? = some (l[i]'(by omega)) := List.getElem?_eq_getElem (by omega)
    generalize l[i]'(by omega) = x at gi
    have hst := cntE_step gi
    have hmeas : ((n : Int) - IntKind.wrap .i64 ((i : Int) + 1)).toNat < ((n : Int) - (i : Int)).toNat := by rw [ei i (by omega)]; omega
    refine e_rd h gi (fun b o cs hA hT hc => ⟨x.k, e_fld (j := 0) hT hc rfl, vIf_mk (fun hk => e_rd h gi (fun b o cs hA hT hc => ⟨x.z, e_fld (j := 1) hT hc rfl, jnC_mk (hC _ _ ⟨rfl, i + 1, by omega, ?_⟩ hmeas)⟩)) (fun hk => jnC_mk (hC _ _ ⟨rfl, i + 1, by omega, ?_⟩ hmeas))⟩)
    · have hk : x.k ≠ 5 := by simpa using hk
      rw [if_neg hk] at hst
      rw [hst, ei i (by omega)]; rfl
    · have hk : x.k = 5 := by simpa using hk
      rw [if_pos hk] at hst
      rw [hst, ei i (by omega)]
  · have hge2 : ¬ (i : Int) < (n : Int) := of_decide_eq_false hge
    rw [List.take_of_length_le (by omega)]
    exact ⟨Fr.refl _ _, rfl⟩
/-! ### the same -/
theorem sameLE_calls {P P' : Nat → Prop} (A : Option Addr) (n c : Nat) (A' : Option Addr) (n' c' : Nat) (l : List En) (w : World) (h : RE P w A n l) (h' : RE P' w A' n' l) (hn : n ≤ 1000000000) (hb : BdE 4294967296 l) :
    Calls Try.prog 17 #[.slice A n c, .slice A' n' c'] w fun r w' => r = .returned (.bool true) ∧ Fr (fun _ => False) w w' := by
  refine (F17.of A n c A' n' c' w (Q := fun v w' => v = .bool true ∧ Fr (fun _ => False) w w') ?_).mono (fun e w' ⟨v, he, hv, h⟩ => ⟨by rw [he, hv], h⟩)
  have hl := h.len
  have hl' := h'.len
  have : n = n' := by omega
  subst this
  refine vIf_f (by simp) (jnC_mk (loop_rule (fun s u => Fr (fun _ => False) w u ∧ ∃ i : Nat, i ≤ n ∧ s = ((A, n, c), (A', n, c'), (i : Int), ())) (fun s _ => (n - s.2.2.1).toNat) ?_ _ _ ⟨Fr.refl _ _, 0, by omega, rfl⟩))
  rintro s u C ⟨hf, i, hi, rfl⟩ hC _
  refine vIf_mk (fun hlt => ?_) (fun hge => ?_)
  · have hlt2 : (i : Int) < (n : Int) := of_decide_eq_true hlt
    have gi : l[i]? = some (l[i]'(by omega)) := List.getElem?_eq_getElem (by omega)
    generalize l[i]'(by omega) = x at gi
    have fd := hf.trans1 (Fr.drew _ u)
    refine e_rd (h.fr0 fd) gi (fun b o cs hA hT hc => ⟨cs, hT.len, hc, e_rd (h'.fr0 fd) gi (fun b' o' cs' hA' hT' hc' => ⟨cs', hT'.len, hc', (same_calls x cs cs' u.drew hT.at hT'.at (by have := hb.at gi; omega)).mono ?_⟩)⟩)
    rintro r u2 ⟨rfl, f2⟩
    refine ⟨_, rfl, vIf_f rfl (jnC_mk (hC _ _ ⟨fd.trans1 f2, i + 1, by omega, by rw [ei i (by omega)]⟩ ?_))⟩
    show ((n : Int) - IntKind.wrap .i64 ((i : Int) + 1)).toNat < ((n : Int) - (i : Int)).toNat
    rw [ei i (by omega)]; omega
  · exact ⟨rfl, hf⟩
end Go.Proofs.Ytnablplljilahaa
