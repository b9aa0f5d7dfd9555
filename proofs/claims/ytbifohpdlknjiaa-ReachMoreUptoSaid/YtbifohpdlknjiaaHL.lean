/- chapter 33: the law of the least row -/
import Derived.Test.YtbifohpdlknjiaaH
namespace Go.Proofs.Ytbifohpdlknjiaa
open Go.GV Go.RowKit Go.Lib
set_option linter.unusedVariables false
set_option linter.unusedSimpArgs false
def kd (a : UInt8) : Dig := a :: List.replicate 31 0
theorem kd_len (a : UInt8) : (kd a).length = 32 := rfl
set_option maxRecDepth 100000 in
theorem lives_calls (w : World) : Calls Try.prog 8 #[] w fun e w' => e = .returned (.bool true) ∧ Fr (fun _ => False) w w' := by
  refine (F8.of w (Q := fun v w' => v = .bool true ∧ Fr (fun _ => False) w w') ?_).mono (fun e w' ⟨v, he, hv, h⟩ => ⟨by rw [he, hv], h⟩)
  refine gd_mk (by decide +kernel) (nw_mk (cs := dcs [kd 1]) ?_)
  repeat refine gd_mk (by decide +kernel) ?_
  refine nw_mk (cs := lks [(kd 2, kd 3), (kd 1, kd 2), (kd 4, kd 5)]) ?_
  have f1 : Fr (fun _ => False) w (w.alloc (.cells (dcs [kd 1]).toArray 27)) := Fr.alloc _ _ _
  have r1 : RecAt (w.alloc (.cells (dcs [kd 1]).toArray 27)) w.heap.size 27 (dcs [kd 1]) := RecAt.new w _ _
  generalize w.alloc (.cells (dcs [kd 1]).toArray 27) = w1 at f1 r1 ⊢
  have f2 : Fr (fun _ => False) w1 (w1.alloc (.cells (lks [(kd 2, kd 3), (kd 1, kd 2), (kd 4, kd 5)]).toArray 29)) := Fr.alloc _ _ _
  have r2 : RecAt (w1.alloc (.cells (lks [(kd 2, kd 3), (kd 1, kd 2), (kd 4, kd 5)]).toArray 29)) w1.heap.size 29 (lks [(kd 2, kd 3), (kd 1, kd 2), (kd 4, kd 5)]) := RecAt.new w1 _ _
  have r12 := r1.fr f2 (fun h => h)
  generalize w1.alloc (.cells (lks [(kd 2, kd 3), (kd 1, kd 2), (kd 4, kd 5)]).toArray 29) = w2 at f2 r2 r12 ⊢
  have hw : W32 [kd 1] := fun d hd => by simp at hd; subst hd; rfl
  have hwl : WL [(kd 2, kd 3), (kd 1, kd 2), (kd 4, kd 5)] := fun x hx => by
    simp at hx
    rcases hx with rfl | rfl | rfl <;> exact ⟨rfl, rfl⟩
  have s1 : Sl w2 32 (some ⟨w.heap.size, 0, none⟩) 1 (dcs [kd 1]) := ⟨by rw [dcs_len hw]; rfl, fun _ => ⟨_, 0, rfl, r12.cells (o := 0) (fun q v hq => by rw [Nat.zero_add]; exact hq)⟩⟩
  have s2 : Sl w2 64 (some ⟨w1.heap.size, 0, none⟩) 3 (lks [(kd 2, kd 3), (kd 1, kd 2), (kd 4, kd 5)]) := ⟨by rw [(lks_flat hwl).1]; rfl, fun _ => ⟨_, 0, rfl, r2.cells (o := 0) (fun q v hq => by rw [Nat.zero_add]; exact hq)⟩⟩
  refine (of_calls _ 1 1 _ _ 3 3 _ w2 s1 hw s2 hwl (by omega) (by omega)).mono ?_
  rintro e w3 ⟨f3, A, c, r, rfl, hr, hwr, ha, _, hm⟩
  have hr3 : r = [kd 1, kd 2, kd 3] := by
    refine ha.unique (List.Pairwise.cons (fun x hx => ?_) (List.Pairwise.cons (fun x hx => ?_) (List.pairwise_singleton _ _))) (fun d => ?_)
    · simp at hx
      rcases hx with rfl | rfl
      · show compareBytes (kd 1) (kd 2) < 0; decide +kernel
      · show compareBytes (kd 1) (kd 3) < 0; decide +kernel
    · simp at hx
      subst hx
      show compareBytes (kd 2) (kd 3) < 0; decide +kernel
    · rw [hm]
      constructor
      · intro h
        refine h.least (p := fun d => d ∈ [kd 1, kd 2, kd 3]) (fun d hd => ?_) (fun a b hab h' => ?_)
        · simp at hd; subst hd; exact List.mem_cons_self ..
        · simp only [List.mem_cons, Prod.mk.injEq, List.not_mem_nil, or_false] at hab
          rcases hab with ⟨rfl, rfl⟩ | ⟨rfl, rfl⟩ | ⟨rfl, rfl⟩
          · simp
          · simp
          · exfalso
            revert h'
            decide +kernel
      · intro h
        have h1 : Rch [kd 1] [(kd 2, kd 3), (kd 1, kd 2), (kd 4, kd 5)] (kd 1) := .root (List.mem_cons_self ..)
        have h2 : Rch [kd 1] [(kd 2, kd 3), (kd 1, kd 2), (kd 4, kd 5)] (kd 2) := .link h1 (by simp)
        have h3 : Rch [kd 1] [(kd 2, kd 3), (kd 1, kd 2), (kd 4, kd 5)] (kd 3) := .link h2 (by simp)
        simp at h
        rcases h with rfl | rfl | rfl
        · exact h1
        · exact h2
        · exact h3
  subst hr3
  obtain ⟨b, o, hA, hc⟩ := sl_dig hr.sl hwr (i := 0) (by simp)
  subst hA
  refine ⟨_, _, _, rfl, vIf_t rfl (dr_mk (gd_mk (by decide) ⟨_, by rw [List.length_map]; rfl, hc 2 (kd 3) rfl, eqAB_bytes (a := kd 3) (b := kd 3) rfl rfl ⟨?_, (f1.trans1 f2).trans1 f3⟩⟩))⟩
  simp
theorem least_law (A : Option Addr) (n c : Nat) (r : List Dig) (L : Option Addr) (nl cl : Nat) (l : List Lnk) (O : Option Addr) (no co : Nat) (o : List Dig) (w : World) (h : Sl w 32 A n (dcs r)) (hw : W32 r) (hl : Sl w 64 L nl (lks l)) (hwl : WL l) (ho : Sl w 32 O no (dcs o)) (hwo : W32 o) (hn : n ≤ 17179869184) (hnl : nl ≤ 17179869184) (hno : no ≤ 17179869184) :
    Calls Try.prog 3 #[.slice A n c, .slice L nl cl, .slice O no co] w fun e w' => e = .returned (.bool true) ∧ Fr (fun _ => False) w w' := by
  refine (F3.of A n c L nl cl O no co w (Q := fun v w' => v = .bool true ∧ Fr (fun _ => False) w w') ?_).mono (fun e w' ⟨v, he, hv, h⟩ => ⟨by rw [he, hv], h⟩)
  have hrl := sl_len h hw
  have hll := lnk_len hl hwl
  refine (of_calls A n c r L nl cl l w h hw hl hwl hn hnl).mono ?_
  rintro e w1 ⟨f1, M, cm, m, rfl, hm, hwm, ham, hml, hmm⟩
  have live : ∀ u, Fr (fun _ => False) w u → Calls Try.prog 8 #[] u fun e w' => ∃ t : Bool, e = .returned (.bool t) ∧ (Value.bool t = .bool true ∧ Fr (fun _ => False) w w') := fun u hu => (lives_calls u).mono (fun e w' ⟨he, hf⟩ => ⟨true, he, rfl, hu.trans1 hf⟩)
  have hasM : ∀ (u : World) (d : Dig), Fr (fun _ => False) w1 u → d.length = 32 → Calls Try.prog 7 #[.slice M m.length cm, ofL (d.map bv)] u fun e w' => e = .returned (.bool (decide (d ∈ m))) ∧ Fr (fun _ => False) u w' := fun u d fu hd => rhas_calls M m.length cm m d u (fu.sl hm.sl (fun _ _ _ h => h)) hwm hd (by omega)
  have hasO : ∀ (u : World) (d : Dig), Fr (fun _ => False) w1 u → d.length = 32 → Calls Try.prog 7 #[.slice O no co, ofL (d.map bv)] u fun e w' => e = .returned (.bool (decide (d ∈ o))) ∧ Fr (fun _ => False) u w' := fun u d fu hd => rhas_calls O no co o d u ((f1.trans1 fu).sl ho (fun _ _ _ h => h)) hwo hd (by omega)
  refine ⟨_, _, _, rfl, jnC_mk ?_⟩
  -- the roots
  refine loop_rule (fun s u => Fr (fun _ => False) w1 u ∧ ∃ (i : Nat) (cl' : Bool), i ≤ n ∧ s = ((A, n, c), (L, nl, cl), (O, no, co), (M, m.length, cm), cl', (i : Int), ()) ∧ (cl' = true → ∀ d ∈ r.take i, d ∈ o))
    (fun s _ => (n - s.2.2.2.2.2.1).toNat) ?_ _ _ ⟨Fr.refl _ _, 0, true, by omega, rfl, fun _ d hd => by simp at hd⟩
  rintro s u C ⟨hf, i, cl', hi, rfl, hcl⟩ hC _
  have ei : ∀ i : Nat, i < 1099511627776 → IntKind.wrap .i64 ((i : Int) + 1) = ((i + 1 : Nat) : Int) := fun i hi => by rw [i64_id (by omega) (by omega)]; rfl
  refine vIf_mk (fun hlt => ?_) (fun hge => ?_)
  · have hlt2 : (i : Int) < (n : Int) := of_decide_eq_true hlt
    have gi : r[i]? = some (r[i]'(by omega)) := List.getElem?_eq_getElem (by omega)
    have li := hw.at gi
    obtain ⟨b, o', hA, hcell⟩ := sl_dig ((f1.trans1 hf).sl h (fun _ _ _ h => h)) hw (i := i) (by omega)
    subst hA
    generalize hx : r[i]'(by omega) = x at gi li
    have hxr : x ∈ r := List.mem_of_getElem? gi
    have lx : (x.map bv).length = 32 := by simp [li]
    have ci : ∀ {v : World}, Fr (fun _ => False) u v → cellsAt v b (o' + ((i : Int)).toNat * 32) (x.map bv) := fun fv => by rw [Int.toNat_natCast]; exact fv.cells (hcell i x gi) (fun h => h)
    have d0 : decide (0 ≤ (i : Int)) = true := decide_eq_true (by omega)
    refine dr_mk (gd_mk d0 (gd_mk (decide_eq_true hlt2) ⟨x.map bv, lx, ci (Fr.refl _ _), (hasM u x hf li).mono ?_⟩))
    rintro e u2 ⟨rfl, f2⟩
    have hxm : x ∈ m := (hmm x).2 (.root hxr)
    rw [decide_eq_true hxm]
    refine ⟨_, rfl, vIf_f rfl ?_⟩
    have next : ∀ (v : World) (b2 : Bool), Fr (fun _ => False) w1 v → (b2 = true → cl' = true ∧ x ∈ o) → jnC C ((some ⟨b, o', none⟩, n, c), (L, nl, cl), (O, no, co), (M, m.length, cm), b2, IntKind.wrap .i64 ((i : Int) + 1), ()) v := by
      intro v b2 fv hb2
      refine jnC_mk (hC _ _ ⟨fv, i + 1, b2, by omega, by rw [ei i (by omega)], fun hb d hd => ?_⟩ ?_)
      · rw [List.take_add_one, gi] at hd
        rcases List.mem_append.1 hd with h1 | h1
        · exact hcl (hb2 hb).1 d h1
        · simp at h1; subst h1; exact (hb2 hb).2
      · show ((n : Int) - IntKind.wrap .i64 ((i : Int) + 1)).toNat < ((n : Int) - (i : Int)).toNat
        rw [ei i (by omega)]; omega
    refine vIf_mk (fun hc => ?_) (fun hc => next u2 false (hf.trans1 f2) (fun h => by cases h))
    refine dr_mk (gd_mk d0 (gd_mk (decide_eq_true hlt2) ⟨x.map bv, lx, ci f2, (hasO u2 x (hf.trans1 f2) li).mono ?_⟩))
    rintro e u3 ⟨rfl, f3⟩
    exact ⟨_, rfl, next u3 _ ((hf.trans1 f2).trans1 f3) (fun hb => ⟨hc, of_decide_eq_true hb⟩)⟩
  have hge2 : ¬ (i : Int) < (n : Int) := of_decide_eq_false hge
  rw [List.take_of_length_le (by omega)] at hcl
  clear hC
  refine jnC_mk ?_
  -- the links
  refine loop_rule (fun s u => Fr (fun _ => False) w1 u ∧ ∃ (i : Nat) (cl2 : Bool), i ≤ nl ∧ s = ((L, nl, cl), (O, no, co), (M, m.length, cm), cl2, (i : Int), ()) ∧ (cl2 = true → cl' = true ∧ ∀ x ∈ l.take i, x.1 ∈ o → x.2 ∈ o))
    (fun s _ => (nl - s.2.2.2.2.1).toNat) ?_ _ _ ⟨hf, 0, cl', by omega, rfl, fun h => ⟨h, fun x hx => by simp at hx⟩⟩
  clear hf
  rintro s u C ⟨hf, i, cl2, hi, rfl, hcl2⟩ hC _
  refine vIf_mk (fun hlt => ?_) (fun hge => ?_)
  · have hlt2 : (i : Int) < (nl : Int) := of_decide_eq_true hlt
    have gi : l[i]? = some (l[i]'(by omega)) := List.getElem?_eq_getElem (by omega)
    obtain ⟨l1, l2⟩ := hwl.at gi
    obtain ⟨b, o', hL, hcell⟩ := sl_lnk ((f1.trans1 hf).sl hl (fun _ _ _ h => h)) hwl (i := i) (by omega)
    subst hL
    generalize hx : l[i]'(by omega) = x at gi l1 l2
    have hxl : x ∈ l := List.mem_of_getElem? gi
    have lx1 : (x.1.map bv).length = 32 := by simp [l1]
    have lx2 : (x.2.map bv).length = 32 := by simp [l2]
    have cc : ∀ {v : World}, Fr (fun _ => False) u v → cellsAt v b (o' + ((i : Int)).toNat * 64) (x.1.map bv ++ x.2.map bv) := fun fv => by rw [Int.toNat_natCast, ← List.map_append]; exact fv.cells (hcell i x gi) (fun h => h)
    have c1 : ∀ {v : World}, Fr (fun _ => False) u v → cellsAt v b (o' + ((i : Int)).toNat * 64) (x.1.map bv) := fun fv => cells_left (cc fv)
    have c2 : ∀ {v : World}, Fr (fun _ => False) u v → cellsAt v b ((o' + ((i : Int)).toNat * 64) + 32) (x.2.map bv) := fun fv => by have := cells_right (cc fv); rwa [lx1] at this
    have d0 : decide (0 ≤ (i : Int)) = true := decide_eq_true (by omega)
    have tail : ∀ v, Fr (fun _ => False) u v → F3.k14 (fun v w' => v = .bool true ∧ Fr (fun _ => False) w w') C ((some ⟨b, o', none⟩, nl, cl), (O, no, co), (M, m.length, cm), cl2, (i : Int), ()) v := by
      intro v fv _
      have next : ∀ (v' : World) (b2 : Bool), Fr (fun _ => False) w1 v' → (b2 = true → cl2 = true ∧ (x.1 ∈ o → x.2 ∈ o)) → jnC C ((some ⟨b, o', none⟩, nl, cl), (O, no, co), (M, m.length, cm), b2, IntKind.wrap .i64 ((i : Int) + 1), ()) v' := by
        intro v' b2 fv' hb2
        refine jnC_mk (hC _ _ ⟨fv', i + 1, b2, by omega, by rw [ei i (by omega)], fun hb => ⟨(hcl2 (hb2 hb).1).1, fun y hy => ?_⟩⟩ ?_)
        · rw [List.take_add_one, gi] at hy
          rcases List.mem_append.1 hy with h1 | h1
          · exact (hcl2 (hb2 hb).1).2 y h1
          · simp at h1; subst h1; exact (hb2 hb).2
        · show ((nl : Int) - IntKind.wrap .i64 ((i : Int) + 1)).toNat < ((nl : Int) - (i : Int)).toNat
          rw [ei i (by omega)]; omega
      refine vIf_mk (fun hc => ?_) (fun hc => next v false (hf.trans1 fv) (fun h => by cases h))
      refine dr_mk (gd_mk d0 (gd_mk (decide_eq_true hlt2) ⟨x.1.map bv, lx1, c1 fv, (hasO v x.1 (hf.trans1 fv) l1).mono ?_⟩))
      rintro e v2 ⟨rfl, f2⟩
      refine ⟨_, rfl, vIf_mk (fun hno1 => next v2 true ((hf.trans1 fv).trans1 f2) (fun _ => ⟨hc, fun h1 => ?_⟩)) (fun hin1 => ?_)⟩
      · rw [decide_eq_true h1] at hno1; cases hno1
      refine dr_mk (gd_mk d0 (gd_mk (decide_eq_true hlt2) ⟨x.2.map bv, lx2, c2 (fv.trans1 f2), (hasO v2 x.2 ((hf.trans1 fv).trans1 f2) l2).mono ?_⟩))
      rintro e v3 ⟨rfl, f3⟩
      exact ⟨_, rfl, next v3 _ (((hf.trans1 fv).trans1 f2).trans1 f3) (fun hb => ⟨hc, fun _ => of_decide_eq_true hb⟩)⟩
    refine dr_mk (gd_mk d0 (gd_mk (decide_eq_true hlt2) ⟨x.1.map bv, lx1, c1 (Fr.refl _ _), (hasM u x.1 hf l1).mono ?_⟩))
    rintro e u2 ⟨rfl, f2⟩
    refine ⟨_, rfl, vIf_mk (fun hin => ?_) (fun _ => jnC_mk (tail u2 f2))⟩
    have hin : x.1 ∈ m := of_decide_eq_true hin
    refine dr_mk (gd_mk d0 (gd_mk (decide_eq_true hlt2) ⟨x.2.map bv, lx2, c2 f2, (hasM u2 x.2 (hf.trans1 f2) l2).mono ?_⟩))
    rintro e u3 ⟨rfl, f3⟩
    have hx2 : x.2 ∈ m := (hmm x.2).2 (.link ((hmm x.1).1 hin) hxl)
    rw [decide_eq_true hx2]
    exact ⟨_, rfl, vIf_f rfl (jnC_mk (tail u3 (f2.trans1 f3)))⟩
  have hge3 : ¬ (i : Int) < (nl : Int) := of_decide_eq_false hge
  rw [List.take_of_length_le (by omega)] at hcl2
  clear hC
  refine jnC_mk ?_
  -- all that is met
  refine loop_rule (fun s u => Fr (fun _ => False) w1 u ∧ ∃ (i : Nat), i ≤ m.length ∧ s = ((O, no, co), (M, m.length, cm), cl2, (i : Int), ()))
    (fun s _ => (m.length - s.2.2.2.1).toNat) ?_ _ _ ⟨hf, 0, by omega, rfl⟩
  clear hf
  rintro s u C ⟨hf, i, hi, rfl⟩ hC _
  refine vIf_mk (fun hlt => ?_) (fun _ => live u (f1.trans1 hf))
  have hlt2 : (i : Int) < (m.length : Int) := of_decide_eq_true hlt
  refine vIf_mk (fun hc => jnC_mk (fun _ => ?_)) (fun _ => live u (f1.trans1 hf))
  have hc : cl2 = true := hc
  obtain ⟨hc1, hc2⟩ := hcl2 hc
  have gi : m[i]? = some (m[i]'(by omega)) := List.getElem?_eq_getElem (by omega)
  have li := hwm.at gi
  obtain ⟨b, o', hA, hcell⟩ := sl_dig (hf.sl hm.sl (fun _ _ _ h => h)) hwm (i := i) (by omega)
  subst hA
  generalize hx : m[i]'(by omega) = x at gi li
  have lx : (x.map bv).length = 32 := by simp [li]
  refine dr_mk (gd_mk (decide_eq_true (by show (0 : Int) ≤ (i : Int); omega)) (gd_mk (decide_eq_true hlt2) ⟨x.map bv, lx, by show cellsAt u b (o' + ((i : Int)).toNat * 32) _; rw [Int.toNat_natCast]; exact hcell i x gi, (hasO u x hf li).mono ?_⟩))
  rintro e u2 ⟨rfl, f2⟩
  have hxo : x ∈ o := ((hmm x).1 (List.mem_of_getElem? gi)).least (p := fun d => d ∈ o) (hcl hc1) (fun a b hab ha => hc2 (a, b) hab ha)
  rw [decide_eq_true hxo]
  refine ⟨_, rfl, vIf_f rfl (jnC_mk (hC _ _ ⟨hf.trans1 f2, i + 1, by omega, ?_⟩ ?_))⟩
  · show (_, _, _, IntKind.wrap .i64 ((i : Int) + 1), ()) = _
    rw [ei i (by omega)]
  · show ((m.length : Int) - IntKind.wrap .i64 ((i : Int) + 1)).toNat < ((m.length : Int) - (i : Int)).toNat
    rw [ei i (by omega)]; omega
end Go.Proofs.Ytbifohpdlknjiaa
