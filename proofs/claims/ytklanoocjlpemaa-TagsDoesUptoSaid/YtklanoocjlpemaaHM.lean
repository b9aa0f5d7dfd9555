/- chapter 21: what deeds come to; pages -/
import Derived.Test.YtklanoocjlpemaaHL
namespace Go.Proofs.Ytklanoocjlpemaa
open Go.GV Go.RowKit Go.Lib
set_option linter.unusedVariables false
set_option linter.unusedSimpArgs false
structure Dd where
  kind : Int
  x : Wd
  sg : List Int
  af : ByteArray
  n : Int
def DdAt (w : World) (cs : List Value) (d : Dd) : Prop := ∃ S m k, cs = [Value.int .i64 d.kind] ++ (d.x.cs ++ [.slice S m k, .string d.af, .int .i64 d.n]) ∧ Sl w 1 S m (ivs d.sg) ∧ d.x.d.length = 32 ∧ m ≤ 1048576
theorem DdAt.fr {w w' : World} {cs : List Value} {d : Dd} (h : DdAt w cs d) (f : Fr (fun _ => False) w w') : DdAt w' cs d := by
  obtain ⟨S, m, k, h1, h2, h3, h4⟩ := h
  exact ⟨S, m, k, h1, sl_fr h2 f, h3, h4⟩
theorem DdAt.len {w : World} {cs : List Value} {d : Dd} (h : DdAt w cs d) : cs.length = 43 := by
  obtain ⟨S, m, k, h1, h2, h3, h4⟩ := h
  rw [h1]; simp [wd_len h3]
theorem DdAt.one {w : World} {cs : List Value} {d : Dd} (h : DdAt w cs d) : ∀ v ∈ cs, v.oneCell' = true := by
  obtain ⟨S, m, k, rfl, _⟩ := h
  intro v hv
  rcases List.mem_append.1 hv with h | h
  · simp at h; subst h; rfl
  · rcases List.mem_append.1 h with h | h
    · exact wd_ones _ v h
    · simp at h; rcases h with rfl | rfl | rfl <;> rfl
/-- a row of deeds -/
def DRow (w : World) (A : Option Addr) (n : Nat) (l : List Dd) : Prop := l.length = n ∧ (n ≠ 0 → ∃ b o, A = some ⟨b, o, none⟩ ∧ ∀ (i : Nat) (d : Dd), l[i]? = some d → ∃ cs, DdAt w cs d ∧ cellsAt w b (o + i * 43) cs)
theorem DRow.fr {w w' : World} {A : Option Addr} {n : Nat} {l : List Dd} (h : DRow w A n l) (f : Fr (fun _ => False) w w') : DRow w' A n l := by
  refine ⟨h.1, fun h0 => ?_⟩
  obtain ⟨b, o, hA, hc⟩ := h.2 h0
  refine ⟨b, o, hA, fun i d hi => ?_⟩
  obtain ⟨cs, h1, h2⟩ := hc i d hi
  exact ⟨cs, h1.fr f, f.cells h2 (fun h => h)⟩
theorem wd_nm (x : Wd) (hx : x.d.length = 32) : x.cs[34]? = some (.string x.nm) := by
  unfold Wd.cs
  rw [List.getElem?_append_right (by simp), List.getElem?_append_right (by simp [hx])]
  simp [hx]
theorem z46 : Z46.length = 43 := rfl
/-- where the deeds stand -/
def StT (w : World) (i : Nat) (tb : Nat) (u : World) (R : Option Addr) (n c : Nat) (A6 : Option Addr) (n6 : Nat) (l : List Tn) : Prop :=
  Fr (fun _ => False) w u ∧ Tab (fun _ => True) u w.heap.size tb R n c l ∧ RD (DT tb R) u A6 n6 l ∧ AscT l ∧ l.length ≤ 1048576 + i ∧ Bd (1048576 + i) l
theorem StT.fr {w : World} {i tb : Nat} {u u' : World} {R : Option Addr} {n c : Nat} {A6 : Option Addr} {n6 : Nat} {l : List Tn} (h : StT w i tb u R n c A6 n6 l) (f : Fr (fun _ => False) u u') : StT w i tb u' R n c A6 n6 l :=
  ⟨h.1.trans1 f, h.2.1.fr0 f, h.2.2.1.fr0 f, h.2.2.2.1, h.2.2.2.2.1, h.2.2.2.2.2⟩
theorem there_w32 {P : Nat → Prop} {w : World} {A : Option Addr} {n : Nat} {l : List Tn} (h : RT P w A n l) : W32 (digL (thereL l)) := by
  intro d hd
  obtain ⟨e, he, rfl⟩ := List.mem_map.1 hd
  obtain ⟨vs, _, ht⟩ := h
  obtain ⟨i, hi⟩ := List.mem_iff_getElem?.1 (List.mem_filter.1 he).1
  exact (ht.at_ i e hi).dl
set_option maxHeartbeats 2000000 in
set_option maxRecDepth 100000 in
theorem does_law (A : Option Addr) (n c : Nat) (l0 : List Tn) (A1 : Option Addr) (n1 c1 : Nat) (ds : List Dd) (w : World) (h0 : RT (fun _ => True) w A n l0) (h1 : DRow w A1 n1 ds) (hn : n ≤ 1048576) (hn1 : n1 ≤ 1048576) (hb0 : Bd 1048576 l0) :
    Calls Try.prog 4 #[.slice A n c, .slice A1 n1 c1] w fun r w' => r = .returned (.bool true) ∧ Fr (fun _ => False) w w' := by
  refine (F4.of A n c A1 n1 c1 w (Q := fun v w' => v = .bool true ∧ Fr (fun _ => False) w w') ?_).mono (fun e w' ⟨v, he, hv, h⟩ => ⟨by rw [he, hv], h⟩)
  have hl0 := h0.len
  have hdl := h1.1
  refine (newT_calls (X := fun _ => True) A n c l0 w h0 (by omega) (fun e he => by have := hb0 e he; omega) (fun _ _ => trivial)).mono ?_
  rintro r w2 ⟨f2, tb, R, n', c', rfl, hT⟩
  have h0r := (h0.mono (P' := fun k => k < w.heap.size) (fun k hk _ => hk)).fr0 f2
  refine ⟨_, rfl, (rnew_calls A n c l0 w2 h0r (by omega)).mono ?_⟩
  rintro r w4 ⟨f4, A6, n6, c6, rfl, h6⟩
  have g4 := f2.trans1 f4
  have hT4 := hT.fr0 f4
  have hR0 : RD (DT tb R) w4 A6 n6 (newT l0) := RD.of (h6.mono (Nat.le_refl _) (fun k _ hk h' => by have := (hT.lt h').1; omega)) (fun k hk => (hT.lt hk).2)
  have hst0 : StT w 0 tb w4 R n' c' A6 n6 (newT l0) := by
    have e := newT_all l0
    refine ⟨g4, hT4, hR0, ?_, ?_, ?_⟩
    · rw [← e]; exact newT_asc _ _
    · rw [← e]; have := newT_len l0 l0.length; omega
    · rw [← e]; exact newT_bd hb0 _
  refine ⟨_, _, _, rfl, jnC_mk (loop_rule (fun s u => ∃ (i : Nat) (R : Option Addr) (n c : Nat) (A6 : Option Addr) (n6 c6 : Nat) (l : List Tn), i ≤ n1 ∧ s = ((A1, n1, c1), some ⟨tb, 0, none⟩, (A6, n6, c6), (i : Int), ()) ∧ StT w i tb u R n c A6 n6 l)
    (fun s _ => (n1 - s.2.2.2.1).toNat) ?_ _ _ ⟨0, R, n', c', A6, n6, c6, newT l0, by omega, rfl, hst0⟩)⟩
  clear hst0 hR0 hT4 h6 h0r
  rintro s u C ⟨i, R, n', c', A6, n6, c6, l, hi, rfl, hst⟩ hC _
  have hTl := hst.2.1.len
  have hll := hst.2.2.2.2.1
  refine vIf_mk (fun hlt => ?_) (fun hge => ?_)
  · have hlt2 : (i : Int) < (n1 : Int) := of_decide_eq_true hlt
    have gi : ds[i]? = some (ds[i]'(by omega)) := List.getElem?_eq_getElem (by omega)
    generalize ds[i]'(by omega) = d at gi
    obtain ⟨b, o, hA1, hcs⟩ := h1.2 (by omega)
    obtain ⟨cs, hd, hc⟩ := hcs i d gi
    have hc := hst.1.cells hc (fun h => h)
    have hDT : ∀ k, DT tb R k → w.heap.size ≤ k ∧ k < u.heap.size := fun k hk => hst.2.1.lt hk
    have hcl := hd.len
    have hone := hd.one
    rw [hA1]
    refine dr_mk (gd_mk (decide_eq_true (by show (0 : Int) ≤ (i : Int); omega)) (gd_mk (decide_eq_true hlt2) ⟨cs, hcl, by rw [Int.toNat_natCast]; exact hc, var_mkK z46 hcl hone (fun b12 u1 f1 r12 hb12 => ?_)⟩))
    obtain ⟨S, m, k, rfl, hS, hx, hm⟩ := hd
    have hSb : m ≠ 0 → ∀ k, blkOf S = some k → k < w.heap.size := fun h0 k hk => hS.blt (by decide) h0 hk
    have hst := hst.fr f1
    have hS := sl_fr hS hst.1
    have hws := hst.1.size
    have hxl := wd_len hx
    have hbd := hst.2.2.2.2.2
    -- what is asked behind a deed
    have fin : ∀ (v : World) (R' : Option Addr) (n' c' : Nat) (A6' : Option Addr) (n6' c6' : Nat) (l' : List Tn), StT w (i + 1) tb v R' n' c' A6' n6' l' → RecAt v b12 46 ([Value.int .i64 d.kind] ++ (d.x.cs ++ [.slice S m k, .string d.af, .int .i64 d.n])) →
        jnC (F4.k12 (fun v w' => v = .bool true ∧ Fr (fun _ => False) w w') C) ((some ⟨b, o, none⟩, n1, c1), some ⟨tb, 0, none⟩, (A6', n6', c6'), (i : Int), (b12, 0), ()) v := by
      intro v R' n' c' A6' n6' c6' l' hst r12
      obtain ⟨g, hT, hRD, ha, hlen, hb⟩ := hst
      have hTl := hT.len
      have hRl := hRD.1.len
      have hb2 : Bd 4294967296 l' := fun e he => by have := hb e he; omega
      have nmAt : ∀ {z : World}, Fr (fun _ => False) v z → cellAt z b12 (0 + 1 + 34) = some (.string d.x.nm) := fun fz => rec_mid (r12.fr fz (fun h => h)) 34 _ (wd_nm d.x hx)
      have afAt : ∀ {z : World}, Fr (fun _ => False) v z → cellAt z b12 (0 + 41) = some (.string d.af) := fun fz => rec_end (r12.fr fz (fun h => h)) hxl (j := 1) rfl rfl
      have nAt : ∀ {z : World}, Fr (fun _ => False) v z → cellAt z b12 (0 + 42) = some (.int .i64 d.n) := fun fz => rec_end (r12.fr fz (fun h => h)) hxl (j := 2) rfl rfl
      refine jnC_mk (fun _ => ⟨d.x.nm, nmAt (Fr.refl _ _), (getT_calls w.heap.size tb R' n' c' l' d.x.nm v hT ha (by omega) hb2).mono ?_⟩)
      rintro r v1 ⟨q1, cs1, rfl, p1⟩
      refine ⟨_, _, rfl, var_mk z35 p1.len p1.one (fun b30 v2 q2 r30 => ⟨d.x.nm, nmAt (q1.trans1 q2), (rget_calls A6' n6' c6' l' d.x.nm v2 (hRD.1.fr0 (q1.trans1 q2)) (by omega)).mono ?_⟩)⟩
      rintro r v3 ⟨q3, cs3, rfl, p3⟩
      refine ⟨_, _, rfl, var_mk z35 p3.len p3.one (fun b38 v4 q4 r38 => ?_)⟩
      have q24 := (q3.trans1 q4).trans1 (Fr.drew _ v4)
      have k4 := (q1.trans1 q2).trans1 q24
      have r30 := r30.fr q24 (fun h => h)
      have r38 : RecAt v4.drew _ _ _ := r38
      have p1 := p1.fr0 (q2.trans1 q24)
      have p3 := p3.fr0 (q4.trans1 (Fr.drew _ v4))
      generalize v4.drew = v4 at k4 r30 r38 p1 p3 ⊢
      have hgb := getR_bd hb d.x.nm
      refine ⟨cs1, p1.len, rec_all r30, cs3, p3.len, rec_all r38, (sameT_calls _ cs1 cs3 v4 p1.at p3.at (by omega)).mono ?_⟩
      rintro r v5 ⟨rfl, q5⟩
      have k5 := k4.trans1 q5
      refine ⟨_, rfl, vIf_f rfl (vIf_f (by simp) ((countT_calls w.heap.size tb R' n' c' l' v5 (hT.fr0 k5) (by omega) hb2).mono ?_))⟩
      rintro r v6 ⟨rfl, q6⟩
      have k6 := k5.trans1 q6
      refine ⟨_, rfl, (rnames_calls A6' n6' c6' l' v6 (hRD.1.fr0 k6) (by omega)).mono ?_⟩
      rintro r v7 ⟨q7, A51, c53, rfl, p7⟩
      have k7 := k6.trans1 q7
      refine ⟨_, _, _, rfl, vIf_f (by rw [digL_len]; simp) ⟨d.af, afAt k7, d.n, nAt k7, d.af, afAt k7, d.n, nAt k7, (listT_calls w.heap.size tb R' n' c' l' d.af d.n v7 (hT.fr0 k7) (by omega) hb2).mono ?_⟩⟩
      rintro r v8 ⟨q8, A60, c62, rfl, p8⟩
      have k8 := k7.trans1 q8
      have hlt12 : b12 < v7.heap.size := (r12.fr k7 (fun h => h)).lt
      refine ⟨_, _, _, rfl, kp_mk q8 hlt12 (fun h => h) (kp_mk q8 hlt12 (fun h => h) ((rlist_calls A6' n6' c6' l' d.af d.n v8 (hRD.1.fr0 k8) (by omega)).mono ?_))⟩
      rintro r v9 ⟨q9, A65, c67, rfl, p9⟩
      have k9 := k8.trans1 q9
      have hLl := listL_len d.af d.n l'
      refine ⟨_, _, _, rfl, (texts_calls A60 _ c62 A65 _ c67 (listL d.af d.n l') v9 (q9.sl p8.sl (fun _ _ _ h => h)) p9.sl (by omega)).mono ?_⟩
      rintro r v10 ⟨rfl, q10⟩
      have k10 := k9.trans1 q10
      refine ⟨_, rfl, vIf_f rfl ((namesT_calls w.heap.size tb R' n' c' l' v10 (hT.fr0 k10) (by omega) hb2).mono ?_)⟩
      rintro r v11 ⟨q11, A73, c75, rfl, p11⟩
      have k11 := k10.trans1 q11
      refine ⟨_, _, _, rfl, (rnames_calls A6' n6' c6' l' v11 (hRD.1.fr0 k11) (by omega)).mono ?_⟩
      rintro r v12 ⟨q12, A78, c80, rfl, p12⟩
      have k12 := k11.trans1 q12
      have hw32 := there_w32 hRD.1
      have hTh := thereL_len l'
      refine ⟨_, _, _, rfl, (same_dig A73 _ c75 _ A78 _ c80 _ v12 (q12.sl p11.sl (fun _ _ _ h => h)) hw32 p12.sl hw32 (by omega)).mono ?_⟩
      rintro r v13 ⟨rfl, q13⟩
      have k13 := k12.trans1 q13
      refine ⟨_, rfl, vIf_f (by simp) ((rowT_calls w.heap.size tb R' n' c' l' v13 (hT.fr0 k13) (by omega) hb2).mono ?_)⟩
      rintro r v14 ⟨q14, A86, c88, rfl, p14⟩
      have k14 := k13.trans1 q14
      refine ⟨_, _, _, rfl, (sameL_calls A86 _ c88 A6' n6' c6' l' v14 p14.rt (hRD.1.fr0 k14) (by omega) hb2).mono ?_⟩
      rintro r v15 ⟨rfl, q15⟩
      refine ⟨_, rfl, vIf_f rfl (jnC_mk (hC _ _ ⟨i + 1, R', n', c', A6', n6', c6', l', by omega, by rw [ei i (by omega), hA1], StT.fr ⟨g, hT, hRD, ha, hlen, hb⟩ (k14.trans1 q15)⟩ ?_))⟩
      show ((n1 : Int) - IntKind.wrap .i64 ((i : Int) + 1)).toNat < ((n1 : Int) - (i : Int)).toNat
      rw [ei i (by omega)]; omega
    obtain ⟨g, hT, hRD, ha, hlen, hb⟩ := hst
    have hb12D : ¬ DT tb R b12 := fun h => by have := (hDT b12 h).2; omega
    have stepD : ∀ {R2 : Option Addr} {z : World}, (∀ k, blkOf R2 = some k → blkOf R = some k ∨ z.heap.size ≤ k) → ∀ k, DT tb R2 k → DT tb R k ∨ z.heap.size ≤ k := fun hnew k hk => by
      rcases hk with h | h
      · exact .inl (.inl h)
      · rcases hnew k h with h' | h'
        · exact .inl (.inr h')
        · exact .inr h'
    refine ⟨d.kind, r12.cell rfl, vIf_mk (fun h0 => ?_) (fun h0 => ?_)⟩
    · refine ⟨d.x.cs, hxl, rec_mid r12, (applyT_calls w.heap.size tb R n' c' l d.x u1 hT ha (by omega) (fun e he => by have := hb e he; omega) hx hws (fun _ _ => trivial)).mono ?_⟩
      rintro r u2 ⟨rfl, f2', R2, n2, c2, h2, hnew⟩
      have r12 := r12.fr f2' hb12D
      have hRD2 := hRD.step f2' (stepD hnew)
      have g2 := tab_fr g hT f2'
      refine ⟨rfl, d.x.cs, hxl, rec_mid r12, (rapply_calls A6 n6 c6 l d.x u2 hRD2 ha (by have := hRD2.1.len; omega) (fun e he => by have := hb e he; omega) hx (fun k hk => (h2.lt hk).2)).mono ?_⟩
      rintro r u3 ⟨f3, A7, n7, c7, rfl, h7⟩
      have hal := applyL_len d.x l
      have hab := applyL_bd hb d.x
      exact ⟨_, _, _, rfl, fin u3 R2 n2 c2 A7 n7 c7 (applyL d.x l) ⟨g2.trans1 f3, h2.fr0 f3, h7, applyL_asc d.x ha, by omega, hab⟩ (r12.fr f3 (fun h => h))⟩
    · refine ⟨S, m, k, rec_end r12 hxl (j := 0) rfl rfl, (keepTab_calls w.heap.size tb R n' c' l S m k d.sg u1 hT (by omega) (fun e he => by have := hb e he; omega) hS (by omega) hws (fun _ _ => trivial)).mono ?_⟩
      rintro r u2 ⟨rfl, f2', R2, n2, c2, h2, hnew⟩
      have r12 := r12.fr f2' hb12D
      have hRD2 := hRD.step f2' (stepD (fun k hk => .inr (hnew k hk)))
      have g2 := tab_fr g hT f2'
      have hS2 := f2'.sl hS (fun h0 k hk h' => by have := hSb h0 k hk; have := (hDT k h').1; omega)
      refine ⟨rfl, S, m, k, rec_end r12 hxl (j := 0) rfl rfl, (rkeepTab_calls A6 n6 c6 l S m k d.sg u2 hRD2 (by have := hRD2.1.len; omega) (fun e he => by have := hb e he; omega) hS2 (by omega) (fun k hk => (h2.lt hk).2)).mono ?_⟩
      rintro r u3 ⟨f3, A7, n7, c7, rfl, h7⟩
      have hal := keepL_len d.sg l
      have hab := keepL_bd hb d.sg
      exact ⟨_, _, _, rfl, fin u3 R2 n2 c2 A7 n7 c7 (keepL d.sg l) ⟨g2.trans1 f3, h2.fr0 f3, h7, keepL_asc d.sg ha, by omega, fun e he => by have := hab e he; omega⟩ (r12.fr f3 (fun h => h))⟩
  · obtain ⟨g, hT, hRD, ha, hlen, hb⟩ := hst
    have hb2 : Bd 4294967296 l := fun e he => by have := hb e he; omega
    have hRl := hRD.1.len
    refine (rowT_calls w.heap.size tb R n' c' l u hT (by omega) hb2).mono ?_
    rintro r v14 ⟨q14, A86, c88, rfl, p14⟩
    refine ⟨_, _, _, rfl, (sameL_calls A86 _ c88 A6 n6 c6 l v14 p14.rt (hRD.1.fr0 q14) (by omega) hb2).mono ?_⟩
    rintro r v15 ⟨rfl, q15⟩
    refine ⟨_, rfl, vIf_t rfl ((lives_calls v15).mono ?_)⟩
    rintro r v16 ⟨rfl, q16⟩
    exact ⟨_, rfl, rfl, ((g.trans1 q14).trans1 q15).trans1 q16⟩
end Go.Proofs.Ytklanoocjlpemaa
