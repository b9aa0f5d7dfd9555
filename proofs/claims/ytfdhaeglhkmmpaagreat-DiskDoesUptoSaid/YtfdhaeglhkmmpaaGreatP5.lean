import Derived.Test.YtfdhaeglhkmmpaaGreatP4
/- chapter 10, the document's: More, Append, Cut, Crash -/
namespace Go.Proofs.YtfdhaeglhkmmpaaGreat
open Go.GV Go.RowKit Go.Lib
set_option linter.unusedVariables false
set_option linter.unusedSimpArgs false
theorem wrs_one {w : World} {vs : List Value} {n : Nat} {l : List Wr} (h : vs.length = n * 3) (hl : l.length = n) (hE : Ech 3 (WrP w) vs l) : ∀ v ∈ vs, v.oneCell' = true := by
  intro v hv
  obtain ⟨j, hj⟩ := List.mem_iff_getElem?.1 hv
  have hjl := (List.getElem?_eq_some_iff.1 hj).1
  have gx : l[j / 3]? = some (l[j / 3]'(by omega)) := List.getElem?_eq_getElem (by omega)
  have hw := hE (j / 3) _ gx
  refine (wr_one hw).2 v (List.mem_iff_getElem?.2 ⟨j % 3, ?_⟩)
  rw [chk_get (by omega), show j / 3 * 3 + j % 3 = j by omega]
  exact hj
set_option maxHeartbeats 1000000 in
theorem rmore_calls (cs : List Value) (x : Ino) (cy : List Value) (y : Wr) (w : World) (h : InoAt w cs x) (hy : WrP w cy y) (hp : x.p.length ≤ 1099511627774) :
    Calls Tryz.prog 134 #[ofL cs, ofL cy] w fun e w' => Fr (fun _ => False) w w' ∧ ∃ cs', e = .returned (ofL cs') ∧ InoAt w' cs' ⟨x.b, x.p ++ [y]⟩ := by
  refine (F134.of cs cy w (Q := fun v w' => Fr (fun _ => False) w w' ∧ ∃ cs', v = ofL cs' ∧ InoAt w' cs' ⟨x.b, x.p ++ [y]⟩) ?_).mono (fun e w' ⟨v, he, hf, cs', hv, h⟩ => ⟨hf, cs', by rw [he, hv], h⟩)
  have hyo := wr_one hy
  obtain ⟨A, n, c, A', n', c', rfl, h1, h2, h3, h4⟩ := h
  have hn' := wsl_n h3
  refine rec_new (fun b1 w2 f1 hb1 r1 => rec_new (fun b3 w4 f3 hb3 r3 => rec_new (fun b5 w6 f5 hb5 r5 => ?_)))
  have hl5 := r5.lt
  have hl1 := r1.lt
  have hs1 := f1.size
  have hs3 := f3.size
  have hs5 := f5.size
  have r1 := (r1.fr f3 (fun h => h)).fr f5 (fun h => h)
  have r3 := r3.fr f5 (fun h => h)
  have f0 := (f1.trans1 f3).trans1 f5
  obtain ⟨vs, hs, hl, hE⟩ := h3.fr0 f0
  have hvone := wrs_one hs.1 hl hE
  have hR := Row.nil w6 w6.heap.size 124 3
  refine ⟨_, _, _, r1.cell (o := 0 + 1) rfl, app_row hR hs.src hvone rfl (by omega) (by omega) (Nat.le_refl _) ?_⟩
  intro A10 c12 w13 h13 f13
  rw [Nat.zero_add] at h13 ⊢
  rw [List.nil_append] at h13
  have f13 : Fr (fun _ => False) w6 w13 := f13.mono (fun _ _ h => by simp [blkOf] at h)
  have fd : Fr (fun _ => False) w13 w13.drew := Fr.drew _ _
  have g1 := f13.trans1 fd
  have r1 := r1.fr g1 (fun h => h)
  have r3 := r3.fr g1 (fun h => h)
  have r5 := r5.fr g1 (fun h => h)
  have h13 := fd.row h13 (fun _ _ h => h)
  have f1' := f0.trans1 g1
  have hs6 := g1.size
  generalize w13.drew = w14 at fd g1 r1 r3 r5 h13 f1' hs6 ⊢
  refine ⟨_, _, _, r1.cell (o := 0) rfl, cy, hyo.1, rec_all r3, gd_mk (by rw [hyo.1]; rfl) ?_⟩
  rw [List.append_nil]
  refine rec_new (fun b18 w19 f19 hb18 r18 => kp_mk f19 r1.lt (fun h => h) ?_)
  have h19 := f19.row h13 (fun _ _ h => h)
  have hs19 := f19.size
  have hSl : Sl w19 3 (some ⟨b18, 0, none⟩) 1 cy := ⟨by rw [hyo.1], fun _ => ⟨b18, 0, rfl, rec_all r18⟩⟩
  refine app_row h19 hSl.src hyo.2 rfl (by omega) (by omega) (by omega) ?_
  intro A20 c22 w23 h23 f23
  have hfar : ∀ k, blkOf A10 = some k → w6.heap.size ≤ k := fun k hk => (h19.blt hk).1
  have f1923 : Fr (fun k => w6.heap.size ≤ k) w14 w23 := f19.trans f23 (fun _ _ h => h.elim) (fun k _ h => hfar k h)
  refine kp_mk f1923 r1.lt (fun h => by omega) ?_
  have r5 := r5.fr f1923 (fun h => by omega)
  refine gd_mk rfl (r5.st_mk (o := 0) (by show 0 + 2 ≤ 2; omega) (fun v hv => ?_) (fun r5 f7 => ?_))
  · simp only [List.cons_append, List.nil_append, List.mem_cons, List.not_mem_nil, or_false] at hv
    rcases hv with rfl | rfl <;> rfl
  rw [splice_full (by rfl)] at r5
  have hs0 := f0.size
  have f023 : Fr (fun _ => False) w w23 := f1'.trans f1923 (fun _ _ h => h) (fun j hj h => by omega)
  have f07 : Fr (fun _ => False) w (stB w23 b5 0 ([Value.slice A n c] ++ ([Value.slice A20 (n' + 1) c22] ++ []))) := f023.trans f7 (fun _ _ h => h) (fun j hj h => by have h : j = b5 := h; omega)
  have h23' := f7.row h23 (fun j hj h => by have h : j = b5 := h; have := (h23.blt hj).1; omega)
  refine ⟨[.slice A n c, .slice A20 (n' + 1) c22], rfl, rec_all r5, f07, _, rfl, _, _, _, _, _, _, rfl, f07.sl h1 (fun _ _ _ h => h), h2, ⟨vs ++ cy, h23'.sl, by rw [List.length_append, hl]; rfl, ?_⟩, h23'.le⟩
  obtain ⟨vs0, hs0', hl0, hE0⟩ := h3
  have e : vs = vs0 := by
    by_cases h0 : n' = 0
    · have a1 := hs.1
      have a2 := hs0'.1
      rw [h0] at a1 a2
      simp at a1 a2
      rw [a1, a2]
    · obtain ⟨q1, o1, e1, c1⟩ := hs.2 h0
      obtain ⟨q2, o2, e2, c2⟩ := (f0.sl hs0' (fun _ _ _ h => h)).2 h0
      rw [e1] at e2
      injection e2 with e2
      injection e2 with e2 e3
      subst e2; subst e3
      apply List.ext_getElem?
      intro j
      by_cases hj : j < vs.length
      · have hj0 : j < vs0.length := by rw [hs0'.1, ← hs.1]; exact hj
        have a := c1 j _ (List.getElem?_eq_getElem hj)
        have b := c2 j _ (List.getElem?_eq_getElem hj0)
        rw [a] at b
        rw [List.getElem?_eq_getElem hj, List.getElem?_eq_getElem hj0]
        exact b
      · rw [List.getElem?_eq_none (by omega), List.getElem?_eq_none (by rw [hs0'.1, ← hs.1]; omega)]
  rw [e]
  exact (hE0.mono (fun cs z hz => hz.fr0 f07)).snoc hs0'.1 hl0 hyo.1 (hy.fr0 f07)
set_option maxHeartbeats 1000000 in
theorem rapp_calls (cs : List Value) (x : Ino) (A : Option Addr) (n c : Nat) (b : Bs) (w : World) (h : InoAt w cs x) (hA : Sl w 1 A n (bys b)) (hc : n ≤ c) (hb : InoB x) (hp : x.p.length ≤ 1099511627774) (hn : n ≤ 1099511627776) :
    Calls Tryz.prog 106 #[ofL cs, .slice A n c] w fun e w' => Fr (fun _ => False) w w' ∧ ∃ cs', e = .returned (.tuple #[ofL cs', .int .i64 (appI x b).2]) ∧ InoAt w' cs' (appI x b).1 := by
  refine (F106.of cs A n c w (Q := fun v w' => Fr (fun _ => False) w w' ∧ ∃ cs', v = .tuple #[ofL cs', .int .i64 (appI x b).2] ∧ InoAt w' cs' (appI x b).1) ?_).mono (fun e w' ⟨v, he, hf, cs', hv, h⟩ => ⟨hf, cs', by rw [he, hv], h⟩)
  have hone := ino_one h
  have hbl := by_n hA
  have hnow := now_le hb
  have h0' := h
  obtain ⟨A1, n1, c1, A2, n2, c2, ecs, q1, q2, q3, q4⟩ := h
  have hn2 := wsl_n q3
  refine rec_new (fun b1 w2 f1 hb1 r1 => rec_new (fun b3 w4 f3 hb3 r3 => ?_))
  have r1 := r1.fr f3 (fun h => h)
  have hl3 := r3.lt
  have hs1 := f1.size
  have f13 := f1.trans1 f3
  have lt3 : ∀ k, k < w.heap.size → ¬ k = b3 := fun k hk h => by omega
  subst ecs
  refine ⟨_, _, _, r1.cell (o := 0) rfl, _, _, _, r1.cell (o := 0 + 1) rfl, ?_⟩
  refine (rall_calls A1 n1 c1 x.b A2 n2 c2 x.p w4 (f13.sl q1 (fun _ _ _ h => h)) (q3.fr0 f13) hb.b (by omega) hb.d).mono ?_
  rintro e w6 ⟨f6, B, k, rfl, h6⟩
  have r1 := r1.fr f6 (fun h => h)
  have r3 := r3.fr f6 (fun h => h)
  have f16 := f13.trans1 f6
  have enow : (allW x.b x.p).length = (nowI x).length := rfl
  have ew : IntKind.wrap .i64 ((((allW x.b x.p).length : Nat) : Int) + ((n : Nat) : Int)) = ((nowI x).length : Int) + (n : Int) := by rw [enow]; exact i64_id (by omega) (by omega)
  have keep : ∀ k : Int, appI x b = (x, k) → ∀ v, Fr (fun j => j = b3) w6 v → Fr (fun _ => False) w v ∧ ∃ cs', Value.tuple #[ofL [.slice A1 n1 c1, .slice A2 n2 c2], .int .i64 k] = .tuple #[ofL cs', .int .i64 (appI x b).2] ∧ InoAt v cs' (appI x b).1 := by
    intro k hk v fv
    have f := f16.trans fv (U := fun _ => False) (fun _ _ h => h) (fun j hj h => lt3 j hj h)
    exact ⟨f, _, by rw [hk], by rw [hk]; exact h0'.fr0 f⟩
  refine ⟨_, _, _, rfl, ?_⟩
  rw [ew]
  refine vIf_mk (fun hbig => ⟨_, hone.1, rec_all r1, ans_mk r3 rfl hone.1 hone.2 (fun v fv => keep 18 ?_ v fv)⟩) (fun hbig => vIf_mk (fun h0 => ⟨_, hone.1, rec_all r1, ans_mk r3 rfl hone.1 hone.2 (fun v fv => keep 0 ?_ v fv)⟩) (fun h0 => ?_))
  · have hbig := of_decide_eq_true hbig
    unfold appI
    rw [if_pos (by omega)]
  · have hbig := of_decide_eq_false hbig
    have h0 : (n : Int) = 0 := by simpa using h0
    have hb0 : b = [] := List.length_eq_zero_iff.1 (by omega)
    unfold appI
    rw [if_neg (by omega), if_pos hb0]
  · have hbig := of_decide_eq_false hbig
    have h0 : ¬ (n : Int) = 0 := by simpa using h0
    have hb0 : b ≠ [] := fun e => by rw [e] at hbl; simp at hbl; omega
    have eA : appI x b = (⟨x.b, x.p ++ [⟨false, ((nowI x).length : Int), b⟩]⟩, 0) := by
      unfold appI
      rw [if_neg (by omega), if_neg hb0]
    refine ⟨_, hone.1, rec_all r1, ?_⟩
    have hWP : WrP w6 [.bool false, .int .i64 ((nowI x).length : Int), .slice A n c] ⟨false, ((nowI x).length : Int), b⟩ := ⟨A, n, c, rfl, f16.sl hA (fun _ _ _ h => h), hc⟩
    refine (rmore_calls _ x _ _ w6 (h0'.fr0 f16) hWP hp).mono ?_
    rintro e w25 ⟨f10, cs', rfl, hI⟩
    have hI1 := ino_one hI
    have r3 := r3.fr f10 (fun h => h)
    refine ⟨_, rfl, ans_mk r3 rfl hI1.1 hI1.2 (fun v fv => ?_)⟩
    have f := (f16.trans1 f10).trans fv (U := fun _ => False) (fun _ _ h => h) (fun j hj h => lt3 j hj h)
    refine ⟨f, cs', by rw [eA], ?_⟩
    rw [eA]
    exact hI.fr fv (fun j hj => by have hj : j = b3 := hj; subst hj; exact two_alien r3)
set_option maxHeartbeats 1000000 in
theorem rcutI_calls (cs : List Value) (x : Ino) (m : Int) (w : World) (h : InoAt w cs x) (hb : InoB x) (hp : x.p.length ≤ 1099511627774) :
    Calls Tryz.prog 107 #[ofL cs, .int .i64 m] w fun e w' => Fr (fun _ => False) w w' ∧ ∃ cs', e = .returned (.tuple #[ofL cs', .int .i64 (cutI x m).2]) ∧ InoAt w' cs' (cutI x m).1 := by
  refine (F107.of cs m w (Q := fun v w' => Fr (fun _ => False) w w' ∧ ∃ cs', v = .tuple #[ofL cs', .int .i64 (cutI x m).2] ∧ InoAt w' cs' (cutI x m).1) ?_).mono (fun e w' ⟨v, he, hf, cs', hv, h⟩ => ⟨hf, cs', by rw [he, hv], h⟩)
  have hone := ino_one h
  have h0' := h
  obtain ⟨A1, n1, c1, A2, n2, c2, ecs, q1, q2, q3, q4⟩ := h
  have hn2 := wsl_n q3
  refine rec_new (fun b1 w2 f1 hb1 r1 => rec_new (fun b3 w4 f3 hb3 r3 => ?_))
  have r1 := r1.fr f3 (fun h => h)
  have hs1 := f1.size
  have f13 := f1.trans1 f3
  have lt3 : ∀ k, k < w.heap.size → ¬ k = b3 := fun k hk h => by omega
  have bad : cutI x m = (x, 20) → ∀ v, Fr (fun _ => False) w4 v → jnC (F107.k2 (fun v w' => Fr (fun _ => False) w w' ∧ ∃ cs', v = .tuple #[ofL cs', .int .i64 (cutI x m).2] ∧ InoAt w' cs' (cutI x m).1)) (m, (b1, 0), (b3, 0), true, ()) v := by
    intro e v fv
    refine jnC_mk (fun _ => vIf_t rfl ⟨cs, hone.1, rec_all (r1.fr fv (fun h => h)), ans_mk (r3.fr fv (fun h => h)) rfl hone.1 hone.2 (fun u fu => ?_)⟩)
    have f := (f13.trans1 fv).trans fu (U := fun _ => False) (fun _ _ h => h) (fun j hj h => lt3 j hj h)
    exact ⟨f, cs, by rw [e], by rw [e]; exact h0'.fr0 f⟩
  have good : cutI x m = (⟨x.b, x.p ++ [⟨true, m, []⟩]⟩, 0) → ∀ v, Fr (fun _ => False) w4 v → jnC (F107.k2 (fun v w' => Fr (fun _ => False) w w' ∧ ∃ cs', v = .tuple #[ofL cs', .int .i64 (cutI x m).2] ∧ InoAt w' cs' (cutI x m).1)) (m, (b1, 0), (b3, 0), false, ()) v := by
    intro e v fv
    refine jnC_mk (fun _ => vIf_f rfl (jnC_mk (fun _ => ⟨cs, hone.1, rec_all (r1.fr fv (fun h => h)), ?_⟩)))
    have f19 := f13.trans1 fv
    have r3 := r3.fr fv (fun h => h)
    have hWP : WrP v [.bool true, .int .i64 m, .slice none 0 0] ⟨true, m, []⟩ := ⟨none, 0, 0, rfl, Sl.nil _ _ _, Nat.le_refl _⟩
    refine (rmore_calls cs x _ _ v (h0'.fr0 f19) hWP hp).mono ?_
    rintro r w11 ⟨f10, cs', rfl, hI⟩
    have hI1 := ino_one hI
    have r3 := r3.fr f10 (fun h => h)
    refine ⟨_, rfl, ans_mk r3 rfl hI1.1 hI1.2 (fun u fu => ?_)⟩
    have f := (f19.trans1 f10).trans fu (U := fun _ => False) (fun _ _ h => h) (fun j hj h => lt3 j hj h)
    refine ⟨f, cs', by rw [e], ?_⟩
    rw [e]
    exact hI.fr fu (fun j hj => by have hj : j = b3 := hj; subst hj; exact two_alien r3)
  subst ecs
  refine vIf_mk (fun hneg => bad ?_ w4 (Fr.refl _ _)) (fun hneg => ⟨_, _, _, r1.cell (o := 0) rfl, _, _, _, r1.cell (o := 0 + 1) rfl, (rall_calls A1 n1 c1 x.b A2 n2 c2 x.p w4 (f13.sl q1 (fun _ _ _ h => h)) (q3.fr0 f13) hb.b (by omega) hb.d).mono ?_⟩)
  · have hneg := of_decide_eq_true hneg
    unfold cutI
    rw [if_pos (.inl hneg)]
  · have hneg := of_decide_eq_false hneg
    rintro e w17 ⟨f6, B, k, rfl, h6⟩
    refine ⟨_, _, _, rfl, ?_⟩
    cases hc : decide (m > (((allW x.b x.p).length : Nat) : Int)) with
    | true =>
      have hc : m > (((nowI x).length : Nat) : Int) := of_decide_eq_true hc
      refine bad ?_ w17 f6
      unfold cutI
      rw [if_pos (.inr hc)]
    | false =>
      have hc : ¬ m > (((nowI x).length : Nat) : Int) := of_decide_eq_false hc
      refine good ?_ w17 f6
      unfold cutI
      rw [if_neg (fun h => h.elim hneg hc)]
set_option maxHeartbeats 1000000 in
theorem rcrashI_calls (cs : List Value) (x : Ino) (C : Option Addr) (nc cc : Nat) (ch : Bs) (w : World) (h : InoAt w cs x) (hC : Sl w 1 C nc (bys ch)) (hcc : nc ≤ cc) (hb : InoB x) (hp : x.p.length ≤ 1099511627775) (hn : nc ≤ 1099511627775) :
    Calls Tryz.prog 85 #[ofL cs, .slice C nc cc] w fun e w' => Fr (fun _ => False) w w' ∧ ∃ cs' D nd dd, e = .returned (.tuple #[ofL cs', .slice D nd dd]) ∧ InoAt w' cs' (crashI x ch).1 ∧ Sl w' 1 D nd (bys (crashI x ch).2) ∧ nd ≤ dd := by
  refine (F85.of cs C nc cc w (Q := fun v w' => Fr (fun _ => False) w w' ∧ ∃ cs' D nd dd, v = .tuple #[ofL cs', .slice D nd dd] ∧ InoAt w' cs' (crashI x ch).1 ∧ Sl w' 1 D nd (bys (crashI x ch).2) ∧ nd ≤ dd) ?_).mono (fun e w' ⟨v, he, hf, cs', D, nd, dd, hv, h⟩ => ⟨hf, cs', D, nd, dd, by rw [he, hv], h⟩)
  have hcl := by_n hC
  obtain ⟨A, n, c, A', n', c', rfl, h1, h2, h3, h4⟩ := h
  have hn' := wsl_n h3
  refine rec_new (fun b1 w2 f1 hb1 r1 => rec_new (fun b3 w4 f3 hb3 r3 => ?_))
  have hl3 := r3.lt
  have hl1 := r1.lt
  have r1 := r1.fr f3 (fun h => h)
  have f0 := f1.trans1 f3
  have hs1 := f1.size
  refine ⟨_, _, _, r1.cell (o := 0) rfl, _, _, _, r1.cell (o := 0 + 1) rfl, ?_⟩
  have hC5 := f0.sl hC (fun _ _ _ h => h)
  refine (rsurv_calls A n c x.b A' n' c' x.p C nc cc ch w4 (f0.sl h1 (fun _ _ _ h => h)) (h3.fr0 f0) hC5 hb.b (by omega) hb.d).mono ?_
  rintro e w14 ⟨f6, B, k, rfl, h6⟩
  have r1 := r1.fr f6 (fun h => h)
  have r3 := r3.fr f6 (fun h => h)
  have hs6 := f6.size
  have f06 := f0.trans1 f6
  refine ⟨_, _, _, rfl, _, _, _, r1.cell (o := 0 + 1) rfl, vIf_mk (fun hlt => ?_) (fun hge => ?_)⟩
  · have hlt : (nc : Int) < (n' : Int) := of_decide_eq_true hlt
    refine gd_mk rfl (r3.st_mk (o := 0) (by show 0 + 2 ≤ 2; omega) (fun v hv => ?_) (fun r3 f8 => ?_))
    · simp only [List.cons_append, List.nil_append, List.mem_cons, List.not_mem_nil, or_false] at hv
      rcases hv with rfl | rfl <;> rfl
    rw [splice_full (by rfl)] at r3
    refine ⟨[.slice B (survW x.b x.p ch).length k, .slice none 0 0], rfl, rec_all r3, f06.trans f8 (fun _ _ h => h) (fun j hj h => by have h : j = b3 := h; omega), _, none, 0, 0, rfl, ?_, ?_, Nat.le_refl _⟩
    · have h6' := f8.row h6 (fun j hj h => by have h : j = b3 := h; have := (h6.blt hj).1; omega)
      exact ⟨_, _, _, _, _, _, rfl, h6'.sl, h6'.le, ⟨[], Sl.nil _ _ _, rfl, Ech.nil⟩, Nat.le_refl _⟩
    · show Sl _ 1 none 0 (bys (ch.drop x.p.length))
      rw [List.drop_of_length_le (by omega)]
      exact Sl.nil _ _ _
  · have hge : ¬ (nc : Int) < (n' : Int) := of_decide_eq_false hge
    have fd : Fr (fun _ => False) w14 w14.drew := Fr.drew _ _
    have r1 := r1.fr fd (fun h => h)
    have r3 := r3.fr fd (fun h => h)
    have h6 := fd.row h6 (fun _ _ h => h)
    have f06 := f06.trans1 fd
    have hC6 := (f6.trans1 fd).sl hC5 (fun _ _ _ h => h)
    generalize w14.drew = w15 at fd r1 r3 h6 f06 hC6 ⊢
    refine ⟨_, _, _, r1.cell (o := 0 + 1) rfl, gd_mk (decide_eq_true (by omega)) (gd_mk (decide_eq_true (by omega)) (gd_mk rfl (r3.st_mk (o := 0) (by show 0 + 2 ≤ 2; omega) (fun v hv => ?_) (fun r3 f8 => ?_))))⟩
    · simp only [List.cons_append, List.nil_append, List.mem_cons, List.not_mem_nil, or_false] at hv
      rcases hv with rfl | rfl <;> rfl
    rw [splice_full (by rfl)] at r3
    refine kp_mk f8 r1.lt (fun h => by have h : b1 = b3 := h; omega) ⟨[.slice B (survW x.b x.p ch).length k, .slice none 0 0], rfl, rec_all r3, f06.trans f8 (fun _ _ h => h) (fun j hj h => by have h : j = b3 := h; omega), _, _, _, _, rfl, ?_, ?_, ?_⟩
    · have h6' := f8.row h6 (fun j hj h => by have h : j = b3 := h; have := (h6.blt hj).1; omega)
      exact ⟨_, _, _, _, _, _, rfl, h6'.sl, h6'.le, ⟨[], Sl.nil _ _ _, rfl, Ech.nil⟩, Nat.le_refl _⟩
    · rw [Int.toNat_natCast]
      have hCd := slDrop (c := cc) hC6 (show n' ≤ nc by omega) hcc
      have hCd : Sl w15 1 (slA C cc n' 1) (nc - n') (bys (ch.drop n')) := by
        have e2 : bys (ch.drop n') = (bys ch).drop n' := by simp [bys, List.map_drop]
        rw [e2]; exact hCd
      show Sl _ 1 _ _ (bys (ch.drop x.p.length))
      rw [hn']
      refine f8.sl hCd (fun h0 j hj h => ?_)
      have h : j = b3 := h
      subst h
      have hbb : j < w.heap.size := by
        by_cases hnc : nc = 0
        · omega
        · obtain ⟨bC, oC, eC, _⟩ := hC.2 hnc
          subst eC
          have : blkOf (slA (some (⟨bC, oC, none⟩ : Addr)) cc n' 1) = some bC := by
            unfold slA
            split
            · rfl
            · rw [Option.map_some, add_none]; rfl
          rw [this] at hj
          injection hj with hj
          subst hj
          exact hC.blt (by omega) hnc rfl
      omega
    · rw [Int.toNat_natCast]
      omega
end Go.Proofs.YtfdhaeglhkmmpaaGreat
/- chapter 12, plainly: which files a disk keeps; what every call leaves right -/
namespace Go.Proofs.YtfdhaeglhkmmpaaGreat
open Go.GV Go.RowKit Go.Lib
set_option linter.unusedVariables false
set_option linter.unusedSimpArgs false
theorem lastN_id {l : List Nm} (h : AscN l) : lastN l = l := ascN_ext (lastN_asc l) h (fun s => lastN_find s l)
theorem cnt_nat (i : Nat) (P : List Ch) : cnt (i : Nat) P = min i P.length := by
  unfold cnt
  rw [if_neg (by omega), Int.toNat_natCast]
theorem behF_at (F : Fo) (i : Nat) (h : i ≤ F.P.length) : behF F (i : Nat) = behN F.L (F.P.take i) := by
  unfold behF
  rw [cnt_nat, Nat.min_eq_left h]
theorem nowF_at (F : Fo) : nowF F = behN F.L F.P := by
  unfold nowF
  rw [behF_at F _ (Nat.le_refl _), List.take_length]
theorem behF_any (F : Fo) (n : Int) : ∃ i : Nat, i ≤ F.P.length ∧ behF F n = behF F (i : Nat) := by
  refine ⟨cnt n F.P, cnt_le _ _, ?_⟩
  rw [behF_at F _ (cnt_le _ _)]; rfl
theorem behF_one (L : List Nm) (n : Int) : behF ⟨L, []⟩ n = lastN L := by
  unfold behF behN
  simp
theorem idsU_iff (F : Fo) (id : Int) : ∀ n, id ∈ idsU F n ↔ ∃ i, i < n ∧ ∃ nm, (nm, id) ∈ behF F (i : Nat)
  | 0 => by simp [idsU]
  | n + 1 => by
    rw [idsU, List.mem_append, idsU_iff F id n, List.mem_map]
    constructor
    · rintro (⟨i, hi, h⟩ | ⟨⟨nm, j⟩, hx, rfl⟩)
      · exact ⟨i, by omega, h⟩
      · exact ⟨n, by omega, nm, hx⟩
    · rintro ⟨i, hi, nm, h⟩
      by_cases hin : i = n
      · subst hin
        exact .inr ⟨(nm, id), h, rfl⟩
      · exact .inl ⟨i, by omega, nm, h⟩
theorem ids_iff {F : Fo} {id : Int} : id ∈ idsF F ↔ ∃ i : Nat, i ≤ F.P.length ∧ ∃ nm, (nm, id) ∈ behF F (i : Nat) := by
  unfold idsF
  rw [norm_mem, idsU_iff]
  exact ⟨fun ⟨i, h, h'⟩ => ⟨i, by omega, h'⟩, fun ⟨i, h, h'⟩ => ⟨i, by omega, h'⟩⟩
theorem ids_asc (F : Fo) : AscI (idsF F) := norm_asc _
theorem asc_nodup {l : List Int} (h : AscI l) : l.Nodup := h.imp (fun h e => by omega)
theorem now_ids {F : Fo} {nm : ByteArray} {id : Int} (h : (nm, id) ∈ nowF F) : id ∈ idsF F := ids_iff.2 ⟨F.P.length, Nat.le_refl _, nm, h⟩
theorem find_ids {F : Fo} {s : ByteArray} {id : Int} (h : findN s (nowF F) = some id) : id ∈ idsF F := now_ids (findN_mem h)
theorem ids_one {L : List Nm} {id : Int} : id ∈ idsF ⟨L, []⟩ ↔ ∃ nm, (nm, id) ∈ lastN L := by
  rw [ids_iff]
  constructor
  · rintro ⟨i, _, nm, h⟩
    rw [behF_one] at h
    exact ⟨nm, h⟩
  · rintro ⟨nm, h⟩
    exact ⟨0, by simp, nm, by rw [behF_one]; exact h⟩
theorem ids_snoc {L : List Nm} {P : List Ch} {c : Ch} {id : Int} : id ∈ idsF ⟨L, P ++ [c]⟩ ↔ id ∈ idsF ⟨L, P⟩ ∨ ∃ nm, (nm, id) ∈ stepN (nowF ⟨L, P⟩) c := by
  rw [ids_iff, ids_iff]
  constructor
  · rintro ⟨i, hi, nm, h⟩
    rw [behF_at _ _ hi] at h
    by_cases hi2 : i ≤ P.length
    · left
      refine ⟨i, hi2, nm, ?_⟩
      rw [behF_at _ _ hi2]
      rw [show (⟨L, P ++ [c]⟩ : Fo).P = P ++ [c] from rfl, List.take_append_of_le_length hi2] at h
      exact h
    · right
      refine ⟨nm, ?_⟩
      have : i = P.length + 1 := by
        have h' : i ≤ (P ++ [c]).length := hi
        rw [List.length_append, List.length_singleton] at h'; omega
      subst this
      rw [nowF_at]
      rw [show (⟨L, P ++ [c]⟩ : Fo).P = P ++ [c] from rfl, List.take_of_length_le (by simp), behN_snoc] at h
      exact h
  · rintro (⟨i, hi, nm, h⟩ | ⟨nm, h⟩)
    · have hi : i ≤ P.length := hi
      refine ⟨i, by show i ≤ (P ++ [c]).length; rw [List.length_append]; omega, nm, ?_⟩
      rw [behF_at _ _ (by show i ≤ (P ++ [c]).length; rw [List.length_append]; omega)]
      rw [behF_at _ _ hi] at h
      rw [show (⟨L, P ++ [c]⟩ : Fo).P = P ++ [c] from rfl, List.take_append_of_le_length hi]
      exact h
    · refine ⟨P.length + 1, by show P.length + 1 ≤ (P ++ [c]).length; simp, nm, ?_⟩
      rw [behF_at _ _ (by show P.length + 1 ≤ (P ++ [c]).length; simp), show (⟨L, P ++ [c]⟩ : Fo).P = P ++ [c] from rfl, List.take_of_length_le (by simp), behN_snoc]
      rw [nowF_at] at h
      exact h
theorem woN_mem {s : ByteArray} {l : List Nm} {x : Nm} (h : x ∈ woN s l) : x ∈ l ∧ x.1 ≠ s := by
  unfold woN at h
  simpa using List.mem_filter.1 h
theorem stepN_mem {l : List Nm} {c : Ch} {x : Nm} (h : x ∈ stepN l c) : (c.k = 1 ∧ x = (c.nm, c.id)) ∨ x ∈ l ∨ (c.k = 2 ∧ x.1 = c.to ∧ (c.nm, x.2) ∈ l) := by
  unfold stepN at h
  split at h
  · rename_i hk
    rcases putN_mem h with h | h
    · exact .inl ⟨hk, h⟩
    · exact .inr (.inl h)
  · split at h
    · rename_i hk
      split at h
      · rename_i id hf
        rcases putN_mem h with h | h
        · subst h
          exact .inr (.inr ⟨hk, rfl, findN_mem hf⟩)
        · exact .inr (.inl (woN_mem h).1)
      · exact .inr (.inl h)
    · split at h
      · exact .inr (.inl (woN_mem h).1)
      · exact .inr (.inl h)
theorem ids_do {F : Fo} {c : Ch} {id : Int} (h : id ∈ idsF (doF F c)) : id ∈ idsF F ∨ (c.k = 1 ∧ id = c.id ∧ wrongF F c = 0) := by
  unfold doF at h
  split at h
  · rename_i hw
    rcases ids_snoc.1 h with h | ⟨nm, h⟩
    · exact .inl h
    · rcases stepN_mem h with ⟨hk, h⟩ | h | ⟨_, _, h⟩
      · exact .inr ⟨hk, (Prod.ext_iff.1 h).2, hw⟩
      · exact .inl (now_ids h)
      · exact .inl (now_ids h)
  · exact .inl h
/-! ### every call leaves it right -/
theorem ch_I {d : Dk} (h : DkI d) {c : Ch} (hk : c.k ≠ 1) : DkI (chD d c).1 := by
  refine ⟨fun id hid => trim_out hid, fun id hid => ?_, trim_B h.ino, h.fu⟩
  rcases ids_do hid with h' | ⟨h', _⟩
  · exact h.rng id h'
  · exact absurd h' hk
theorem ch_same {d : Dk} (h : DkI d) {c : Ch} (hw : wrongF d.F c ≠ 0) : (chD d c).1 = d := by
  have e : doF d.F c = d.F := if_neg hw
  have e2 : trim d.F d.f = d.f := by
    funext id
    unfold trim
    split
    · rfl
    · rename_i hid; exact (h.out id hid).symm
  unfold chD
  simp only [e, e2]
theorem cr_I {d : Dk} (h : DkI d) (s : ByteArray) (hl : 0 ≤ d.last) : DkI (crD d s).1 ∧ 0 ≤ (crD d s).1.last := by
  unfold crD
  split
  · exact ⟨h, hl⟩
  · split
    · rename_i hw
      refine ⟨⟨fun id hid => trim_out hid, fun id hid => ?_, trim_B h.ino, h.fu⟩, by show 0 ≤ d.last + 1; omega⟩
      show 1 ≤ id ∧ id ≤ d.last + 1
      rcases ids_do hid with h' | ⟨_, h', _⟩
      · have := h.rng id h'; omega
      · have h' : id = d.last + 1 := h'
        omega
    · rename_i hw
      rw [ch_same h hw]
      exact ⟨h, hl⟩
theorem file_I {d : Dk} (h : DkI d) (s : ByteArray) {g : Ino → Ino × Int} (hg : ∀ x, InoB x → InoB (g x).1) : DkI (fileD d s g).1 ∧ (fileD d s g).1.last = d.last := by
  unfold fileD
  split
  · exact ⟨h, rfl⟩
  · rename_i id hf
    split
    · exact ⟨h, rfl⟩
    · split
      · exact ⟨h, rfl⟩
      · refine ⟨⟨fun k hk => ?_, h.rng, updF_B h.ino (hg _ (h.ino id)), h.fu⟩, rfl⟩
        have hne : k ≠ id := fun e => hk (show k ∈ idsF d.F by rw [e]; exact find_ids hf)
        show updF d.f id _ k = zI
        unfold updF
        rw [if_neg hne]
        exact h.out k hk
theorem sd_I {d : Dk} (h : DkI d) : DkI (sdD d).1 := by
  refine ⟨fun id hid => trim_out hid, fun id hid => ?_, trim_B h.ino, h.fu⟩
  obtain ⟨nm, h'⟩ := ids_one.1 hid
  rw [lastN_id (nowF_asc _)] at h'
  exact h.rng id (now_ids h')
theorem beh_ids {F : Fo} {n : Int} {nm : ByteArray} {id : Int} (h : (nm, id) ∈ behF F n) : id ∈ idsF F := by
  obtain ⟨i, hi, e⟩ := behF_any F n
  exact ids_iff.2 ⟨i, hi, nm, e ▸ h⟩
theorem crash_ids {F : Fo} {n : Int} {id : Int} (h : id ∈ idsF ⟨behF F n, []⟩) : id ∈ idsF F := by
  obtain ⟨nm, h'⟩ := ids_one.1 h
  rw [lastN_id (behF_asc _ _)] at h'
  exact beh_ids h'
theorem crash_I {d : Dk} (h : DkI d) (c : Bs) : DkI (crashD d c) := by
  refine ⟨fun id hid => trim_out hid, fun id hid => h.rng id (crash_ids hid), trim_B (crashS_B _ _ _ h.ino), fun n hn => by cases hn⟩
theorem pow_I {d : Dk} (h : DkI d) {call : Dk → Dk × Int} (hc : ∀ d', DkI d' → d'.last = d.last → DkI (call d').1 ∧ 0 ≤ (call d').1.last) (hl : 0 ≤ d.last) : DkI (powD d call).1 ∧ 0 ≤ (powD d call).1.last := by
  unfold powD
  split
  · exact ⟨⟨h.out, h.rng, h.ino, h.fu⟩, hl⟩
  · rename_i ho
    refine hc _ ⟨h.out, h.rng, h.ino, fun n hn => ?_⟩ rfl
    cases hfu : d.fu with
    | none => rw [hfu] at hn; cases hn
    | some m =>
      rw [hfu] at hn
      simp only [Option.map_some, Option.some.injEq] at hn
      unfold offD at ho
      rw [hfu] at ho
      simp at ho
      omega
theorem do_I {d : Dk} (h : DkI d) (hl : 0 ≤ d.last) (c : Cl) : DkI (doD d c).1 ∧ 0 ≤ (doD d c).1.last := by
  unfold doD
  split
  · exact pow_I h (fun d' h' e => cr_I h' _ (by omega)) hl
  split
  · exact pow_I h (fun d' h' e => by obtain ⟨a, b⟩ := file_I h' c.nm (g := fun x => appI x c.data) (fun x hx => appI_B hx _); exact ⟨a, by rw [b]; omega⟩) hl
  split
  · exact pow_I h (fun d' h' e => by obtain ⟨a, b⟩ := file_I h' c.nm (g := fun x => cutI x c.n) (fun x hx => cutI_B hx _); exact ⟨a, by rw [b]; omega⟩) hl
  split
  · exact pow_I h (fun d' h' e => by obtain ⟨a, b⟩ := file_I h' c.nm (g := fun x => (syncI x, 0)) (fun x hx => syncI_B hx); exact ⟨a, by rw [b]; omega⟩) hl
  split
  · exact pow_I h (fun d' h' e => ⟨ch_I h' (by show (2 : Int) ≠ 1; omega), by show 0 ≤ d'.last; omega⟩) hl
  split
  · exact pow_I h (fun d' h' e => ⟨ch_I h' (by show (3 : Int) ≠ 1; omega), by show 0 ≤ d'.last; omega⟩) hl
  split
  · exact pow_I h (fun d' h' e => ⟨sd_I h', by show 0 ≤ d'.last; omega⟩) hl
  split
  · refine ⟨⟨h.out, h.rng, h.ino, fun n hn => ?_⟩, hl⟩
    have hn : (if c.n ≥ 0 then some c.n else none) = some n := hn
    split at hn
    · injection hn with hn; omega
    · cases hn
  split
  · exact ⟨crash_I h c.data, hl⟩
  · exact ⟨h, hl⟩
def newD (lb lf : Int) : Dk := ⟨lb, lf, ⟨[], []⟩, fun _ => zI, 0, false, none, 0⟩
theorem new_I (lb lf : Int) : DkI (newD lb lf) := by
  refine ⟨fun _ _ => rfl, fun id hid => ?_, fun _ => zI_B, fun n hn => by cases hn⟩
  obtain ⟨nm, h⟩ := ids_one.1 hid
  cases h
/-! ### a crash takes no room, and what it leaves lasts -/
theorem sum_nn (h : Int → Int) : ∀ b : List Int, (∀ x ∈ b, 0 ≤ h x) → 0 ≤ (b.map h).sum
  | [], _ => by simp
  | y :: b, hb => by
    have h1 := hb y (List.mem_cons_self ..)
    have h2 := sum_nn h b (fun x hx => hb x (List.mem_cons_of_mem _ hx))
    simp only [List.map_cons, List.sum_cons]; omega
end Go.Proofs.YtfdhaeglhkmmpaaGreat
/- chapter 12: how a disk lies; keep, taken -/
namespace Go.Proofs.YtfdhaeglhkmmpaaGreat
open Go.GV Go.RowKit Go.Lib
set_option linter.unusedVariables false
set_option linter.unusedSimpArgs false
abbrev ZI : List Value := [.slice none 0 0, .slice none 0 0]
theorem zI_at (w : World) : InoAt w ZI zI := ⟨none, 0, 0, none, 0, 0, rfl, Sl.nil _ _ _, Nat.le_refl _, ⟨[], Sl.nil _ _ _, rfl, Ech.nil⟩, Nat.le_refl _⟩
/-- files by their numbers, as they lie in a map -/
def FilesAt (w : World) (r : Nat) (f : Int → Ino) : Prop := ∃ g, MapI w r g ∧ ∀ id, ∃ cs, (g id).getD (ofL ZI) = ofL cs ∧ InoAt w cs (f id)
theorem FilesAt.fr {S : Nat → Prop} {w w' : World} {r : Nat} {f : Int → Ino} (h : FilesAt w r f) (g : Fr S w w') (hr : ¬ S r) (hS : ∀ k, S k → Alien w k) : FilesAt w' r f := by
  obtain ⟨m, h1, h2⟩ := h
  refine ⟨m, h1.fr g hr, fun id => ?_⟩
  obtain ⟨cs, e, hx⟩ := h2 id
  exact ⟨cs, e, hx.fr g hS⟩
theorem FilesAt.lt {w : World} {r : Nat} {f : Int → Ino} (h : FilesAt w r f) : r < w.heap.size := by
  obtain ⟨m, h1, _⟩ := h
  exact h1.lt
theorem FilesAt.alien {w : World} {r : Nat} {f : Int → Ino} (h : FilesAt w r f) : Alien w r := by
  obtain ⟨m, h1, _⟩ := h
  exact map_alien h1
theorem files_get {w : World} {r : Nat} {f : Int → Ino} (h : FilesAt w r f) {id : Int} {K : List Value → Prop} (hK : ∀ cs, InoAt w cs (f id) → K cs) : drM (some r) fun r => mlk w r .i64 id fun q => lvA ZI q K := by
  obtain ⟨m, h1, h2⟩ := h
  obtain ⟨cs, e, hx⟩ := h2 id
  exact drM_mk (mlk_mk h1 ⟨cs, e, hK cs hx⟩)
theorem files_put {w : World} {r : Nat} {f : Int → Ino} (h : FilesAt w r f) {id : Int} {cs : List Value} {x : Ino} (hx : InoAt w cs x) {K : World → Prop} (hK : ∀ w', FilesAt w' r (updF f id x) → Fr (fun k => k = r) w w' → K w') : drM (some r) fun r => mup w r .i64 id (ofL cs) K := by
  have ha := h.alien
  obtain ⟨m, h1, h2⟩ := h
  refine drM_mk (mup_mk h1 (fun w' g1 g2 _ => hK w' ⟨_, g1, fun k => ?_⟩ g2))
  unfold updI updF
  by_cases hk : k = id
  · rw [if_pos hk, if_pos hk]
    exact ⟨cs, rfl, hx.fr g2 (fun j hj => by have hj : j = r := hj; rw [hj]; exact ha)⟩
  · rw [if_neg hk, if_neg hk]
    obtain ⟨cs', e, hx'⟩ := h2 k
    exact ⟨cs', e, hx'.fr g2 (fun j hj => by have hj : j = r := hj; rw [hj]; exact ha)⟩
theorem files_del {w : World} {r : Nat} {f : Int → Ino} (h : FilesAt w r f) {id : Int} {K : World → Prop} (hK : ∀ w', FilesAt w' r (updF f id zI) → Fr (fun k => k = r) w w' → K w') : drM (some r) fun r => mdl w r .i64 id K := by
  have ha := h.alien
  obtain ⟨m, h1, h2⟩ := h
  refine drM_mk (mdl_mk h1 (fun w' g1 g2 _ => hK w' ⟨_, g1, fun k => ?_⟩ g2))
  unfold updI updF
  by_cases hk : k = id
  · rw [if_pos hk, if_pos hk]
    exact ⟨ZI, rfl, zI_at _⟩
  · rw [if_neg hk, if_neg hk]
    obtain ⟨cs', e, hx'⟩ := h2 k
    exact ⟨cs', e, hx'.fr g2 (fun j hj => by have hj : j = r := hj; rw [hj]; exact ha)⟩
/-! ### a disk -/
def dkC (d : Dk) (u v : Value) (r : Nat) (fz : Bool) (lv : Int) : List Value := [.int .i64 d.lb, .int .i64 d.lf, u, v, .map (some r), .int .i64 d.last, .bool d.down, .bool fz, .int .i64 lv, .int .i64 d.calls]
def fuR (o : Option Int) (fz : Bool) (lv : Int) : Prop := match o with | none => fz = false | some n => fz = true ∧ lv = n
def DkAt (w : World) (db r : Nat) (d : Dk) : Prop := ∃ u v fz lv, RecAt w db 66 (dkC d u v r fz lv) ∧ FoAt w [u, v] d.F ∧ FilesAt w r d.f ∧ fuR d.fu fz lv
theorem dk_alien {w : World} {db : Nat} {d : Dk} {u v : Value} {r : Nat} {fz : Bool} {lv : Int} (h : RecAt w db 66 (dkC d u v r fz lv)) (hf : FoAt w [u, v] d.F) : Alien w db := by
  obtain ⟨A, n, c, A', n', c', e, _⟩ := hf
  injection e with e1 e
  injection e with e2 e
  subst e1; subst e2
  have hc : ∀ o, cellAt w db o = (dkC d (.slice A n c) (.slice A' n' c') r fz lv)[o]? := fun o => by rw [cellAt_blk h]; simp
  refine ⟨fun o s hs => ?_, fun o x hx => ?_, fun o t z A1 n1 c1 ht => ?_⟩
  · rw [hc] at hs
    match o, hs with
    | 0, hs => cases hs
    | 1, hs => cases hs
    | 2, hs => cases hs
    | 3, hs => cases hs
    | 4, hs => cases hs
    | 5, hs => cases hs
    | 6, hs => cases hs
    | 7, hs => cases hs
    | 8, hs => cases hs
    | 9, hs => cases hs
    | o + 10, hs => cases hs
  · rw [hc] at hx
    match o, hx with
    | 0, hx => cases hx
    | 1, hx => cases hx
    | 2, hx => cases hx
    | 3, hx => cases hx
    | 4, hx => cases hx
    | 5, hx => cases hx
    | 6, hx => cases hx
    | 7, hx => cases hx
    | 8, hx => cases hx
    | 9, hx => cases hx
    | o + 10, hx => cases hx
  · obtain ⟨h0, h1, h2⟩ := ht
    rw [hc] at h0 h1 h2
    match o, h0, h1, h2 with
    | 0, h0, h1, h2 => cases h0
    | 1, h0, h1, h2 => cases h0
    | 2, h0, h1, h2 => cases h0
    | 3, h0, h1, h2 => cases h0
    | 4, h0, h1, h2 => cases h0
    | 5, h0, h1, h2 => cases h0
    | 6, h0, h1, h2 => cases h1
    | 7, h0, h1, h2 => cases h2
    | 8, h0, h1, h2 => cases h0
    | 9, h0, h1, h2 => cases h0
    | o + 10, h0, h1, h2 => cases h0
theorem DkAt.alien {w : World} {db r : Nat} {d : Dk} (h : DkAt w db r d) : Alien w db ∧ Alien w r := by
  obtain ⟨u, v, fz, lv, h1, h2, h3, _⟩ := h
  exact ⟨dk_alien h1 h2, h3.alien⟩
theorem DkAt.ne {w : World} {db r : Nat} {d : Dk} (h : DkAt w db r d) : db ≠ r := by
  obtain ⟨u, v, fz, lv, h1, h2, ⟨g, ⟨m, c, h3, _⟩, _⟩, _⟩ := h
  intro e
  subst e
  have h3 : w.heap[db]? = some (.map (m.map (mkE .i64)).toArray c) := h3
  have h1 : w.heap[db]? = some _ := h1
  rw [h1] at h3
  cases h3
theorem DkAt.lt {w : World} {db r : Nat} {d : Dk} (h : DkAt w db r d) : db < w.heap.size ∧ r < w.heap.size := by
  obtain ⟨u, v, fz, lv, h1, h2, h3, _⟩ := h
  exact ⟨h1.lt, h3.lt⟩
theorem DkAt.fr {S : Nat → Prop} {w w' : World} {db r : Nat} {d : Dk} (h : DkAt w db r d) (f : Fr S w w') (h1 : ¬ S db) (h2 : ¬ S r) (hS : ∀ k, S k → Alien w k) : DkAt w' db r d := by
  obtain ⟨u, v, fz, lv, q1, q2, q3, q4⟩ := h
  exact ⟨u, v, fz, lv, q1.fr f h1, fo_fr q2 f hS, q3.fr f h2 hS, q4⟩
theorem DkAt.fr0 {w w' : World} {db r : Nat} {d : Dk} (h : DkAt w db r d) (f : Fr (fun _ => False) w w') : DkAt w' db r d := h.fr f (fun h => h) (fun h => h) (fun _ h => h.elim)
/-- what a call may change -/
def DS (db r : Nat) : Nat → Prop := fun k => k = db ∨ k = r
theorem DkAt.ds {w : World} {db r : Nat} {d : Dk} (h : DkAt w db r d) : ∀ k, DS db r k → Alien w k := by
  rintro k (rfl | rfl)
  · exact h.alien.1
  · exact h.alien.2
theorem fr_up {S : Nat → Prop} {w w' : World} (f : Fr (fun _ => False) w w') : Fr S w w' := f.mono (fun _ _ h => h.elim)
/-- ints do not lie in a map's block -/
theorem sl_map {w : World} {r : Nat} {g : Int → Option Value} (h : MapI w r g) {sz : Nat} {A : Option Addr} {n : Nat} {vs : List Value} (hs : Sl w sz A n vs) (hz : sz ≠ 0) (h0 : n ≠ 0) {k : Nat} (hk : blkOf A = some k) : k ≠ r := by
  obtain ⟨m, c, h, _⟩ := h
  have h : w.heap[r]? = some (.map (m.map (mkE .i64)).toArray c) := h
  obtain ⟨b, o, rfl, hc⟩ := hs.2 h0
  injection hk with hk
  have hk : b = k := hk
  subst hk
  intro e
  subst e
  have hl := hs.1
  have hlp : 0 < vs.length := by rw [hl]; exact Nat.mul_pos (by omega) (by omega)
  have := hc 0 _ (List.getElem?_eq_getElem hlp)
  unfold cellAt World.cell? at this
  simp only [h] at this
  cases this
theorem sl_fr_map {w w' : World} {r : Nat} {f : Int → Ino} (h : FilesAt w r f) (g : Fr (fun k => k = r) w w') {sz : Nat} {A : Option Addr} {n : Nat} {vs : List Value} (hs : Sl w sz A n vs) (hz : sz ≠ 0) : Sl w' sz A n vs := by
  obtain ⟨m, h1, _⟩ := h
  exact g.sl hs (fun h0 k hk e => sl_map h1 hs hz h0 hk e)
theorem asc_get {l : List Int} (h : AscI l) {i j : Nat} {x y : Int} (hi : l[i]? = some x) (hj : l[j]? = some y) (hij : i < j) : x < y := by
  obtain ⟨h1, rfl⟩ := List.getElem?_eq_some_iff.1 hi
  obtain ⟨h2, rfl⟩ := List.getElem?_eq_some_iff.1 hj
  exact (List.pairwise_iff_getElem.1 h) i j h1 h2 hij
/-- files that are forgotten -/
def forg (K W : List Int) (f : Int → Ino) : Int → Ino := fun id => if id ∈ W ∧ id ∉ K then zI else f id
theorem forg_trim {F : Fo} {W : List Int} {f : Int → Ino} (h : ∀ id, id ∉ W → f id = zI) : forg (idsF F) W f = trim F f := by
  funext id
  unfold forg trim
  by_cases h1 : id ∈ idsF F
  · rw [if_neg (fun h => h.2 h1), if_pos h1]
  · rw [if_neg h1]
    by_cases h2 : id ∈ W
    · rw [if_pos ⟨h2, h1⟩]
    · rw [if_neg (fun h => h2 h.1), h id h2]
set_option maxHeartbeats 2000000 in
theorem keep_calls (db r : Nat) (d : Dk) (A : Option Addr) (n c : Nat) (W : List Int) (w : World) (h : DkAt w db r d) (hb : FoB d.F) (hW : Sl w 1 A n (ivs W)) (ha : AscI W) (hn : n ≤ 549755813888) :
    Calls Tryz.prog 34 #[.pointer (some ⟨db, 0, none⟩), .slice A n c] w fun e w' => Fr (fun k => k = r) w w' ∧ e = .returned (.tuple #[]) ∧ DkAt w' db r { d with f := forg (idsF d.F) W d.f } := by
  refine (F34.of (some ⟨db, 0, none⟩) A n c w (Q := fun v w' => Fr (fun k => k = r) w w' ∧ v = .tuple #[] ∧ DkAt w' db r { d with f := forg (idsF d.F) W d.f }) ?_).mono (fun e w' ⟨v, he, hf, hv, h⟩ => ⟨hf, by rw [he, hv], h⟩)
  have hlt := h.lt
  have hne := h.ne
  obtain ⟨u, v, fz, lv, h1, h2, h3, h4⟩ := h
  have hWl := sl_n hW
  refine dr_mk ⟨[u, v], rfl, h1.cells (fun j x hj => ?_), (ids_calls [u, v] d.F w h2 hb).mono ?_⟩
  · match j, hj with
    | 0, hj => exact hj
    | 1, hj => exact hj
    | j + 2, hj => cases hj
  rintro e w4 ⟨f4, A6, c8, rfl, r6⟩
  have hKa := ids_asc d.F
  have hKl : (idsF d.F).length ≤ 349526 * 349525 := by
    have hb' : d.F.L.length + d.F.P.length ≤ 349525 := hb
    have a1 := norm_len' (idsU d.F (d.F.P.length + 1))
    have a2 := idsU_len hb (d.F.P.length + 1)
    have a3 : (d.F.P.length + 1) * 349525 ≤ 349526 * 349525 := Nat.mul_le_mul_right _ (by omega)
    unfold idsF
    omega
  have hs6 := r6.sl
  generalize hK : idsF d.F = K at hKa hKl r6 hs6 ⊢
  have h1 := h1.fr f4 (fun h => h)
  have h2 := h2.fr0 f4
  have h3 := h3.fr f4 (fun h => h) (fun _ h => h.elim)
  have hW4 := f4.sl hW (fun _ _ _ h => h)
  have hs4 := f4.size
  refine ⟨A6, _, c8, rfl, jnC_mk (loop_rule (fun s x => Fr (fun k => k = r) w x ∧ Fr (fun k => k = r) w4 x ∧ ∃ (i k : Nat), i ≤ n ∧ k ≤ K.length ∧ s = (some ⟨db, 0, none⟩, (A6, K.length, c8), (k : Int), (A, n, c), (n : Int), (i : Int), ()) ∧ FilesAt x r (forg K (W.take i) d.f) ∧ ∀ a ∈ K.take k, ∀ b ∈ W.drop i, a < b)
    (fun s _ => (n - s.2.2.2.2.2.1).toNat) ?_ _ _ ⟨fr_up f4, Fr.refl _ _, 0, 0, by omega, by omega, rfl, ?_, fun a ha => by simp at ha⟩)⟩
  · rintro s x C ⟨hf, hf4, i, k, hi, hk, rfl, hFi, hlo⟩ hC _
    have h1x := h1.fr hf4 (fun h => hne h)
    have hWx : Sl x 1 A n (ivs W) := sl_fr_map h3 hf4 hW4 (by omega)
    have hKx : Sl x 1 A6 K.length (ivs K) := sl_fr_map h3 hf4 hs6 (by omega)
    refine vIf_mk (fun hlt2 => ?_) (fun hge => ?_)
    · have hlt2 : (i : Int) < (n : Int) := of_decide_eq_true hlt2
      have gi : W[i]? = some (W[i]'(by omega)) := List.getElem?_eq_getElem (by omega)
      generalize W[i]'(by omega) = id at gi
      have hdi : W.drop i = id :: W.drop (i + 1) := drop_at gi
      have ms : ((n : Int) - IntKind.wrap .i64 ((i : Int) + 1)).toNat < ((n : Int) - (i : Int)).toNat := by rw [ei i (by omega)]; omega
      have eT : W.take (i + 1) = W.take i ++ [id] := by rw [List.take_add_one, gi]; rfl
      refine sl_rd hWx (by omega) gi (jnC_mk (loop_rule (fun s y => y = x ∧ ∃ (k : Nat), k ≤ K.length ∧ s = (some ⟨db, 0, none⟩, (A6, K.length, c8), (k : Int), id, (A, n, c), (n : Int), (i : Int), ()) ∧ ∀ a ∈ K.take k, a < id)
        (fun s _ => (K.length - s.2.2.1).toNat) ?_ _ _ ⟨rfl, k, hk, rfl, fun a ha => hlo a ha id (by rw [hdi]; exact List.mem_cons_self ..)⟩))
      rintro s y C2 ⟨rfl, k, hk, rfl, hlo2⟩ hC2 _
      -- behind the search
      have k7 : (k < K.length → ∀ a, K[k]? = some a → ¬ a < id) → jnC (F34.k7 (fun v w' => Fr (fun k => k = r) w w' ∧ v = .tuple #[] ∧ DkAt w' db r { d with f := forg K W d.f }) C) (some ⟨db, 0, none⟩, (A6, K.length, c8), (k : Int), id, (A, n, c), (n : Int), (i : Int), ()) y := by
        intro hst
        have hlo3 : ∀ a ∈ K.take k, ∀ b ∈ W.drop (i + 1), a < b := fun a ha b hb => by
          have h1 := hlo2 a ha
          obtain ⟨j, hj, hb⟩ := mem_drop_ge hb
          have h2 := asc_get ‹AscI W› gi hb (by omega)
          omega
        have hin : id ∈ K ↔ K[k]? = some id := by
          constructor
          · intro hm
            obtain ⟨j, hj⟩ := List.mem_iff_getElem?.1 hm
            have hjl := (List.getElem?_eq_some_iff.1 hj).1
            have hjk : k ≤ j := by
              by_cases hjk : j < k
              · have := hlo2 id (List.mem_iff_getElem?.2 ⟨j, by rw [List.getElem?_take, if_pos hjk]; exact hj⟩)
                omega
              · omega
            by_cases hjk2 : j = k
            · rw [← hjk2]; exact hj
            · have gk : K[k]? = some (K[k]'(by omega)) := List.getElem?_eq_getElem (by omega)
              have h1 := hst (by omega) _ gk
              have h2 := asc_get hKa gk hj (by omega)
              omega
          · intro h; exact List.mem_of_getElem? h
        have k8 : ∀ t : Bool, (t = true ↔ id ∉ K) → jnC (F34.k8 (fun v w' => Fr (fun k => k = r) w w' ∧ v = .tuple #[] ∧ DkAt w' db r { d with f := forg K W d.f }) C) (some ⟨db, 0, none⟩, (A6, K.length, c8), (k : Int), id, (A, n, c), (n : Int), (i : Int), t, ()) y := by
          intro t ht
          refine jnC_mk (fun _ => vIf_mk (fun htt => ?_) (fun htf => ?_))
          · have hno := ht.1 htt
            refine dr_mk ⟨some r, h1x.cell (o := 0 + 4) rfl, files_del hFi (fun w' hF' f' => jnC_mk (hC _ _ ⟨hf.trans1 f', hf4.trans1 f', i + 1, k, by omega, hk, by rw [ei i (by omega)], ?_, hlo3⟩ ms))⟩
            have e2 : updF (forg K (W.take i) d.f) id zI = forg K (W.take (i + 1)) d.f := by
              funext j
              unfold updF forg
              rw [eT]
              by_cases hj : j = id
              · subst hj
                rw [if_pos rfl, if_pos ⟨by simp, hno⟩]
              · rw [if_neg hj]
                have : (j ∈ W.take i ++ [id] ∧ j ∉ K) ↔ (j ∈ W.take i ∧ j ∉ K) := by simp [hj]
                simp only [this]
            rw [e2] at hF'
            exact hF'
          · have hyes : id ∈ K := by
              by_cases hm : id ∈ K
              · exact hm
              · have := ht.2 hm
                have htf : t = false := htf
                rw [htf] at this; cases this
            refine jnC_mk (hC _ _ ⟨hf, hf4, i + 1, k, by omega, hk, by rw [ei i (by omega)], ?_, hlo3⟩ ms)
            have e2 : forg K (W.take (i + 1)) d.f = forg K (W.take i) d.f := by
              funext j
              unfold forg
              rw [eT]
              have : (j ∈ W.take i ++ [id] ∧ j ∉ K) ↔ (j ∈ W.take i ∧ j ∉ K) := by
                constructor
                · rintro ⟨h1, h2⟩
                  refine ⟨?_, h2⟩
                  rcases List.mem_append.1 h1 with h1 | h1
                  · exact h1
                  · rw [List.mem_singleton.1 h1] at h2; exact absurd hyes h2
                · rintro ⟨h1, h2⟩
                  exact ⟨List.mem_append.2 (.inl h1), h2⟩
              simp only [this]
            rw [e2]; exact hFi
        refine jnC_mk (fun _ => vIf_mk (fun hkl => k8 true ⟨fun _ hm => ?_, fun _ => rfl⟩) (fun hkl => ?_))
        · have hkl : (k : Int) = (K.length : Int) := by simpa using hkl
          have := hin.1 hm
          have := (List.getElem?_eq_some_iff.1 this).1
          omega
        · have hkl : ¬ (k : Int) = (K.length : Int) := by simpa using hkl
          have gk : K[k]? = some (K[k]'(by omega)) := List.getElem?_eq_getElem (by omega)
          generalize K[k]'(by omega) = a at gk
          refine sl_rd hKx (by omega) gk (k8 _ ?_)
          rw [hin, gk]
          constructor
          · intro ht e
            injection e with e
            subst e
            simp at ht
          · intro hne2
            have : a ≠ id := fun e => hne2 (by rw [e])
            simpa using this
      refine vIf_mk (fun hkl => ?_) (fun hkl => k7 (fun hk2 => ?_))
      · have hkl : (k : Int) < (K.length : Int) := of_decide_eq_true hkl
        have gk : K[k]? = some (K[k]'(by omega)) := List.getElem?_eq_getElem (by omega)
        generalize K[k]'(by omega) = a at gk
        refine sl_rd hKx (by omega) gk (vIf_mk (fun hal => jnC_mk (hC2 _ _ ⟨rfl, k + 1, by omega, by rw [ei k (by omega)], fun a' ha' => ?_⟩ ?_)) (fun hal => k7 (fun _ a' ha' => ?_)))
        · have hal := of_decide_eq_true hal
          rw [List.take_add_one, gk] at ha'
          rcases List.mem_append.1 ha' with h | h
          · exact hlo2 a' h
          · have h : a' = a := by simpa using h
            rw [h]; exact hal
        · show ((K.length : Int) - IntKind.wrap .i64 ((k : Int) + 1)).toNat < ((K.length : Int) - (k : Int)).toNat
          rw [ei k (by omega)]; omega
        · have hal := of_decide_eq_false hal
          rw [gk] at ha'
          injection ha' with ha'
          rw [← ha']; exact hal
      · have hkl : ¬ (k : Int) < (K.length : Int) := of_decide_eq_false hkl
        omega
    · have hge : ¬ (i : Int) < (n : Int) := of_decide_eq_false hge
      have e : W.take i = W := List.take_of_length_le (by omega)
      rw [e] at hFi
      have h2x := fo_fr h2 hf4 (fun k hk => by have hk : k = r := hk; rw [hk]; exact h3.alien)
      exact ⟨hf, rfl, u, v, fz, lv, h1x, h2x, hFi, h4⟩
  · have e : forg K (W.take 0) d.f = d.f := by
      funext j
      unfold forg
      rw [if_neg (fun h => by simp at h)]
    rw [e]; exact h3
end Go.Proofs.YtfdhaeglhkmmpaaGreat
/- chapter 12: taken, change, SyncDir's and Create's closures -/
namespace Go.Proofs.YtfdhaeglhkmmpaaGreat
open Go.GV Go.RowKit Go.Lib
set_option linter.unusedVariables false
set_option linter.unusedSimpArgs false
/-- a disk that is small enough -/
structure DkB (d : Dk) (N : Nat) : Prop where
  fo : d.F.L.length + d.F.P.length ≤ N
  p : ∀ id, (d.f id).p.length ≤ N
  last : 0 ≤ d.last ∧ d.last ≤ N
  calls : 0 ≤ d.calls ∧ d.calls ≤ N
  fu : ∀ n, d.fu = some n → n ≤ 9223372036854775807
  lb : d.lb ≤ 9223372036854775807
  lf : d.lf ≤ 9223372036854775807
theorem ids_max {F : Fo} (hb : FoB F) : (idsF F).length ≤ 122168075150 := by
  have hb' : F.L.length + F.P.length ≤ 349525 := hb
  have a1 := norm_len' (idsU F (F.P.length + 1))
  have a2 := idsU_len hb (F.P.length + 1)
  have a3 : (F.P.length + 1) * 349525 ≤ 349526 * 349525 := Nat.mul_le_mul_right _ (by omega)
  unfold idsF
  omega
theorem fo_cells {w : World} {cs : List Value} {F : Fo} (h : FoAt w cs F) : ∃ u v, cs = [u, v] ∧ u.oneCell' = true ∧ v.oneCell' = true := by
  obtain ⟨A, n, c, A', n', c', e, _⟩ := h
  exact ⟨_, _, e, rfl, rfl⟩
/-- a field is written -/
theorem dk_set {w : World} {db r : Nat} {d d' : Dk} {u v : Value} {fz fz' : Bool} {lv lv' : Int} {o : Nat} {vs : List Value} {K : World → Prop} (h1 : RecAt w db 66 (dkC d u v r fz lv)) (h2 : FoAt w [u, v] d.F) (h3 : FilesAt w r d.f)
    (e : splice (dkC d u v r fz lv) o vs = dkC d' u v r fz' lv') (hl : o + vs.length ≤ 10) (ho : ∀ v ∈ vs, v.oneCell' = true) (hF : d'.F = d.F) (hf : d'.f = d.f) (hne : db ≠ r)
    (hK : ∀ w', Fr (fun k => k = db) w w' → RecAt w' db 66 (dkC d' u v r fz' lv') → FoAt w' [u, v] d'.F → FilesAt w' r d'.f → K w') : st w db o vs K := by
  have ha := dk_alien h1 h2
  refine h1.st_mk hl ho (fun r2 f2 => hK _ f2 (by rw [e] at r2; exact r2) ?_ ?_)
  · rw [hF]; exact fo_fr h2 f2 (fun k hk => by have hk : k = db := hk; rw [hk]; exact ha)
  · rw [hf]; exact h3.fr f2 (fun h => hne h.symm) (fun k hk => by have hk : k = db := hk; rw [hk]; exact ha)
/-- the folder is written -/
theorem dk_setF {w : World} {db r : Nat} {d : Dk} {F' : Fo} {cs : List Value} {K : World → Prop} (h : DkAt w db r d) (hF : FoAt w cs F') (hK : ∀ w', Fr (fun k => k = db) w w' → DkAt w' db r { d with F := F' } → K w') : gd (cs.length == 2) (st w db (0 + 2) cs K) := by
  have hne := h.ne
  obtain ⟨u, v, fz, lv, h1, h2, h3, h4⟩ := h
  have ha := dk_alien h1 h2
  obtain ⟨u', v', rfl, hu, hv⟩ := fo_cells hF
  refine gd_mk rfl (h1.st_mk (by show 0 + 2 + 2 ≤ 10; omega) (fun x hx => ?_) (fun r2 f2 => hK _ f2 ⟨u', v', fz, lv, r2, ?_, ?_, h4⟩))
  · simp only [List.mem_cons, List.not_mem_nil, or_false] at hx
    rcases hx with rfl | rfl
    · exact hu
    · exact hv
  · exact fo_fr hF f2 (fun k hk => by have hk : k = db := hk; rw [hk]; exact ha)
  · exact h3.fr f2 (fun h => hne h.symm) (fun k hk => by have hk : k = db := hk; rw [hk]; exact ha)
/-- the folder is read -/
theorem dk_getF {w : World} {db r : Nat} {d : Dk} (h : DkAt w db r d) {K : List Value → Prop} (hK : ∀ cs, FoAt w cs d.F → K cs) : ldA 2 w db (0 + 2) K := by
  obtain ⟨u, v, fz, lv, h1, h2, h3, h4⟩ := h
  refine ⟨[u, v], rfl, h1.cells (fun j x hj => ?_), hK _ h2⟩
  match j, hj with
  | 0, hj => exact hj
  | 1, hj => exact hj
  | j + 2, hj => cases hj
theorem dk_getM {w : World} {db r : Nat} {d : Dk} (h : DkAt w db r d) {K : Option Nat → Prop} (hK : K (some r)) : ldM w db (0 + 4) K := by
  obtain ⟨u, v, fz, lv, h1, h2, h3, h4⟩ := h
  exact ⟨some r, h1.cell rfl, hK⟩
theorem dk_getI {w : World} {db r : Nat} {d : Dk} (h : DkAt w db r d) {o : Nat} {x : Int} (hx : (o = 0 ∧ x = d.lb) ∨ (o = 1 ∧ x = d.lf) ∨ (o = 5 ∧ x = d.last) ∨ (o = 9 ∧ x = d.calls)) {K : Int → Prop} (hK : K x) : ldI .i64 w db (0 + o) K := by
  obtain ⟨u, v, fz, lv, h1, h2, h3, h4⟩ := h
  refine ⟨x, h1.cell ?_, hK⟩
  rw [Nat.zero_add]
  rcases hx with ⟨rfl, rfl⟩ | ⟨rfl, rfl⟩ | ⟨rfl, rfl⟩ | ⟨rfl, rfl⟩ <;> rfl
theorem sum_take {l : List Int} {i : Nat} {x : Int} (h : l[i]? = some x) (g : Int → Int) : ((l.take (i + 1)).map g).sum = ((l.take i).map g).sum + g x := by
  rw [List.take_add_one, h]; simp
theorem sum_rng (g : Int → Int) (M : Int) (h : ∀ x, 0 ≤ g x ∧ g x ≤ M) : ∀ l : List Int, 0 ≤ (l.map g).sum ∧ (l.map g).sum ≤ l.length * M
  | [] => by simp
  | x :: l => by
    obtain ⟨a, b⟩ := sum_rng g M h l
    have := h x
    simp only [List.map_cons, List.sum_cons, List.length_cons, Int.natCast_add, Int.add_mul]
    omega
set_option maxHeartbeats 1000000 in
theorem taken_calls (db r : Nat) (d : Dk) (w : World) (h : DkAt w db r d) (hb : FoB d.F) (hi : ∀ id, InoB (d.f id)) (hp : ∀ id, (d.f id).p.length ≤ 1099511627775) :
    Calls Tryz.prog 48 #[.pointer (some ⟨db, 0, none⟩)] w fun e w' => e = .returned (.int .i64 (takenF d.F d.f)) ∧ Fr (fun _ => False) w w' := by
  refine (F48.of (some ⟨db, 0, none⟩) w (Q := fun v w' => v = .int .i64 (takenF d.F d.f) ∧ Fr (fun _ => False) w w') ?_).mono (fun e w' ⟨v, he, hv, h⟩ => ⟨by rw [he, hv], h⟩)
  refine dr_mk (dk_getF h (fun cs hF => (ids_calls cs d.F w hF hb).mono ?_))
  rintro e w4 ⟨f4, A6, c8, rfl, r6⟩
  have hm := ids_max hb
  have hs6 := r6.sl
  have hroom : ∀ x, 0 ≤ roomI (d.f x) ∧ roomI (d.f x) ≤ 1048576 := fun x => by have := room_le (hi x); omega
  unfold takenF
  generalize idsF d.F = K at hm r6 hs6 ⊢
  have h4 := h.fr0 f4
  refine ⟨A6, _, c8, rfl, jnC_mk (loop_rule (fun s x => Fr (fun _ => False) w x ∧ Fr (fun _ => False) w4 x ∧ ∃ (i : Nat), i ≤ K.length ∧ s = (some ⟨db, 0, none⟩, ((K.take i).map fun id => roomI (d.f id)).sum, (A6, K.length, c8), (K.length : Int), (i : Int), ()))
    (fun s _ => (K.length - s.2.2.2.2.1).toNat) ?_ _ _ ⟨f4, Fr.refl _ _, 0, by omega, rfl⟩)⟩
  rintro s x C ⟨hf, hf4, i, hi2, rfl⟩ hC _
  refine vIf_mk (fun hlt => ?_) (fun hge => ?_)
  · have hlt : (i : Int) < (K.length : Int) := of_decide_eq_true hlt
    have gi : K[i]? = some (K[i]'(by omega)) := List.getElem?_eq_getElem (by omega)
    generalize K[i]'(by omega) = id at gi
    have hx := h4.fr0 hf4
    have hx0 := hx
    obtain ⟨u, v, fz, lv, h1, h2, h3, h4'⟩ := hx0
    refine sl_rd (hf4.sl hs6 (fun _ _ _ h => h)) (by omega) gi (dr_mk (dk_getM hx (files_get h3 (fun cs hI => (room_calls cs _ x hI (hi id) (hp id)).mono ?_))))
    rintro e w9 ⟨rfl, f9⟩
    have hsum := sum_rng (fun id => roomI (d.f id)) 1048576 hroom (K.take i)
    have hti : (K.take i).length = i := by rw [List.length_take]; omega
    rw [hti] at hsum
    have hr := hroom id
    have e1 : IntKind.wrap .i64 (((K.take i).map fun id => roomI (d.f id)).sum + roomI (d.f id)) = ((K.take (i + 1)).map fun id => roomI (d.f id)).sum := by
      rw [sum_take gi (fun id => roomI (d.f id))]
      exact i64_id (by omega) (by omega)
    refine ⟨_, rfl, jnC_mk (hC _ _ ⟨hf.trans1 f9, hf4.trans1 f9, i + 1, by omega, ?_⟩ ?_)⟩
    · rw [ei i (by omega), e1]
    · show ((K.length : Int) - IntKind.wrap .i64 ((i : Int) + 1)).toNat < ((K.length : Int) - (i : Int)).toNat
      rw [ei i (by omega)]; omega
  · have hge : ¬ (i : Int) < (K.length : Int) := of_decide_eq_false hge
    have e : K.take i = K := List.take_of_length_le (by omega)
    rw [e]
    exact ⟨rfl, hf⟩
set_option maxHeartbeats 2000000 in
theorem change_calls (db r : Nat) (d : Dk) (x : Ch) (w : World) (h : DkAt w db r d) (hx : ChB x) (hb : d.F.L.length + d.F.P.length ≤ 349524) (ho : ∀ id, id ∉ idsF d.F → d.f id = zI) :
    Calls Tryz.prog 37 #[.pointer (some ⟨db, 0, none⟩), ofL (encC x)] w fun e w' => Fr (DS db r) w w' ∧ e = .returned (.int .i64 (chD d x).2) ∧ DkAt w' db r (chD d x).1 := by
  refine (F37.of (some ⟨db, 0, none⟩) (encC x) w (Q := fun v w' => Fr (DS db r) w w' ∧ v = .int .i64 (chD d x).2 ∧ DkAt w' db r (chD d x).1) ?_).mono (fun e w' ⟨v, he, hf, hv, h⟩ => ⟨hf, by rw [he, hv], h⟩)
  have hbF : FoB d.F := by unfold FoB; omega
  have hbF' : FoB (doF d.F x) := by
    unfold FoB doF
    split
    · show d.F.L.length + (d.F.P ++ [x]).length ≤ _
      rw [List.length_append, List.length_singleton]; omega
    · omega
  have hlt0 := h.lt
  have hm := ids_max hbF
  refine rec_new (fun b1 w2 f2 hb1 r1 => dr_mk (dk_getF (h.fr0 f2) (fun cs hF => (ids_calls cs d.F w2 hF hbF).mono ?_)))
  rintro e w6 ⟨f6, A8, c10, rfl, r8⟩
  have f26 := f2.trans1 f6
  have fd : Fr (fun _ => False) w6 w6.drew := Fr.drew _ _
  have f0 := f26.trans1 fd
  have h7 := h.fr0 f0
  have hlt1 := r1.lt
  have r1 := (r1.fr f6 (fun h => h)).fr fd (fun h => h)
  have r8 := fd.row r8 (fun _ _ h => h)
  have hs2 := f2.size
  have hs6 := (f6.trans1 fd).size
  have e0 : w6.drew.heap.size = w6.heap.size := rfl
  generalize w6.drew = w7 at fd f0 h7 r1 r8 hs6 e0 ⊢
  -- the end of both
  have fin : ∀ (u : World) (cs' : List Value), Fr (fun k => w7.heap.size ≤ k) w7 u → DkAt u db r d → FoAt u cs' (doF d.F x) → gd (cs'.length == 2) (st u db (0 + 2) cs' fun w25 =>
      Calls Tryz.prog 34 #[Value.pointer (some ⟨db, 0, none⟩), Value.slice A8 (idsF d.F).length c10] w25 fun e27 w26 => e27 = .returned (Value.tuple #[]) ∧ (Fr (DS db r) w w26 ∧ Value.int .i64 (wrongF d.F x) = .int .i64 (chD d x).2 ∧ DkAt w26 db r (chD d x).1)) := by
    intro u cs' fu hu hF'
    refine dk_setF hu hF' (fun w25 f25 h25 => ?_)
    have hrow : Sl w25 1 A8 (idsF d.F).length (ivs (idsF d.F)) := by
      refine f25.sl (fu.sl r8.sl (fun h0 k hk h => ?_)) (fun h0 k hk h => ?_)
      · have := (r8.blt hk).2; omega
      · have h : k = db := h
        have := (r8.blt hk).1; omega
    refine (keep_calls db r _ A8 _ c10 (idsF d.F) w25 h25 hbF' hrow (ids_asc _) (by omega)).mono ?_
    rintro e w26 ⟨f26', rfl, h26⟩
    refine ⟨rfl, ?_, rfl, ?_⟩
    · have g1 : Fr (DS db r) w u := f0.trans fu (fun _ _ h => h.elim) (fun k hk h => by omega)
      exact (g1.trans f25 (fun _ _ h => h) (fun k hk h => .inl h)).trans f26' (fun _ _ h => h) (fun k hk h => .inr h)
    · have e2 : forg (idsF (doF d.F x)) (idsF d.F) d.f = trim (doF d.F x) d.f := forg_trim ho
      have h26 : DkAt w26 db r { d with F := doF d.F x, f := forg (idsF (doF d.F x)) (idsF d.F) d.f } := h26
      rw [e2] at h26
      exact h26
  refine ⟨A8, _, c10, rfl, dr_mk (dk_getF h7 (fun cs hF => ⟨encC x, rfl, rec_rd r1, ?_, ?_⟩))⟩
  · refine (do_calls cs d.F x w7 hF hbF hx).mono ?_
    rintro e w15 ⟨f15, a17, rfl, hF'⟩
    refine ⟨_, _, rfl, ?_⟩
    refine nw_mk ?_
    have g1 : Fr (fun _ => False) w15 (w15.alloc (.cells [Value.slice none 0 0, Value.slice none 0 0].toArray 64)) := Fr.alloc _ _ _
    have q1 := RecAt.new w15 [Value.slice none 0 0, Value.slice none 0 0] 64
    have hb19 : w7.heap.size ≤ w15.heap.size := f15.size
    generalize w15.heap.size = b19 at q1 hb19 ⊢
    generalize w15.alloc (.cells [Value.slice none 0 0, Value.slice none 0 0].toArray 64) = w20 at g1 q1 ⊢
    have g2 := f15.trans1 g1
    have hF20 := hF'.fr0 g1
    refine kp_mk g2 r1.lt (fun h => h) (kp_mk g2 h7.lt.1 (fun h => h) ?_)
    obtain ⟨u', v', rfl, hu, hv⟩ := fo_cells hF20
    refine gd_mk rfl (fo_st (y := [u', v']) q1 rfl (fun y hy => ?_) (fun w21 f21 r21 => ⟨_, rfl, rec_rd r21, dr_mk (fin w21 _ ?_ ?_ ?_)⟩))
    · simp only [List.mem_cons, List.not_mem_nil, or_false] at hy
      rcases hy with rfl | rfl
      · exact hu
      · exact hv
    · exact g2.trans f21 (fun _ _ h => h.elim) (fun k hk h => by have h : k = b19 := h; omega)
    · have g3 : Fr (fun k => k = b19) w7 w21 := g2.trans f21 (fun _ _ h => h.elim) (fun _ _ h => h)
      have := h7.lt
      exact (h7.fr0 g2).fr f21 (fun h => by have h : db = b19 := h; omega) (fun h => by have h : r = b19 := h; omega) (fun k hk => by have hk : k = b19 := hk; rw [hk]; exact two_alien q1)
    · exact fo_fr hF20 f21 (fun k hk => by have hk : k = b19 := hk; rw [hk]; exact two_alien q1)
  · refine rec_new (fun b28 w29 f29 hb28 r28 => kp_mk f29 r1.lt (fun h => h) (kp_mk f29 h7.lt.1 (fun h => h) ((do_calls cs d.F x w29 (hF.fr0 f29) hbF hx).mono ?_)))
    rintro e w30 ⟨f30, a32, rfl, hF'⟩
    have r28 := r28.fr f30 (fun h => h)
    have g2 := f29.trans1 f30
    refine ⟨_, _, rfl, ?_⟩
    obtain ⟨u', v', rfl, hu, hv⟩ := fo_cells hF'
    refine gd_mk rfl (fo_st (y := [u', v']) r28 rfl (fun y hy => ?_) (fun w34 f34 r34 => ⟨_, rfl, rec_rd r34, dr_mk (fin w34 _ ?_ ?_ ?_)⟩))
    · simp only [List.mem_cons, List.not_mem_nil, or_false] at hy
      rcases hy with rfl | rfl
      · exact hu
      · exact hv
    · exact g2.trans f34 (fun _ _ h => h.elim) (fun k hk h => by have h : k = b28 := h; omega)
    · have := h7.lt
      exact (h7.fr0 g2).fr f34 (fun h => by have h : db = b28 := h; omega) (fun h => by have h : r = b28 := h; omega) (fun k hk => by have hk : k = b28 := hk; rw [hk]; exact two_alien r28)
    · exact fo_fr hF' f34 (fun k hk => by have hk : k = b28 := hk; rw [hk]; exact two_alien r28)
end Go.Proofs.YtfdhaeglhkmmpaaGreat
/- chapter 12: file and power, for each closure; printed by tools/mk12.py -/
namespace Go.Proofs.YtfdhaeglhkmmpaaGreat
open Go.GV Go.RowKit Go.Lib
set_option linter.unusedVariables false
set_option linter.unusedSimpArgs false
set_option maxHeartbeats 4000000 in
theorem file_callsa (db r : Nat) (d : Dk) (s : ByteArray) (p0 : Nat) (w : World) (g : Ino → Ino × Int) (h : DkAt w db r d) (hb : FoB d.F) (hi : ∀ id, InoB (d.f id)) (hp : ∀ id, (d.f id).p.length ≤ 1099511627775) (hg : ∀ x, InoB x → InoB (g x).1) (hgp : ∀ id, (g (d.f id)).1.p.length ≤ 1099511627775)
    (hcall : ∀ (w2 : World) (cs : List Value) (id : Int), Fr (fun _ => False) w w2 → InoAt w2 cs (d.f id) → Calls Tryz.prog 40 #[ofL cs, .pointer (some ⟨p0, 0, none⟩)] w2 fun e w' => Fr (fun _ => False) w2 w' ∧ ∃ cs', e = .returned (.tuple #[ofL cs', .int .i64 (g (d.f id)).2]) ∧ InoAt w' cs' (g (d.f id)).1) :
    Calls Tryz.prog 39 #[.pointer (some ⟨db, 0, none⟩), .string s, .func (.func 40) #[] #[.pointer (some ⟨p0, 0, none⟩)]] w fun e w' => Fr (DS db r) w w' ∧ e = .returned (.int .i64 (fileD d s g).2) ∧ DkAt w' db r (fileD d s g).1 := by
  refine (F39a.of (some ⟨db, 0, none⟩) s (p0, 0) w (Q := fun v w' => Fr (DS db r) w w' ∧ v = .int .i64 (fileD d s g).2 ∧ DkAt w' db r (fileD d s g).1) ?_).mono (fun e w' ⟨v, he, hf, hv, h⟩ => ⟨hf, by rw [he, hv], h⟩)
  have hlt := h.lt
  have hne := h.ne
  refine dr_mk (dk_getF h (fun cs hF => (find_calls cs d.F s w hF hb).mono ?_))
  rintro e w4 ⟨rfl, f4⟩
  refine ⟨_, _, rfl, ?_⟩
  cases hfn : findN s (nowF d.F) with
  | none =>
    have eD : fileD d s g = (d, 6) := by unfold fileD; rw [hfn]
    refine vIf_t rfl ⟨fr_up f4, by rw [eD], by rw [eD]; exact h.fr0 f4⟩
  | some id =>
    refine vIf_f rfl ?_
    show dr (some ⟨db, 0, none⟩) _
    have h4 := h.fr0 f4
    have h40 := h4
    obtain ⟨u, v, fz, lv, q1, q2, q3, q4⟩ := h40
    refine dr_mk (dk_getM h4 (files_get q3 (fun a12 hI => ?_)))
    have ho := ino_one hI
    refine var_new rfl ho.1 ho.2 (fun b14 w16 f16 hb14 r14 => ⟨a12, ho.1, rec_all r14, ?_⟩)
    have f416 := f4.trans1 f16
    refine (hcall w16 a12 id f416 (hI.fr0 f16)).mono ?_
    rintro e w18 ⟨f18, a20, rfl, hX⟩
    have hoX := ino_one hX
    refine ⟨a20, _, rfl, var_new rfl hoX.1 hoX.2 (fun b22 w24 f24 hb22 r22 => ?_)⟩
    have hs4 := f4.size
    have hs16 := f16.size
    have hs18 := f18.size
    have r14 := (r14.fr f18 (fun h => h)).fr f24 (fun h => h)
    have f024 := (f416.trans1 f18).trans1 f24
    have h24 := h.fr0 f024
    have hI24 := ((hI.fr0 f16).fr0 f18).fr0 f24
    have hX24 := hX.fr0 f24
    have hlt14 := r14.lt
    refine vIf_mk (fun he => ?_) (fun he => ?_)
    · have he : ¬ (g (d.f id)).2 = 0 := by simpa using he
      have eD : fileD d s g = (d, (g (d.f id)).2) := by unfold fileD; rw [hfn]; dsimp only; rw [if_pos he]
      exact ⟨fr_up f024, by rw [eD], by rw [eD]; exact h24⟩
    · have he : (g (d.f id)).2 = 0 := by simpa using he
      have fd : Fr (fun _ => False) w24 w24.drew := Fr.drew _ _
      have f0d := f024.trans1 fd
      have hd := h24.fr0 fd
      have hsd := fd.size
      have r14 := r14.fr fd (fun h => h)
      have r22 := r22.fr fd (fun h => h)
      have hId := hI24.fr0 fd
      have hXd := hX24.fr0 fd
      generalize w24.drew = w25 at fd f0d hd hsd r14 r22 hId hXd ⊢
      have hd0 := hd
      obtain ⟨u', v', fz', lv', p1, p2, p3, p4⟩ := hd0
      refine dr_mk (dk_getM hd ⟨a20, hoX.1, rec_all r22, files_put p3 hXd (fun w29 hF29 f29 => ?_)⟩)
      have har : ∀ k, k = r → Alien w25 k := fun k hk => by rw [hk]; exact p3.alien
      have p1 := p1.fr f29 (fun h => hne h)
      have p2 := fo_fr p2 f29 har
      have r14 := r14.fr f29 (fun h => by have h : b14 = r := h; omega)
      have r22 := r22.fr f29 (fun h => by have h : b22 = r := h; omega)
      have hIr := hId.fr f29 har
      have hXr := hXd.fr f29 har
      have f029 : Fr (DS db r) w w29 := f0d.trans f29 (fun _ _ h => h.elim) (fun k hk h => .inr h)
      have f2d : Fr (fun _ => False) w29 w29.drew := Fr.drew _ _
      have hDk : DkAt w29 db r { d with f := updF d.f id (g (d.f id)).1 } := ⟨u', v', fz', lv', p1, p2, hF29, p4⟩
      have hDk := hDk.fr0 f2d
      have r14 := r14.fr f2d (fun h => h)
      have r22 := r22.fr f2d (fun h => h)
      have hIr := hIr.fr0 f2d
      have hXr := hXr.fr0 f2d
      have f029 := f029.trans f2d (fun _ _ h => h) (fun _ _ h => h.elim)
      generalize w29.drew = w30 at f2d hDk r14 r22 hIr hXr f029 ⊢
      refine ⟨a20, hoX.1, rec_all r22, a12, ho.1, rec_all r14, (room_calls a20 _ w30 hXr (hg _ (hi id)) (hgp id)).mono ?_⟩
      rintro e w33 ⟨rfl, f33⟩
      refine ⟨_, rfl, kp_mk f33 r14.lt (fun h => h) ((room_calls a12 _ w33 (hIr.fr0 f33) (hi id) (hp id)).mono ?_)⟩
      rintro e w36 ⟨rfl, f36⟩
      have f3336 := f33.trans1 f36
      have h36 := hDk.fr0 f3336
      have r14 := r14.fr f3336 (fun h => h)
      have hI36 := hIr.fr0 f3336
      have f036 : Fr (DS db r) w w36 := f029.trans f3336 (fun _ _ h => h) (fun _ _ h => h.elim)
      -- the end
      have k10 : ∀ (t : Bool) (y : World), Fr (fun _ => False) w36 y → (t = true ↔ (roomI (g (d.f id)).1 > roomI (d.f id) ∧ takenF d.F (updF d.f id (g (d.f id)).1) > d.lb)) → jnC (F39a.k10 (fun v w' => Fr (DS db r) w w' ∧ v = .int .i64 (fileD d s g).2 ∧ DkAt w' db r (fileD d s g).1)) (some ⟨db, 0, none⟩, id, (b14, 0), t, ()) y := by
        intro t y fy ht
        have hy := h36.fr0 fy
        have f0y : Fr (DS db r) w y := f036.trans fy (fun _ _ h => h) (fun _ _ h => h.elim)
        refine jnC_mk (fun _ => vIf_mk (fun htt => ?_) (fun htf => ?_))
        · have hc := ht.1 htt
          have eD : fileD d s g = (d, 9) := by unfold fileD; rw [hfn]; dsimp only; rw [if_neg (by rw [he]; simp), if_pos hc]
          have fdy : Fr (fun _ => False) y y.drew := Fr.drew _ _
          have hyd := hy.fr0 fdy
          have hyd0 := hyd
          obtain ⟨u2, v2, fz2, lv2, m1, m2, m3, m4⟩ := hyd0
          have hIy := (hI36.fr0 fy).fr0 fdy
          refine dr_mk (dk_getM hyd ⟨a12, ho.1, rec_all ((r14.fr fy (fun h => h)).fr fdy (fun h => h)), files_put m3 hIy (fun w49 hF49 f49 => ⟨?_, by rw [eD], ?_⟩)⟩)
          · exact (f0y.trans fdy (fun _ _ h => h) (fun _ _ h => h.elim)).trans f49 (fun _ _ h => h) (fun k hk h => .inr h)
          · rw [eD]
            have ha2 : ∀ k, k = r → Alien y.drew k := fun k hk => by rw [hk]; exact m3.alien
            have e3 : updF (updF d.f id (g (d.f id)).1) id (d.f id) = d.f := by
              funext j
              unfold updF
              by_cases hj : j = id
              · rw [if_pos hj, hj]
              · rw [if_neg hj, if_neg hj]
            have hF49 : FilesAt w49 r (updF (updF d.f id (g (d.f id)).1) id (d.f id)) := hF49
            rw [e3] at hF49
            exact ⟨u2, v2, fz2, lv2, m1.fr f49 (fun h => hne h), fo_fr m2 f49 ha2, hF49, m4⟩
        · have htf : t = false := htf
          have hc : ¬ (roomI (g (d.f id)).1 > roomI (d.f id) ∧ takenF d.F (updF d.f id (g (d.f id)).1) > d.lb) := fun hc => by have := ht.2 hc; rw [htf] at this; cases this
          have eD : fileD d s g = ({ d with f := updF d.f id (g (d.f id)).1 }, 0) := by unfold fileD; rw [hfn]; dsimp only; rw [if_neg (by rw [he]; simp), if_neg hc]
          exact ⟨f0y, by rw [eD], by rw [eD]; exact hy⟩
      refine ⟨_, rfl, vIf_mk (fun hgt => ?_) (fun hgt => k10 false w36 (Fr.refl _ _) ⟨(fun h => by cases h), fun h => absurd h.1 (of_decide_eq_false hgt)⟩)⟩
      have hgt := of_decide_eq_true hgt
      have hi2 : ∀ k, InoB (updF d.f id (g (d.f id)).1 k) := updF_B hi (hg _ (hi id))
      have hp2 : ∀ k, (updF d.f id (g (d.f id)).1 k).p.length ≤ 1099511627775 := fun k => by
        unfold updF
        split
        · exact hgp id
        · exact hp k
      refine dr_mk (dk_getI (o := 0) h36 (.inl ⟨rfl, rfl⟩) ((taken_calls db r _ w36 h36 hb hi2 hp2).mono ?_))
      rintro e w42 ⟨rfl, f42⟩
      refine ⟨_, rfl, kp_mk f42 h36.lt.1 (fun h => h) (k10 _ w42 f42 ?_)⟩
      show decide (takenF d.F (updF d.f id (g (d.f id)).1) > d.lb) = true ↔ _
      rw [decide_eq_true_iff]
      exact ⟨fun h => ⟨hgt, h⟩, fun h => h.2⟩

set_option maxHeartbeats 4000000 in
theorem file_callsb (db r : Nat) (d : Dk) (s : ByteArray) (p0 : Nat) (w : World) (g : Ino → Ino × Int) (h : DkAt w db r d) (hb : FoB d.F) (hi : ∀ id, InoB (d.f id)) (hp : ∀ id, (d.f id).p.length ≤ 1099511627775) (hg : ∀ x, InoB x → InoB (g x).1) (hgp : ∀ id, (g (d.f id)).1.p.length ≤ 1099511627775)
    (hcall : ∀ (w2 : World) (cs : List Value) (id : Int), Fr (fun _ => False) w w2 → InoAt w2 cs (d.f id) → Calls Tryz.prog 65 #[ofL cs, .pointer (some ⟨p0, 0, none⟩)] w2 fun e w' => Fr (fun _ => False) w2 w' ∧ ∃ cs', e = .returned (.tuple #[ofL cs', .int .i64 (g (d.f id)).2]) ∧ InoAt w' cs' (g (d.f id)).1) :
    Calls Tryz.prog 39 #[.pointer (some ⟨db, 0, none⟩), .string s, .func (.func 65) #[] #[.pointer (some ⟨p0, 0, none⟩)]] w fun e w' => Fr (DS db r) w w' ∧ e = .returned (.int .i64 (fileD d s g).2) ∧ DkAt w' db r (fileD d s g).1 := by
  refine (F39b.of (some ⟨db, 0, none⟩) s (p0, 0) w (Q := fun v w' => Fr (DS db r) w w' ∧ v = .int .i64 (fileD d s g).2 ∧ DkAt w' db r (fileD d s g).1) ?_).mono (fun e w' ⟨v, he, hf, hv, h⟩ => ⟨hf, by rw [he, hv], h⟩)
  have hlt := h.lt
  have hne := h.ne
  refine dr_mk (dk_getF h (fun cs hF => (find_calls cs d.F s w hF hb).mono ?_))
  rintro e w4 ⟨rfl, f4⟩
  refine ⟨_, _, rfl, ?_⟩
  cases hfn : findN s (nowF d.F) with
  | none =>
    have eD : fileD d s g = (d, 6) := by unfold fileD; rw [hfn]
    refine vIf_t rfl ⟨fr_up f4, by rw [eD], by rw [eD]; exact h.fr0 f4⟩
  | some id =>
    refine vIf_f rfl ?_
    show dr (some ⟨db, 0, none⟩) _
    have h4 := h.fr0 f4
    have h40 := h4
    obtain ⟨u, v, fz, lv, q1, q2, q3, q4⟩ := h40
    refine dr_mk (dk_getM h4 (files_get q3 (fun a12 hI => ?_)))
    have ho := ino_one hI
    refine var_new rfl ho.1 ho.2 (fun b14 w16 f16 hb14 r14 => ⟨a12, ho.1, rec_all r14, ?_⟩)
    have f416 := f4.trans1 f16
    refine (hcall w16 a12 id f416 (hI.fr0 f16)).mono ?_
    rintro e w18 ⟨f18, a20, rfl, hX⟩
    have hoX := ino_one hX
    refine ⟨a20, _, rfl, var_new rfl hoX.1 hoX.2 (fun b22 w24 f24 hb22 r22 => ?_)⟩
    have hs4 := f4.size
    have hs16 := f16.size
    have hs18 := f18.size
    have r14 := (r14.fr f18 (fun h => h)).fr f24 (fun h => h)
    have f024 := (f416.trans1 f18).trans1 f24
    have h24 := h.fr0 f024
    have hI24 := ((hI.fr0 f16).fr0 f18).fr0 f24
    have hX24 := hX.fr0 f24
    have hlt14 := r14.lt
    refine vIf_mk (fun he => ?_) (fun he => ?_)
    · have he : ¬ (g (d.f id)).2 = 0 := by simpa using he
      have eD : fileD d s g = (d, (g (d.f id)).2) := by unfold fileD; rw [hfn]; dsimp only; rw [if_pos he]
      exact ⟨fr_up f024, by rw [eD], by rw [eD]; exact h24⟩
    · have he : (g (d.f id)).2 = 0 := by simpa using he
      have fd : Fr (fun _ => False) w24 w24.drew := Fr.drew _ _
      have f0d := f024.trans1 fd
      have hd := h24.fr0 fd
      have hsd := fd.size
      have r14 := r14.fr fd (fun h => h)
      have r22 := r22.fr fd (fun h => h)
      have hId := hI24.fr0 fd
      have hXd := hX24.fr0 fd
      generalize w24.drew = w25 at fd f0d hd hsd r14 r22 hId hXd ⊢
      have hd0 := hd
      obtain ⟨u', v', fz', lv', p1, p2, p3, p4⟩ := hd0
      refine dr_mk (dk_getM hd ⟨a20, hoX.1, rec_all r22, files_put p3 hXd (fun w29 hF29 f29 => ?_)⟩)
      have har : ∀ k, k = r → Alien w25 k := fun k hk => by rw [hk]; exact p3.alien
      have p1 := p1.fr f29 (fun h => hne h)
      have p2 := fo_fr p2 f29 har
      have r14 := r14.fr f29 (fun h => by have h : b14 = r := h; omega)
      have r22 := r22.fr f29 (fun h => by have h : b22 = r := h; omega)
      have hIr := hId.fr f29 har
      have hXr := hXd.fr f29 har
      have f029 : Fr (DS db r) w w29 := f0d.trans f29 (fun _ _ h => h.elim) (fun k hk h => .inr h)
      have f2d : Fr (fun _ => False) w29 w29.drew := Fr.drew _ _
      have hDk : DkAt w29 db r { d with f := updF d.f id (g (d.f id)).1 } := ⟨u', v', fz', lv', p1, p2, hF29, p4⟩
      have hDk := hDk.fr0 f2d
      have r14 := r14.fr f2d (fun h => h)
      have r22 := r22.fr f2d (fun h => h)
      have hIr := hIr.fr0 f2d
      have hXr := hXr.fr0 f2d
      have f029 := f029.trans f2d (fun _ _ h => h) (fun _ _ h => h.elim)
      generalize w29.drew = w30 at f2d hDk r14 r22 hIr hXr f029 ⊢
      refine ⟨a20, hoX.1, rec_all r22, a12, ho.1, rec_all r14, (room_calls a20 _ w30 hXr (hg _ (hi id)) (hgp id)).mono ?_⟩
      rintro e w33 ⟨rfl, f33⟩
      refine ⟨_, rfl, kp_mk f33 r14.lt (fun h => h) ((room_calls a12 _ w33 (hIr.fr0 f33) (hi id) (hp id)).mono ?_)⟩
      rintro e w36 ⟨rfl, f36⟩
      have f3336 := f33.trans1 f36
      have h36 := hDk.fr0 f3336
      have r14 := r14.fr f3336 (fun h => h)
      have hI36 := hIr.fr0 f3336
      have f036 : Fr (DS db r) w w36 := f029.trans f3336 (fun _ _ h => h) (fun _ _ h => h.elim)
      -- the end
      have k10 : ∀ (t : Bool) (y : World), Fr (fun _ => False) w36 y → (t = true ↔ (roomI (g (d.f id)).1 > roomI (d.f id) ∧ takenF d.F (updF d.f id (g (d.f id)).1) > d.lb)) → jnC (F39b.k10 (fun v w' => Fr (DS db r) w w' ∧ v = .int .i64 (fileD d s g).2 ∧ DkAt w' db r (fileD d s g).1)) (some ⟨db, 0, none⟩, id, (b14, 0), t, ()) y := by
        intro t y fy ht
        have hy := h36.fr0 fy
        have f0y : Fr (DS db r) w y := f036.trans fy (fun _ _ h => h) (fun _ _ h => h.elim)
        refine jnC_mk (fun _ => vIf_mk (fun htt => ?_) (fun htf => ?_))
        · have hc := ht.1 htt
          have eD : fileD d s g = (d, 9) := by unfold fileD; rw [hfn]; dsimp only; rw [if_neg (by rw [he]; simp), if_pos hc]
          have fdy : Fr (fun _ => False) y y.drew := Fr.drew _ _
          have hyd := hy.fr0 fdy
          have hyd0 := hyd
          obtain ⟨u2, v2, fz2, lv2, m1, m2, m3, m4⟩ := hyd0
          have hIy := (hI36.fr0 fy).fr0 fdy
          refine dr_mk (dk_getM hyd ⟨a12, ho.1, rec_all ((r14.fr fy (fun h => h)).fr fdy (fun h => h)), files_put m3 hIy (fun w49 hF49 f49 => ⟨?_, by rw [eD], ?_⟩)⟩)
          · exact (f0y.trans fdy (fun _ _ h => h) (fun _ _ h => h.elim)).trans f49 (fun _ _ h => h) (fun k hk h => .inr h)
          · rw [eD]
            have ha2 : ∀ k, k = r → Alien y.drew k := fun k hk => by rw [hk]; exact m3.alien
            have e3 : updF (updF d.f id (g (d.f id)).1) id (d.f id) = d.f := by
              funext j
              unfold updF
              by_cases hj : j = id
              · rw [if_pos hj, hj]
              · rw [if_neg hj, if_neg hj]
            have hF49 : FilesAt w49 r (updF (updF d.f id (g (d.f id)).1) id (d.f id)) := hF49
            rw [e3] at hF49
            exact ⟨u2, v2, fz2, lv2, m1.fr f49 (fun h => hne h), fo_fr m2 f49 ha2, hF49, m4⟩
        · have htf : t = false := htf
          have hc : ¬ (roomI (g (d.f id)).1 > roomI (d.f id) ∧ takenF d.F (updF d.f id (g (d.f id)).1) > d.lb) := fun hc => by have := ht.2 hc; rw [htf] at this; cases this
          have eD : fileD d s g = ({ d with f := updF d.f id (g (d.f id)).1 }, 0) := by unfold fileD; rw [hfn]; dsimp only; rw [if_neg (by rw [he]; simp), if_neg hc]
          exact ⟨f0y, by rw [eD], by rw [eD]; exact hy⟩
      refine ⟨_, rfl, vIf_mk (fun hgt => ?_) (fun hgt => k10 false w36 (Fr.refl _ _) ⟨(fun h => by cases h), fun h => absurd h.1 (of_decide_eq_false hgt)⟩)⟩
      have hgt := of_decide_eq_true hgt
      have hi2 : ∀ k, InoB (updF d.f id (g (d.f id)).1 k) := updF_B hi (hg _ (hi id))
      have hp2 : ∀ k, (updF d.f id (g (d.f id)).1 k).p.length ≤ 1099511627775 := fun k => by
        unfold updF
        split
        · exact hgp id
        · exact hp k
      refine dr_mk (dk_getI (o := 0) h36 (.inl ⟨rfl, rfl⟩) ((taken_calls db r _ w36 h36 hb hi2 hp2).mono ?_))
      rintro e w42 ⟨rfl, f42⟩
      refine ⟨_, rfl, kp_mk f42 h36.lt.1 (fun h => h) (k10 _ w42 f42 ?_)⟩
      show decide (takenF d.F (updF d.f id (g (d.f id)).1) > d.lb) = true ↔ _
      rw [decide_eq_true_iff]
      exact ⟨fun h => ⟨hgt, h⟩, fun h => h.2⟩

set_option maxHeartbeats 4000000 in
theorem file_callsc (db r : Nat) (d : Dk) (s : ByteArray) (w : World) (g : Ino → Ino × Int) (h : DkAt w db r d) (hb : FoB d.F) (hi : ∀ id, InoB (d.f id)) (hp : ∀ id, (d.f id).p.length ≤ 1099511627775) (hg : ∀ x, InoB x → InoB (g x).1) (hgp : ∀ id, (g (d.f id)).1.p.length ≤ 1099511627775)
    (hcall : ∀ (w2 : World) (cs : List Value) (id : Int), Fr (fun _ => False) w w2 → InoAt w2 cs (d.f id) → Calls Tryz.prog 43 #[ofL cs] w2 fun e w' => Fr (fun _ => False) w2 w' ∧ ∃ cs', e = .returned (.tuple #[ofL cs', .int .i64 (g (d.f id)).2]) ∧ InoAt w' cs' (g (d.f id)).1) :
    Calls Tryz.prog 39 #[.pointer (some ⟨db, 0, none⟩), .string s, .func (.func 43) #[] #[]] w fun e w' => Fr (DS db r) w w' ∧ e = .returned (.int .i64 (fileD d s g).2) ∧ DkAt w' db r (fileD d s g).1 := by
  refine (F39c.of (some ⟨db, 0, none⟩) s  w (Q := fun v w' => Fr (DS db r) w w' ∧ v = .int .i64 (fileD d s g).2 ∧ DkAt w' db r (fileD d s g).1) ?_).mono (fun e w' ⟨v, he, hf, hv, h⟩ => ⟨hf, by rw [he, hv], h⟩)
  have hlt := h.lt
  have hne := h.ne
  refine dr_mk (dk_getF h (fun cs hF => (find_calls cs d.F s w hF hb).mono ?_))
  rintro e w4 ⟨rfl, f4⟩
  refine ⟨_, _, rfl, ?_⟩
  cases hfn : findN s (nowF d.F) with
  | none =>
    have eD : fileD d s g = (d, 6) := by unfold fileD; rw [hfn]
    refine vIf_t rfl ⟨fr_up f4, by rw [eD], by rw [eD]; exact h.fr0 f4⟩
  | some id =>
    refine vIf_f rfl ?_
    show dr (some ⟨db, 0, none⟩) _
    have h4 := h.fr0 f4
    have h40 := h4
    obtain ⟨u, v, fz, lv, q1, q2, q3, q4⟩ := h40
    refine dr_mk (dk_getM h4 (files_get q3 (fun a12 hI => ?_)))
    have ho := ino_one hI
    refine var_new rfl ho.1 ho.2 (fun b14 w16 f16 hb14 r14 => ⟨a12, ho.1, rec_all r14, ?_⟩)
    have f416 := f4.trans1 f16
    refine (hcall w16 a12 id f416 (hI.fr0 f16)).mono ?_
    rintro e w18 ⟨f18, a20, rfl, hX⟩
    have hoX := ino_one hX
    refine ⟨a20, _, rfl, var_new rfl hoX.1 hoX.2 (fun b22 w24 f24 hb22 r22 => ?_)⟩
    have hs4 := f4.size
    have hs16 := f16.size
    have hs18 := f18.size
    have r14 := (r14.fr f18 (fun h => h)).fr f24 (fun h => h)
    have f024 := (f416.trans1 f18).trans1 f24
    have h24 := h.fr0 f024
    have hI24 := ((hI.fr0 f16).fr0 f18).fr0 f24
    have hX24 := hX.fr0 f24
    have hlt14 := r14.lt
    refine vIf_mk (fun he => ?_) (fun he => ?_)
    · have he : ¬ (g (d.f id)).2 = 0 := by simpa using he
      have eD : fileD d s g = (d, (g (d.f id)).2) := by unfold fileD; rw [hfn]; dsimp only; rw [if_pos he]
      exact ⟨fr_up f024, by rw [eD], by rw [eD]; exact h24⟩
    · have he : (g (d.f id)).2 = 0 := by simpa using he
      have fd : Fr (fun _ => False) w24 w24.drew := Fr.drew _ _
      have f0d := f024.trans1 fd
      have hd := h24.fr0 fd
      have hsd := fd.size
      have r14 := r14.fr fd (fun h => h)
      have r22 := r22.fr fd (fun h => h)
      have hId := hI24.fr0 fd
      have hXd := hX24.fr0 fd
      generalize w24.drew = w25 at fd f0d hd hsd r14 r22 hId hXd ⊢
      have hd0 := hd
      obtain ⟨u', v', fz', lv', p1, p2, p3, p4⟩ := hd0
      refine dr_mk (dk_getM hd ⟨a20, hoX.1, rec_all r22, files_put p3 hXd (fun w29 hF29 f29 => ?_)⟩)
      have har : ∀ k, k = r → Alien w25 k := fun k hk => by rw [hk]; exact p3.alien
      have p1 := p1.fr f29 (fun h => hne h)
      have p2 := fo_fr p2 f29 har
      have r14 := r14.fr f29 (fun h => by have h : b14 = r := h; omega)
      have r22 := r22.fr f29 (fun h => by have h : b22 = r := h; omega)
      have hIr := hId.fr f29 har
      have hXr := hXd.fr f29 har
      have f029 : Fr (DS db r) w w29 := f0d.trans f29 (fun _ _ h => h.elim) (fun k hk h => .inr h)
      have f2d : Fr (fun _ => False) w29 w29.drew := Fr.drew _ _
      have hDk : DkAt w29 db r { d with f := updF d.f id (g (d.f id)).1 } := ⟨u', v', fz', lv', p1, p2, hF29, p4⟩
      have hDk := hDk.fr0 f2d
      have r14 := r14.fr f2d (fun h => h)
      have r22 := r22.fr f2d (fun h => h)
      have hIr := hIr.fr0 f2d
      have hXr := hXr.fr0 f2d
      have f029 := f029.trans f2d (fun _ _ h => h) (fun _ _ h => h.elim)
      generalize w29.drew = w30 at f2d hDk r14 r22 hIr hXr f029 ⊢
      refine ⟨a20, hoX.1, rec_all r22, a12, ho.1, rec_all r14, (room_calls a20 _ w30 hXr (hg _ (hi id)) (hgp id)).mono ?_⟩
      rintro e w33 ⟨rfl, f33⟩
      refine ⟨_, rfl, kp_mk f33 r14.lt (fun h => h) ((room_calls a12 _ w33 (hIr.fr0 f33) (hi id) (hp id)).mono ?_)⟩
      rintro e w36 ⟨rfl, f36⟩
      have f3336 := f33.trans1 f36
      have h36 := hDk.fr0 f3336
      have r14 := r14.fr f3336 (fun h => h)
      have hI36 := hIr.fr0 f3336
      have f036 : Fr (DS db r) w w36 := f029.trans f3336 (fun _ _ h => h) (fun _ _ h => h.elim)
      -- the end
      have k10 : ∀ (t : Bool) (y : World), Fr (fun _ => False) w36 y → (t = true ↔ (roomI (g (d.f id)).1 > roomI (d.f id) ∧ takenF d.F (updF d.f id (g (d.f id)).1) > d.lb)) → jnC (F39c.k10 (fun v w' => Fr (DS db r) w w' ∧ v = .int .i64 (fileD d s g).2 ∧ DkAt w' db r (fileD d s g).1)) (some ⟨db, 0, none⟩, id, (b14, 0), t, ()) y := by
        intro t y fy ht
        have hy := h36.fr0 fy
        have f0y : Fr (DS db r) w y := f036.trans fy (fun _ _ h => h) (fun _ _ h => h.elim)
        refine jnC_mk (fun _ => vIf_mk (fun htt => ?_) (fun htf => ?_))
        · have hc := ht.1 htt
          have eD : fileD d s g = (d, 9) := by unfold fileD; rw [hfn]; dsimp only; rw [if_neg (by rw [he]; simp), if_pos hc]
          have fdy : Fr (fun _ => False) y y.drew := Fr.drew _ _
          have hyd := hy.fr0 fdy
          have hyd0 := hyd
          obtain ⟨u2, v2, fz2, lv2, m1, m2, m3, m4⟩ := hyd0
          have hIy := (hI36.fr0 fy).fr0 fdy
          refine dr_mk (dk_getM hyd ⟨a12, ho.1, rec_all ((r14.fr fy (fun h => h)).fr fdy (fun h => h)), files_put m3 hIy (fun w49 hF49 f49 => ⟨?_, by rw [eD], ?_⟩)⟩)
          · exact (f0y.trans fdy (fun _ _ h => h) (fun _ _ h => h.elim)).trans f49 (fun _ _ h => h) (fun k hk h => .inr h)
          · rw [eD]
            have ha2 : ∀ k, k = r → Alien y.drew k := fun k hk => by rw [hk]; exact m3.alien
            have e3 : updF (updF d.f id (g (d.f id)).1) id (d.f id) = d.f := by
              funext j
              unfold updF
              by_cases hj : j = id
              · rw [if_pos hj, hj]
              · rw [if_neg hj, if_neg hj]
            have hF49 : FilesAt w49 r (updF (updF d.f id (g (d.f id)).1) id (d.f id)) := hF49
            rw [e3] at hF49
            exact ⟨u2, v2, fz2, lv2, m1.fr f49 (fun h => hne h), fo_fr m2 f49 ha2, hF49, m4⟩
        · have htf : t = false := htf
          have hc : ¬ (roomI (g (d.f id)).1 > roomI (d.f id) ∧ takenF d.F (updF d.f id (g (d.f id)).1) > d.lb) := fun hc => by have := ht.2 hc; rw [htf] at this; cases this
          have eD : fileD d s g = ({ d with f := updF d.f id (g (d.f id)).1 }, 0) := by unfold fileD; rw [hfn]; dsimp only; rw [if_neg (by rw [he]; simp), if_neg hc]
          exact ⟨f0y, by rw [eD], by rw [eD]; exact hy⟩
      refine ⟨_, rfl, vIf_mk (fun hgt => ?_) (fun hgt => k10 false w36 (Fr.refl _ _) ⟨(fun h => by cases h), fun h => absurd h.1 (of_decide_eq_false hgt)⟩)⟩
      have hgt := of_decide_eq_true hgt
      have hi2 : ∀ k, InoB (updF d.f id (g (d.f id)).1 k) := updF_B hi (hg _ (hi id))
      have hp2 : ∀ k, (updF d.f id (g (d.f id)).1 k).p.length ≤ 1099511627775 := fun k => by
        unfold updF
        split
        · exact hgp id
        · exact hp k
      refine dr_mk (dk_getI (o := 0) h36 (.inl ⟨rfl, rfl⟩) ((taken_calls db r _ w36 h36 hb hi2 hp2).mono ?_))
      rintro e w42 ⟨rfl, f42⟩
      refine ⟨_, rfl, kp_mk f42 h36.lt.1 (fun h => h) (k10 _ w42 f42 ?_)⟩
      show decide (takenF d.F (updF d.f id (g (d.f id)).1) > d.lb) = true ↔ _
      rw [decide_eq_true_iff]
      exact ⟨fun h => ⟨hgt, h⟩, fun h => h.2⟩

set_option maxHeartbeats 1000000 in
theorem power_callsa (db r : Nat) (d : Dk) (p0 : Nat) (p1 : Nat) (w : World) (N : Nat) (call : Dk → Dk × Int) (h : DkAt w db r d) (hB : DkB d N) (hN : N ≤ 349525)
    (hcall : ∀ w2 : World, Fr (fun k => k = db) w w2 → offD d = false → DkAt w2 db r { d with fu := d.fu.map (· - 1), calls := d.calls + 1 } → Calls Tryz.prog 36 #[.pointer (some ⟨p0, 0, none⟩), .pointer (some ⟨p1, 0, none⟩)] w2 fun e w' => Fr (DS db r) w2 w' ∧ e = .returned (.int .i64 (call { d with fu := d.fu.map (· - 1), calls := d.calls + 1 }).2) ∧ DkAt w' db r (call { d with fu := d.fu.map (· - 1), calls := d.calls + 1 }).1) :
    Calls Tryz.prog 35 #[.pointer (some ⟨db, 0, none⟩), .func (.func 36) #[] #[.pointer (some ⟨p0, 0, none⟩), .pointer (some ⟨p1, 0, none⟩)]] w fun e w' => Fr (DS db r) w w' ∧ e = .returned (.int .i64 (powD d call).2) ∧ DkAt w' db r (powD d call).1 := by
  refine (F35a.of (some ⟨db, 0, none⟩) ((p0, 0), (p1, 0), ()) w (Q := fun v w' => Fr (DS db r) w w' ∧ v = .int .i64 (powD d call).2 ∧ DkAt w' db r (powD d call).1) ?_).mono (fun e w' ⟨v, he, hf, hv, h⟩ => ⟨hf, by rw [he, hv], h⟩)
  have hne := h.ne
  obtain ⟨u, v, fz, lv, h1, h2, h3, h4⟩ := h
  have hc1 := hB.calls
  have k4 : ∀ t : Bool, t = offD d → jnC (F35a.k4 (fun v w' => Fr (DS db r) w w' ∧ v = .int .i64 (powD d call).2 ∧ DkAt w' db r (powD d call).1)) (some ⟨db, 0, none⟩, ((p0, 0), (p1, 0), ()), t, ()) w := by
    intro t ht
    refine jnC_mk (fun _ => vIf_mk (fun htt => dr_mk (dk_set (d' := { d with down := true }) (fz' := fz) (lv' := lv) h1 h2 h3 rfl (by show 0 + 6 + 1 ≤ 10; omega) (fun x hx => by simp at hx; subst hx; rfl) rfl rfl hne (fun w6 f6 g1 g2 g3 => ?_))) (fun htf => jnC_mk (fun _ => ?_)))
    · have ho : offD d = true := by rw [← ht]; exact htt
      have eP : powD d call = ({ d with down := true }, 11) := by unfold powD; rw [if_pos ho]
      rw [eP]
      exact ⟨f6.mono (fun _ _ h => .inl h), rfl, u, v, fz, lv, g1, g2, g3, h4⟩
    · have ho : offD d = false := by rw [← ht]; exact htf
      have eP : powD d call = call { d with fu := d.fu.map (· - 1), calls := d.calls + 1 } := by unfold powD; rw [if_neg (by rw [ho]; simp)]
      refine dr_mk ⟨lv, h1.cell (o := 0 + 8) rfl, dr_mk (dk_set (d' := d) (fz' := fz) (lv' := IntKind.wrap .i64 (lv - 1)) h1 h2 h3 rfl (by show 0 + 8 + 1 ≤ 10; omega) (fun x hx => by simp at hx; subst hx; rfl) rfl rfl hne (fun w12 f12 g1 g2 g3 => ?_))⟩
      have ec : IntKind.wrap .i64 (d.calls + 1) = d.calls + 1 := i64_id (by omega) (by omega)
      refine dr_mk ⟨d.calls, g1.cell (o := 0 + 9) rfl, dr_mk (dk_set (d' := { d with fu := d.fu.map (· - 1), calls := d.calls + 1 }) (fz' := fz) (lv' := IntKind.wrap .i64 (lv - 1)) g1 g2 g3 (by rw [ec]; rfl) (by show 0 + 9 + 1 ≤ 10; omega) (fun x hx => by simp at hx; subst hx; rfl) rfl rfl hne (fun w18 f18 m1 m2 m3 => ?_))⟩
      have hfu : fuR (d.fu.map (· - 1)) fz (IntKind.wrap .i64 (lv - 1)) := by
        unfold fuR at h4 ⊢
        cases hd : d.fu with
        | none => rw [hd] at h4; exact h4
        | some n =>
          rw [hd] at h4
          have hh := hB.fu n hd
          have hn1 : ¬ n ≤ 0 := fun hle => by
            unfold offD at ho
            rw [hd] at ho
            simp at ho
            omega
          have h4 : fz = true ∧ lv = n := h4
          refine ⟨h4.1, ?_⟩
          rw [h4.2]
          exact i64_id (by omega) (by omega)
      have f018 : Fr (fun k => k = db) w w18 := f12.trans1 f18
      refine (hcall w18 f018 ho ⟨u, v, fz, _, m1, m2, m3, hfu⟩).mono ?_
      rintro e w19 ⟨f19, rfl, h19⟩
      refine ⟨_, rfl, ?_⟩
      rw [eP]
      exact ⟨f018.trans f19 (fun k _ h => .inl h) (fun _ _ h => h), rfl, h19⟩
  refine vIf_f rfl (dr_mk ⟨d.down, h1.cell (o := 0 + 6) rfl, vIf_mk (fun hd => k4 true ?_) (fun hd => dr_mk ⟨fz, h1.cell (o := 0 + 7) rfl, vIf_mk (fun hz => dr_mk ⟨lv, h1.cell (o := 0 + 8) rfl, k4 _ ?_⟩) (fun hz => k4 false ?_)⟩)⟩)
  · have hd : d.down = true := hd
    unfold offD
    rw [hd]; rfl
  · have hd : d.down = false := hd
    have hz : fz = true := hz
    unfold offD
    rw [hd, Bool.false_or]
    unfold fuR at h4
    cases hf : d.fu with
    | none => rw [hf] at h4; rw [hz] at h4; cases h4
    | some n =>
      rw [hf] at h4
      have h4 : fz = true ∧ lv = n := h4
      rw [h4.2]
  · have hd : d.down = false := hd
    have hz : fz = false := hz
    unfold offD
    rw [hd, Bool.false_or]
    unfold fuR at h4
    cases hf : d.fu with
    | none => rfl
    | some n =>
      rw [hf] at h4
      have h4 : fz = true ∧ lv = n := h4
      rw [hz] at h4; cases h4.1

set_option maxHeartbeats 1000000 in
theorem power_callsb (db r : Nat) (d : Dk) (p0 : Nat) (p1 : Nat) (p2 : Nat) (w : World) (N : Nat) (call : Dk → Dk × Int) (h : DkAt w db r d) (hB : DkB d N) (hN : N ≤ 349525)
    (hcall : ∀ w2 : World, Fr (fun k => k = db) w w2 → offD d = false → DkAt w2 db r { d with fu := d.fu.map (· - 1), calls := d.calls + 1 } → Calls Tryz.prog 38 #[.pointer (some ⟨p0, 0, none⟩), .pointer (some ⟨p1, 0, none⟩), .pointer (some ⟨p2, 0, none⟩)] w2 fun e w' => Fr (DS db r) w2 w' ∧ e = .returned (.int .i64 (call { d with fu := d.fu.map (· - 1), calls := d.calls + 1 }).2) ∧ DkAt w' db r (call { d with fu := d.fu.map (· - 1), calls := d.calls + 1 }).1) :
    Calls Tryz.prog 35 #[.pointer (some ⟨db, 0, none⟩), .func (.func 38) #[] #[.pointer (some ⟨p0, 0, none⟩), .pointer (some ⟨p1, 0, none⟩), .pointer (some ⟨p2, 0, none⟩)]] w fun e w' => Fr (DS db r) w w' ∧ e = .returned (.int .i64 (powD d call).2) ∧ DkAt w' db r (powD d call).1 := by
  refine (F35b.of (some ⟨db, 0, none⟩) ((p0, 0), (p1, 0), (p2, 0), ()) w (Q := fun v w' => Fr (DS db r) w w' ∧ v = .int .i64 (powD d call).2 ∧ DkAt w' db r (powD d call).1) ?_).mono (fun e w' ⟨v, he, hf, hv, h⟩ => ⟨hf, by rw [he, hv], h⟩)
  have hne := h.ne
  obtain ⟨u, v, fz, lv, h1, h2, h3, h4⟩ := h
  have hc1 := hB.calls
  have k4 : ∀ t : Bool, t = offD d → jnC (F35b.k4 (fun v w' => Fr (DS db r) w w' ∧ v = .int .i64 (powD d call).2 ∧ DkAt w' db r (powD d call).1)) (some ⟨db, 0, none⟩, ((p0, 0), (p1, 0), (p2, 0), ()), t, ()) w := by
    intro t ht
    refine jnC_mk (fun _ => vIf_mk (fun htt => dr_mk (dk_set (d' := { d with down := true }) (fz' := fz) (lv' := lv) h1 h2 h3 rfl (by show 0 + 6 + 1 ≤ 10; omega) (fun x hx => by simp at hx; subst hx; rfl) rfl rfl hne (fun w6 f6 g1 g2 g3 => ?_))) (fun htf => jnC_mk (fun _ => ?_)))
    · have ho : offD d = true := by rw [← ht]; exact htt
      have eP : powD d call = ({ d with down := true }, 11) := by unfold powD; rw [if_pos ho]
      rw [eP]
      exact ⟨f6.mono (fun _ _ h => .inl h), rfl, u, v, fz, lv, g1, g2, g3, h4⟩
    · have ho : offD d = false := by rw [← ht]; exact htf
      have eP : powD d call = call { d with fu := d.fu.map (· - 1), calls := d.calls + 1 } := by unfold powD; rw [if_neg (by rw [ho]; simp)]
      refine dr_mk ⟨lv, h1.cell (o := 0 + 8) rfl, dr_mk (dk_set (d' := d) (fz' := fz) (lv' := IntKind.wrap .i64 (lv - 1)) h1 h2 h3 rfl (by show 0 + 8 + 1 ≤ 10; omega) (fun x hx => by simp at hx; subst hx; rfl) rfl rfl hne (fun w12 f12 g1 g2 g3 => ?_))⟩
      have ec : IntKind.wrap .i64 (d.calls + 1) = d.calls + 1 := i64_id (by omega) (by omega)
      refine dr_mk ⟨d.calls, g1.cell (o := 0 + 9) rfl, dr_mk (dk_set (d' := { d with fu := d.fu.map (· - 1), calls := d.calls + 1 }) (fz' := fz) (lv' := IntKind.wrap .i64 (lv - 1)) g1 g2 g3 (by rw [ec]; rfl) (by show 0 + 9 + 1 ≤ 10; omega) (fun x hx => by simp at hx; subst hx; rfl) rfl rfl hne (fun w18 f18 m1 m2 m3 => ?_))⟩
      have hfu : fuR (d.fu.map (· - 1)) fz (IntKind.wrap .i64 (lv - 1)) := by
        unfold fuR at h4 ⊢
        cases hd : d.fu with
        | none => rw [hd] at h4; exact h4
        | some n =>
          rw [hd] at h4
          have hh := hB.fu n hd
          have hn1 : ¬ n ≤ 0 := fun hle => by
            unfold offD at ho
            rw [hd] at ho
            simp at ho
            omega
          have h4 : fz = true ∧ lv = n := h4
          refine ⟨h4.1, ?_⟩
          rw [h4.2]
          exact i64_id (by omega) (by omega)
      have f018 : Fr (fun k => k = db) w w18 := f12.trans1 f18
      refine (hcall w18 f018 ho ⟨u, v, fz, _, m1, m2, m3, hfu⟩).mono ?_
      rintro e w19 ⟨f19, rfl, h19⟩
      refine ⟨_, rfl, ?_⟩
      rw [eP]
      exact ⟨f018.trans f19 (fun k _ h => .inl h) (fun _ _ h => h), rfl, h19⟩
  refine vIf_f rfl (dr_mk ⟨d.down, h1.cell (o := 0 + 6) rfl, vIf_mk (fun hd => k4 true ?_) (fun hd => dr_mk ⟨fz, h1.cell (o := 0 + 7) rfl, vIf_mk (fun hz => dr_mk ⟨lv, h1.cell (o := 0 + 8) rfl, k4 _ ?_⟩) (fun hz => k4 false ?_)⟩)⟩)
  · have hd : d.down = true := hd
    unfold offD
    rw [hd]; rfl
  · have hd : d.down = false := hd
    have hz : fz = true := hz
    unfold offD
    rw [hd, Bool.false_or]
    unfold fuR at h4
    cases hf : d.fu with
    | none => rw [hf] at h4; rw [hz] at h4; cases h4
    | some n =>
      rw [hf] at h4
      have h4 : fz = true ∧ lv = n := h4
      rw [h4.2]
  · have hd : d.down = false := hd
    have hz : fz = false := hz
    unfold offD
    rw [hd, Bool.false_or]
    unfold fuR at h4
    cases hf : d.fu with
    | none => rfl
    | some n =>
      rw [hf] at h4
      have h4 : fz = true ∧ lv = n := h4
      rw [hz] at h4; cases h4.1

set_option maxHeartbeats 1000000 in
theorem power_callsc (db r : Nat) (d : Dk) (p0 : Nat) (p1 : Nat) (p2 : Nat) (w : World) (N : Nat) (call : Dk → Dk × Int) (h : DkAt w db r d) (hB : DkB d N) (hN : N ≤ 349525)
    (hcall : ∀ w2 : World, Fr (fun k => k = db) w w2 → offD d = false → DkAt w2 db r { d with fu := d.fu.map (· - 1), calls := d.calls + 1 } → Calls Tryz.prog 64 #[.pointer (some ⟨p0, 0, none⟩), .pointer (some ⟨p1, 0, none⟩), .pointer (some ⟨p2, 0, none⟩)] w2 fun e w' => Fr (DS db r) w2 w' ∧ e = .returned (.int .i64 (call { d with fu := d.fu.map (· - 1), calls := d.calls + 1 }).2) ∧ DkAt w' db r (call { d with fu := d.fu.map (· - 1), calls := d.calls + 1 }).1) :
    Calls Tryz.prog 35 #[.pointer (some ⟨db, 0, none⟩), .func (.func 64) #[] #[.pointer (some ⟨p0, 0, none⟩), .pointer (some ⟨p1, 0, none⟩), .pointer (some ⟨p2, 0, none⟩)]] w fun e w' => Fr (DS db r) w w' ∧ e = .returned (.int .i64 (powD d call).2) ∧ DkAt w' db r (powD d call).1 := by
  refine (F35c.of (some ⟨db, 0, none⟩) ((p0, 0), (p1, 0), (p2, 0), ()) w (Q := fun v w' => Fr (DS db r) w w' ∧ v = .int .i64 (powD d call).2 ∧ DkAt w' db r (powD d call).1) ?_).mono (fun e w' ⟨v, he, hf, hv, h⟩ => ⟨hf, by rw [he, hv], h⟩)
  have hne := h.ne
  obtain ⟨u, v, fz, lv, h1, h2, h3, h4⟩ := h
  have hc1 := hB.calls
  have k4 : ∀ t : Bool, t = offD d → jnC (F35c.k4 (fun v w' => Fr (DS db r) w w' ∧ v = .int .i64 (powD d call).2 ∧ DkAt w' db r (powD d call).1)) (some ⟨db, 0, none⟩, ((p0, 0), (p1, 0), (p2, 0), ()), t, ()) w := by
    intro t ht
    refine jnC_mk (fun _ => vIf_mk (fun htt => dr_mk (dk_set (d' := { d with down := true }) (fz' := fz) (lv' := lv) h1 h2 h3 rfl (by show 0 + 6 + 1 ≤ 10; omega) (fun x hx => by simp at hx; subst hx; rfl) rfl rfl hne (fun w6 f6 g1 g2 g3 => ?_))) (fun htf => jnC_mk (fun _ => ?_)))
    · have ho : offD d = true := by rw [← ht]; exact htt
      have eP : powD d call = ({ d with down := true }, 11) := by unfold powD; rw [if_pos ho]
      rw [eP]
      exact ⟨f6.mono (fun _ _ h => .inl h), rfl, u, v, fz, lv, g1, g2, g3, h4⟩
    · have ho : offD d = false := by rw [← ht]; exact htf
      have eP : powD d call = call { d with fu := d.fu.map (· - 1), calls := d.calls + 1 } := by unfold powD; rw [if_neg (by rw [ho]; simp)]
      refine dr_mk ⟨lv, h1.cell (o := 0 + 8) rfl, dr_mk (dk_set (d' := d) (fz' := fz) (lv' := IntKind.wrap .i64 (lv - 1)) h1 h2 h3 rfl (by show 0 + 8 + 1 ≤ 10; omega) (fun x hx => by simp at hx; subst hx; rfl) rfl rfl hne (fun w12 f12 g1 g2 g3 => ?_))⟩
      have ec : IntKind.wrap .i64 (d.calls + 1) = d.calls + 1 := i64_id (by omega) (by omega)
      refine dr_mk ⟨d.calls, g1.cell (o := 0 + 9) rfl, dr_mk (dk_set (d' := { d with fu := d.fu.map (· - 1), calls := d.calls + 1 }) (fz' := fz) (lv' := IntKind.wrap .i64 (lv - 1)) g1 g2 g3 (by rw [ec]; rfl) (by show 0 + 9 + 1 ≤ 10; omega) (fun x hx => by simp at hx; subst hx; rfl) rfl rfl hne (fun w18 f18 m1 m2 m3 => ?_))⟩
      have hfu : fuR (d.fu.map (· - 1)) fz (IntKind.wrap .i64 (lv - 1)) := by
        unfold fuR at h4 ⊢
        cases hd : d.fu with
        | none => rw [hd] at h4; exact h4
        | some n =>
          rw [hd] at h4
          have hh := hB.fu n hd
          have hn1 : ¬ n ≤ 0 := fun hle => by
            unfold offD at ho
            rw [hd] at ho
            simp at ho
            omega
          have h4 : fz = true ∧ lv = n := h4
          refine ⟨h4.1, ?_⟩
          rw [h4.2]
          exact i64_id (by omega) (by omega)
      have f018 : Fr (fun k => k = db) w w18 := f12.trans1 f18
      refine (hcall w18 f018 ho ⟨u, v, fz, _, m1, m2, m3, hfu⟩).mono ?_
      rintro e w19 ⟨f19, rfl, h19⟩
      refine ⟨_, rfl, ?_⟩
      rw [eP]
      exact ⟨f018.trans f19 (fun k _ h => .inl h) (fun _ _ h => h), rfl, h19⟩
  refine vIf_f rfl (dr_mk ⟨d.down, h1.cell (o := 0 + 6) rfl, vIf_mk (fun hd => k4 true ?_) (fun hd => dr_mk ⟨fz, h1.cell (o := 0 + 7) rfl, vIf_mk (fun hz => dr_mk ⟨lv, h1.cell (o := 0 + 8) rfl, k4 _ ?_⟩) (fun hz => k4 false ?_)⟩)⟩)
  · have hd : d.down = true := hd
    unfold offD
    rw [hd]; rfl
  · have hd : d.down = false := hd
    have hz : fz = true := hz
    unfold offD
    rw [hd, Bool.false_or]
    unfold fuR at h4
    cases hf : d.fu with
    | none => rw [hf] at h4; rw [hz] at h4; cases h4
    | some n =>
      rw [hf] at h4
      have h4 : fz = true ∧ lv = n := h4
      rw [h4.2]
  · have hd : d.down = false := hd
    have hz : fz = false := hz
    unfold offD
    rw [hd, Bool.false_or]
    unfold fuR at h4
    cases hf : d.fu with
    | none => rfl
    | some n =>
      rw [hf] at h4
      have h4 : fz = true ∧ lv = n := h4
      rw [hz] at h4; cases h4.1

set_option maxHeartbeats 1000000 in
theorem power_callsd (db r : Nat) (d : Dk) (p0 : Nat) (p1 : Nat) (w : World) (N : Nat) (call : Dk → Dk × Int) (h : DkAt w db r d) (hB : DkB d N) (hN : N ≤ 349525)
    (hcall : ∀ w2 : World, Fr (fun k => k = db) w w2 → offD d = false → DkAt w2 db r { d with fu := d.fu.map (· - 1), calls := d.calls + 1 } → Calls Tryz.prog 42 #[.pointer (some ⟨p0, 0, none⟩), .pointer (some ⟨p1, 0, none⟩)] w2 fun e w' => Fr (DS db r) w2 w' ∧ e = .returned (.int .i64 (call { d with fu := d.fu.map (· - 1), calls := d.calls + 1 }).2) ∧ DkAt w' db r (call { d with fu := d.fu.map (· - 1), calls := d.calls + 1 }).1) :
    Calls Tryz.prog 35 #[.pointer (some ⟨db, 0, none⟩), .func (.func 42) #[] #[.pointer (some ⟨p0, 0, none⟩), .pointer (some ⟨p1, 0, none⟩)]] w fun e w' => Fr (DS db r) w w' ∧ e = .returned (.int .i64 (powD d call).2) ∧ DkAt w' db r (powD d call).1 := by
  refine (F35d.of (some ⟨db, 0, none⟩) ((p0, 0), (p1, 0), ()) w (Q := fun v w' => Fr (DS db r) w w' ∧ v = .int .i64 (powD d call).2 ∧ DkAt w' db r (powD d call).1) ?_).mono (fun e w' ⟨v, he, hf, hv, h⟩ => ⟨hf, by rw [he, hv], h⟩)
  have hne := h.ne
  obtain ⟨u, v, fz, lv, h1, h2, h3, h4⟩ := h
  have hc1 := hB.calls
  have k4 : ∀ t : Bool, t = offD d → jnC (F35d.k4 (fun v w' => Fr (DS db r) w w' ∧ v = .int .i64 (powD d call).2 ∧ DkAt w' db r (powD d call).1)) (some ⟨db, 0, none⟩, ((p0, 0), (p1, 0), ()), t, ()) w := by
    intro t ht
    refine jnC_mk (fun _ => vIf_mk (fun htt => dr_mk (dk_set (d' := { d with down := true }) (fz' := fz) (lv' := lv) h1 h2 h3 rfl (by show 0 + 6 + 1 ≤ 10; omega) (fun x hx => by simp at hx; subst hx; rfl) rfl rfl hne (fun w6 f6 g1 g2 g3 => ?_))) (fun htf => jnC_mk (fun _ => ?_)))
    · have ho : offD d = true := by rw [← ht]; exact htt
      have eP : powD d call = ({ d with down := true }, 11) := by unfold powD; rw [if_pos ho]
      rw [eP]
      exact ⟨f6.mono (fun _ _ h => .inl h), rfl, u, v, fz, lv, g1, g2, g3, h4⟩
    · have ho : offD d = false := by rw [← ht]; exact htf
      have eP : powD d call = call { d with fu := d.fu.map (· - 1), calls := d.calls + 1 } := by unfold powD; rw [if_neg (by rw [ho]; simp)]
      refine dr_mk ⟨lv, h1.cell (o := 0 + 8) rfl, dr_mk (dk_set (d' := d) (fz' := fz) (lv' := IntKind.wrap .i64 (lv - 1)) h1 h2 h3 rfl (by show 0 + 8 + 1 ≤ 10; omega) (fun x hx => by simp at hx; subst hx; rfl) rfl rfl hne (fun w12 f12 g1 g2 g3 => ?_))⟩
      have ec : IntKind.wrap .i64 (d.calls + 1) = d.calls + 1 := i64_id (by omega) (by omega)
      refine dr_mk ⟨d.calls, g1.cell (o := 0 + 9) rfl, dr_mk (dk_set (d' := { d with fu := d.fu.map (· - 1), calls := d.calls + 1 }) (fz' := fz) (lv' := IntKind.wrap .i64 (lv - 1)) g1 g2 g3 (by rw [ec]; rfl) (by show 0 + 9 + 1 ≤ 10; omega) (fun x hx => by simp at hx; subst hx; rfl) rfl rfl hne (fun w18 f18 m1 m2 m3 => ?_))⟩
      have hfu : fuR (d.fu.map (· - 1)) fz (IntKind.wrap .i64 (lv - 1)) := by
        unfold fuR at h4 ⊢
        cases hd : d.fu with
        | none => rw [hd] at h4; exact h4
        | some n =>
          rw [hd] at h4
          have hh := hB.fu n hd
          have hn1 : ¬ n ≤ 0 := fun hle => by
            unfold offD at ho
            rw [hd] at ho
            simp at ho
            omega
          have h4 : fz = true ∧ lv = n := h4
          refine ⟨h4.1, ?_⟩
          rw [h4.2]
          exact i64_id (by omega) (by omega)
      have f018 : Fr (fun k => k = db) w w18 := f12.trans1 f18
      refine (hcall w18 f018 ho ⟨u, v, fz, _, m1, m2, m3, hfu⟩).mono ?_
      rintro e w19 ⟨f19, rfl, h19⟩
      refine ⟨_, rfl, ?_⟩
      rw [eP]
      exact ⟨f018.trans f19 (fun k _ h => .inl h) (fun _ _ h => h), rfl, h19⟩
  refine vIf_f rfl (dr_mk ⟨d.down, h1.cell (o := 0 + 6) rfl, vIf_mk (fun hd => k4 true ?_) (fun hd => dr_mk ⟨fz, h1.cell (o := 0 + 7) rfl, vIf_mk (fun hz => dr_mk ⟨lv, h1.cell (o := 0 + 8) rfl, k4 _ ?_⟩) (fun hz => k4 false ?_)⟩)⟩)
  · have hd : d.down = true := hd
    unfold offD
    rw [hd]; rfl
  · have hd : d.down = false := hd
    have hz : fz = true := hz
    unfold offD
    rw [hd, Bool.false_or]
    unfold fuR at h4
    cases hf : d.fu with
    | none => rw [hf] at h4; rw [hz] at h4; cases h4
    | some n =>
      rw [hf] at h4
      have h4 : fz = true ∧ lv = n := h4
      rw [h4.2]
  · have hd : d.down = false := hd
    have hz : fz = false := hz
    unfold offD
    rw [hd, Bool.false_or]
    unfold fuR at h4
    cases hf : d.fu with
    | none => rfl
    | some n =>
      rw [hf] at h4
      have h4 : fz = true ∧ lv = n := h4
      rw [hz] at h4; cases h4.1

set_option maxHeartbeats 1000000 in
theorem power_callse (db r : Nat) (d : Dk) (p0 : Nat) (p1 : Nat) (p2 : Nat) (w : World) (N : Nat) (call : Dk → Dk × Int) (h : DkAt w db r d) (hB : DkB d N) (hN : N ≤ 349525)
    (hcall : ∀ w2 : World, Fr (fun k => k = db) w w2 → offD d = false → DkAt w2 db r { d with fu := d.fu.map (· - 1), calls := d.calls + 1 } → Calls Tryz.prog 67 #[.pointer (some ⟨p0, 0, none⟩), .pointer (some ⟨p1, 0, none⟩), .pointer (some ⟨p2, 0, none⟩)] w2 fun e w' => Fr (DS db r) w2 w' ∧ e = .returned (.int .i64 (call { d with fu := d.fu.map (· - 1), calls := d.calls + 1 }).2) ∧ DkAt w' db r (call { d with fu := d.fu.map (· - 1), calls := d.calls + 1 }).1) :
    Calls Tryz.prog 35 #[.pointer (some ⟨db, 0, none⟩), .func (.func 67) #[] #[.pointer (some ⟨p0, 0, none⟩), .pointer (some ⟨p1, 0, none⟩), .pointer (some ⟨p2, 0, none⟩)]] w fun e w' => Fr (DS db r) w w' ∧ e = .returned (.int .i64 (powD d call).2) ∧ DkAt w' db r (powD d call).1 := by
  refine (F35e.of (some ⟨db, 0, none⟩) ((p0, 0), (p1, 0), (p2, 0), ()) w (Q := fun v w' => Fr (DS db r) w w' ∧ v = .int .i64 (powD d call).2 ∧ DkAt w' db r (powD d call).1) ?_).mono (fun e w' ⟨v, he, hf, hv, h⟩ => ⟨hf, by rw [he, hv], h⟩)
  have hne := h.ne
  obtain ⟨u, v, fz, lv, h1, h2, h3, h4⟩ := h
  have hc1 := hB.calls
  have k4 : ∀ t : Bool, t = offD d → jnC (F35e.k4 (fun v w' => Fr (DS db r) w w' ∧ v = .int .i64 (powD d call).2 ∧ DkAt w' db r (powD d call).1)) (some ⟨db, 0, none⟩, ((p0, 0), (p1, 0), (p2, 0), ()), t, ()) w := by
    intro t ht
    refine jnC_mk (fun _ => vIf_mk (fun htt => dr_mk (dk_set (d' := { d with down := true }) (fz' := fz) (lv' := lv) h1 h2 h3 rfl (by show 0 + 6 + 1 ≤ 10; omega) (fun x hx => by simp at hx; subst hx; rfl) rfl rfl hne (fun w6 f6 g1 g2 g3 => ?_))) (fun htf => jnC_mk (fun _ => ?_)))
    · have ho : offD d = true := by rw [← ht]; exact htt
      have eP : powD d call = ({ d with down := true }, 11) := by unfold powD; rw [if_pos ho]
      rw [eP]
      exact ⟨f6.mono (fun _ _ h => .inl h), rfl, u, v, fz, lv, g1, g2, g3, h4⟩
    · have ho : offD d = false := by rw [← ht]; exact htf
      have eP : powD d call = call { d with fu := d.fu.map (· - 1), calls := d.calls + 1 } := by unfold powD; rw [if_neg (by rw [ho]; simp)]
      refine dr_mk ⟨lv, h1.cell (o := 0 + 8) rfl, dr_mk (dk_set (d' := d) (fz' := fz) (lv' := IntKind.wrap .i64 (lv - 1)) h1 h2 h3 rfl (by show 0 + 8 + 1 ≤ 10; omega) (fun x hx => by simp at hx; subst hx; rfl) rfl rfl hne (fun w12 f12 g1 g2 g3 => ?_))⟩
      have ec : IntKind.wrap .i64 (d.calls + 1) = d.calls + 1 := i64_id (by omega) (by omega)
      refine dr_mk ⟨d.calls, g1.cell (o := 0 + 9) rfl, dr_mk (dk_set (d' := { d with fu := d.fu.map (· - 1), calls := d.calls + 1 }) (fz' := fz) (lv' := IntKind.wrap .i64 (lv - 1)) g1 g2 g3 (by rw [ec]; rfl) (by show 0 + 9 + 1 ≤ 10; omega) (fun x hx => by simp at hx; subst hx; rfl) rfl rfl hne (fun w18 f18 m1 m2 m3 => ?_))⟩
      have hfu : fuR (d.fu.map (· - 1)) fz (IntKind.wrap .i64 (lv - 1)) := by
        unfold fuR at h4 ⊢
        cases hd : d.fu with
        | none => rw [hd] at h4; exact h4
        | some n =>
          rw [hd] at h4
          have hh := hB.fu n hd
          have hn1 : ¬ n ≤ 0 := fun hle => by
            unfold offD at ho
            rw [hd] at ho
            simp at ho
            omega
          have h4 : fz = true ∧ lv = n := h4
          refine ⟨h4.1, ?_⟩
          rw [h4.2]
          exact i64_id (by omega) (by omega)
      have f018 : Fr (fun k => k = db) w w18 := f12.trans1 f18
      refine (hcall w18 f018 ho ⟨u, v, fz, _, m1, m2, m3, hfu⟩).mono ?_
      rintro e w19 ⟨f19, rfl, h19⟩
      refine ⟨_, rfl, ?_⟩
      rw [eP]
      exact ⟨f018.trans f19 (fun k _ h => .inl h) (fun _ _ h => h), rfl, h19⟩
  refine vIf_f rfl (dr_mk ⟨d.down, h1.cell (o := 0 + 6) rfl, vIf_mk (fun hd => k4 true ?_) (fun hd => dr_mk ⟨fz, h1.cell (o := 0 + 7) rfl, vIf_mk (fun hz => dr_mk ⟨lv, h1.cell (o := 0 + 8) rfl, k4 _ ?_⟩) (fun hz => k4 false ?_)⟩)⟩)
  · have hd : d.down = true := hd
    unfold offD
    rw [hd]; rfl
  · have hd : d.down = false := hd
    have hz : fz = true := hz
    unfold offD
    rw [hd, Bool.false_or]
    unfold fuR at h4
    cases hf : d.fu with
    | none => rw [hf] at h4; rw [hz] at h4; cases h4
    | some n =>
      rw [hf] at h4
      have h4 : fz = true ∧ lv = n := h4
      rw [h4.2]
  · have hd : d.down = false := hd
    have hz : fz = false := hz
    unfold offD
    rw [hd, Bool.false_or]
    unfold fuR at h4
    cases hf : d.fu with
    | none => rfl
    | some n =>
      rw [hf] at h4
      have h4 : fz = true ∧ lv = n := h4
      rw [hz] at h4; cases h4.1

set_option maxHeartbeats 1000000 in
theorem power_callsf (db r : Nat) (d : Dk) (p0 : Nat) (p1 : Nat) (w : World) (N : Nat) (call : Dk → Dk × Int) (h : DkAt w db r d) (hB : DkB d N) (hN : N ≤ 349525)
    (hcall : ∀ w2 : World, Fr (fun k => k = db) w w2 → offD d = false → DkAt w2 db r { d with fu := d.fu.map (· - 1), calls := d.calls + 1 } → Calls Tryz.prog 68 #[.pointer (some ⟨p0, 0, none⟩), .pointer (some ⟨p1, 0, none⟩)] w2 fun e w' => Fr (DS db r) w2 w' ∧ e = .returned (.int .i64 (call { d with fu := d.fu.map (· - 1), calls := d.calls + 1 }).2) ∧ DkAt w' db r (call { d with fu := d.fu.map (· - 1), calls := d.calls + 1 }).1) :
    Calls Tryz.prog 35 #[.pointer (some ⟨db, 0, none⟩), .func (.func 68) #[] #[.pointer (some ⟨p0, 0, none⟩), .pointer (some ⟨p1, 0, none⟩)]] w fun e w' => Fr (DS db r) w w' ∧ e = .returned (.int .i64 (powD d call).2) ∧ DkAt w' db r (powD d call).1 := by
  refine (F35f.of (some ⟨db, 0, none⟩) ((p0, 0), (p1, 0), ()) w (Q := fun v w' => Fr (DS db r) w w' ∧ v = .int .i64 (powD d call).2 ∧ DkAt w' db r (powD d call).1) ?_).mono (fun e w' ⟨v, he, hf, hv, h⟩ => ⟨hf, by rw [he, hv], h⟩)
  have hne := h.ne
  obtain ⟨u, v, fz, lv, h1, h2, h3, h4⟩ := h
  have hc1 := hB.calls
  have k4 : ∀ t : Bool, t = offD d → jnC (F35f.k4 (fun v w' => Fr (DS db r) w w' ∧ v = .int .i64 (powD d call).2 ∧ DkAt w' db r (powD d call).1)) (some ⟨db, 0, none⟩, ((p0, 0), (p1, 0), ()), t, ()) w := by
    intro t ht
    refine jnC_mk (fun _ => vIf_mk (fun htt => dr_mk (dk_set (d' := { d with down := true }) (fz' := fz) (lv' := lv) h1 h2 h3 rfl (by show 0 + 6 + 1 ≤ 10; omega) (fun x hx => by simp at hx; subst hx; rfl) rfl rfl hne (fun w6 f6 g1 g2 g3 => ?_))) (fun htf => jnC_mk (fun _ => ?_)))
    · have ho : offD d = true := by rw [← ht]; exact htt
      have eP : powD d call = ({ d with down := true }, 11) := by unfold powD; rw [if_pos ho]
      rw [eP]
      exact ⟨f6.mono (fun _ _ h => .inl h), rfl, u, v, fz, lv, g1, g2, g3, h4⟩
    · have ho : offD d = false := by rw [← ht]; exact htf
      have eP : powD d call = call { d with fu := d.fu.map (· - 1), calls := d.calls + 1 } := by unfold powD; rw [if_neg (by rw [ho]; simp)]
      refine dr_mk ⟨lv, h1.cell (o := 0 + 8) rfl, dr_mk (dk_set (d' := d) (fz' := fz) (lv' := IntKind.wrap .i64 (lv - 1)) h1 h2 h3 rfl (by show 0 + 8 + 1 ≤ 10; omega) (fun x hx => by simp at hx; subst hx; rfl) rfl rfl hne (fun w12 f12 g1 g2 g3 => ?_))⟩
      have ec : IntKind.wrap .i64 (d.calls + 1) = d.calls + 1 := i64_id (by omega) (by omega)
      refine dr_mk ⟨d.calls, g1.cell (o := 0 + 9) rfl, dr_mk (dk_set (d' := { d with fu := d.fu.map (· - 1), calls := d.calls + 1 }) (fz' := fz) (lv' := IntKind.wrap .i64 (lv - 1)) g1 g2 g3 (by rw [ec]; rfl) (by show 0 + 9 + 1 ≤ 10; omega) (fun x hx => by simp at hx; subst hx; rfl) rfl rfl hne (fun w18 f18 m1 m2 m3 => ?_))⟩
      have hfu : fuR (d.fu.map (· - 1)) fz (IntKind.wrap .i64 (lv - 1)) := by
        unfold fuR at h4 ⊢
        cases hd : d.fu with
        | none => rw [hd] at h4; exact h4
        | some n =>
          rw [hd] at h4
          have hh := hB.fu n hd
          have hn1 : ¬ n ≤ 0 := fun hle => by
            unfold offD at ho
            rw [hd] at ho
            simp at ho
            omega
          have h4 : fz = true ∧ lv = n := h4
          refine ⟨h4.1, ?_⟩
          rw [h4.2]
          exact i64_id (by omega) (by omega)
      have f018 : Fr (fun k => k = db) w w18 := f12.trans1 f18
      refine (hcall w18 f018 ho ⟨u, v, fz, _, m1, m2, m3, hfu⟩).mono ?_
      rintro e w19 ⟨f19, rfl, h19⟩
      refine ⟨_, rfl, ?_⟩
      rw [eP]
      exact ⟨f018.trans f19 (fun k _ h => .inl h) (fun _ _ h => h), rfl, h19⟩
  refine vIf_f rfl (dr_mk ⟨d.down, h1.cell (o := 0 + 6) rfl, vIf_mk (fun hd => k4 true ?_) (fun hd => dr_mk ⟨fz, h1.cell (o := 0 + 7) rfl, vIf_mk (fun hz => dr_mk ⟨lv, h1.cell (o := 0 + 8) rfl, k4 _ ?_⟩) (fun hz => k4 false ?_)⟩)⟩)
  · have hd : d.down = true := hd
    unfold offD
    rw [hd]; rfl
  · have hd : d.down = false := hd
    have hz : fz = true := hz
    unfold offD
    rw [hd, Bool.false_or]
    unfold fuR at h4
    cases hf : d.fu with
    | none => rw [hf] at h4; rw [hz] at h4; cases h4
    | some n =>
      rw [hf] at h4
      have h4 : fz = true ∧ lv = n := h4
      rw [h4.2]
  · have hd : d.down = false := hd
    have hz : fz = false := hz
    unfold offD
    rw [hd, Bool.false_or]
    unfold fuR at h4
    cases hf : d.fu with
    | none => rfl
    | some n =>
      rw [hf] at h4
      have h4 : fz = true ∧ lv = n := h4
      rw [hz] at h4; cases h4.1

set_option maxHeartbeats 1000000 in
theorem power_callsg (db r : Nat) (d : Dk) (p0 : Nat) (w : World) (N : Nat) (call : Dk → Dk × Int) (h : DkAt w db r d) (hB : DkB d N) (hN : N ≤ 349525)
    (hcall : ∀ w2 : World, Fr (fun k => k = db) w w2 → offD d = false → DkAt w2 db r { d with fu := d.fu.map (· - 1), calls := d.calls + 1 } → Calls Tryz.prog 45 #[.pointer (some ⟨p0, 0, none⟩)] w2 fun e w' => Fr (DS db r) w2 w' ∧ e = .returned (.int .i64 (call { d with fu := d.fu.map (· - 1), calls := d.calls + 1 }).2) ∧ DkAt w' db r (call { d with fu := d.fu.map (· - 1), calls := d.calls + 1 }).1) :
    Calls Tryz.prog 35 #[.pointer (some ⟨db, 0, none⟩), .func (.func 45) #[] #[.pointer (some ⟨p0, 0, none⟩)]] w fun e w' => Fr (DS db r) w w' ∧ e = .returned (.int .i64 (powD d call).2) ∧ DkAt w' db r (powD d call).1 := by
  refine (F35g.of (some ⟨db, 0, none⟩) (p0, 0) w (Q := fun v w' => Fr (DS db r) w w' ∧ v = .int .i64 (powD d call).2 ∧ DkAt w' db r (powD d call).1) ?_).mono (fun e w' ⟨v, he, hf, hv, h⟩ => ⟨hf, by rw [he, hv], h⟩)
  have hne := h.ne
  obtain ⟨u, v, fz, lv, h1, h2, h3, h4⟩ := h
  have hc1 := hB.calls
  have k4 : ∀ t : Bool, t = offD d → jnC (F35g.k4 (fun v w' => Fr (DS db r) w w' ∧ v = .int .i64 (powD d call).2 ∧ DkAt w' db r (powD d call).1)) (some ⟨db, 0, none⟩, (p0, 0), t, ()) w := by
    intro t ht
    refine jnC_mk (fun _ => vIf_mk (fun htt => dr_mk (dk_set (d' := { d with down := true }) (fz' := fz) (lv' := lv) h1 h2 h3 rfl (by show 0 + 6 + 1 ≤ 10; omega) (fun x hx => by simp at hx; subst hx; rfl) rfl rfl hne (fun w6 f6 g1 g2 g3 => ?_))) (fun htf => jnC_mk (fun _ => ?_)))
    · have ho : offD d = true := by rw [← ht]; exact htt
      have eP : powD d call = ({ d with down := true }, 11) := by unfold powD; rw [if_pos ho]
      rw [eP]
      exact ⟨f6.mono (fun _ _ h => .inl h), rfl, u, v, fz, lv, g1, g2, g3, h4⟩
    · have ho : offD d = false := by rw [← ht]; exact htf
      have eP : powD d call = call { d with fu := d.fu.map (· - 1), calls := d.calls + 1 } := by unfold powD; rw [if_neg (by rw [ho]; simp)]
      refine dr_mk ⟨lv, h1.cell (o := 0 + 8) rfl, dr_mk (dk_set (d' := d) (fz' := fz) (lv' := IntKind.wrap .i64 (lv - 1)) h1 h2 h3 rfl (by show 0 + 8 + 1 ≤ 10; omega) (fun x hx => by simp at hx; subst hx; rfl) rfl rfl hne (fun w12 f12 g1 g2 g3 => ?_))⟩
      have ec : IntKind.wrap .i64 (d.calls + 1) = d.calls + 1 := i64_id (by omega) (by omega)
      refine dr_mk ⟨d.calls, g1.cell (o := 0 + 9) rfl, dr_mk (dk_set (d' := { d with fu := d.fu.map (· - 1), calls := d.calls + 1 }) (fz' := fz) (lv' := IntKind.wrap .i64 (lv - 1)) g1 g2 g3 (by rw [ec]; rfl) (by show 0 + 9 + 1 ≤ 10; omega) (fun x hx => by simp at hx; subst hx; rfl) rfl rfl hne (fun w18 f18 m1 m2 m3 => ?_))⟩
      have hfu : fuR (d.fu.map (· - 1)) fz (IntKind.wrap .i64 (lv - 1)) := by
        unfold fuR at h4 ⊢
        cases hd : d.fu with
        | none => rw [hd] at h4; exact h4
        | some n =>
          rw [hd] at h4
          have hh := hB.fu n hd
          have hn1 : ¬ n ≤ 0 := fun hle => by
            unfold offD at ho
            rw [hd] at ho
            simp at ho
            omega
          have h4 : fz = true ∧ lv = n := h4
          refine ⟨h4.1, ?_⟩
          rw [h4.2]
          exact i64_id (by omega) (by omega)
      have f018 : Fr (fun k => k = db) w w18 := f12.trans1 f18
      refine (hcall w18 f018 ho ⟨u, v, fz, _, m1, m2, m3, hfu⟩).mono ?_
      rintro e w19 ⟨f19, rfl, h19⟩
      refine ⟨_, rfl, ?_⟩
      rw [eP]
      exact ⟨f018.trans f19 (fun k _ h => .inl h) (fun _ _ h => h), rfl, h19⟩
  refine vIf_f rfl (dr_mk ⟨d.down, h1.cell (o := 0 + 6) rfl, vIf_mk (fun hd => k4 true ?_) (fun hd => dr_mk ⟨fz, h1.cell (o := 0 + 7) rfl, vIf_mk (fun hz => dr_mk ⟨lv, h1.cell (o := 0 + 8) rfl, k4 _ ?_⟩) (fun hz => k4 false ?_)⟩)⟩)
  · have hd : d.down = true := hd
    unfold offD
    rw [hd]; rfl
  · have hd : d.down = false := hd
    have hz : fz = true := hz
    unfold offD
    rw [hd, Bool.false_or]
    unfold fuR at h4
    cases hf : d.fu with
    | none => rw [hf] at h4; rw [hz] at h4; cases h4
    | some n =>
      rw [hf] at h4
      have h4 : fz = true ∧ lv = n := h4
      rw [h4.2]
  · have hd : d.down = false := hd
    have hz : fz = false := hz
    unfold offD
    rw [hd, Bool.false_or]
    unfold fuR at h4
    cases hf : d.fu with
    | none => rfl
    | some n =>
      rw [hf] at h4
      have h4 : fz = true ∧ lv = n := h4
      rw [hz] at h4; cases h4.1
end Go.Proofs.YtfdhaeglhkmmpaaGreat
/- chapter 12: a disk's calls; printed by tools/mk12w.py -/
namespace Go.Proofs.YtfdhaeglhkmmpaaGreat
open Go.GV Go.RowKit Go.Lib
set_option linter.unusedVariables false
set_option linter.unusedSimpArgs false
theorem app_p (x : Ino) (b : Bs) : (appI x b).1.p.length ≤ x.p.length + 1 := by
  unfold appI
  split
  · exact Nat.le_succ _
  · split
    · exact Nat.le_succ _
    · show (x.p ++ [_]).length ≤ _
      simp
theorem cut_p (x : Ino) (n : Int) : (cutI x n).1.p.length ≤ x.p.length + 1 := by
  unfold cutI
  split
  · exact Nat.le_succ _
  · show (x.p ++ [_]).length ≤ _
    simp
/-! ### what is done with a file -/
theorem clApp_calls (pb : Nat) (e0 : TypeId) (C : Option Addr) (nc cc : Nat) (bb : Bs) (cs : List Value) (x : Ino) (w : World) (hr : RecAt w pb e0 [.slice C nc cc]) (hC : Sl w 1 C nc (bys bb)) (h : InoAt w cs x) (hb : InoB x) (hp : x.p.length ≤ 1099511627774) (hn : nc ≤ 1099511627776) :
    Calls Tryz.prog 40 #[ofL cs, .pointer (some ⟨pb, 0, none⟩)] w fun e w' => Fr (fun _ => False) w w' ∧ ∃ cs', e = .returned (.tuple #[ofL cs', .int .i64 (appI x bb).2]) ∧ InoAt w' cs' (appI x bb).1 := by
  refine (F40.of cs (pb, 0) w (Q := fun v w' => Fr (fun _ => False) w w' ∧ ∃ cs', v = .tuple #[ofL cs', .int .i64 (appI x bb).2] ∧ InoAt w' cs' (appI x bb).1) ?_).mono (fun e w' ⟨v, he, hf, cs', hv, h⟩ => ⟨hf, cs', by rw [he, hv], h⟩)
  have hone := ino_one h
  refine rec_new (fun b1 w2 f1 hb1 r1 => rec_new (fun b3 w4 f3 hb3 r3 => ⟨cs, hone.1, rec_all (r1.fr f3 (fun h => h)), ?_⟩))
  have f13 := f1.trans1 f3
  have hs1 := f1.size
  refine ⟨_, _, _, (hr.fr f13 (fun h => h)).cell (o := 0) rfl, (app_calls cs x C nc cc bb w4 (h.fr0 f13) (f13.sl hC (fun _ _ _ h => h)) hb hp hn).mono ?_⟩
  rintro e w9 ⟨f9, cs', rfl, hX⟩
  have hX1 := ino_one hX
  have r3 := r3.fr f9 (fun h => h)
  refine ⟨_, _, rfl, ans_mk r3 rfl hX1.1 hX1.2 (fun v fv => ⟨(f13.trans1 f9).trans fv (fun _ _ h => h) (fun j hj h => by omega), cs', rfl, hX.fr fv (fun j hj => by have hj : j = b3 := hj; subst hj; exact two_alien r3)⟩)⟩
theorem clCut_calls (pb : Nat) (e0 : TypeId) (m : Int) (cs : List Value) (x : Ino) (w : World) (hr : RecAt w pb e0 [.int .i64 m]) (h : InoAt w cs x) (hb : InoB x) (hp : x.p.length ≤ 1099511627774) :
    Calls Tryz.prog 65 #[ofL cs, .pointer (some ⟨pb, 0, none⟩)] w fun e w' => Fr (fun _ => False) w w' ∧ ∃ cs', e = .returned (.tuple #[ofL cs', .int .i64 (cutI x m).2]) ∧ InoAt w' cs' (cutI x m).1 := by
  refine (F65.of cs (pb, 0) w (Q := fun v w' => Fr (fun _ => False) w w' ∧ ∃ cs', v = .tuple #[ofL cs', .int .i64 (cutI x m).2] ∧ InoAt w' cs' (cutI x m).1) ?_).mono (fun e w' ⟨v, he, hf, cs', hv, h⟩ => ⟨hf, cs', by rw [he, hv], h⟩)
  have hone := ino_one h
  refine rec_new (fun b1 w2 f1 hb1 r1 => rec_new (fun b3 w4 f3 hb3 r3 => ⟨cs, hone.1, rec_all (r1.fr f3 (fun h => h)), ?_⟩))
  have f13 := f1.trans1 f3
  have hs1 := f1.size
  refine ⟨_, (hr.fr f13 (fun h => h)).cell (o := 0) rfl, (cutI_calls cs x m w4 (h.fr0 f13) hb hp).mono ?_⟩
  rintro e w9 ⟨f9, cs', rfl, hX⟩
  have hX1 := ino_one hX
  have r3 := r3.fr f9 (fun h => h)
  refine ⟨_, _, rfl, ans_mk r3 rfl hX1.1 hX1.2 (fun v fv => ⟨(f13.trans1 f9).trans fv (fun _ _ h => h) (fun j hj h => by omega), cs', rfl, hX.fr fv (fun j hj => by have hj : j = b3 := hj; subst hj; exact two_alien r3)⟩)⟩
theorem clSync_calls (cs : List Value) (x : Ino) (w : World) (h : InoAt w cs x) (hb : InoB x) (hp : x.p.length ≤ 1099511627774) :
    Calls Tryz.prog 43 #[ofL cs] w fun e w' => Fr (fun _ => False) w w' ∧ ∃ cs', e = .returned (.tuple #[ofL cs', .int .i64 0]) ∧ InoAt w' cs' (syncI x) := by
  refine (F43.of cs w (Q := fun v w' => Fr (fun _ => False) w w' ∧ ∃ cs', v = .tuple #[ofL cs', .int .i64 0] ∧ InoAt w' cs' (syncI x)) ?_).mono (fun e w' ⟨v, he, hf, cs', hv, h⟩ => ⟨hf, cs', by rw [he, hv], h⟩)
  have hone := ino_one h
  refine rec_new (fun b1 w2 f1 hb1 r1 => rec_new (fun b3 w4 f3 hb3 r3 => ⟨cs, hone.1, rec_all (r1.fr f3 (fun h => h)), ?_⟩))
  have f13 := f1.trans1 f3
  have hs1 := f1.size
  refine (sync_calls' cs x w4 (h.fr0 f13) hb (by omega)).mono ?_
  rintro e w9 ⟨f9, cs', rfl, hX⟩
  have hX1 := ino_one hX
  have r3 := r3.fr f9 (fun h => h)
  refine ⟨_, rfl, ans_mk r3 rfl hX1.1 hX1.2 (fun v fv => ⟨(f13.trans1 f9).trans fv (fun _ _ h => h) (fun j hj h => by omega), cs', rfl, hX.fr fv (fun j hj => by have hj : j = b3 := hj; subst hj; exact two_alien r3)⟩)⟩
/-! ### the closures that power calls -/

theorem Appendc (db r : Nat) (d : Dk) (s : ByteArray) (C : Option Addr) (nc cc : Nat) (bb : Bs) (e0 e1 e2 : TypeId) (v0 v1 v2 : Nat) (w : World) (h : DkAt w db r d) (hb : FoB d.F) (hi : ∀ id, InoB (d.f id)) (hp : ∀ id, (d.f id).p.length ≤ 349525) (h0 : RecAt w v0 e0 [.pointer (some ⟨db, 0, none⟩)]) (h1 : RecAt w v1 e1 [.string s]) (h2 : RecAt w v2 e2 [.slice C nc cc]) (hC : Sl w 1 C nc (bys bb)) (hn : nc ≤ 1099511627776) :
    Calls Tryz.prog 38 #[.pointer (some ⟨v0, 0, none⟩), .pointer (some ⟨v1, 0, none⟩), .pointer (some ⟨v2, 0, none⟩)] w fun e w' => Fr (DS db r) w w' ∧ e = .returned (.int .i64 (fileD d s (fun x => appI x bb)).2) ∧ DkAt w' db r (fileD d s (fun x => appI x bb)).1 := by
  refine (F38.of (v0, 0) (v1, 0) (v2, 0) w (Q := fun v w' => Fr (DS db r) w w' ∧ v = .int .i64 (fileD d s (fun x => appI x bb)).2 ∧ DkAt w' db r (fileD d s (fun x => appI x bb)).1) ?_).mono (fun e w' ⟨v, he, hf, hv, h⟩ => ⟨hf, by rw [he, hv], h⟩)
  refine ⟨_, h0.cell (o := 0) rfl, _, h1.cell (o := 0) rfl, (file_callsa db r d s v2 w (fun x => appI x bb) h hb hi (fun id => by have := hp id; omega) (fun x hx => appI_B hx bb) (fun id => by have := app_p (d.f id) bb; have := hp id; omega) (fun w2 cs id f2 hI => clApp_calls v2 e2 C nc cc bb cs (d.f id) w2 (h2.fr f2 (fun h => h)) (f2.sl hC (fun _ _ _ h => h)) hI (hi id) (by have := hp id; omega) hn)).mono ?_⟩
  rintro e w3 ⟨f3, rfl, h3⟩
  exact ⟨_, rfl, f3, rfl, h3⟩
theorem Append_calls (db r : Nat) (d : Dk) (s : ByteArray) (C : Option Addr) (nc cc : Nat) (bb : Bs) (w : World) (N : Nat) (h : DkAt w db r d) (hI : DkI d) (hB : DkB d N) (hN : N ≤ 349524) (hC : Sl w 1 C nc (bys bb)) (hn : nc ≤ 1099511627776) :
    Calls Tryz.prog 11 #[.pointer (some ⟨db, 0, none⟩), .string s, .slice C nc cc] w fun e w' => Fr (DS db r) w w' ∧ e = .returned (.int .i64 (powD d (fun d => fileD d s (fun x => appI x bb))).2) ∧ DkAt w' db r (powD d (fun d => fileD d s (fun x => appI x bb))).1 := by
  refine (F11.of (some ⟨db, 0, none⟩) s C nc cc w (Q := fun v w' => Fr (DS db r) w w' ∧ v = .int .i64 (powD d (fun d => fileD d s (fun x => appI x bb))).2 ∧ DkAt w' db r (powD d (fun d => fileD d s (fun x => appI x bb))).1) ?_).mono (fun e w' ⟨v, he, hf, hv, h⟩ => ⟨hf, by rw [he, hv], h⟩)
  have hlt := h.lt
  have hfo := hB.fo
  refine rec_new (fun b1 w2 f1 hb1 r1 => rec_new (fun b3 w4 f3 hb3 r3 => rec_new (fun b5 w6 f5 hb5 r5 => ⟨_, ((r1.fr f3 (fun h => h)).fr f5 (fun h => h)).cell (o := 0) rfl, ?_⟩)))
  have f0 := (f1.trans1 f3).trans1 f5
  have hs1 := f1.size
  have hs3 := f3.size
  have h6 := h.fr0 f0
  refine (power_callsb db r d b1 b3 b5 w6 N (fun d => fileD d s (fun x => appI x bb)) h6 hB (by omega) (fun w8 f8 ho h8 => ?_)).mono ?_
  · exact Appendc db r _ s C nc cc bb _ _ _ b1 b3 b5 w8 h8 (by unfold FoB; show d.F.L.length + d.F.P.length ≤ 349525; omega) hI.ino (fun id => by have := hB.p id; show (d.f id).p.length ≤ 349525; omega) (RecAt.fr f8 ((r1.fr f3 (fun h => h)).fr f5 (fun h => h)) (fun h => by have h : b1 = db := h; omega)) (RecAt.fr f8 (r3.fr f5 (fun h => h)) (fun h => by have h : b3 = db := h; omega)) (RecAt.fr f8 r5 (fun h => by have h : b5 = db := h; omega)) (by_fr (f0.sl hC (fun _ _ _ h => h)) f8 (fun k hk => by have hk : k = db := hk; rw [hk]; exact h6.alien.1)) hn
  · rintro e w9 ⟨f9, rfl, h9⟩
    exact ⟨_, rfl, f0.trans f9 (fun _ _ h => h.elim) (fun _ _ h => h), rfl, h9⟩

theorem Cutc (db r : Nat) (d : Dk) (s : ByteArray) (m : Int) (e0 e1 e2 : TypeId) (v0 v1 v2 : Nat) (w : World) (h : DkAt w db r d) (hb : FoB d.F) (hi : ∀ id, InoB (d.f id)) (hp : ∀ id, (d.f id).p.length ≤ 349525) (h0 : RecAt w v0 e0 [.pointer (some ⟨db, 0, none⟩)]) (h1 : RecAt w v1 e1 [.string s]) (h2 : RecAt w v2 e2 [.int .i64 m]) :
    Calls Tryz.prog 64 #[.pointer (some ⟨v0, 0, none⟩), .pointer (some ⟨v1, 0, none⟩), .pointer (some ⟨v2, 0, none⟩)] w fun e w' => Fr (DS db r) w w' ∧ e = .returned (.int .i64 (fileD d s (fun x => cutI x m)).2) ∧ DkAt w' db r (fileD d s (fun x => cutI x m)).1 := by
  refine (F64.of (v0, 0) (v1, 0) (v2, 0) w (Q := fun v w' => Fr (DS db r) w w' ∧ v = .int .i64 (fileD d s (fun x => cutI x m)).2 ∧ DkAt w' db r (fileD d s (fun x => cutI x m)).1) ?_).mono (fun e w' ⟨v, he, hf, hv, h⟩ => ⟨hf, by rw [he, hv], h⟩)
  refine ⟨_, h0.cell (o := 0) rfl, _, h1.cell (o := 0) rfl, (file_callsb db r d s v2 w (fun x => cutI x m) h hb hi (fun id => by have := hp id; omega) (fun x hx => cutI_B hx m) (fun id => by have := cut_p (d.f id) m; have := hp id; omega) (fun w2 cs id f2 hI => clCut_calls v2 e2 m cs (d.f id) w2 (h2.fr f2 (fun h => h)) hI (hi id) (by have := hp id; omega))).mono ?_⟩
  rintro e w3 ⟨f3, rfl, h3⟩
  exact ⟨_, rfl, f3, rfl, h3⟩
theorem Cut_calls (db r : Nat) (d : Dk) (s : ByteArray) (m : Int) (w : World) (N : Nat) (h : DkAt w db r d) (hI : DkI d) (hB : DkB d N) (hN : N ≤ 349524) :
    Calls Tryz.prog 27 #[.pointer (some ⟨db, 0, none⟩), .string s, .int .i64 m] w fun e w' => Fr (DS db r) w w' ∧ e = .returned (.int .i64 (powD d (fun d => fileD d s (fun x => cutI x m))).2) ∧ DkAt w' db r (powD d (fun d => fileD d s (fun x => cutI x m))).1 := by
  refine (F27.of (some ⟨db, 0, none⟩) s m w (Q := fun v w' => Fr (DS db r) w w' ∧ v = .int .i64 (powD d (fun d => fileD d s (fun x => cutI x m))).2 ∧ DkAt w' db r (powD d (fun d => fileD d s (fun x => cutI x m))).1) ?_).mono (fun e w' ⟨v, he, hf, hv, h⟩ => ⟨hf, by rw [he, hv], h⟩)
  have hlt := h.lt
  have hfo := hB.fo
  refine rec_new (fun b1 w2 f1 hb1 r1 => rec_new (fun b3 w4 f3 hb3 r3 => rec_new (fun b5 w6 f5 hb5 r5 => ⟨_, ((r1.fr f3 (fun h => h)).fr f5 (fun h => h)).cell (o := 0) rfl, ?_⟩)))
  have f0 := (f1.trans1 f3).trans1 f5
  have hs1 := f1.size
  have hs3 := f3.size
  have h6 := h.fr0 f0
  refine (power_callsc db r d b1 b3 b5 w6 N (fun d => fileD d s (fun x => cutI x m)) h6 hB (by omega) (fun w8 f8 ho h8 => ?_)).mono ?_
  · exact Cutc db r _ s m _ _ _ b1 b3 b5 w8 h8 (by unfold FoB; show d.F.L.length + d.F.P.length ≤ 349525; omega) hI.ino (fun id => by have := hB.p id; show (d.f id).p.length ≤ 349525; omega) (RecAt.fr f8 ((r1.fr f3 (fun h => h)).fr f5 (fun h => h)) (fun h => by have h : b1 = db := h; omega)) (RecAt.fr f8 (r3.fr f5 (fun h => h)) (fun h => by have h : b3 = db := h; omega)) (RecAt.fr f8 r5 (fun h => by have h : b5 = db := h; omega))
  · rintro e w9 ⟨f9, rfl, h9⟩
    exact ⟨_, rfl, f0.trans f9 (fun _ _ h => h.elim) (fun _ _ h => h), rfl, h9⟩

theorem Syncc (db r : Nat) (d : Dk) (s : ByteArray) (e0 e1 : TypeId) (v0 v1 : Nat) (w : World) (h : DkAt w db r d) (hb : FoB d.F) (hi : ∀ id, InoB (d.f id)) (hp : ∀ id, (d.f id).p.length ≤ 349525) (h0 : RecAt w v0 e0 [.pointer (some ⟨db, 0, none⟩)]) (h1 : RecAt w v1 e1 [.string s]) :
    Calls Tryz.prog 42 #[.pointer (some ⟨v0, 0, none⟩), .pointer (some ⟨v1, 0, none⟩)] w fun e w' => Fr (DS db r) w w' ∧ e = .returned (.int .i64 (fileD d s (fun x => (syncI x, 0))).2) ∧ DkAt w' db r (fileD d s (fun x => (syncI x, 0))).1 := by
  refine (F42.of (v0, 0) (v1, 0)  w (Q := fun v w' => Fr (DS db r) w w' ∧ v = .int .i64 (fileD d s (fun x => (syncI x, 0))).2 ∧ DkAt w' db r (fileD d s (fun x => (syncI x, 0))).1) ?_).mono (fun e w' ⟨v, he, hf, hv, h⟩ => ⟨hf, by rw [he, hv], h⟩)
  refine ⟨_, h0.cell (o := 0) rfl, _, h1.cell (o := 0) rfl, (file_callsc db r d s  w (fun x => (syncI x, 0)) h hb hi (fun id => by have := hp id; omega) (fun x hx => syncI_B hx) (fun id => by show 0 ≤ _; omega) (fun w2 cs id f2 hI => clSync_calls cs (d.f id) w2 hI (hi id) (by have := hp id; omega))).mono ?_⟩
  rintro e w3 ⟨f3, rfl, h3⟩
  exact ⟨_, rfl, f3, rfl, h3⟩
theorem Sync_calls (db r : Nat) (d : Dk) (s : ByteArray) (w : World) (N : Nat) (h : DkAt w db r d) (hI : DkI d) (hB : DkB d N) (hN : N ≤ 349524) :
    Calls Tryz.prog 12 #[.pointer (some ⟨db, 0, none⟩), .string s] w fun e w' => Fr (DS db r) w w' ∧ e = .returned (.int .i64 (powD d (fun d => fileD d s (fun x => (syncI x, 0)))).2) ∧ DkAt w' db r (powD d (fun d => fileD d s (fun x => (syncI x, 0)))).1 := by
  refine (F12.of (some ⟨db, 0, none⟩) s  w (Q := fun v w' => Fr (DS db r) w w' ∧ v = .int .i64 (powD d (fun d => fileD d s (fun x => (syncI x, 0)))).2 ∧ DkAt w' db r (powD d (fun d => fileD d s (fun x => (syncI x, 0)))).1) ?_).mono (fun e w' ⟨v, he, hf, hv, h⟩ => ⟨hf, by rw [he, hv], h⟩)
  have hlt := h.lt
  have hfo := hB.fo
  refine rec_new (fun b1 w2 f1 hb1 r1 => rec_new (fun b3 w4 f3 hb3 r3 =>  ⟨_, (r1.fr f3 (fun h => h)).cell (o := 0) rfl, ?_⟩))
  have f0 := f1.trans1 f3
  have hs1 := f1.size
  have hs3 := f3.size
  have h6 := h.fr0 f0
  refine (power_callsd db r d b1 b3  w4 N (fun d => fileD d s (fun x => (syncI x, 0))) h6 hB (by omega) (fun w8 f8 ho h8 => ?_)).mono ?_
  · exact Syncc db r _ s _ _  b1 b3  w8 h8 (by unfold FoB; show d.F.L.length + d.F.P.length ≤ 349525; omega) hI.ino (fun id => by have := hB.p id; show (d.f id).p.length ≤ 349525; omega) (RecAt.fr f8 (r1.fr f3 (fun h => h)) (fun h => by have h : b1 = db := h; omega)) (RecAt.fr f8 r3 (fun h => by have h : b3 = db := h; omega)) 
  · rintro e w9 ⟨f9, rfl, h9⟩
    exact ⟨_, rfl, f0.trans f9 (fun _ _ h => h.elim) (fun _ _ h => h), rfl, h9⟩

theorem Rename_calls (db r : Nat) (d : Dk) (s t : ByteArray) (w : World) (N : Nat) (h : DkAt w db r d) (hI : DkI d) (hB : DkB d N) (hN : N ≤ 349524) (hs : s.size ≤ 1099511627775) (ht : t.size ≤ 1099511627775) :
    Calls Tryz.prog 28 #[.pointer (some ⟨db, 0, none⟩), .string s, .string t] w fun e w' => Fr (DS db r) w w' ∧ e = .returned (.int .i64 (powD d (fun d => chD d ⟨2, s, t, 0⟩)).2) ∧ DkAt w' db r (powD d (fun d => chD d ⟨2, s, t, 0⟩)).1 := by
  refine (F28.of (some ⟨db, 0, none⟩) s t w (Q := fun v w' => Fr (DS db r) w w' ∧ v = .int .i64 (powD d (fun d => chD d ⟨2, s, t, 0⟩)).2 ∧ DkAt w' db r (powD d (fun d => chD d ⟨2, s, t, 0⟩)).1) ?_).mono (fun e w' ⟨v, he, hf, hv, h⟩ => ⟨hf, by rw [he, hv], h⟩)
  have hlt := h.lt
  have hfo := hB.fo
  refine rec_new (fun b1 w2 f1 hb1 r1 => rec_new (fun b3 w4 f3 hb3 r3 => rec_new (fun b5 w6 f5 hb5 r5 => ⟨_, ((r1.fr f3 (fun h => h)).fr f5 (fun h => h)).cell (o := 0) rfl, ?_⟩)))
  have f0 := (f1.trans1 f3).trans1 f5
  have hs1 := f1.size
  have hs3 := f3.size
  have h6 := h.fr0 f0
  refine (power_callse db r d b1 b3 b5 w6 N (fun d => chD d ⟨2, s, t, 0⟩) h6 hB (by omega) (fun w8 f8 ho h8 => ?_)).mono ?_
  · refine (F67.of (b1, 0) (b3, 0) (b5, 0) w8 (Q := fun v w' => Fr (DS db r) w8 w' ∧ v = .int .i64 (chD { d with fu := d.fu.map (· - 1), calls := d.calls + 1 } ⟨2, s, t, 0⟩).2 ∧ DkAt w' db r (chD { d with fu := d.fu.map (· - 1), calls := d.calls + 1 } ⟨2, s, t, 0⟩).1) ?_).mono (fun e w' ⟨v, he, hf, hv, h⟩ => ⟨hf, by rw [he, hv], h⟩)
    refine ⟨_, (RecAt.fr f8 ((r1.fr f3 (fun h => h)).fr f5 (fun h => h)) (fun h => by have h : b1 = db := h; omega)).cell (o := 0) rfl, _, (RecAt.fr f8 (r3.fr f5 (fun h => h)) (fun h => by have h : b3 = db := h; omega)).cell (o := 0) rfl, _, (RecAt.fr f8 r5 (fun h => by have h : b5 = db := h; omega)).cell (o := 0) rfl, ?_⟩
    refine (change_calls db r _ ⟨2, s, t, 0⟩ w8 h8 ⟨hs, ht⟩ (by show d.F.L.length + d.F.P.length ≤ 349524; omega) hI.out).mono ?_
    rintro e w9 ⟨f9, rfl, h9⟩
    exact ⟨_, rfl, f9, rfl, h9⟩
  · rintro e w9 ⟨f9, rfl, h9⟩
    exact ⟨_, rfl, f0.trans f9 (fun _ _ h => h.elim) (fun _ _ h => h), rfl, h9⟩

theorem Remove_calls (db r : Nat) (d : Dk) (s : ByteArray) (w : World) (N : Nat) (h : DkAt w db r d) (hI : DkI d) (hB : DkB d N) (hN : N ≤ 349524) (hs : s.size ≤ 1099511627775) :
    Calls Tryz.prog 29 #[.pointer (some ⟨db, 0, none⟩), .string s] w fun e w' => Fr (DS db r) w w' ∧ e = .returned (.int .i64 (powD d (fun d => chD d ⟨3, s, ⟨#[]⟩, 0⟩)).2) ∧ DkAt w' db r (powD d (fun d => chD d ⟨3, s, ⟨#[]⟩, 0⟩)).1 := by
  refine (F29.of (some ⟨db, 0, none⟩) s  w (Q := fun v w' => Fr (DS db r) w w' ∧ v = .int .i64 (powD d (fun d => chD d ⟨3, s, ⟨#[]⟩, 0⟩)).2 ∧ DkAt w' db r (powD d (fun d => chD d ⟨3, s, ⟨#[]⟩, 0⟩)).1) ?_).mono (fun e w' ⟨v, he, hf, hv, h⟩ => ⟨hf, by rw [he, hv], h⟩)
  have hlt := h.lt
  have hfo := hB.fo
  refine rec_new (fun b1 w2 f1 hb1 r1 => rec_new (fun b3 w4 f3 hb3 r3 =>  ⟨_, (r1.fr f3 (fun h => h)).cell (o := 0) rfl, ?_⟩))
  have f0 := f1.trans1 f3
  have hs1 := f1.size
  have hs3 := f3.size
  have h6 := h.fr0 f0
  refine (power_callsf db r d b1 b3  w4 N (fun d => chD d ⟨3, s, ⟨#[]⟩, 0⟩) h6 hB (by omega) (fun w8 f8 ho h8 => ?_)).mono ?_
  · refine (F68.of (b1, 0) (b3, 0)  w8 (Q := fun v w' => Fr (DS db r) w8 w' ∧ v = .int .i64 (chD { d with fu := d.fu.map (· - 1), calls := d.calls + 1 } ⟨3, s, ⟨#[]⟩, 0⟩).2 ∧ DkAt w' db r (chD { d with fu := d.fu.map (· - 1), calls := d.calls + 1 } ⟨3, s, ⟨#[]⟩, 0⟩).1) ?_).mono (fun e w' ⟨v, he, hf, hv, h⟩ => ⟨hf, by rw [he, hv], h⟩)
    refine ⟨_, (RecAt.fr f8 (r1.fr f3 (fun h => h)) (fun h => by have h : b1 = db := h; omega)).cell (o := 0) rfl, _, (RecAt.fr f8 r3 (fun h => by have h : b3 = db := h; omega)).cell (o := 0) rfl,  ?_⟩
    refine (change_calls db r _ ⟨3, s, ⟨#[]⟩, 0⟩ w8 h8 ⟨hs, by show 0 ≤ _; omega⟩ (by show d.F.L.length + d.F.P.length ≤ 349524; omega) hI.out).mono ?_
    rintro e w9 ⟨f9, rfl, h9⟩
    exact ⟨_, rfl, f9, rfl, h9⟩
  · rintro e w9 ⟨f9, rfl, h9⟩
    exact ⟨_, rfl, f0.trans f9 (fun _ _ h => h.elim) (fun _ _ h => h), rfl, h9⟩

set_option maxHeartbeats 1000000 in
theorem SyncDir_calls (db r : Nat) (d : Dk) (w : World) (N : Nat) (h : DkAt w db r d) (hI : DkI d) (hB : DkB d N) (hN : N ≤ 349524) :
    Calls Tryz.prog 13 #[.pointer (some ⟨db, 0, none⟩)] w fun e w' => Fr (DS db r) w w' ∧ e = .returned (.int .i64 (powD d sdD).2) ∧ DkAt w' db r (powD d sdD).1 := by
  refine (F13.of (some ⟨db, 0, none⟩) w (Q := fun v w' => Fr (DS db r) w w' ∧ v = .int .i64 (powD d sdD).2 ∧ DkAt w' db r (powD d sdD).1) ?_).mono (fun e w' ⟨v, he, hf, hv, h⟩ => ⟨hf, by rw [he, hv], h⟩)
  have hlt := h.lt
  have hfo := hB.fo
  have hbF : FoB d.F := by unfold FoB; omega
  have hbF' : FoB ⟨nowF d.F, []⟩ := by
    have := nowF_len d.F
    unfold FoB
    show (nowF d.F).length + 0 ≤ 349525
    omega
  have hm := ids_max hbF
  refine rec_new (fun b1 w2 f1 hb1 r1 => ⟨_, r1.cell (o := 0) rfl, ?_⟩)
  have h2 := h.fr0 f1
  refine (power_callsg db r d b1 w2 N sdD h2 hB (by omega) (fun w8 f8 ho h8 => ?_)).mono ?_
  · have r1 := r1.fr f8 (fun h => by have h : b1 = db := h; omega)
    refine (F45.of (b1, 0) w8 (Q := fun v w' => Fr (DS db r) w8 w' ∧ v = .int .i64 0 ∧ DkAt w' db r (sdD { d with fu := d.fu.map (· - 1), calls := d.calls + 1 }).1) ?_).mono (fun e w' ⟨v, he, hf, hv, h⟩ => ⟨hf, by rw [he, hv]; rfl, h⟩)
    refine ⟨_, r1.cell (o := 0) rfl, dr_mk (dk_getF h8 (fun cs hF => (ids_calls cs d.F w8 hF hbF).mono ?_))⟩
    rintro e w5 ⟨f5, A7, c9, rfl, r7⟩
    have fd : Fr (fun _ => False) w5 w5.drew := Fr.drew _ _
    have f5d := f5.trans1 fd
    have h5 := h8.fr0 f5d
    have r1 := r1.fr f5d (fun h => h)
    have r7 := fd.row r7 (fun _ _ h => h)
    have e0 : w5.drew.heap.size = w5.heap.size := rfl
    have hs5 := f5d.size
    generalize w5.drew = w6 at fd f5d h5 r1 r7 e0 hs5 ⊢
    refine ⟨A7, _, c9, rfl, _, r1.cell (o := 0) rfl, _, r1.cell (o := 0) rfl, dr_mk (dk_getF h5 (fun cs hF => (sync_calls cs d.F w6 hF hbF).mono ?_))⟩
    rintro e w15 ⟨f15, cs', rfl, hF'⟩
    have hl1 := r1.lt
    have r1 := r1.fr f15 (fun h => h)
    have hl8 := h8.lt
    refine ⟨cs', rfl, kp_mk f15 hl1 (fun h => h) (dr_mk (dk_setF (h5.fr0 f15) hF' (fun w20 f20 h20 => ?_)))⟩
    have r1' := r1.fr f20 (fun h => by have h : b1 = db := h; omega)
    have hrow : Sl w20 1 A7 (idsF d.F).length (ivs (idsF d.F)) := by
      refine f20.sl (f15.sl r7.sl (fun _ _ _ h => h)) (fun h0 k hk h => ?_)
      have h : k = db := h
      have := (r7.blt hk).1; omega
    refine ⟨_, r1'.cell (o := 0) rfl, (keep_calls db r _ A7 _ c9 (idsF d.F) w20 h20 hbF' hrow (ids_asc _) (by omega)).mono ?_⟩
    rintro e w22 ⟨f22, rfl, h22⟩
    have e2 : forg (idsF ⟨nowF d.F, []⟩) (idsF d.F) d.f = trim ⟨nowF d.F, []⟩ d.f := forg_trim hI.out
    have h22 : DkAt w22 db r { d with F := ⟨nowF d.F, []⟩, f := forg (idsF ⟨nowF d.F, []⟩) (idsF d.F) d.f, fu := d.fu.map (· - 1), calls := d.calls + 1 } := h22
    rw [e2] at h22
    refine ⟨rfl, ?_, rfl, h22⟩
    exact ((f5d.trans1 f15).trans f20 (U := DS db r) (fun _ _ h => h.elim) (fun k hk h => .inl h)).trans f22 (fun _ _ h => h) (fun k hk h => .inr h)
  · rintro e w9 ⟨f9, rfl, h9⟩
    exact ⟨_, rfl, f1.trans f9 (fun _ _ h => h.elim) (fun _ _ h => h), rfl, h9⟩
set_option maxHeartbeats 2000000 in
theorem Create_calls (db r : Nat) (d : Dk) (s : ByteArray) (w : World) (N : Nat) (h : DkAt w db r d) (hI : DkI d) (hB : DkB d N) (hN : N ≤ 349524) (hs : s.size ≤ 1099511627775) :
    Calls Tryz.prog 10 #[.pointer (some ⟨db, 0, none⟩), .string s] w fun e w' => Fr (DS db r) w w' ∧ e = .returned (.int .i64 (powD d (fun d => crD d s)).2) ∧ DkAt w' db r (powD d (fun d => crD d s)).1 := by
  refine (F10.of (some ⟨db, 0, none⟩) s w (Q := fun v w' => Fr (DS db r) w w' ∧ v = .int .i64 (powD d (fun d => crD d s)).2 ∧ DkAt w' db r (powD d (fun d => crD d s)).1) ?_).mono (fun e w' ⟨v, he, hf, hv, h⟩ => ⟨hf, by rw [he, hv], h⟩)
  have hlt := h.lt
  have hfo := hB.fo
  have hlast := hB.last
  have hbF : FoB d.F := by unfold FoB; omega
  refine rec_new (fun b1 w2 f1 hb1 r1 => rec_new (fun b3 w4 f3 hb3 r3 => ⟨_, (r1.fr f3 (fun h => h)).cell (o := 0) rfl, ?_⟩))
  have f0 := f1.trans1 f3
  have hs1 := f1.size
  have h6 := h.fr0 f0
  have r1 := r1.fr f3 (fun h => h)
  refine (power_callsa db r d b1 b3 w4 N (fun d => crD d s) h6 hB (by omega) (fun w8 f8 ho h8 => ?_)).mono ?_
  · have r1 := r1.fr f8 (fun h => by have h : b1 = db := h; omega)
    have r3 := r3.fr f8 (fun h => by have h : b3 = db := h; omega)
    have hl1 := r1.lt
    have hl3 := r3.lt
    have hl8 := h8.lt
    generalize hd' : ({ d with fu := d.fu.map (· - 1), calls := d.calls + 1 } : Dk) = d' at h8 ⊢
    have eF : d'.F = d.F := by rw [← hd']
    have ef : d'.f = d.f := by rw [← hd']
    have el : d'.last = d.last := by rw [← hd']
    have elf : d'.lf = d.lf := by rw [← hd']
    have hout : ∀ id, id ∉ idsF d'.F → d'.f id = zI := by rw [eF, ef]; exact hI.out
    have hbF' : FoB d'.F := by rw [eF]; exact hbF
    refine (F36.of (b1, 0) (b3, 0) w8 (Q := fun v w' => Fr (DS db r) w8 w' ∧ v = .int .i64 (crD d' s).2 ∧ DkAt w' db r (crD d' s).1) ?_).mono (fun e w' ⟨v, he, hf, hv, h⟩ => ⟨hf, by rw [he, hv], h⟩)
    have fd : Fr (fun _ => False) w8 w8.drew := Fr.drew _ _
    have h9 := h8.fr0 fd
    have r1d := r1.fr fd (fun h => h)
    have r3d := r3.fr fd (fun h => h)
    have e8 : w8.drew.heap.size = w8.heap.size := rfl
    unfold F36.vc
    dsimp only
    generalize w8.drew = w9 at fd h9 r1d r3d e8 ⊢
    refine ⟨_, r1d.cell (o := 0) rfl, dr_mk (dk_getF h9 (fun cs hF => ⟨_, r1d.cell (o := 0) rfl, dr_mk (dk_getI (o := 1) h9 (.inr (.inl ⟨rfl, rfl⟩)) ((ids_calls cs d'.F w9 hF hbF').mono ?_))⟩))⟩
    rintro e w10 ⟨f10, A11, c13, rfl, r11⟩
    refine ⟨A11, _, c13, rfl, kp_mk f10 (by omega) (fun h => h) (kp_mk f10 (by omega) (fun h => h) (vIf_mk (fun hge => ?_) (fun hlt2 => ?_)))⟩
    · have hge := of_decide_eq_true hge
      have eC : crD d' s = (d', 8) := by unfold crD; rw [if_pos hge]
      rw [eC]
      exact ⟨fr_up (fd.trans1 f10), rfl, h9.fr0 f10⟩
    · have hlt2 := of_decide_eq_false hlt2
      have fdd : Fr (fun _ => False) w10 w10.drew := Fr.drew _ _
      have f1011 := f10.trans1 fdd
      have h11 := h9.fr0 f1011
      have r1e := r1d.fr f1011 (fun h => h)
      have r3e := r3d.fr f1011 (fun h => h)
      have f011 := fd.trans1 f1011
      generalize w10.drew = w11 at fdd f1011 h11 r1e r3e f011 ⊢
      have ew : IntKind.wrap .i64 (d'.last + 1) = d'.last + 1 := i64_id (by omega) (by omega)
      refine ⟨_, r1e.cell (o := 0) rfl, _, r3e.cell (o := 0) rfl, _, r1e.cell (o := 0) rfl, dr_mk (dk_getI (o := 5) h11 (.inr (.inr (.inl ⟨rfl, rfl⟩))) ?_)⟩
      rw [ew]
      have hchb : ChB ⟨1, s, ⟨#[]⟩, d'.last + 1⟩ := ⟨hs, by show 0 ≤ _; omega⟩
      refine (change_calls db r d' ⟨1, s, ⟨#[]⟩, d'.last + 1⟩ w11 h11 hchb (by rw [eF]; omega) hout).mono ?_
      rintro e w20 ⟨f20, rfl, h20⟩
      have hne : ∀ k, DS db r k → k < w.heap.size := by
        rintro k (rfl | rfl) <;> omega
      have r1f := r1e.fr f20 (fun h => by have := hne _ h; omega)
      have f020 : Fr (DS db r) w8 w20 := f011.trans f20 (fun _ _ h => h.elim) (fun _ _ h => h)
      refine ⟨_, rfl, vIf_mk (fun h0 => ?_) (fun h0 => ?_)⟩
      · have h0 : wrongF d'.F ⟨1, s, ⟨#[]⟩, d'.last + 1⟩ = 0 := by simpa [chD] using h0
        have eC : crD d' s = ({ (chD d' ⟨1, s, ⟨#[]⟩, d'.last + 1⟩).1 with last := d'.last + 1 }, 0) := by unfold crD; rw [if_neg hlt2, if_pos h0]
        have e20 : (chD d' ⟨1, s, ⟨#[]⟩, d'.last + 1⟩).1.last = d'.last := rfl
        refine ⟨_, r1f.cell (o := 0) rfl, dr_mk (dk_getI (o := 5) h20 (.inr (.inr (.inl ⟨rfl, rfl⟩))) (dr_mk ?_))⟩
        rw [e20, ew]
        have hne2 := h20.ne
        obtain ⟨u, v, fz, lv, q1, q2, q3, q4⟩ := h20
        refine dk_set (d' := { (chD d' ⟨1, s, ⟨#[]⟩, d'.last + 1⟩).1 with last := d'.last + 1 }) (fz' := fz) (lv' := lv) q1 q2 q3 rfl (by show 0 + 5 + 1 ≤ 10; omega) (fun x hx => by simp at hx; subst hx; rfl) rfl rfl hne2 (fun w29 f29 g1 g2 g3 => ?_)
        have h29 : DkAt w29 db r { (chD d' ⟨1, s, ⟨#[]⟩, d'.last + 1⟩).1 with last := d'.last + 1 } := ⟨u, v, fz, lv, g1, g2, g3, q4⟩
        have r1g := r1f.fr f29 (fun h => by have h : b1 = db := h; omega)
        have fd3 : Fr (fun _ => False) w29 w29.drew := Fr.drew _ _
        have h30 := h29.fr0 fd3
        have r1g := r1g.fr fd3 (fun h => h)
        have f030 : Fr (DS db r) w8 w29.drew := (f020.trans f29 (fun _ _ h => h) (fun k hk h => .inl h)).trans fd3 (fun _ _ h => h) (fun _ _ h => h.elim)
        generalize w29.drew = w30 at fd3 h30 r1g f030 ⊢
        have h300 := h30
        obtain ⟨u', v', fz', lv', m1, m2, m3, m4⟩ := h300
        refine ⟨_, r1g.cell (o := 0) rfl, dr_mk (dk_getM h30 ⟨_, r1g.cell (o := 0) rfl, dr_mk (dk_getI (o := 5) h30 (.inr (.inr (.inl ⟨rfl, rfl⟩))) (files_put m3 (zI_at w30) (fun w38 hF38 f38 => ?_)))⟩)⟩
        rw [eC]
        refine ⟨f030.trans f38 (fun _ _ h => h) (fun k hk h => .inr h), congrArg (Value.int .i64) h0, u', v', fz', lv', m1.fr f38 (fun h => hne2 h), fo_fr m2 f38 (fun k hk => by have hk : k = r := hk; rw [hk]; exact m3.alien), ?_, m4⟩
        have e3 : updF (trim (doF d'.F ⟨1, s, ⟨#[]⟩, d'.last + 1⟩) d'.f) (d'.last + 1) zI = trim (doF d'.F ⟨1, s, ⟨#[]⟩, d'.last + 1⟩) d'.f := by
          funext j
          unfold updF
          by_cases hj : j = d'.last + 1
          · rw [if_pos hj]
            unfold trim
            split
            · refine (hout j (fun hm => ?_)).symm
              rw [eF] at hm
              have := (hI.rng j hm).2
              omega
            · rfl
          · rw [if_neg hj]
        have hF38 : FilesAt w38 r (updF (trim (doF d'.F ⟨1, s, ⟨#[]⟩, d'.last + 1⟩) d'.f) (d'.last + 1) zI) := hF38
        rw [e3] at hF38
        exact hF38
      · have h0 : ¬ wrongF d'.F ⟨1, s, ⟨#[]⟩, d'.last + 1⟩ = 0 := by simpa [chD] using h0
        have eC : crD d' s = chD d' ⟨1, s, ⟨#[]⟩, d'.last + 1⟩ := by unfold crD; rw [if_neg hlt2, if_neg h0]
        rw [eC]
        exact ⟨f020, rfl, h20⟩
  · rintro e w9 ⟨f9, rfl, h9⟩
    exact ⟨_, rfl, f0.trans f9 (fun _ _ h => h.elim) (fun _ _ h => h), rfl, h9⟩
end Go.Proofs.YtfdhaeglhkmmpaaGreat
/- chapter 12: a disk's Crash, Fuse, look, Read, Size, Names, Free, Calls, Image, New -/
namespace Go.Proofs.YtfdhaeglhkmmpaaGreat
open Go.GV Go.RowKit Go.Lib
set_option linter.unusedVariables false
set_option linter.unusedSimpArgs false
theorem by_map {w w' : World} {r : Nat} {f : Int → Ino} (h : FilesAt w r f) (g : Fr (fun k => k = r) w w') {A : Option Addr} {n : Nat} {b : Bs} (hs : Sl w 1 A n (bys b)) : Sl w' 1 A n (bys b) := sl_fr_map h g hs (by omega)
theorem crash_p (x : Ino) (c : Bs) : (crashI x c).1.p.length = 0 ∧ (crashI x c).2.length ≤ c.length := by
  refine ⟨rfl, ?_⟩
  show (c.drop x.p.length).length ≤ _
  rw [List.length_drop]; omega
set_option maxHeartbeats 2000000 in
theorem Crash_calls (db r : Nat) (d : Dk) (C : Option Addr) (nc cc : Nat) (ch : Bs) (w : World) (N : Nat) (h : DkAt w db r d) (hI : DkI d) (hB : DkB d N) (hN : N ≤ 349525) (hC : Sl w 1 C nc (bys ch)) (hcc : nc ≤ cc) (hnc : nc ≤ 1099511627775) :
    Calls Tryz.prog 9 #[.pointer (some ⟨db, 0, none⟩), .slice C nc cc] w fun e w' => Fr (DS db r) w w' ∧ e = .returned (.tuple #[]) ∧ DkAt w' db r (crashD d ch) := by
  refine (F9.of (some ⟨db, 0, none⟩) C nc cc w (Q := fun v w' => Fr (DS db r) w w' ∧ v = .tuple #[] ∧ DkAt w' db r (crashD d ch)) ?_).mono (fun e w' ⟨v, he, hf, hv, h⟩ => ⟨hf, by rw [he, hv], h⟩)
  have hlt := h.lt
  have hne := h.ne
  have hfo := hB.fo
  have hbF : FoB d.F := by unfold FoB; omega
  have hm := ids_max hbF
  have hcl := by_n hC
  -- behind the choice's head
  have k4 : ∀ (A : Option Addr) (n c : Nat) (v : World), Fr (fun _ => False) w v → Sl v 1 A n (bys ch.tail) → n ≤ c → jnC (F9.k4 (fun v w' => Fr (DS db r) w w' ∧ v = .tuple #[] ∧ DkAt w' db r (crashD d ch))) (some ⟨db, 0, none⟩, (A, n, c), headC ch, ()) v := by
    intro A n c v fv hA hnc2
    have hv := h.fr0 fv
    have hAl := by_n hA
    have htl : ch.tail.length ≤ ch.length := by rw [List.length_tail]; omega
    refine jnC_mk (fun _ => dr_mk (dk_getF hv (fun cs hF => (ids_calls cs d.F v hF hbF).mono ?_)))
    rintro e w7 ⟨f7, A9, c11, rfl, r9⟩
    have hs9 := r9.sl
    have hWa := ids_asc d.F
    have hnd := asc_nodup hWa
    generalize hW : idsF d.F = W at hm r9 hs9 hWa hnd ⊢
    have h7 := hv.fr0 f7
    refine ⟨A9, _, c11, rfl, jnC_mk (loop_rule (fun s x => Fr (fun k => k = r) w x ∧ Fr (fun k => k = r) w7 x ∧ ∃ (i : Nat) (D : Option Addr) (nd dd : Nat) (f : Int → Ino) (c : Bs), i ≤ W.length ∧ s = (some ⟨db, 0, none⟩, (D, nd, dd), headC ch, (A9, W.length, c11), (A9, W.length, c11), (W.length : Int), (i : Int), ()) ∧
        DkAt x db r { d with f := f } ∧ Sl x 1 D nd (bys c) ∧ nd ≤ dd ∧ nd ≤ nc ∧ crashS d.f W ch.tail = crashS f (W.drop i) c ∧ (∀ id, InoB (f id)) ∧ ∀ id, (f id).p.length ≤ 349525)
      (fun s _ => (W.length - s.2.2.2.2.2.2.1).toNat) ?_ _ _ ⟨fr_up (fv.trans1 f7), Fr.refl _ _, 0, A, n, c, d.f, ch.tail, by omega, rfl, h7, f7.sl hA (fun _ _ _ h => h), hnc2, by omega, by rw [List.drop_zero], hI.ino, fun id => by have := hB.p id; omega⟩)⟩
    rintro s x L ⟨hf, hf7, i, D, nd, dd, f, c, hi, rfl, hx, hD, hdd, hnd2, hcr, hfi, hfp⟩ hL _
    have hx0 := hx
    obtain ⟨u, v', fz, lv, q1, q2, q3, q4⟩ := hx0
    refine vIf_mk (fun hlt2 => ?_) (fun hge => ?_)
    · have hlt2 : (i : Int) < (W.length : Int) := of_decide_eq_true hlt2
      have gi : W[i]? = some (W[i]'(by omega)) := List.getElem?_eq_getElem (by omega)
      generalize W[i]'(by omega) = id at gi
      have hdi : W.drop i = id :: W.drop (i + 1) := drop_at gi
      have hg7 := h7
      obtain ⟨_, _, _, _, _, _, g3, _⟩ := hg7
      have hWx : Sl x 1 A9 W.length (ivs W) := sl_fr_map g3 hf7 hs9 (by omega)
      refine sl_rd hWx (by omega) gi ?_
      dsimp only
      have fd : Fr (fun _ => False) x x.drew := Fr.drew _ _
      have hxd := hx.fr0 fd
      have hDd := fd.sl hD (fun _ _ _ h => h)
      have hfd := hf.trans fd (U := fun k => k = r) (fun _ _ h => h) (fun _ _ h => h.elim)
      have hf7d := hf7.trans fd (U := fun k => k = r) (fun _ _ h => h) (fun _ _ h => h.elim)
      generalize x.drew = y at fd hxd hDd hfd hf7d ⊢
      have hxd0 := hxd
      obtain ⟨u2, v2, fz2, lv2, p1, p2, p3, p4⟩ := hxd0
      refine dr_mk (dk_getM hxd (dr_mk (dk_getM hxd (files_get p3 (fun cs hX => kp_mk (Fr.refl (fun _ => False) _) hxd.lt.1 (fun h => h) ((crashI_calls cs _ D nd dd c y hX hDd hdd (hfi id) (by have := hfp id; show (f id).p.length ≤ _; omega) (by omega)).mono ?_))))))
      rintro e w24 ⟨f24, cs', D', nd', dd', rfl, hX', hD', hdd'⟩
      have hnl := by_n hDd
      have hcp := crash_p (f id) c
      have hnl' : (crashI (f id) c).2.length = nd' := by_n hD'
      have hx24 := hxd.fr0 f24
      have hx240 := hx24
      obtain ⟨u3, v3, fz3, lv3, m1, m2, m3, m4⟩ := hx240
      refine ⟨cs', D', nd', dd', rfl, kp_mk f24 hxd.lt.1 (fun h => h) (files_put m3 hX' (fun w30 hF30 f30 => jnC_mk (hL _ _ ⟨(hfd.trans f24 (U := fun k => k = r) (fun _ _ h => h) (fun _ _ h => h.elim)).trans1 f30, (hf7d.trans f24 (U := fun k => k = r) (fun _ _ h => h) (fun _ _ h => h.elim)).trans1 f30, i + 1, D', nd', dd', updF f id (crashI (f id) c).1, (crashI (f id) c).2, by omega, by rw [ei i (by omega)], ?_, by_map m3 f30 hD', hdd', by omega, ?_, updF_B hfi (crashI_B (hfi id) c), ?_⟩ ?_)))⟩
      · exact ⟨u3, v3, fz3, lv3, m1.fr f30 (fun h => hne h), fo_fr m2 f30 (fun k hk => by have hk : k = r := hk; rw [hk]; exact m3.alien), hF30, m4⟩
      · rw [hcr, hdi]; rfl
      · intro k
        unfold updF
        split
        · rw [hcp.1]; omega
        · exact hfp k
      · show ((W.length : Int) - IntKind.wrap .i64 ((i : Int) + 1)).toNat < ((W.length : Int) - (i : Int)).toNat
        rw [ei i (by omega)]; omega
    · have hge : ¬ (i : Int) < (W.length : Int) := of_decide_eq_false hge
      have eW : W.drop i = [] := List.drop_of_length_le (by omega)
      have ef : f = crashS d.f W ch.tail := by rw [hcr, eW]; rfl
      refine dr_mk (dk_getF hx (fun cs hF => (crash_calls cs d.F (headC ch) x hF hbF).mono ?_))
      rintro e w35 ⟨f35, cs', rfl, hF'⟩
      refine ⟨cs', rfl, dr_mk (dk_setF (hx.fr0 f35) hF' (fun w40 f40 h40 => ?_))⟩
      have hg7 := h7
      obtain ⟨_, _, _, _, _, _, g3, _⟩ := hg7
      have hWx : Sl x 1 A9 W.length (ivs W) := sl_fr_map g3 hf7 hs9 (by omega)
      have hrow : Sl w40 1 A9 W.length (ivs W) := by
        refine f40.sl (f35.sl hWx (fun _ _ _ h => h)) (fun h0 k hk h => ?_)
        have h : k = db := h
        have := (r9.blt hk).1
        have := fv.size
        omega
      have hbF' : FoB ⟨behF d.F (headC ch), []⟩ := by
        have := behF_len d.F (headC ch)
        unfold FoB
        show (behF d.F (headC ch)).length + 0 ≤ 349525
        omega
      refine (keep_calls db r _ A9 _ c11 W w40 h40 hbF' hrow hWa (by omega)).mono ?_
      rintro e w41 ⟨f41, rfl, h41⟩
      have e2 : forg (idsF ⟨behF d.F (headC ch), []⟩) W f = trim ⟨behF d.F (headC ch), []⟩ f := forg_trim (fun id hid => by
        rw [ef, crashS_out _ _ _ _ hid]
        exact hI.out id (by rw [hW]; exact hid))
      have h41 : DkAt w41 db r { d with F := ⟨behF d.F (headC ch), []⟩, f := forg (idsF ⟨behF d.F (headC ch), []⟩) W f } := h41
      rw [e2, ef] at h41
      obtain ⟨u3, v3, fz3, lv3, m1, m2, m3, m4⟩ := h41
      refine ⟨rfl, dr_mk (dk_set (d' := { d with F := ⟨behF d.F (headC ch), []⟩, f := trim ⟨behF d.F (headC ch), []⟩ (crashS d.f W ch.tail), down := false }) (fz' := fz3) (lv' := lv3) m1 m2 m3 rfl (by show 0 + 6 + 1 ≤ 10; omega) (fun x hx => by simp at hx; subst hx; rfl) rfl rfl hne (fun w45 f45 g1 g2 g3 => dr_mk (dk_set (d' := { d with F := ⟨behF d.F (headC ch), []⟩, f := trim ⟨behF d.F (headC ch), []⟩ (crashS d.f W ch.tail), down := false, fu := none }) (fz' := false) (lv' := lv3) g1 g2 g3 rfl (by show 0 + 7 + 1 ≤ 10; omega) (fun x hx => by simp at hx; subst hx; rfl) rfl rfl hne (fun w48 f48 k1 k2 k3 => ⟨?_, rfl, ?_⟩))))⟩
      · have a1 : Fr (DS db r) w x := hf.mono (fun _ _ h => .inr h)
        have a2 : Fr (DS db r) w w40 := (a1.trans f35 (fun _ _ h => h) (fun _ _ h => h.elim)).trans f40 (fun _ _ h => h) (fun k hk h => .inl h)
        have a3 : Fr (DS db r) w w41 := a2.trans f41 (fun _ _ h => h) (fun k hk h => .inr h)
        exact (a3.trans f45 (fun _ _ h => h) (fun k hk h => .inl h)).trans f48 (fun _ _ h => h) (fun k hk h => .inl h)
      · refine ⟨u3, v3, false, lv3, ?_, ?_, ?_, rfl⟩
        · unfold crashD; rw [hW]; exact k1
        · unfold crashD; rw [hW]; exact k2
        · unfold crashD; rw [hW]; exact k3
  refine vIf_f rfl (vIf_mk (fun hp => ?_) (fun hp => ?_))
  · have hp := of_decide_eq_true hp
    cases hch : ch with
    | nil => rw [hch] at hcl; simp at hcl; omega
    | cons y t =>
      have fd : Fr (fun _ => False) w w.drew := Fr.drew _ _
      have hCd := fd.sl hC (fun _ _ _ h => h)
      obtain ⟨b, o, rfl, hc⟩ := hCd.2 (by omega)
      have hy : y.toNat < 256 := y.toNat_lt
      have e1 : IntKind.wrap .i64 ((y.toNat : Nat) : Int) = headC ch := by rw [hch]; exact i64_id (by omega) (by omega)
      have hcell : cellAt w.drew b o = some (.int .u8 (y.toNat : Int)) := by
        have := hc 0 (bv y) (by rw [hch]; rfl)
        rw [Nat.add_zero] at this
        exact this
      refine dr_mk (gd_mk (decide_eq_true (by omega)) ⟨_, hcell, gd_mk (decide_eq_true (by omega)) ?_⟩)
      rw [e1, ← hch]
      have hsd := slDrop (c := cc) hCd (show 1 ≤ nc by omega) hcc
      refine k4 _ _ _ w.drew fd ?_ (by omega)
      have e2 : bys ch.tail = (bys ch).drop 1 := by rw [hch]; rfl
      rw [e2]; exact hsd
  · have hp := of_decide_eq_false hp
    have hch : ch = [] := List.length_eq_zero_iff.1 (by omega)
    have hn0 : nc = 0 := by omega
    have e1 : headC ch = 0 := by rw [hch]; rfl
    have e2 : ch.tail = ch := by rw [hch]; rfl
    rw [← e1]
    exact k4 C nc cc w (Fr.refl _ _) (by rw [e2]; exact hC) hcc
theorem Fuse_calls (db r : Nat) (d : Dk) (n : Int) (w : World) (h : DkAt w db r d) :
    Calls Tryz.prog 30 #[.pointer (some ⟨db, 0, none⟩), .int .i64 n] w fun e w' => Fr (DS db r) w w' ∧ e = .returned (.tuple #[]) ∧ DkAt w' db r (fuseD d n) := by
  refine (F30.of (some ⟨db, 0, none⟩) n w (Q := fun v w' => Fr (DS db r) w w' ∧ v = .tuple #[] ∧ DkAt w' db r (fuseD d n)) ?_).mono (fun e w' ⟨v, he, hf, hv, h⟩ => ⟨hf, by rw [he, hv], h⟩)
  have hne := h.ne
  obtain ⟨u, v, fz, lv, h1, h2, h3, h4⟩ := h
  refine vIf_t rfl (dr_mk (dk_set (d' := d) (fz' := decide (n ≥ 0)) (lv' := lv) h1 h2 h3 rfl (by show 0 + 7 + 1 ≤ 10; omega) (fun x hx => by simp at hx; subst hx; rfl) rfl rfl hne (fun w45 f45 g1 g2 g3 => dr_mk (dk_set (d' := fuseD d n) (fz' := decide (n ≥ 0)) (lv' := n) g1 g2 g3 rfl (by show 0 + 8 + 1 ≤ 10; omega) (fun x hx => by simp at hx; subst hx; rfl) rfl rfl hne (fun w48 f48 k1 k2 k3 => ⟨?_, rfl, u, v, _, _, k1, k2, k3, ?_⟩)))))
  · exact (f45.trans1 f48).mono (fun _ _ h => .inl h)
  · show fuR (if n ≥ 0 then some n else none) _ _
    by_cases h0 : n ≥ 0
    · rw [if_pos h0]
      exact ⟨decide_eq_true h0, rfl⟩
    · rw [if_neg h0]
      exact decide_eq_false h0
theorem look_calls (db r : Nat) (d : Dk) (s : ByteArray) (w : World) (h : DkAt w db r d) (hb : FoB d.F) (hi : ∀ id, InoB (d.f id)) (hp : ∀ id, (d.f id).p.length ≤ 1099511627775) :
    Calls Tryz.prog 47 #[.pointer (some ⟨db, 0, none⟩), .string s] w fun e w' => Fr (fun _ => False) w w' ∧ ∃ B k, e = .returned (.tuple #[.slice B (lookD d s).1.length k, .int .i64 (lookD d s).2]) ∧ Sl w' 1 B (lookD d s).1.length (bys (lookD d s).1) ∧ (lookD d s).1.length ≤ k := by
  refine (F47.of (some ⟨db, 0, none⟩) s w (Q := fun v w' => Fr (fun _ => False) w w' ∧ ∃ B k, v = .tuple #[.slice B (lookD d s).1.length k, .int .i64 (lookD d s).2] ∧ Sl w' 1 B (lookD d s).1.length (bys (lookD d s).1) ∧ (lookD d s).1.length ≤ k) ?_).mono (fun e w' ⟨v, he, hf, B, k, hv, h⟩ => ⟨hf, B, k, by rw [he, hv], h⟩)
  have h0 := h
  obtain ⟨u, v, fz, lv, h1, h2, h3, h4⟩ := h0
  refine vIf_f rfl (dr_mk ⟨d.down, h1.cell (o := 0 + 6) rfl, vIf_mk (fun hd => ?_) (fun hd => dr_mk (dk_getF h (fun cs hF => (find_calls cs d.F s w hF hb).mono ?_)))⟩)
  · have e : lookD d s = ([], 11) := by unfold lookD; rw [if_pos hd]
    rw [e]
    exact ⟨Fr.refl _ _, none, 0, rfl, Sl.nil _ _ _, Nat.le_refl _⟩
  · have hd : d.down = false := hd
    rintro e w7 ⟨rfl, f7⟩
    refine ⟨_, _, rfl, ?_⟩
    cases hfn : findN s (nowF d.F) with
    | none =>
      have eL : lookD d s = ([], 6) := by unfold lookD; rw [if_neg (by rw [hd]; simp), hfn]
      rw [eL]
      exact vIf_t rfl ⟨f7, none, 0, rfl, Sl.nil _ _ _, Nat.le_refl _⟩
    | some id =>
      have eL : lookD d s = (nowI (d.f id), 0) := by unfold lookD; rw [if_neg (by rw [hd]; simp), hfn]
      rw [eL]
      refine vIf_f rfl (dr_mk (dk_getM (h.fr0 f7) (files_get (h3.fr f7 (fun h => h) (fun _ h => h.elim)) (fun cs hX => (now_calls' cs _ w7 hX (hi id) (hp id)).mono ?_))))
      rintro e w17 ⟨f17, B, k, rfl, hr⟩
      exact ⟨B, _, k, rfl, f7.trans1 f17, B, k, rfl, hr.sl, hr.le⟩
theorem Size_calls (db r : Nat) (d : Dk) (s : ByteArray) (w : World) (h : DkAt w db r d) (hb : FoB d.F) (hi : ∀ id, InoB (d.f id)) (hp : ∀ id, (d.f id).p.length ≤ 1099511627775) :
    Calls Tryz.prog 15 #[.pointer (some ⟨db, 0, none⟩), .string s] w fun e w' => e = .returned (.tuple #[.int .i64 ((lookD d s).1.length : Int), .int .i64 (lookD d s).2]) ∧ Fr (fun _ => False) w w' := by
  refine (F15.of (some ⟨db, 0, none⟩) s w (Q := fun v w' => v = .tuple #[.int .i64 ((lookD d s).1.length : Int), .int .i64 (lookD d s).2] ∧ Fr (fun _ => False) w w') ?_).mono (fun e w' ⟨v, he, hv, h⟩ => ⟨by rw [he, hv], h⟩)
  refine (look_calls db r d s w h hb hi hp).mono ?_
  rintro e w1 ⟨f1, B, k, rfl, _, _⟩
  exact ⟨B, _, k, _, rfl, rfl, f1⟩
theorem look_len {d : Dk} (hi : ∀ id, InoB (d.f id)) (s : ByteArray) : (lookD d s).1.length ≤ 1048576 := by
  unfold lookD
  split
  · show 0 ≤ _; omega
  · split
    · show 0 ≤ _; omega
    · exact now_le (hi _)
theorem Read_calls (db r : Nat) (d : Dk) (s : ByteArray) (off n : Int) (w : World) (h : DkAt w db r d) (hb : FoB d.F) (hi : ∀ id, InoB (d.f id)) (hp : ∀ id, (d.f id).p.length ≤ 1099511627775) :
    Calls Tryz.prog 16 #[.pointer (some ⟨db, 0, none⟩), .string s, .int .i64 off, .int .i64 n] w fun e w' => Fr (fun _ => False) w w' ∧ ∃ B k, e = .returned (.tuple #[.slice B (readD d s off n).1.length k, .int .i64 (readD d s off n).2]) ∧ Sl w' 1 B (readD d s off n).1.length (bys (readD d s off n).1) := by
  refine (F16.of (some ⟨db, 0, none⟩) s off n w (Q := fun v w' => Fr (fun _ => False) w w' ∧ ∃ B k, v = .tuple #[.slice B (readD d s off n).1.length k, .int .i64 (readD d s off n).2] ∧ Sl w' 1 B (readD d s off n).1.length (bys (readD d s off n).1)) ?_).mono (fun e w' ⟨v, he, hf, B, k, hv, h⟩ => ⟨hf, B, k, by rw [he, hv], h⟩)
  have hll := look_len hi s
  refine (look_calls db r d s w h hb hi hp).mono ?_
  rintro e w1 ⟨f1, B, k, rfl, hB, hk⟩
  refine ⟨B, _, k, _, rfl, ?_⟩
  unfold readD
  generalize hL : lookD d s = L at hll hB hk ⊢
  obtain ⟨b, er⟩ := L
  have bad : ∀ x : Int, Fr (fun _ => False) w w1 ∧ ∃ B' k', Value.tuple #[Value.slice none 0 0, Value.int .i64 x] = .tuple #[.slice B' ((([], x) : Bs × Int)).1.length k', .int .i64 (([], x) : Bs × Int).2] ∧ Sl w1 1 B' ((([], x) : Bs × Int)).1.length (bys (([], x) : Bs × Int).1) := fun x => ⟨f1, none, 0, rfl, Sl.nil _ _ _⟩
  dsimp only at hll hB hk ⊢
  refine vIf_mk (fun he => ?_) (fun he => ?_)
  · have he : ¬ er = 0 := by simpa using he
    rw [if_pos he]
    exact bad er
  · have he : er = 0 := by simpa using he
    rw [if_neg (by rw [he]; simp)]
    have ew : 0 ≤ off → off ≤ (b.length : Int) → IntKind.wrap .i64 (((b.length : Nat) : Int) - off) = (b.length : Int) - off := fun h1 h2 => i64_id (by omega) (by omega)
    refine vIf_mk (fun h1 => ?_) (fun h1 => vIf_mk (fun h2 => ?_) (fun h2 => vIf_mk (fun h3 => ?_) (fun h3 => vIf_mk (fun h4 => ?_) (fun h4 => jnC_mk (fun _ => ?_)))))
    · rw [if_pos (.inl (of_decide_eq_true h1))]; exact bad 20
    · rw [if_pos (.inr (.inl (of_decide_eq_true h2)))]; exact bad 20
    · rw [if_pos (.inr (.inr (.inl (of_decide_eq_true h3))))]; exact bad 20
    · have h1 := of_decide_eq_false h1
      have h3 := of_decide_eq_false h3
      have h4 := of_decide_eq_true h4
      rw [ew (by omega) (by omega)] at h4
      rw [if_pos (.inr (.inr (.inr h4)))]; exact bad 20
    · have h1 := of_decide_eq_false h1
      have h2 := of_decide_eq_false h2
      have h3 := of_decide_eq_false h3
      have h4 := of_decide_eq_false h4
      rw [ew (by omega) (by omega)] at h4
      rw [if_neg (fun h => h.elim h1 (fun h => h.elim h2 (fun h => h.elim h3 h4)))]
      obtain ⟨o, rfl⟩ : ∃ o : Nat, off = (o : Int) := ⟨off.toNat, by omega⟩
      obtain ⟨m, rfl⟩ : ∃ m : Nat, n = (m : Int) := ⟨n.toNat, by omega⟩
      have e1 : IntKind.wrap .i64 ((o : Int) + (m : Int)) = ((o + m : Nat) : Int) := by rw [i64_id (by omega) (by omega)]; omega
      unfold F16.k6c
      dsimp only
      rw [e1]
      refine gd_mk (decide_eq_true (by omega)) (gd_mk (decide_eq_true (by omega)) (gd_mk (decide_eq_true (by omega)) (gd_mk (decide_eq_true (by omega)) (gd_mk (decide_eq_true (by omega)) (gd_mk (decide_eq_true (by omega)) ⟨f1, slA B (o + m) o 1, m, ?_, ?_⟩)))))
      · simp only [Int.toNat_natCast]
        have : ((b.drop o).take m).length = m := by rw [List.length_take, List.length_drop]; omega
        rw [this, Nat.add_sub_cancel_left]
      · simp only [Int.toNat_natCast]
        have hl : ((b.drop o).take m).length = m := by rw [List.length_take, List.length_drop]; omega
        rw [hl]
        have e2 : bys ((b.drop o).take m) = ((bys b).drop o).take m := by simp [bys, List.map_take, List.map_drop]
        rw [e2]
        refine ⟨by rw [← e2, List.length_map, hl, Nat.mul_one], fun h0 => ?_⟩
        obtain ⟨bb, oo, rfl, hc⟩ := hB.2 (by omega)
        refine ⟨bb, oo + o, ?_, fun j v hj => ?_⟩
        · unfold slA
          rw [if_neg (by omega), Option.map_some, add_none, Nat.mul_one]
        · rw [List.getElem?_take] at hj
          split at hj
          · rw [List.getElem?_drop] at hj
            rw [Nat.add_assoc]
            exact hc _ v hj
          · cases hj
theorem left_calls (l n : Int) (w : World) (h0 : 0 ≤ n) (hl : l ≤ 9223372036854775807) : Calls Tryz.prog 49 #[.int .i64 l, .int .i64 n] w fun e w' => e = .returned (.int .i64 (leftD l n)) ∧ w' = w := by
  refine (F49.of l n w (Q := fun v w' => v = .int .i64 (leftD l n) ∧ w' = w) ?_).mono (fun e w' ⟨v, he, hv, h⟩ => ⟨by rw [he, hv], h⟩)
  refine vIf_mk (fun h => ⟨?_, rfl⟩) (fun h => ⟨?_, rfl⟩)
  · have h := of_decide_eq_true h
    unfold leftD
    rw [if_pos h]
  · have h := of_decide_eq_false h
    unfold leftD
    rw [if_neg h, i64_id (by omega) (by omega)]
theorem taken_nn {d : Dk} (hi : ∀ id, InoB (d.f id)) : 0 ≤ takenF d.F d.f := sum_nn _ _ (fun id _ => by have := (room_le (hi id)).1; omega)
theorem Free_calls (db r : Nat) (d : Dk) (w : World) (h : DkAt w db r d) (hb : FoB d.F) (hi : ∀ id, InoB (d.f id)) (hp : ∀ id, (d.f id).p.length ≤ 1099511627775) (hlb : d.lb ≤ 9223372036854775807) (hlf : d.lf ≤ 9223372036854775807) :
    Calls Tryz.prog 18 #[.pointer (some ⟨db, 0, none⟩)] w fun e w' => e = .returned (.tuple #[.int .i64 (freeD d).1, .int .i64 (freeD d).2]) ∧ Fr (fun _ => False) w w' := by
  refine (F18.of (some ⟨db, 0, none⟩) w (Q := fun v w' => v = .tuple #[.int .i64 (freeD d).1, .int .i64 (freeD d).2] ∧ Fr (fun _ => False) w w') ?_).mono (fun e w' ⟨v, he, hv, h⟩ => ⟨by rw [he, hv], h⟩)
  refine vIf_f rfl (dr_mk ?_)
  have fd : Fr (fun _ => False) w w.drew := Fr.drew _ _
  have hd := h.fr0 fd
  generalize w.drew = w1 at fd hd ⊢
  refine dk_getF hd (fun cs hF => (taken_calls db r d w1 hd hb hi hp).mono ?_)
  rintro e w4 ⟨rfl, f4⟩
  refine ⟨_, rfl, kp_mk f4 hd.lt.1 (fun h => h) ((ids_calls cs d.F w4 (hF.fr0 f4) hb).mono ?_)⟩
  rintro e w7 ⟨f7, A9, c11, rfl, r9⟩
  refine ⟨A9, _, c11, rfl, dr_mk ?_⟩
  have fd2 : Fr (fun _ => False) w7 w7.drew := Fr.drew _ _
  have f07 := ((fd.trans1 f4).trans1 f7).trans1 fd2
  have h7 := h.fr0 f07
  generalize w7.drew = w8 at fd2 f07 h7 ⊢
  refine dk_getI (o := 0) h7 (.inl ⟨rfl, rfl⟩) (dr_mk (dk_getI (o := 1) h7 (.inr (.inl ⟨rfl, rfl⟩)) ((left_calls _ _ w8 (taken_nn hi) hlb).mono ?_)))
  rintro e w18 ⟨rfl, rfl⟩
  refine ⟨_, rfl, kp_mk (Fr.refl (fun _ => False) _) h7.lt.1 (fun h => h) ((left_calls _ _ _ (by omega) hlf).mono ?_)⟩
  rintro e w19 ⟨rfl, rfl⟩
  exact ⟨_, rfl, rfl, f07⟩
theorem Calls_calls (db r : Nat) (d : Dk) (w : World) (h : DkAt w db r d) :
    Calls Tryz.prog 22 #[.pointer (some ⟨db, 0, none⟩)] w fun e w' => e = .returned (.int .i64 d.calls) ∧ w' = w := by
  refine (F22.of (some ⟨db, 0, none⟩) w (Q := fun v w' => v = .int .i64 d.calls ∧ w' = w) ?_).mono (fun e w' ⟨v, he, hv, h⟩ => ⟨by rw [he, hv], h⟩)
  exact vIf_f rfl (dr_mk (dk_getI (o := 9) h (.inr (.inr (.inr ⟨rfl, rfl⟩))) ⟨rfl, rfl⟩))
theorem New_calls (lb lf : Int) (w : World) :
    Calls Tryz.prog 7 #[ofL [.int .i64 lb, .int .i64 lf]] w fun e w' => Fr (fun _ => False) w w' ∧ ∃ db r, e = .returned (.pointer (some ⟨db, 0, none⟩)) ∧ DkAt w' db r (newD lb lf) ∧ w.heap.size ≤ db ∧ w.heap.size ≤ r := by
  refine (F7.of _ w (Q := fun v w' => Fr (fun _ => False) w w' ∧ ∃ db r, v = .pointer (some ⟨db, 0, none⟩) ∧ DkAt w' db r (newD lb lf) ∧ w.heap.size ≤ db ∧ w.heap.size ≤ r) ?_).mono (fun e w' ⟨v, he, hf, db, r, hv, h⟩ => ⟨hf, db, r, by rw [he, hv], h⟩)
  refine rec_new (fun b1 w2 f1 hb1 r1 => ⟨_, rfl, rec_all r1, mmk_mk (fun w5 hM f5 hs5 => gd_mk rfl (rec_new (fun b6 w7 f7 hb6 r6 => ⟨(f1.trans1 f5).trans1 f7, b6, w2.heap.size, rfl, ?_, ?_, f1.size⟩)))⟩)
  · refine ⟨.slice none 0 0, .slice none 0 0, false, 0, r6, ⟨none, 0, 0, none, 0, 0, rfl, ⟨Sl.nil _ _ _, rfl⟩, ⟨Sl.nil _ _ _, rfl⟩, Nat.le_refl _⟩, ⟨_, hM.fr f7 (fun h => h), fun id => ⟨ZI, rfl, zI_at _⟩⟩, rfl⟩
  · have := f1.size
    omega
end Go.Proofs.YtfdhaeglhkmmpaaGreat
/- chapter 12: rows known whole; Names, Image; are files the same -/
namespace Go.GV
open Go Go.RowKit
/-- a row of one's own, known whole -/
structure RowW (w : World) (B : Nat) (e : TypeId) (sz : Nat) (z : List Value) (A : Option Addr) (n c : Nat) (vs : List Value) : Prop where
  len : vs.length = n * sz
  le : n ≤ c
  at_ : (A = none ∧ n = 0 ∧ c = 0) ∨ ∃ b, A = some ⟨b, 0, none⟩ ∧ B ≤ b ∧ w.heap[b]? = some (.cells (vs ++ zeros (c - n) z).toArray e (0, 0))
theorem RowW.nil (w : World) (B : Nat) (e : TypeId) (sz : Nat) (z : List Value) : RowW w B e sz z none 0 0 [] := ⟨by simp, Nat.le_refl _, .inl ⟨rfl, rfl, rfl⟩⟩
theorem RowW.sl {w : World} {B : Nat} {e : TypeId} {sz : Nat} {z : List Value} {A : Option Addr} {n c : Nat} {vs : List Value} (h : RowW w B e sz z A n c vs) : Sl w sz A n vs := by
  refine ⟨h.len, fun h0 => ?_⟩
  rcases h.at_ with ⟨_, h1, _⟩ | ⟨b, rfl, _, hb⟩
  · exact absurd h1 h0
  · refine ⟨b, 0, rfl, fun j v hj => ?_⟩
    rw [cellAt_blk hb, Nat.zero_add, List.getElem?_toArray, List.getElem?_append_left (List.getElem?_eq_some_iff.1 hj).1]
    exact hj
theorem RowW.blt {w : World} {B : Nat} {e : TypeId} {sz : Nat} {z : List Value} {A : Option Addr} {n c : Nat} {vs : List Value} (h : RowW w B e sz z A n c vs) {b : Nat} (hb : blkOf A = some b) : B ≤ b ∧ b < w.heap.size := by
  rcases h.at_ with ⟨rfl, _, _⟩ | ⟨b', rfl, hB, hh⟩
  · simp [blkOf] at hb
  · simp only [blkOf, Option.some.injEq] at hb; subst hb; exact ⟨hB, heap_lt hh⟩
theorem Fr.rowW {S : Nat → Prop} {w w' : World} (h : Fr S w w') {B : Nat} {e : TypeId} {sz : Nat} {z : List Value} {A : Option Addr} {n c : Nat} {vs : List Value} (hr : RowW w B e sz z A n c vs) (hn : ∀ b, blkOf A = some b → ¬ S b) : RowW w' B e sz z A n c vs := by
  refine ⟨hr.len, hr.le, ?_⟩
  rcases hr.at_ with h1 | ⟨b, rfl, hB, hb⟩
  · exact .inl h1
  · exact .inr ⟨b, rfl, hB, h.at hb (hn b rfl)⟩
/-- it does not lie in a block of another type of elements -/
theorem RowW.ne_type {w : World} {B : Nat} {e e' : TypeId} {sz : Nat} {z : List Value} {A : Option Addr} {n c : Nat} {vs cs : List Value} (h : RowW w B e sz z A n c vs) {b : Nat} (hr : RecAt w b e' cs) (he : e ≠ e') : ∀ k, blkOf A = some k → k ≠ b := by
  intro k hk hkb
  subst hkb
  rcases h.at_ with ⟨rfl, _, _⟩ | ⟨b', rfl, hB, hh⟩
  · simp [blkOf] at hk
  · simp only [blkOf, Option.some.injEq] at hk
    subst hk
    have hr : w.heap[b']? = some (.cells cs.toArray e' (0, 0)) := hr
    rw [hh] at hr
    injection hr with hr
    injection hr with _ h2 _
    exact he h2
theorem RowW.ne_row {w : World} {B B' : Nat} {e e' : TypeId} {sz sz' : Nat} {z z' : List Value} {A A' : Option Addr} {n c n' c' : Nat} {vs vs' : List Value} (h : RowW w B e sz z A n c vs) (h' : RowW w B' e' sz' z' A' n' c' vs') (he : e ≠ e') : ∀ k, blkOf A = some k → blkOf A' = some k → False := by
  intro k hk hk'
  rcases h'.at_ with ⟨rfl, _, _⟩ | ⟨b', rfl, hB, hh⟩
  · simp [blkOf] at hk'
  · simp only [blkOf, Option.some.injEq] at hk'
    exact h.ne_type (b := b') hh he k hk hk'.symm
theorem RowW.ne_obj {w : World} {B : Nat} {e : TypeId} {sz : Nat} {z : List Value} {A : Option Addr} {n c : Nat} {vs : List Value} (h : RowW w B e sz z A n c vs) {b : Nat} {m : Array MapEntry} {q : Nat} (hr : w.heap[b]? = some (.map m q)) : ∀ k, blkOf A = some k → k ≠ b := by
  intro k hk hkb
  subst hkb
  rcases h.at_ with ⟨rfl, _, _⟩ | ⟨b', rfl, hB, hh⟩
  · simp [blkOf] at hk
  · simp only [blkOf, Option.some.injEq] at hk
    subst hk
    rw [hh] at hr
    cases hr
theorem zeros_drop (c m sz : Nat) (z : List Value) (hz : z.length = sz) (h : m ≤ c) : (zeros c z).drop (m * sz) = zeros (c - m) z := by
  have e1 : zeros c z = zeros m z ++ zeros (c - m) z := by
    unfold zeros
    rw [← List.flatten_append, List.replicate_append_replicate]
    congr 2; omega
  rw [e1, List.drop_append_of_le_length (by rw [zeros_length, hz]; exact Nat.le_refl _), List.drop_of_length_le (by rw [zeros_length, hz]; exact Nat.le_refl _), List.nil_append]
/-- APPEND to it -/
theorem app_rowW {w : World} {B : Nat} {e : TypeId} {sz bytes : Nat} {z : List Value} {A : Option Addr} {n c : Nat} {x : Value} {old us : List Value} {m : Nat} {K : Option Addr → Nat → Nat → World → Prop}
    (hr : RowW w B e sz z A n c old) (hx : srcOf w sz x m us) (h1 : ∀ v ∈ us, v.oneCell' = true) (hz : z.length = sz) (hb : (n + m) * bytes ≤ 140737488355328) (hm : n + m ≤ 9223372036854775807) (hB : B ≤ w.heap.size)
    (hK : ∀ A' c' w', RowW w' B e sz z A' (n + m) c' (old ++ us) → Fr (fun k => blkOf A = some k) w w' → (∀ k, blkOf A' = some k → blkOf A = some k ∨ w.heap.size ≤ k) → K A' (n + m) c' w') : app w sz bytes z e A n c x K := by
  have hul : us.length = m * sz := by
    unfold srcOf at hx
    split at hx
    · obtain ⟨rfl, h, _⟩ := hx; exact h
    · obtain ⟨rfl, rfl, rfl⟩ := hx; simp
    · exact hx.elim
  have hol := hr.len
  refine ⟨m, us, hx, h1, hb, hm, fun hle => ⟨fun h0 => ?_, fun h0 => ?_⟩, fun hlt => ⟨old, hr.sl.src, fun cap hc1 hc2 => ?_⟩⟩
  · subst h0
    have : us = [] := List.length_eq_zero_iff.1 (by simpa using hul)
    subst this
    exact hK A c w (by rw [List.append_nil]; exact hr) (Fr.refl _ _) (fun _ h => .inl h)
  · rcases hr.at_ with ⟨rfl, rfl, rfl⟩ | ⟨b, rfl, hBb, hh⟩
    · omega
    · have hm2 : m * sz ≤ (c - n) * sz := Nat.mul_le_mul_right _ (by omega)
      show st w b (0 + n * sz) us _
      rw [Nat.zero_add]
      refine ⟨⟨_, e, 0, 0, hh, by simp only [List.size_toArray, List.length_append, zeros_length, hz]; omega, .inl (Nat.zero_le _)⟩, h1, ?_⟩
      refine hK _ _ _ ⟨by rw [List.length_append, hol, hul, Nat.add_mul], hle, .inr ⟨b, rfl, hBb, ?_⟩⟩ (Fr.st (fun _ => rfl)) (fun _ h => .inl h)
      have h2 := stB_heap (o := n * sz) (vs := us) hh
      rw [h2]
      simp only
      rw [splice_at hol, hul, zeros_drop _ _ _ _ hz (by omega), show c - n - m = c - (n + m) by omega]
  · refine hK _ _ _ ⟨by rw [List.length_append, hol, hul, Nat.add_mul], hc1, .inr ⟨_, rfl, hB, heap_alloc_at _ _⟩⟩ ?_ (fun k hk => .inr (by simp only [blkOf, Option.some.injEq] at hk; subst hk; exact Nat.le_refl _))
    exact (Fr.drew _ w).trans1 (Fr.alloc _ _ _)
/-- one more record -/
theorem push_recW {w : World} {B : Nat} {e : TypeId} {sz bytes : Nat} {z : List Value} {A : Option Addr} {n c : Nat} {old cs : List Value} {K : Option Addr → Nat → Nat → World → Prop} (hr : RowW w B e sz z A n c old) (hc : cs.length = sz) (h1 : ∀ v ∈ cs, v.oneCell' = true) (hz : z.length = sz) (hb : (n + 1) * bytes ≤ 140737488355328) (hn : n ≤ 1099511627776) (hB : B ≤ w.heap.size)
    (hK : ∀ A' c' w', RowW w' B e sz z A' (n + 1) c' (old ++ cs) → Fr (fun k => blkOf A = some k) w w' → (∀ k, blkOf A' = some k → blkOf A = some k ∨ w.heap.size ≤ k) → K A' (n + 1) c' w') : nw w (cs ++ []) e fun b w1 => app w1 sz bytes z e A n c (.slice (some ⟨b, 0, none⟩) 1 1) K := by
  refine nw_mk ?_
  rw [List.append_nil]
  have f1 : Fr (fun _ => False) w (w.alloc (.cells cs.toArray e)) := Fr.alloc _ _ _
  have r1 := RecAt.new w cs e
  have hs : (w.alloc (.cells cs.toArray e)).heap.size = w.heap.size + 1 := alloc_size _ _
  generalize w.heap.size = b at r1 hs hB hK ⊢
  generalize w.alloc (.cells cs.toArray e) = w1 at f1 r1 hs ⊢
  have hsl : Sl w1 sz (some ⟨b, 0, none⟩) 1 cs := ⟨by rw [hc, Nat.one_mul], fun _ => ⟨b, 0, rfl, r1.cells (fun j v hj => by simpa using hj)⟩⟩
  refine app_rowW (f1.rowW hr (fun _ _ h => h)) hsl.src h1 hz hb (by omega) (by omega) (fun A' c' w' hr' f' hk' => hK A' c' w' hr' (f1.trans f' (fun _ _ h => h.elim) (fun _ _ h => h)) (fun k hk => (hk' k hk).imp id (fun h => by omega)))
end Go.GV
namespace Go.Proofs.YtfdhaeglhkmmpaaGreat
open Go.GV Go.RowKit Go.Lib
set_option linter.unusedVariables false
set_option linter.unusedSimpArgs false
/-- a block in which no bytes and no changes lie -/
structure AlienI (w : World) (b : Nat) : Prop where
  u : ∀ o x, cellAt w b o ≠ some (.int .u8 x)
  t : ∀ o t, cellAt w b o ≠ some (.bool t)
theorem by_frI {S : Nat → Prop} {w w' : World} {A : Option Addr} {n : Nat} {b : Bs} (h : Sl w 1 A n (bys b)) (f : Fr S w w') (hS : ∀ k, S k → AlienI w k) : Sl w' 1 A n (bys b) :=
  f.sl h (fun h0 k hk hs => by_neU h h0 hk (hS k hs).u)
theorem WrP.frI {S : Nat → Prop} {w w' : World} {cs : List Value} {x : Wr} (h : WrP w cs x) (f : Fr S w w') (hS : ∀ k, S k → AlienI w k) : WrP w' cs x := by
  obtain ⟨B, m, k, e, h1, h2⟩ := h
  exact ⟨B, m, k, e, by_frI h1 f hS, h2⟩
theorem WSl.frI {S : Nat → Prop} {w w' : World} {A : Option Addr} {n : Nat} {l : List Wr} (h : WSl w A n l) (f : Fr S w w') (hS : ∀ k, S k → AlienI w k) : WSl w' A n l := by
  obtain ⟨vs, h1, h2, h3⟩ := h
  refine ⟨vs, f.sl h1 (fun h0 k hk hs => ?_), h2, h3.mono (fun cs x hx => hx.frI f hS)⟩
  have ha := hS k hs
  have gx : l[0]? = some (l[0]'(by omega)) := List.getElem?_eq_getElem (by omega)
  obtain ⟨b, o, rfl, hc, hl, B, m, k', e, _⟩ := ech_rd h1 h3 (by omega) gx (by omega)
  injection hk with hk
  have hk : b = k := hk
  subst hk
  rw [e] at hc
  exact ha.t _ _ (hc 0 _ rfl)
theorem InoAt.frI {S : Nat → Prop} {w w' : World} {cs : List Value} {x : Ino} (h : InoAt w cs x) (f : Fr S w w') (hS : ∀ k, S k → AlienI w k) : InoAt w' cs x := by
  obtain ⟨A, n, c, A', n', c', e, h1, h2, h3, h4⟩ := h
  exact ⟨A, n, c, A', n', c', e, by_frI h1 f hS, h2, h3.frI f hS, h4⟩
theorem FilesAt.frI {S : Nat → Prop} {w w' : World} {r : Nat} {f : Int → Ino} (h : FilesAt w r f) (g : Fr S w w') (hr : ¬ S r) (hS : ∀ k, S k → AlienI w k) : FilesAt w' r f := by
  obtain ⟨m, h1, h2⟩ := h
  refine ⟨m, h1.fr g hr, fun id => ?_⟩
  obtain ⟨cs, e, hx⟩ := h2 id
  exact ⟨cs, e, hx.frI g hS⟩
/-- a row whose cells are no bytes and no truths -/
theorem rowW_alien {w : World} {B : Nat} {e : TypeId} {sz : Nat} {z : List Value} {A : Option Addr} {n c : Nat} {vs : List Value} (h : RowW w B e sz z A n c vs) (hv : ∀ v ∈ vs, (∀ x, v ≠ .int .u8 x) ∧ ∀ t, v ≠ .bool t) (hz : ∀ v ∈ z, (∀ x, v ≠ .int .u8 x) ∧ ∀ t, v ≠ .bool t) : ∀ k, blkOf A = some k → AlienI w k := by
  intro k hk
  rcases h.at_ with ⟨rfl, _, _⟩ | ⟨b, rfl, hB, hh⟩
  · simp [blkOf] at hk
  · simp only [blkOf, Option.some.injEq] at hk
    subst hk
    have hall : ∀ v ∈ vs ++ zeros (c - n) z, (∀ x, v ≠ .int .u8 x) ∧ ∀ t, v ≠ .bool t := by
      intro v hm
      rcases List.mem_append.1 hm with hm | hm
      · exact hv v hm
      · simp only [zeros, List.mem_flatten, List.mem_replicate] at hm
        obtain ⟨l, ⟨_, hl⟩, hm⟩ := hm
        rw [hl] at hm
        exact hz v hm
    have hc : ∀ o v, cellAt w b o = some v → v ∈ vs ++ zeros (c - n) z := fun o v ho => by
      rw [cellAt_blk hh, List.getElem?_toArray] at ho
      exact List.mem_of_getElem? ho
    exact ⟨fun o x ho => (hall _ (hc o _ ho)).1 x rfl, fun o t ho => (hall _ (hc o _ ho)).2 t rfl⟩
/-! ### names -/
def svs (l : List ByteArray) : List Value := l.map Value.string
theorem ss_rd {w : World} {A : Option Addr} {n : Nat} {l : List ByteArray} (h : Sl w 1 A n (svs l)) {i : Nat} (hi : i < n) {x : ByteArray} (hx : l[i]? = some x) {K : ByteArray → Prop} (hK : K x) :
    dr A fun b o => gd (decide (0 ≤ (i : Int))) (gd (decide ((i : Int) < ((n : Nat) : Int))) (ldS w b (o + ((i : Int)).toNat * 1) K)) := by
  obtain ⟨b, o, rfl, hc⟩ := h.2 (by omega)
  refine dr_mk (gd_mk (decide_eq_true (by omega)) (gd_mk (decide_eq_true (by omega)) ⟨x, ?_, hK⟩))
  rw [Int.toNat_natCast, Nat.mul_one]
  exact hc i _ (by simp [svs, hx])
def namesD (d : Dk) : List ByteArray × Int := if d.down = true then ([], 11) else ((nowF d.F).map (·.1), 0)
/-- a name's record is laid in its variable -/
theorem nm_var {w : World} {x : Nm} {z : List Value} {e : TypeId} (hz : z.length = 2) {K : Nat → World → Prop} (hK : ∀ b w', Fr (fun _ => False) w w' → w.heap.size ≤ b → RecAt w' b e (encN x) → K b w') : nw w z e fun b w1 => gd ((encN x).length == 2) (st w1 b 0 (encN x) fun w2 => K b w2) :=
  var_new hz rfl (encN_o.one x) hK
set_option maxHeartbeats 1000000 in
theorem Names_calls (db r : Nat) (d : Dk) (w : World) (h : DkAt w db r d) (hb : FoB d.F) :
    Calls Tryz.prog 21 #[.pointer (some ⟨db, 0, none⟩)] w fun e w' => Fr (fun _ => False) w w' ∧ ∃ A c, e = .returned (.tuple #[.slice A (namesD d).1.length c, .int .i64 (namesD d).2]) ∧ Sl w' 1 A (namesD d).1.length (svs (namesD d).1) := by
  refine (F21.of (some ⟨db, 0, none⟩) w (Q := fun v w' => Fr (fun _ => False) w w' ∧ ∃ A c, v = .tuple #[.slice A (namesD d).1.length c, .int .i64 (namesD d).2] ∧ Sl w' 1 A (namesD d).1.length (svs (namesD d).1)) ?_).mono (fun e w' ⟨v, he, hf, A, c, hv, h⟩ => ⟨hf, A, c, by rw [he, hv], h⟩)
  have h0 := h
  obtain ⟨u, v, fz, lv, h1, h2, h3, h4⟩ := h0
  refine vIf_f rfl (dr_mk ⟨d.down, h1.cell (o := 0 + 6) rfl, vIf_mk (fun hd => ?_) (fun hd => dr_mk (dk_getF h (fun cs hF => (now_calls cs d.F w hF hb).mono ?_)))⟩)
  · have e : namesD d = ([], 11) := by unfold namesD; rw [if_pos hd]
    rw [e]
    exact ⟨Fr.refl _ _, none, 0, rfl, Sl.nil _ _ _⟩
  · have hd : d.down = false := hd
    have e : namesD d = ((nowF d.F).map (·.1), 0) := by unfold namesD; rw [if_neg (by rw [hd]; simp)]
    rw [e]
    rintro r w7 ⟨f7, A9, c11, rfl, r9⟩
    have hnl := nowF_len d.F
    have hb' : d.F.L.length + d.F.P.length ≤ 349525 := hb
    have hsl9 := r9.sl
    generalize nowF d.F = l at hnl r9 hsl9 ⊢
    have hs7 := f7.size
    refine ⟨A9, _, c11, rfl, jnC_mk (loop_rule (fun s x => Fr (fun _ => False) w x ∧ Fr (fun _ => False) w7 x ∧ ∃ (i : Nat) (A : Option Addr) (c : Nat), i ≤ l.length ∧ s = ((A, i, c), (A9, l.length, c11), (l.length : Int), (i : Int), ()) ∧ Row x w7.heap.size 9 1 A i c (svs ((l.take i).map (·.1))))
      (fun s _ => (l.length - s.2.2.2.1).toNat) ?_ _ _ ⟨f7, Fr.refl _ _, 0, none, 0, by omega, rfl, Row.nil _ _ _ _⟩)⟩
    rintro s x C ⟨hf, hf7, i, A, c, hi, rfl, hr⟩ hC _
    refine vIf_mk (fun hlt => ?_) (fun hge => ?_)
    · have hlt : (i : Int) < (l.length : Int) := of_decide_eq_true hlt
      have gi : l[i]? = some (l[i]'(by omega)) := List.getElem?_eq_getElem (by omega)
      generalize l[i]'(by omega) = y at gi
      refine n_rd (hsl9.fr0 hf7) gi rfl (nm_var rfl (fun b w' f' hb' r' => ⟨y.1, r'.cell rfl, ?_⟩))
      have hr2 := f'.row hr (fun _ _ h => h)
      have hsz := (hf7.trans1 f').size
      have f7' := hf7.trans1 f'
      refine nw_mk ?_
      rw [List.append_nil]
      have g1 : Fr (fun _ => False) w' (w'.alloc (.cells [Value.string y.1].toArray 9)) := Fr.alloc _ _ _
      have q1 := RecAt.new w' [Value.string y.1] 9
      generalize w'.heap.size = b2 at q1 ⊢
      generalize w'.alloc (.cells [Value.string y.1].toArray 9) = w2 at g1 q1 ⊢
      have hsl : Sl w2 1 (some ⟨b2, 0, none⟩) 1 [Value.string y.1] := ⟨rfl, fun _ => ⟨b2, 0, rfl, rec_all q1⟩⟩
      have f72 := f7'.trans1 g1
      refine app_row (g1.row hr2 (fun _ _ h => h)) hsl.src (fun v hv => by simp at hv; subst hv; rfl) rfl (by show (i + 1) * 16 ≤ _; omega) (by show i + 1 ≤ _; omega) f72.size (fun A' c' w3 hr3 f3 => jnC_mk (hC _ _ ⟨?_, ?_, i + 1, A', c', by omega, by rw [ei i (by omega)], ?_⟩ ?_))
      · exact fr_own ((hf.trans1 f').trans1 g1) (fun k hk => (hr.blt hk).1) hs7 f3
      · exact fr_own f72 (fun k hk => (hr.blt hk).1) (Nat.le_refl _) f3
      · have e3 : svs ((l.take (i + 1)).map (·.1)) = svs ((l.take i).map (·.1)) ++ [Value.string y.1] := by rw [List.take_add_one, gi]; simp [svs]
        rw [e3]; exact hr3
      · show ((l.length : Int) - IntKind.wrap .i64 ((i : Int) + 1)).toNat < ((l.length : Int) - (i : Int)).toNat
        rw [ei i (by omega)]; omega
    · have hge : ¬ (i : Int) < (l.length : Int) := of_decide_eq_false hge
      have e2 : l.take i = l := List.take_of_length_le (by omega)
      rw [e2] at hr
      have e3 : i = (l.map (·.1)).length := by rw [List.length_map]; omega
      subst e3
      exact ⟨hf, A, c, rfl, hr.sl⟩
/-! ### files with their names -/
abbrev Fl := ByteArray × Bs
def FlP (w : World) (cs : List Value) (x : Fl) : Prop := ∃ (B : Option Addr) (m k : Nat), cs = [.string x.1, .slice B m k] ∧ Sl w 1 B m (bys x.2) ∧ m ≤ k
def ISl (w : World) (A : Option Addr) (n : Nat) (l : List Fl) : Prop := ∃ vs, Sl w 2 A n vs ∧ l.length = n ∧ Ech 2 (FlP w) vs l
theorem FlP.fr0 {w w' : World} {cs : List Value} {x : Fl} (h : FlP w cs x) (f : Fr (fun _ => False) w w') : FlP w' cs x := by
  obtain ⟨B, m, k, e, h1, h2⟩ := h
  exact ⟨B, m, k, e, f.sl h1 (fun _ _ _ h => h), h2⟩
theorem ISl.fr0 {w w' : World} {A : Option Addr} {n : Nat} {l : List Fl} (h : ISl w A n l) (f : Fr (fun _ => False) w w') : ISl w' A n l := by
  obtain ⟨vs, h1, h2, h3⟩ := h
  exact ⟨vs, f.sl h1 (fun _ _ _ h => h), h2, h3.mono (fun cs x hx => hx.fr0 f)⟩
theorem FlP.one {w : World} {cs : List Value} {x : Fl} (h : FlP w cs x) : cs.length = 2 ∧ (∀ v ∈ cs, v.oneCell' = true) ∧ ∀ v ∈ cs, (∀ x, v ≠ .int .u8 x) ∧ ∀ t, v ≠ .bool t := by
  obtain ⟨B, m, k, rfl, _⟩ := h
  refine ⟨rfl, fun v hv => ?_, fun v hv => ?_⟩
  · simp only [List.mem_cons, List.not_mem_nil, or_false] at hv
    rcases hv with rfl | rfl <;> rfl
  · simp only [List.mem_cons, List.not_mem_nil, or_false] at hv
    rcases hv with rfl | rfl <;> exact ⟨fun x => Value.noConfusion, fun t => Value.noConfusion⟩
theorem FlP.frI {S : Nat → Prop} {w w' : World} {cs : List Value} {x : Fl} (h : FlP w cs x) (f : Fr S w w') (hS : ∀ k, S k → AlienI w k) : FlP w' cs x := by
  obtain ⟨B, m, k, e, h1, h2⟩ := h
  exact ⟨B, m, k, e, by_frI h1 f hS, h2⟩
theorem fl_rdS {w : World} {A : Option Addr} {n : Nat} {l : List Fl} (h : ISl w A n l) {i : Nat} {x : Fl} (hi : l[i]? = some x) (hin : i < n) {K : ByteArray → Prop} (hK : K x.1) :
    dr A fun b o => gd (decide (0 ≤ (i : Int))) (gd (decide ((i : Int) < ((n : Nat) : Int))) (ldS w b (o + ((i : Int)).toNat * 2) K)) := by
  obtain ⟨vs, hs, _, hE⟩ := h
  obtain ⟨b, o, rfl, h1, h2, B, m, k, ecs, hB, hmk⟩ := ech_rd hs hE (by omega) hi hin
  refine dr_mk (gd_mk (decide_eq_true (by omega)) (gd_mk (decide_eq_true (by omega)) ⟨x.1, ?_, hK⟩))
  rw [Int.toNat_natCast]
  rw [ecs] at h1
  exact h1 0 _ rfl
theorem fl_rdD {w : World} {A : Option Addr} {n : Nat} {l : List Fl} (h : ISl w A n l) {i : Nat} {x : Fl} (hi : l[i]? = some x) (hin : i < n) {K : Nat → Nat → Option Addr → Nat → Nat → Prop} (hK : ∀ b o B m k, Sl w 1 B m (bys x.2) → b < w.heap.size → K b o B m k) :
    dr A fun b o => gd (decide (0 ≤ (i : Int))) (gd (decide ((i : Int) < ((n : Nat) : Int))) (ldSl w b ((o + ((i : Int)).toNat * 2) + 1) (K b o))) := by
  obtain ⟨vs, hs, _, hE⟩ := h
  obtain ⟨b, o, rfl, h1, h2, B, m, k, ecs, hB, hmk⟩ := ech_rd hs hE (by omega) hi hin
  rw [ecs] at h1
  refine dr_mk (gd_mk (decide_eq_true (by omega)) (gd_mk (decide_eq_true (by omega)) ⟨B, m, k, ?_, hK b o B m k hB (cellAt_lt (h1 0 _ rfl))⟩))
  rw [Int.toNat_natCast]
  exact h1 1 _ rfl
theorem ba_beq (a : ByteArray) : (!(a.toList == a.toList)) = false := by simp
set_option maxHeartbeats 1000000 in
theorem Files_calls (A : Option Addr) (n c : Nat) (A' : Option Addr) (n' c' : Nat) (l : List Fl) (w : World) (h : ISl w A n l) (h' : ISl w A' n' l) (hn : n ≤ 1000000000) :
    Calls Tryz.prog 20 #[.slice A n c, .slice A' n' c'] w fun r w' => r = .returned (.bool true) ∧ Fr (fun _ => False) w w' := by
  refine (F20.of A n c A' n' c' w (Q := fun v w' => v = .bool true ∧ Fr (fun _ => False) w w') ?_).mono (fun e w' ⟨v, he, hv, h⟩ => ⟨by rw [he, hv], h⟩)
  have hl : l.length = n := by obtain ⟨_, _, h2, _⟩ := h; exact h2
  have hl' : l.length = n' := by obtain ⟨_, _, h2, _⟩ := h'; exact h2
  have : n = n' := by omega
  subst this
  refine vIf_f (by simp) (jnC_mk (loop_rule (fun s u => Fr (fun _ => False) w u ∧ ∃ i : Nat, i ≤ n ∧ s = ((A, n, c), (A', n, c'), (i : Int), ())) (fun s _ => (n - s.2.2.1).toNat) ?_ _ _ ⟨Fr.refl _ _, 0, by omega, rfl⟩))
  rintro s u C ⟨hf, i, hi, rfl⟩ hC _
  refine vIf_mk (fun hlt => ?_) (fun hge => ?_)
  · have hlt2 : (i : Int) < (n : Int) := of_decide_eq_true hlt
    have gi : l[i]? = some (l[i]'(by omega)) := List.getElem?_eq_getElem (by omega)
    generalize l[i]'(by omega) = x at gi
    have fd := hf.trans1 (Fr.drew _ u)
    have ms : ((n : Int) - IntKind.wrap .i64 ((i : Int) + 1)).toNat < ((n : Int) - (i : Int)).toNat := by rw [ei i (by omega)]; omega
    dsimp only
    generalize u.drew = y at fd ⊢
    have hy := h.fr0 fd
    have hy' := h'.fr0 fd
    have fin : jnC C ((A, n, c), (A', n, c'), IntKind.wrap .i64 ((i : Int) + 1), ()) y := jnC_mk (hC _ _ ⟨fd, i + 1, by omega, by rw [ei i (by omega)]⟩ ms)
    refine fl_rdS hy gi (by omega) (fl_rdS hy' gi (by omega) (vIf_f (ba_beq _) ?_))
    exact fl_rdD hy gi (by omega) (fun b o B m k hB hb => fl_rdD hy' gi (by omega) (fun b' o' B' m' k' hB' hb' => ⟨b2s_sl hB (kp_mk (Fr.refl (fun _ => False) _) hb' (fun h => h) (b2s_sl hB' (kp_mk (Fr.refl (fun _ => False) _) hb (fun h => h) (vIf_f (ba_beq _) fin)))), b2s_sl hB' (kp_mk (Fr.refl (fun _ => False) _) hb (fun h => h) (b2s_sl hB (kp_mk (Fr.refl (fun _ => False) _) hb' (fun h => h) (vIf_f (ba_beq _) fin))))⟩))
  · exact ⟨rfl, hf⟩
theorem Same_calls (A : Option Addr) (n c : Nat) (A' : Option Addr) (n' c' : Nat) (b : Bs) (w : World) (h : Sl w 1 A n (bys b)) (h' : Sl w 1 A' n' (bys b)) (hn : n ≤ 1000000000) :
    Calls Tryz.prog 17 #[.slice A n c, .slice A' n' c'] w fun r w' => r = .returned (.bool true) ∧ Fr (fun _ => False) w w' := by
  refine (F17.of A n c A' n' c' w (Q := fun v w' => v = .bool true ∧ Fr (fun _ => False) w w') ?_).mono (fun e w' ⟨v, he, hv, h⟩ => ⟨by rw [he, hv], h⟩)
  have hl := by_n h
  have hl' := by_n h'
  have : n = n' := by omega
  subst this
  refine vIf_f (by simp) (jnC_mk (loop_rule (fun s u => Fr (fun _ => False) w u ∧ ∃ i : Nat, i ≤ n ∧ s = ((A, n, c), (A', n, c'), (i : Int), ())) (fun s _ => (n - s.2.2.1).toNat) ?_ _ _ ⟨Fr.refl _ _, 0, by omega, rfl⟩))
  rintro s u C ⟨hf, i, hi, rfl⟩ hC _
  refine vIf_mk (fun hlt => ?_) (fun hge => ?_)
  · have hlt2 : (i : Int) < (n : Int) := of_decide_eq_true hlt
    have gi : b[i]? = some (b[i]'(by omega)) := List.getElem?_eq_getElem (by omega)
    generalize b[i]'(by omega) = x at gi
    have fd := hf.trans1 (Fr.drew _ u)
    refine by_rd (fd.sl h (fun _ _ _ h => h)) gi (by omega) (by_rd (fd.sl h' (fun _ _ _ h => h)) gi (by omega) (vIf_f (by simp) (jnC_mk (hC _ _ ⟨fd, i + 1, by omega, by rw [ei i (by omega)]⟩ ?_))))
    show ((n : Int) - IntKind.wrap .i64 ((i : Int) + 1)).toNat < ((n : Int) - (i : Int)).toNat
    rw [ei i (by omega)]; omega
  · exact ⟨rfl, hf⟩
set_option maxHeartbeats 2000000 in
theorem Image_calls (db r : Nat) (d : Dk) (w : World) (h : DkAt w db r d) (hb : FoB d.F) (hi : ∀ id, InoB (d.f id)) :
    Calls Tryz.prog 19 #[.pointer (some ⟨db, 0, none⟩)] w fun e w' => Fr (fun _ => False) w w' ∧ ∃ A c, e = .returned (.slice A (imageD d).length c) ∧ ISl w' A (imageD d).length (imageD d) := by
  refine (F19.of (some ⟨db, 0, none⟩) w (Q := fun v w' => Fr (fun _ => False) w w' ∧ ∃ A c, v = .slice A (imageD d).length c ∧ ISl w' A (imageD d).length (imageD d)) ?_).mono (fun e w' ⟨v, he, hf, A, c, hv, h⟩ => ⟨hf, A, c, by rw [he, hv], h⟩)
  have h0 := h
  obtain ⟨u, v, fz, lv, h1, h2, h3, h4⟩ := h0
  obtain ⟨A1, n1, c1, A2, n2, c2, euv, hL, hP, hPc⟩ := h2
  injection euv with e1 euv
  injection euv with e2 euv
  subst e1; subst e2
  have hb' : d.F.L.length + d.F.P.length ≤ 349525 := hb
  have hbL : FoB ⟨d.F.L, []⟩ := by unfold FoB; show d.F.L.length + 0 ≤ 349525; omega
  have hFL : FoAt w [.slice A1 n1 c1, .slice none 0 0] ⟨d.F.L, []⟩ := ⟨_, _, _, _, _, _, rfl, hL, ⟨Sl.nil _ _ _, rfl⟩, Nat.le_refl _⟩
  refine vIf_f rfl (dr_mk ⟨_, _, _, h1.cell (o := 0 + 2) rfl, (now_calls _ _ w hFL hbL).mono ?_⟩)
  rintro e w7 ⟨f7, A9, c11, rfl, r9⟩
  have hnl := nowF_len ⟨d.F.L, []⟩
  have hnl : (nowF ⟨d.F.L, []⟩).length ≤ 349525 := by have hnl : (nowF ⟨d.F.L, []⟩).length ≤ d.F.L.length + 0 := hnl; omega
  have hsl9 := r9.sl
  unfold imageD
  generalize nowF ⟨d.F.L, []⟩ = l at hnl r9 hsl9 ⊢
  have hs7 := f7.size
  have h7 := h.fr0 f7
  let G : Nm → Fl := fun x => (x.1, (d.f x.2).b)
  refine ⟨A9, _, c11, rfl, jnC_mk (loop_rule (fun s x => Fr (fun _ => False) w x ∧ Fr (fun _ => False) w7 x ∧ ∃ (i : Nat) (A : Option Addr) (c : Nat) (vs : List Value), i ≤ l.length ∧ s = (some ⟨db, 0, none⟩, (A, i, c), (A9, l.length, c11), (l.length : Int), (i : Int), ()) ∧ RowW x w7.heap.size 97 2 [Value.string (⟨#[]⟩ : ByteArray), Value.slice none 0 0] A i c vs ∧ (∀ v ∈ vs, (∀ x, v ≠ .int .u8 x) ∧ ∀ t, v ≠ .bool t) ∧ Ech 2 (FlP x) vs ((l.take i).map G))
    (fun s _ => (l.length - s.2.2.2.2.1).toNat) ?_ _ _ ⟨f7, Fr.refl _ _, 0, none, 0, [], by omega, rfl, RowW.nil _ _ _ _ _, (fun v hv => by cases hv), Ech.nil⟩)⟩
  rintro s x C ⟨hf, hf7, i, A, c, vs, hi2, rfl, hr, hvs, hE⟩ hC _
  refine vIf_mk (fun hlt => ?_) (fun hge => ?_)
  · have hlt : (i : Int) < (l.length : Int) := of_decide_eq_true hlt
    have gi : l[i]? = some (l[i]'(by omega)) := List.getElem?_eq_getElem (by omega)
    generalize l[i]'(by omega) = y at gi
    refine n_rd (hsl9.fr0 hf7) gi rfl (nm_var rfl (fun b14 w16 f16 hb14 r14 => ?_))
    have fd : Fr (fun _ => False) w16 w16.drew := Fr.drew _ _
    have f1 := f16.trans1 fd
    have r14 := r14.fr fd (fun h => h)
    generalize w16.drew = w17 at fd f1 r14 ⊢
    have h17 := (h7.fr0 hf7).fr0 f1
    have h170 := h17
    obtain ⟨u, v, fz, lv, q1, q2, q3, q4⟩ := h170
    refine ⟨y.1, r14.cell rfl, dr_mk (dk_getM h17 ⟨y.2, r14.cell (o := 0 + 1) rfl, files_get q3 (fun cs hX => kp_mk (Fr.refl (fun _ => False) _) r14.lt (fun h => h) ?_)⟩)⟩
    obtain ⟨X1, m1, k1, X2, m2, k2, rfl, x1, x2, x3, x4⟩ := hX
    refine gd_mk rfl ?_
    have hXI : InoAt w17 [.slice X1 m1 k1, .slice none 0 0] ⟨(d.f y.2).b, []⟩ := ⟨X1, m1, k1, none, 0, 0, rfl, x1, x2, ⟨[], Sl.nil _ _ _, rfl, Ech.nil⟩, Nat.le_refl _⟩
    have hXB : InoB ⟨(d.f y.2).b, []⟩ := ⟨(hi y.2).b, fun y hy => by cases hy⟩
    refine (now_calls' _ _ w17 hXI hXB (by show 0 ≤ _; omega)).mono ?_
    have enow : nowI ⟨(d.f y.2).b, []⟩ = (d.f y.2).b := rfl
    rintro e w28 ⟨f28, B, k, rfl, hrow⟩
    rw [enow] at hrow ⊢
    have f128 := f1.trans1 f28
    have f728 := hf7.trans1 f128
    have hfW : FlP w28 [.string y.1, .slice B (d.f y.2).b.length k] (G y) := ⟨B, _, k, rfl, hrow.sl, hrow.le⟩
    have hW1 := hfW.one
    refine ⟨B, _, k, rfl, kp_mk f28 r14.lt (fun h => h) (gd_mk rfl ?_)⟩
    have hr28 := f128.rowW hr (fun _ _ h => h)
    have ha := rowW_alien hr28 hvs (fun v hv => by
      simp only [List.mem_cons, List.not_mem_nil, or_false] at hv
      rcases hv with rfl | rfl <;> exact ⟨fun x => Value.noConfusion, fun t => Value.noConfusion⟩)
    refine push_recW hr28 rfl hW1.2.1 rfl (by show (i + 1) * 40 ≤ _; omega) (by show i ≤ _; omega) f728.size (fun A' c' w3 hr3 f3 _ => jnC_mk (hC _ _ ⟨?_, ?_, i + 1, A', c', _, by omega, by rw [ei i (by omega)], hr3, ?_, ?_⟩ ?_))
    · exact fr_own (hf.trans1 f128) (fun k hk => (hr28.blt hk).1) hs7 f3
    · exact fr_own f728 (fun k hk => (hr28.blt hk).1) (Nat.le_refl _) f3
    · intro v hv
      rcases List.mem_append.1 hv with hv | hv
      · exact hvs v hv
      · exact hW1.2.2 v hv
    · have eT : (l.take (i + 1)).map G = (l.take i).map G ++ [G y] := by rw [List.take_add_one, gi]; simp
      rw [eT]
      have hE3 : Ech 2 (FlP w3) vs ((l.take i).map G) := hE.mono (fun cs z hz => (hz.fr0 f128).frI f3 ha)
      exact hE3.snoc hr.len (by rw [List.length_map, List.length_take]; omega) rfl (hfW.frI f3 ha)
    · show ((l.length : Int) - IntKind.wrap .i64 ((i : Int) + 1)).toNat < ((l.length : Int) - (i : Int)).toNat
      rw [ei i (by omega)]; omega
  · have hge : ¬ (i : Int) < (l.length : Int) := of_decide_eq_false hge
    have e2 : l.take i = l := List.take_of_length_le (by omega)
    rw [e2] at hE
    have e3 : i = (l.map G).length := by rw [List.length_map]; omega
    subst e3
    exact ⟨hf, A, c, rfl, vs, hr.sl, rfl, hE⟩
end Go.Proofs.YtfdhaeglhkmmpaaGreat
/- chapter 12, plainly: what was synced lasts -/
namespace Go.Proofs.YtfdhaeglhkmmpaaGreat
open Go.GV Go.RowKit Go.Lib
set_option linter.unusedVariables false
set_option linter.unusedSimpArgs false
/-- a name has a file, and no other has it -/
def KL (it : ByteArray) (id : Int) (l : List Nm) : Prop := findN it l = some id ∧ ∀ x ∈ l, x.2 = id → x.1 = it
theorem KL.step {it : ByteArray} {id : Int} {l : List Nm} (h : KL it id l) {c : Ch} (h1 : c.nm ≠ it) (h2 : c.to ≠ it ∨ c.k ≠ 2) (h3 : c.id ≠ id ∨ c.k ≠ 1) : KL it id (stepN l c) := by
  obtain ⟨hf, hu⟩ := h
  unfold stepN
  split
  · rename_i hk
    refine ⟨by rw [putN_find, if_neg h1]; exact hf, fun x hx he => ?_⟩
    rcases putN_mem hx with e | hx
    · subst e
      exact absurd he (h3.resolve_right (fun h => h hk))
    · exact hu x hx he
  · split
    · rename_i hk
      have h2 := h2.resolve_right (fun h => h hk)
      split
      · rename_i j hj
        have hj2 : j ≠ id := fun e => h1 (hu _ (findN_mem hj) e)
        refine ⟨by rw [putN_find, if_neg h2, woN_find, if_neg (fun e => h1 e.symm)]; exact hf, fun x hx he => ?_⟩
        rcases putN_mem hx with e | hx
        · subst e; exact absurd he hj2
        · exact hu x (woN_mem hx).1 he
      · exact ⟨hf, hu⟩
    · split
      · exact ⟨by rw [woN_find, if_neg (fun e => h1 e.symm)]; exact hf, fun x hx he => hu x (woN_mem hx).1 he⟩
      · exact ⟨hf, hu⟩
structure Kp (d : Dk) (it : ByteArray) (id : Int) (b : Bs) : Prop where
  all : ∀ i : Nat, i ≤ d.F.P.length → KL it id (behF d.F (i : Nat))
  file : d.f id = ⟨b, []⟩
  old : id ≤ d.last
end Go.Proofs.YtfdhaeglhkmmpaaGreat
/- chapter 12, plainly: how great a disk may become; what lives says -/
namespace Go.Proofs.YtfdhaeglhkmmpaaGreat
open Go.GV Go.RowKit Go.Lib
set_option linter.unusedVariables false
set_option linter.unusedSimpArgs false
theorem DkB.mono {d : Dk} {M N : Nat} (h : DkB d M) (hMN : M ≤ N) : DkB d N :=
  ⟨by have := h.fo; omega, fun id => by have := h.p id; omega, by have := h.last; omega, by have := h.calls; omega, h.fu, h.lb, h.lf⟩
theorem trim_p {F : Fo} {f : Int → Ino} {N : Nat} (h : ∀ id, (f id).p.length ≤ N) (id : Int) : (trim F f id).p.length ≤ N := by
  unfold trim
  split
  · exact h id
  · exact Nat.zero_le _
theorem updF_p {f : Int → Ino} {N : Nat} (h : ∀ id, (f id).p.length ≤ N) {k : Int} {x : Ino} (hx : x.p.length ≤ N) (id : Int) : (updF f k x id).p.length ≤ N := by
  unfold updF
  split
  · exact hx
  · exact h id
theorem crashS_p : ∀ (l : List Int) (f : Int → Ino) (c : Bs) (N : Nat), (∀ id, (f id).p.length ≤ N) → ∀ id, (crashS f l c id).p.length ≤ N
  | [], f, c, N, h, id => h id
  | k :: l, f, c, N, h, id => crashS_p l _ _ N (updF_p h (Nat.zero_le _)) id
theorem do_len (F : Fo) (c : Ch) : (doF F c).L.length + (doF F c).P.length ≤ F.L.length + F.P.length + 1 := by
  unfold doF
  split
  · show F.L.length + (F.P ++ [c]).length ≤ _
    rw [List.length_append, List.length_singleton]; omega
  · omega
theorem fu_map {o : Option Int} (h : ∀ n, o = some n → n ≤ 9223372036854775807) : ∀ n, o.map (· - 1) = some n → n ≤ 9223372036854775807 := by
  intro n hn
  cases o with
  | none => cases hn
  | some m =>
    simp only [Option.map_some, Option.some.injEq] at hn
    have := h m rfl
    omega
/-- a call may make it greater by one -/
structure UpB (d d' : Dk) : Prop where
  fo : d'.F.L.length + d'.F.P.length ≤ d.F.L.length + d.F.P.length + 1
  p : ∀ N, (∀ id, (d.f id).p.length ≤ N) → ∀ id, (d'.f id).p.length ≤ N + 1
  last : d.last ≤ d'.last ∧ d'.last ≤ d.last + 1
  calls : d.calls ≤ d'.calls ∧ d'.calls ≤ d.calls + 1
  lb : d'.lb = d.lb
  lf : d'.lf = d.lf
theorem UpB.dk {d d' : Dk} {N : Nat} (u : UpB d d') (h : DkB d N) (hfu : ∀ n, d'.fu = some n → n ≤ 9223372036854775807) : DkB d' (N + 1) :=
  ⟨by have := u.fo; have := h.fo; omega, u.p N h.p, by have := u.last; have := h.last; omega, by have := u.calls; have := h.calls; omega, hfu, by rw [u.lb]; exact h.lb, by rw [u.lf]; exact h.lf⟩
theorem ch_up (d : Dk) (c : Ch) : UpB d (chD d c).1 := ⟨do_len _ _, fun N h id => by have := trim_p (F := doF d.F c) h id; show (trim (doF d.F c) d.f id).p.length ≤ _; omega, ⟨Int.le_refl _, by show d.last ≤ d.last + 1; omega⟩, ⟨Int.le_refl _, by show d.calls ≤ d.calls + 1; omega⟩, rfl, rfl⟩
theorem up_refl (d : Dk) : UpB d d := ⟨by omega, fun N h id => by have := h id; omega, ⟨Int.le_refl _, by omega⟩, ⟨Int.le_refl _, by omega⟩, rfl, rfl⟩
theorem cr_up (d : Dk) (s : ByteArray) : UpB d (crD d s).1 ∧ (crD d s).1.fu = d.fu ∧ (crD d s).1.calls = d.calls := by
  unfold crD
  split
  · exact ⟨up_refl d, rfl, rfl⟩
  · split
    · have h := ch_up d ⟨1, s, ⟨#[]⟩, d.last + 1⟩
      exact ⟨⟨h.fo, h.p, ⟨by show d.last ≤ d.last + 1; omega, Int.le_refl _⟩, h.calls, rfl, rfl⟩, rfl, rfl⟩
    · exact ⟨ch_up _ _, rfl, rfl⟩
theorem file_up (d : Dk) (s : ByteArray) (g : Ino → Ino × Int) (hg : ∀ x, (g x).1.p.length ≤ x.p.length + 1) : UpB d (fileD d s g).1 ∧ (fileD d s g).1.fu = d.fu ∧ (fileD d s g).1.calls = d.calls := by
  unfold fileD
  split
  · exact ⟨up_refl d, rfl, rfl⟩
  · rename_i id _
    split
    · exact ⟨up_refl d, rfl, rfl⟩
    · split
      · exact ⟨up_refl d, rfl, rfl⟩
      · refine ⟨⟨by show d.F.L.length + d.F.P.length ≤ _; omega, fun N h k => ?_, ⟨Int.le_refl _, by show d.last ≤ d.last + 1; omega⟩, ⟨Int.le_refl _, by show d.calls ≤ d.calls + 1; omega⟩, rfl, rfl⟩, rfl, rfl⟩
        refine updF_p (fun k => by have := h k; omega) ?_ k
        have := hg (d.f id)
        have := h id
        omega
theorem sd_up (d : Dk) : UpB d (sdD d).1 := by
  refine ⟨?_, fun N h id => by have := trim_p (F := ⟨nowF d.F, []⟩) h id; show (trim ⟨nowF d.F, []⟩ d.f id).p.length ≤ _; omega, ⟨Int.le_refl _, by show d.last ≤ d.last + 1; omega⟩, ⟨Int.le_refl _, by show d.calls ≤ d.calls + 1; omega⟩, rfl, rfl⟩
  have := nowF_len d.F
  show (nowF d.F).length + 0 ≤ _
  omega
theorem crash_up (d : Dk) (c : Bs) : UpB d (crashD d c) := by
  refine ⟨?_, fun N h id => ?_, ⟨Int.le_refl _, by show d.last ≤ d.last + 1; omega⟩, ⟨Int.le_refl _, by show d.calls ≤ d.calls + 1; omega⟩, rfl, rfl⟩
  · have := behF_len d.F (headC c)
    show (behF d.F (headC c)).length + 0 ≤ _
    omega
  · have := trim_p (F := ⟨behF d.F (headC c), []⟩) (crashS_p (idsF d.F) d.f c.tail N h) id
    show (trim ⟨behF d.F (headC c), []⟩ (crashS d.f (idsF d.F) c.tail) id).p.length ≤ _
    omega
theorem pow_B {d : Dk} {N : Nat} {call : Dk → Dk × Int} (h : DkB d N) (hc : ∀ d', UpB d' (call d').1 ∧ (call d').1.fu = d'.fu ∧ (call d').1.calls = d'.calls) : DkB (powD d call).1 (N + 1) := by
  unfold powD
  split
  · have h' := h.mono (Nat.le_succ N)
    exact ⟨h'.fo, h'.p, h'.last, h'.calls, h'.fu, h'.lb, h'.lf⟩
  · obtain ⟨u, e1, e2⟩ := hc { d with fu := d.fu.map (· - 1), calls := d.calls + 1 }
    have hcl := h.calls
    refine ⟨Nat.le_trans u.fo (by have := h.fo; show d.F.L.length + d.F.P.length + 1 ≤ _; omega), u.p N h.p, ?_, ?_, ?_, ?_, ?_⟩
    · have := u.last
      have hl := h.last
      have e3 : ({ d with fu := d.fu.map (· - 1), calls := d.calls + 1 } : Dk).last = d.last := rfl
      rw [e3] at this
      omega
    · rw [e2]
      show 0 ≤ d.calls + 1 ∧ d.calls + 1 ≤ _
      omega
    · rw [e1]; exact fu_map h.fu
    · rw [u.lb]; exact h.lb
    · rw [u.lf]; exact h.lf
theorem do_B {d : Dk} {N : Nat} (h : DkB d N) (c : Cl) (hn : c.n ≤ 9223372036854775807) : DkB (doD d c).1 (N + 1) := by
  unfold doD
  split
  · exact pow_B h (fun d' => cr_up d' _)
  split
  · exact pow_B h (fun d' => file_up d' _ _ (fun x => app_p x _))
  split
  · exact pow_B h (fun d' => file_up d' _ _ (fun x => cut_p x _))
  split
  · exact pow_B h (fun d' => file_up d' _ _ (fun x => Nat.zero_le _))
  split
  · exact pow_B h (fun d' => ⟨ch_up d' _, rfl, rfl⟩)
  split
  · exact pow_B h (fun d' => ⟨ch_up d' _, rfl, rfl⟩)
  split
  · exact pow_B h (fun d' => ⟨sd_up d', rfl, rfl⟩)
  split
  · have h' := h.mono (Nat.le_succ N)
    refine ⟨h'.fo, h'.p, h'.last, h'.calls, fun n hn' => ?_, h'.lb, h'.lf⟩
    have hn' : (if c.n ≥ 0 then some c.n else none) = some n := hn'
    split at hn'
    · injection hn' with hn'; omega
    · cases hn'
  split
  · exact (crash_up d c.data).dk h (fun n hn => by cases hn)
  · exact h.mono (Nat.le_succ N)
theorem new_B (lb lf : Int) (h1 : lb ≤ 9223372036854775807) (h2 : lf ≤ 9223372036854775807) : DkB (newD lb lf) 0 :=
  ⟨Nat.le_refl _, fun id => Nat.le_refl _, ⟨Int.le_refl _, Int.le_refl _⟩, ⟨Int.le_refl _, Int.le_refl _⟩, (fun n hn => by cases hn), h1, h2⟩
/-! ### what lives says -/
def sA : ByteArray := ⟨#[97]⟩
theorem sA_disk : DiskP sA := by
  refine ⟨fun i hi => ?_, by decide, by decide⟩
  have : i = 0 := by
    have hi : i < 1 := hi
    omega
  subst this
  decide
theorem pow_on {d : Dk} (h1 : d.down = false) (h2 : d.fu = none) (call : Dk → Dk × Int) : powD d call = call { d with fu := none, calls := d.calls + 1 } := by
  have ho : offD d = false := by unfold offD; rw [h1, h2]; rfl
  unfold powD
  rw [if_neg (by rw [ho]; simp), h2]; rfl
theorem file_ok {d : Dk} {s : ByteArray} {id : Int} {g : Ino → Ino × Int} (hf : findN s (nowF d.F) = some id) (h0 : (g (d.f id)).2 = 0) (hr : ¬ (roomI (g (d.f id)).1 > roomI (d.f id) ∧ takenF d.F (updF d.f id (g (d.f id)).1) > d.lb)) : fileD d s g = ({ d with f := updF d.f id (g (d.f id)).1 }, 0) := by
  unfold fileD
  rw [hf]
  dsimp only
  rw [if_neg (by rw [h0]; simp), if_neg hr]
def cA : Ch := ⟨1, sA, ⟨#[]⟩, 1⟩
def FA : Fo := ⟨[], [cA]⟩
def FB : Fo := ⟨[(sA, 1)], []⟩
def XA : Ino := ⟨[], [⟨false, 0, [120, 121]⟩]⟩
def XB : Ino := ⟨[120, 121], []⟩
def XC : Ino := ⟨[120, 121], [⟨false, 2, [122]⟩]⟩
noncomputable def D1 : Dk := { newD 100 4 with F := FA, f := trim FA (newD 100 4).f, last := 1, calls := 1 }
noncomputable def D2 : Dk := { D1 with f := updF D1.f 1 XA, calls := 2 }
noncomputable def D3 : Dk := { D2 with f := updF D2.f 1 XB, calls := 3 }
noncomputable def D4 : Dk := { D3 with F := FB, f := trim FB D3.f, calls := 4 }
noncomputable def D5 : Dk := { D4 with f := updF D4.f 1 XC, calls := 5 }
theorem lv1 : powD (newD 100 4) (fun d => crD d sA) = (D1, 0) := by
  rw [pow_on rfl rfl]
  have hw : wrongF ⟨[], []⟩ ⟨1, sA, ⟨#[]⟩, 0 + 1⟩ = 0 := by
    unfold wrongF
    rw [if_pos rfl, if_neg (not_not_intro sA_disk), if_neg (by decide)]
  have hd : doF ⟨[], []⟩ ⟨1, sA, ⟨#[]⟩, 0 + 1⟩ = FA := by unfold doF; rw [if_pos hw]; rfl
  unfold crD
  rw [if_neg (by decide)]
  show (if wrongF ⟨[], []⟩ ⟨1, sA, ⟨#[]⟩, 0 + 1⟩ = 0 then _ else _) = _
  rw [if_pos hw]
  unfold chD
  show (({ newD 100 4 with F := doF ⟨[], []⟩ ⟨1, sA, ⟨#[]⟩, 0 + 1⟩, f := trim (doF ⟨[], []⟩ ⟨1, sA, ⟨#[]⟩, 0 + 1⟩) (newD 100 4).f, last := 0 + 1, calls := 0 + 1 } : Dk), (0 : Int)) = _
  rw [hd]; rfl
theorem fA : findN sA (nowF FA) = some 1 := by decide
theorem fB : findN sA (nowF FB) = some 1 := by decide
theorem iA : idsF FA = [1] := by decide
theorem iB : idsF FB = [1] := by decide
theorem tk1 {F : Fo} (h : idsF F = [1]) (f : Int → Ino) : takenF F f = roomI (f 1) := by unfold takenF; rw [h]; simp
theorem D1f : D1.f 1 = zI := by show trim FA (newD 100 4).f 1 = _; unfold trim; split <;> rfl
theorem upd1 (f : Int → Ino) (x : Ino) : updF f 1 x 1 = x := by unfold updF; rw [if_pos rfl]
theorem D2f : D2.f 1 = XA := upd1 D1.f XA
theorem D3f : D3.f 1 = XB := upd1 D2.f XB
theorem D4f : D4.f 1 = XB := by show trim FB D3.f 1 = _; rw [trim_in (by rw [iB]; simp), D3f]
theorem D5f : D5.f 1 = XC := upd1 D4.f XC
theorem lv2 : powD D1 (fun d => fileD d sA (fun x => appI x [120, 121])) = (D2, 0) := by
  rw [pow_on rfl rfl]
  have e : appI zI [120, 121] = (XA, 0) := rfl
  have h := file_ok (d := { D1 with fu := none, calls := D1.calls + 1 }) (s := sA) (id := 1) (g := fun x => appI x [120, 121]) fA (by show (appI (D1.f 1) [120, 121]).2 = 0; rw [D1f, e]) (by
    show ¬ (roomI (appI (D1.f 1) [120, 121]).1 > roomI (D1.f 1) ∧ takenF FA (updF D1.f 1 (appI (D1.f 1) [120, 121]).1) > 100)
    rw [tk1 iA, upd1, D1f, e]; decide)
  rw [h]
  show (({ D1 with f := updF D1.f 1 (appI (D1.f 1) [120, 121]).1, calls := 1 + 1 } : Dk), (0 : Int)) = _
  rw [D1f, e]; rfl
theorem lv3 : powD D2 (fun d => fileD d sA (fun x => (syncI x, 0))) = (D3, 0) := by
  rw [pow_on rfl rfl]
  have e : syncI XA = XB := rfl
  have h := file_ok (d := { D2 with fu := none, calls := D2.calls + 1 }) (s := sA) (id := 1) (g := fun x => (syncI x, 0)) fA rfl (by
    show ¬ (roomI (syncI (D2.f 1)) > roomI (D2.f 1) ∧ takenF FA (updF D2.f 1 (syncI (D2.f 1))) > 100)
    rw [D2f, e]; intro h; exact absurd h.1 (by decide))
  rw [h]
  show (({ D2 with f := updF D2.f 1 (syncI (D2.f 1)), calls := 2 + 1 } : Dk), (0 : Int)) = _
  rw [D2f, e]; rfl
theorem lv4 : powD D3 sdD = (D4, 0) := by
  rw [pow_on rfl rfl]
  unfold sdD
  have e : (⟨nowF FA, []⟩ : Fo) = FB := by
    have : nowF FA = [(sA, 1)] := by decide
    rw [this]; rfl
  show (({ D3 with F := ⟨nowF FA, []⟩, f := trim ⟨nowF FA, []⟩ D3.f, calls := 3 + 1 } : Dk), (0 : Int)) = _
  rw [e]; rfl
theorem lv5 : powD D4 (fun d => fileD d sA (fun x => appI x [122])) = (D5, 0) := by
  rw [pow_on rfl rfl]
  have e : appI XB [122] = (XC, 0) := rfl
  have h := file_ok (d := { D4 with fu := none, calls := D4.calls + 1 }) (s := sA) (id := 1) (g := fun x => appI x [122]) fB (by show (appI (D4.f 1) [122]).2 = 0; rw [D4f, e]) (by
    show ¬ (roomI (appI (D4.f 1) [122]).1 > roomI (D4.f 1) ∧ takenF FB (updF D4.f 1 (appI (D4.f 1) [122]).1) > 100)
    rw [tk1 iB, upd1, D4f, e]; decide)
  rw [h]
  show (({ D4 with f := updF D4.f 1 (appI (D4.f 1) [122]).1, calls := 4 + 1 } : Dk), (0 : Int)) = _
  rw [D4f, e]; rfl
theorem lv6 : lookD (crashD D5 []) sA = ([120, 121], 0) := by
  have eF : (crashD D5 []).F = FB := by
    show (⟨behF FB 0, []⟩ : Fo) = FB
    have : behF FB 0 = [(sA, 1)] := by decide
    rw [this]; rfl
  have ef : (crashD D5 []).f 1 = XB := by
    show trim ⟨behF FB 0, []⟩ (crashS D5.f (idsF FB) []) 1 = XB
    have e1 : (⟨behF FB 0, []⟩ : Fo) = FB := eF
    rw [e1, trim_in (by rw [iB]; simp), iB]
    show updF D5.f 1 (crashI (D5.f 1) []).1 1 = _
    rw [upd1, D5f]; rfl
  unfold lookD
  rw [if_neg (by show ¬ false = true; simp), eF, fB]
  show (nowI ((crashD D5 []).f 1), (0 : Int)) = _
  rw [ef]; decide
theorem lv7 : readD (crashD D5 []) sA 0 2 = ([120, 121], 0) := by
  unfold readD
  rw [lv6]
  decide
end Go.Proofs.YtfdhaeglhkmmpaaGreat
/- chapter 12: Do, lives; a nil disk -/
namespace Go.Proofs.YtfdhaeglhkmmpaaGreat
open Go.GV Go.RowKit Go.Lib
set_option linter.unusedVariables false
set_option linter.unusedSimpArgs false
/-- a call as it lies -/
def ClP (w : World) (cs : List Value) (c : Cl) : Prop := ∃ (B : Option Addr) (m k : Nat), cs = [.int .i64 c.k, .string c.nm, .string c.to, .slice B m k, .int .i64 c.n] ∧ Sl w 1 B m (bys c.data) ∧ m ≤ k
structure ClB (c : Cl) : Prop where
  nm : c.nm.size ≤ 1099511627775
  to : c.to.size ≤ 1099511627775
  data : c.data.length ≤ 1099511627775
  n : -9223372036854775808 ≤ c.n ∧ c.n ≤ 9223372036854775807
theorem ClP.fr {S : Nat → Prop} {w w' : World} {cs : List Value} {c : Cl} (h : ClP w cs c) (f : Fr S w w') (hS : ∀ k, S k → Alien w k) : ClP w' cs c := by
  obtain ⟨B, m, k, e, h1, h2⟩ := h
  exact ⟨B, m, k, e, by_fr h1 f hS, h2⟩
set_option maxHeartbeats 2000000 in
theorem Do_calls (db r : Nat) (d : Dk) (cs : List Value) (c : Cl) (w : World) (N : Nat) (h : DkAt w db r d) (hI : DkI d) (hB : DkB d N) (hN : N ≤ 349524) (hc : ClP w cs c) (hcb : ClB c) :
    Calls Tryz.prog 8 #[.pointer (some ⟨db, 0, none⟩), ofL cs] w fun e w' => Fr (DS db r) w w' ∧ e = .returned (.int .i64 (doD d c).2) ∧ DkAt w' db r (doD d c).1 := by
  refine (F8.of (some ⟨db, 0, none⟩) cs w (Q := fun v w' => Fr (DS db r) w w' ∧ v = .int .i64 (doD d c).2 ∧ DkAt w' db r (doD d c).1) ?_).mono (fun e w' ⟨v, he, hf, hv, h⟩ => ⟨hf, by rw [he, hv], h⟩)
  obtain ⟨B, m, k, rfl, hC, hmk⟩ := hc
  have hm := by_n hC
  have h1 := hcb.nm
  have h2 := hcb.to
  have h3 := hcb.data
  refine rec_new (fun b1 w2 f1 hb1 r1 => ⟨_, r1.cell (o := 0) rfl, ?_⟩)
  have hw := h.fr0 f1
  have hC2 := f1.sl hC (fun _ _ _ h => h)
  have fin : ∀ {v : Int} {d' : Dk} {u : World}, Fr (DS db r) w2 u → (doD d c) = (d', v) → DkAt u db r d' → Fr (DS db r) w u ∧ Value.int .i64 v = .int .i64 (doD d c).2 ∧ DkAt u db r (doD d c).1 := by
    intro v d' u fu e hu
    rw [e]
    exact ⟨f1.trans fu (fun _ _ h => h.elim) (fun _ _ h => h), rfl, hu⟩
  refine vIf_mk (fun k1 => ?_) (fun k1 => vIf_mk (fun k2 => ?_) (fun k2 => vIf_mk (fun k3 => ?_) (fun k3 => vIf_mk (fun k4 => ?_) (fun k4 => vIf_mk (fun k5 => ?_) (fun k5 => vIf_mk (fun k6 => ?_) (fun k6 => vIf_mk (fun k7 => ?_) (fun k7 => vIf_mk (fun k8 => ?_) (fun k8 => vIf_mk (fun k9 => ?_) (fun k9 => ?_)))))))))
  · have k1 : c.k = 1 := by simpa using k1
    refine ⟨_, r1.cell (o := 0 + 1) rfl, (Create_calls db r d c.nm w2 N hw hI hB hN h1).mono ?_⟩
    rintro e u ⟨fu, rfl, hu⟩
    exact ⟨_, rfl, fin fu (by unfold doD; rw [if_pos k1]) hu⟩
  · have k1 : ¬ c.k = 1 := by simpa using k1
    have k2 : c.k = 2 := by simpa using k2
    refine ⟨_, r1.cell (o := 0 + 1) rfl, _, _, _, r1.cell (o := 0 + 3) rfl, (Append_calls db r d c.nm B m k c.data w2 N hw hI hB hN hC2 (by omega)).mono ?_⟩
    rintro e u ⟨fu, rfl, hu⟩
    exact ⟨_, rfl, fin fu (by unfold doD; rw [if_neg k1, if_pos k2]) hu⟩
  · have k1 : ¬ c.k = 1 := by simpa using k1
    have k2 : ¬ c.k = 2 := by simpa using k2
    have k3 : c.k = 3 := by simpa using k3
    refine ⟨_, r1.cell (o := 0 + 1) rfl, _, r1.cell (o := 0 + 4) rfl, (Cut_calls db r d c.nm c.n w2 N hw hI hB hN).mono ?_⟩
    rintro e u ⟨fu, rfl, hu⟩
    exact ⟨_, rfl, fin fu (by unfold doD; rw [if_neg k1, if_neg k2, if_pos k3]) hu⟩
  · have k1 : ¬ c.k = 1 := by simpa using k1
    have k2 : ¬ c.k = 2 := by simpa using k2
    have k3 : ¬ c.k = 3 := by simpa using k3
    have k4 : c.k = 4 := by simpa using k4
    refine ⟨_, r1.cell (o := 0 + 1) rfl, (Sync_calls db r d c.nm w2 N hw hI hB hN).mono ?_⟩
    rintro e u ⟨fu, rfl, hu⟩
    exact ⟨_, rfl, fin fu (by unfold doD; rw [if_neg k1, if_neg k2, if_neg k3, if_pos k4]) hu⟩
  · have k1 : ¬ c.k = 1 := by simpa using k1
    have k2 : ¬ c.k = 2 := by simpa using k2
    have k3 : ¬ c.k = 3 := by simpa using k3
    have k4 : ¬ c.k = 4 := by simpa using k4
    have k5 : c.k = 5 := by simpa using k5
    refine ⟨_, r1.cell (o := 0 + 1) rfl, _, r1.cell (o := 0 + 2) rfl, (Rename_calls db r d c.nm c.to w2 N hw hI hB hN h1 h2).mono ?_⟩
    rintro e u ⟨fu, rfl, hu⟩
    exact ⟨_, rfl, fin fu (by unfold doD; rw [if_neg k1, if_neg k2, if_neg k3, if_neg k4, if_pos k5]) hu⟩
  · have k1 : ¬ c.k = 1 := by simpa using k1
    have k2 : ¬ c.k = 2 := by simpa using k2
    have k3 : ¬ c.k = 3 := by simpa using k3
    have k4 : ¬ c.k = 4 := by simpa using k4
    have k5 : ¬ c.k = 5 := by simpa using k5
    have k6 : c.k = 6 := by simpa using k6
    refine ⟨_, r1.cell (o := 0 + 1) rfl, (Remove_calls db r d c.nm w2 N hw hI hB hN h1).mono ?_⟩
    rintro e u ⟨fu, rfl, hu⟩
    exact ⟨_, rfl, fin fu (by unfold doD; rw [if_neg k1, if_neg k2, if_neg k3, if_neg k4, if_neg k5, if_pos k6]) hu⟩
  · have k1 : ¬ c.k = 1 := by simpa using k1
    have k2 : ¬ c.k = 2 := by simpa using k2
    have k3 : ¬ c.k = 3 := by simpa using k3
    have k4 : ¬ c.k = 4 := by simpa using k4
    have k5 : ¬ c.k = 5 := by simpa using k5
    have k6 : ¬ c.k = 6 := by simpa using k6
    have k7 : c.k = 7 := by simpa using k7
    refine (SyncDir_calls db r d w2 N hw hI hB hN).mono ?_
    rintro e u ⟨fu, rfl, hu⟩
    exact ⟨_, rfl, fin fu (by unfold doD; rw [if_neg k1, if_neg k2, if_neg k3, if_neg k4, if_neg k5, if_neg k6, if_pos k7]) hu⟩
  · have k1 : ¬ c.k = 1 := by simpa using k1
    have k2 : ¬ c.k = 2 := by simpa using k2
    have k3 : ¬ c.k = 3 := by simpa using k3
    have k4 : ¬ c.k = 4 := by simpa using k4
    have k5 : ¬ c.k = 5 := by simpa using k5
    have k6 : ¬ c.k = 6 := by simpa using k6
    have k7 : ¬ c.k = 7 := by simpa using k7
    have k8 : c.k = 8 := by simpa using k8
    refine ⟨_, r1.cell (o := 0 + 4) rfl, (Fuse_calls db r d c.n w2 hw).mono ?_⟩
    rintro e u ⟨fu, rfl, hu⟩
    exact ⟨rfl, fin fu (by unfold doD; rw [if_neg k1, if_neg k2, if_neg k3, if_neg k4, if_neg k5, if_neg k6, if_neg k7, if_pos k8]) hu⟩
  · have k1 : ¬ c.k = 1 := by simpa using k1
    have k2 : ¬ c.k = 2 := by simpa using k2
    have k3 : ¬ c.k = 3 := by simpa using k3
    have k4 : ¬ c.k = 4 := by simpa using k4
    have k5 : ¬ c.k = 5 := by simpa using k5
    have k6 : ¬ c.k = 6 := by simpa using k6
    have k7 : ¬ c.k = 7 := by simpa using k7
    have k8 : ¬ c.k = 8 := by simpa using k8
    have k9 : c.k = 9 := by simpa using k9
    refine ⟨_, _, _, r1.cell (o := 0 + 3) rfl, (Crash_calls db r d B m k c.data w2 N hw hI hB (by omega) hC2 hmk (by omega)).mono ?_⟩
    rintro e u ⟨fu, rfl, hu⟩
    exact ⟨rfl, fin fu (by unfold doD; rw [if_neg k1, if_neg k2, if_neg k3, if_neg k4, if_neg k5, if_neg k6, if_neg k7, if_neg k8, if_pos k9]) hu⟩
  · have k1 : ¬ c.k = 1 := by simpa using k1
    have k2 : ¬ c.k = 2 := by simpa using k2
    have k3 : ¬ c.k = 3 := by simpa using k3
    have k4 : ¬ c.k = 4 := by simpa using k4
    have k5 : ¬ c.k = 5 := by simpa using k5
    have k6 : ¬ c.k = 6 := by simpa using k6
    have k7 : ¬ c.k = 7 := by simpa using k7
    have k8 : ¬ c.k = 8 := by simpa using k8
    have k9 : ¬ c.k = 9 := by simpa using k9
    exact fin (Fr.refl _ _) (by unfold doD; rw [if_neg k1, if_neg k2, if_neg k3, if_neg k4, if_neg k5, if_neg k6, if_neg k7, if_neg k8, if_neg k9]) hw
/-! ### lives -/
theorem str_slice {w : World} {B : Option Addr} {l : List UInt8} {K : Nat → World → Prop} (hK : ∀ b w', Fr (fun _ => False) w w' → Sl w' 1 (some ⟨b, 0, none⟩) l.length (bys l) → K b w') : nw w (bys l) 5 fun b w1 => mkS w1 b fun w2 => K b w2 := by
  refine rec_new (fun b w1 f1 hb r1 => mkS_mk r1 (fun w2 f2 hc => hK b w2 (f1.trans f2 (fun _ _ h => h) (fun k hk h => by omega)) ⟨by simp [bys], fun h0 => ⟨b, 0, rfl, fun j v hj => ?_⟩⟩))
  rw [hc]
  exact r1.cell (by rw [Nat.zero_add]; exact hj)
theorem doD1 (d : Dk) (s : ByteArray) : doD d ⟨1, s, ⟨#[]⟩, [], 0⟩ = powD d (fun d => crD d s) := by unfold doD; rw [if_pos rfl]
theorem doD2 (d : Dk) (s : ByteArray) (b : Bs) : doD d ⟨2, s, ⟨#[]⟩, b, 0⟩ = powD d (fun d => fileD d s (fun x => appI x b)) := by unfold doD; rw [if_neg (by show ¬ (2 : Int) = 1; decide), if_pos rfl]
theorem doD4 (d : Dk) (s : ByteArray) : doD d ⟨4, s, ⟨#[]⟩, [], 0⟩ = powD d (fun d => fileD d s (fun x => (syncI x, 0))) := by
  unfold doD
  rw [if_neg (by show ¬ (4 : Int) = 1; decide), if_neg (by show ¬ (4 : Int) = 2; decide), if_neg (by show ¬ (4 : Int) = 3; decide), if_pos rfl]
theorem doD7 (d : Dk) : doD d ⟨7, ⟨#[]⟩, ⟨#[]⟩, [], 0⟩ = powD d sdD := by
  unfold doD
  rw [if_neg (by show ¬ (7 : Int) = 1; decide), if_neg (by show ¬ (7 : Int) = 2; decide), if_neg (by show ¬ (7 : Int) = 3; decide), if_neg (by show ¬ (7 : Int) = 4; decide), if_neg (by show ¬ (7 : Int) = 5; decide), if_neg (by show ¬ (7 : Int) = 6; decide), if_pos rfl]
/-- a disk that may be, behind a call of its own -/
structure DkG (d : Dk) (N : Nat) : Prop where
  i : DkI d
  b : DkB d N
theorem DkG.step {d d' : Dk} {N : Nat} {v : Int} {c : Cl} (h : DkG d N) (hn : c.n ≤ 9223372036854775807) (e : doD d c = (d', v)) : DkG d' (N + 1) := by
  have h1 := (do_I h.i h.b.last.1 c).1
  have h2 := do_B h.b c hn
  rw [e] at h1 h2
  exact ⟨h1, h2⟩
theorem DkG.p {d : Dk} {N : Nat} (h : DkG d N) (hN : N ≤ 349525) (id : Int) : (d.f id).p.length ≤ 1099511627775 := by have := h.b.p id; omega
theorem DkG.fo {d : Dk} {N : Nat} (h : DkG d N) (hN : N ≤ 349525) : FoB d.F := by have := h.b.fo; unfold FoB; omega
set_option maxHeartbeats 2000000 in
theorem lives_calls (w : World) : Calls Tryz.prog 14 #[] w fun e w' => e = .returned (.bool true) ∧ Fr (fun _ => False) w w' := by
  refine (F14.of w (Q := fun v w' => v = .bool true ∧ Fr (fun _ => False) w w') ?_).mono (fun e w' ⟨v, he, hv, h⟩ => ⟨by rw [he, hv], h⟩)
  refine (New_calls 100 4 w).mono ?_
  rintro e w1 ⟨f1, db, r, rfl, h1, hdb, hr⟩
  have hDS : ∀ k, k < w.heap.size → ¬ DS db r k := by rintro k hk (rfl | rfl) <;> omega
  have up : ∀ {u v : World}, Fr (fun _ => False) w u → Fr (DS db r) u v → Fr (fun _ => False) w v := fun fu fv => fu.trans fv (fun _ _ h => h) (fun k hk h => hDS k hk h)
  have G0 : DkG (newD 100 4) 0 := ⟨new_I _ _, new_B _ _ (by decide) (by decide)⟩
  have e1 := (doD1 (newD 100 4) sA).trans lv1
  have G1 := G0.step (by show (0 : Int) ≤ _; decide) e1
  have e2 := (doD2 D1 sA [120, 121]).trans lv2
  have G2 := G1.step (by show (0 : Int) ≤ _; decide) e2
  have e3 := (doD4 D2 sA).trans lv3
  have G3 := G2.step (by show (0 : Int) ≤ _; decide) e3
  have e4 := (doD7 D3).trans lv4
  have G4 := G3.step (by show (0 : Int) ≤ _; decide) e4
  have e5 := (doD2 D4 sA [122]).trans lv5
  have G5 := G4.step (by show (0 : Int) ≤ _; decide) e5
  refine ⟨_, rfl, vIf_f rfl ((Create_calls db r _ sA w1 0 h1 G0.i G0.b (by decide) (by decide)).mono ?_)⟩
  rintro e w4 ⟨f4, rfl, h4⟩
  rw [lv1] at h4
  have g4 := up f1 f4
  refine ⟨_, rfl, str_slice (B := none) (l := [120, 121]) (fun b7 w9 f9 hs9 => (Append_calls db r _ sA _ 2 2 [120, 121] w9 1 (h4.fr0 f9) G1.i G1.b (by decide) hs9 (by decide)).mono ?_)⟩
  rintro e w10 ⟨f10, rfl, h10⟩
  have g10 := up (g4.trans1 f9) f10
  rw [lv2] at h10
  refine ⟨_, rfl, (Sync_calls db r _ sA w10 2 h10 G2.i G2.b (by decide)).mono ?_⟩
  rintro e w13 ⟨f13, rfl, h13⟩
  have g13 := up g10 f13
  rw [lv3] at h13
  refine ⟨_, rfl, (SyncDir_calls db r _ w13 3 h13 G3.i G3.b (by decide)).mono ?_⟩
  rintro e w16 ⟨f16, rfl, h16⟩
  have g16 := up g13 f16
  rw [lv4] at h16
  refine ⟨_, rfl, str_slice (B := none) (l := [122]) (fun b19 w21 f21 hs21 => (Append_calls db r _ sA _ 1 1 [122] w21 4 (h16.fr0 f21) G4.i G4.b (by decide) hs21 (by decide)).mono ?_)⟩
  rintro e w22 ⟨f22, rfl, h22⟩
  have g22 := up (g16.trans1 f21) f22
  rw [lv5] at h22
  rw [lv1, lv2, lv3, lv4, lv5]
  refine ⟨_, rfl, rec_new (fun b25 w26 f26 hb25 r26 => jnC_mk (loop_rule (fun s x => x = w26 ∧ ∃ i : Nat, i ≤ 5 ∧ s = (some ⟨db, 0, none⟩, ((some ⟨b25, 0, none⟩), 5, 5), (i : Int), ())) (fun s _ => (5 - s.2.2.1).toNat) ?_ _ _ ⟨rfl, 0, by omega, rfl⟩))⟩
  rintro s x C ⟨rfl, i, hi, rfl⟩ hC _
  have h26 := h22.fr0 f26
  have g26 := g22.trans1 f26
  refine vIf_mk (fun hlt => ?_) (fun hge => ?_)
  · have hlt : (i : Int) < ((5 : Nat) : Int) := of_decide_eq_true hlt
    have hsl : Sl x 1 (some ⟨b25, 0, none⟩) 5 (ivs [0, 0, 0, 0, 0]) := ⟨rfl, fun _ => ⟨b25, 0, rfl, rec_all r26⟩⟩
    have gi : ([0, 0, 0, 0, 0] : List Int)[i]? = some 0 := by
      match i, hlt with
      | 0, _ => rfl
      | 1, _ => rfl
      | 2, _ => rfl
      | 3, _ => rfl
      | 4, _ => rfl
      | i + 5, h => omega
    refine sl_rd hsl (by omega) gi (vIf_f rfl (jnC_mk (hC _ _ ⟨rfl, i + 1, by omega, by rw [ei i (by omega)]⟩ ?_)))
    show ((5 : Int) - IntKind.wrap .i64 ((i : Int) + 1)).toNat < ((5 : Int) - (i : Int)).toNat
    rw [ei i (by omega)]; omega
  · refine (Crash_calls db r _ none 0 0 [] x 5 h26 G5.i G5.b (by decide) (Sl.nil _ _ _) (Nat.le_refl _) (by decide)).mono ?_
    rintro e w30 ⟨f30, rfl, h30⟩
    have g30 := up g26 f30
    have G6 : DkG (crashD D5 []) 6 := ⟨crash_I G5.i [], (crash_up D5 []).dk G5.b (fun n hn => by cases hn)⟩
    refine ⟨rfl, (Read_calls db r _ sA 0 2 w30 h30 (G6.fo (by decide)) G6.i.ino (G6.p (by decide))).mono ?_⟩
    rintro e w32 ⟨f32, B, k, rfl, hB⟩
    rw [lv7] at hB ⊢
    have h32 := h30.fr0 f32
    refine ⟨_, _, _, _, rfl, (Size_calls db r _ sA w32 h32 (G6.fo (by decide)) G6.i.ino (G6.p (by decide))).mono ?_⟩
    rintro e w38 ⟨rfl, f38⟩
    rw [lv6]
    refine ⟨_, _, rfl, vIf_t rfl (b2s_sl (f38.sl hB (fun _ _ _ h => h)) (vIf_t (by show ((⟨#[120, 121]⟩ : ByteArray).toList == (⟨#[120, 121]⟩ : ByteArray).toList) = true; simp) (vIf_t rfl (vIf_t rfl ((Calls_calls db r _ w38 (h32.fr0 f38)).mono ?_)))))⟩
    rintro e w43 ⟨rfl, rfl⟩
    exact ⟨_, rfl, rfl, (g30.trans1 f32).trans1 f38⟩
end Go.Proofs.YtfdhaeglhkmmpaaGreat
/- chapter 12: a nil disk; the laws DiskNone, DiskRoom, DiskLasts; printed by tools/mk12n.py -/
namespace Go.Proofs.YtfdhaeglhkmmpaaGreat
open Go.GV Go.RowKit Go.Lib
set_option linter.unusedVariables false
set_option linter.unusedSimpArgs false
/-! ### rows of calls -/
def KSl (w : World) (A : Option Addr) (n : Nat) (l : List Cl) : Prop := ∃ vs, Sl w 5 A n vs ∧ l.length = n ∧ Ech 5 (ClP w) vs l
theorem KSl.fr {S : Nat → Prop} {w w' : World} {A : Option Addr} {n : Nat} {l : List Cl} (h : KSl w A n l) (f : Fr S w w') (hS : ∀ k, S k → Alien w k) : KSl w' A n l := by
  obtain ⟨vs, h1, h2, h3⟩ := h
  refine ⟨vs, f.sl h1 (fun h0 k hk hs => ?_), h2, h3.mono (fun cs x hx => hx.fr f hS)⟩
  have ha := hS k hs
  have gx : l[0]? = some (l[0]'(by omega)) := List.getElem?_eq_getElem (by omega)
  obtain ⟨b, o, rfl, hc, hl, B, m, k', e, _⟩ := ech_rd h1 h3 (by omega) gx (by omega)
  injection hk with hk
  have hk : b = k := hk
  subst hk
  rw [e] at hc
  exact ha.s _ _ (hc 1 _ rfl)
theorem KSl.len {w : World} {A : Option Addr} {n : Nat} {l : List Cl} (h : KSl w A n l) : l.length = n := by
  obtain ⟨_, _, h2, _⟩ := h; exact h2
theorem k_rd {w : World} {A : Option Addr} {n : Nat} {l : List Cl} (h : KSl w A n l) {i : Nat} {x : Cl} (hi : l[i]? = some x) (hin : i < n) {K : List Value → Prop} (hK : ∀ cs, ClP w cs x → K cs) :
    dr A fun b o => gd (decide (0 ≤ (i : Int))) (gd (decide ((i : Int) < ((n : Nat) : Int))) (ldA 5 w b (o + ((i : Int)).toNat * 5) K)) := by
  obtain ⟨vs, hs, _, hE⟩ := h
  exact el_all hs hE (by omega) hi hin (fun cs _ hx => hK cs hx)
theorem run_step {l : List Cl} {i : Nat} {x : Cl} (h : l[i]? = some x) (d : Dk) : runD d (l.take (i + 1)) = (doD (runD d (l.take i)) x).1 := by
  rw [List.take_add_one, h]
  unfold runD
  rw [List.foldl_append]; rfl
theorem DkG.do {d : Dk} {N : Nat} (h : DkG d N) {c : Cl} (hc : ClB c) : DkG (doD d c).1 (N + 1) := h.step hc.n.2 rfl
theorem DkG.crash {d : Dk} {N : Nat} (h : DkG d N) (c : Bs) : DkG (crashD d c) (N + 1) := ⟨crash_I h.i c, (crash_up d c).dk h.b (fun n hn => by cases hn)⟩
/-! ### what was synced lasts -/
def sIt : ByteArray := ⟨#[105, 116]⟩
end Go.Proofs.YtfdhaeglhkmmpaaGreat
/- chapter 12, the document's: how its disk lies; get, tidy, Taken, set -/
namespace Go.Proofs.YtfdhaeglhkmmpaaGreat
open Go.GV Go.RowKit Go.Lib
set_option linter.unusedVariables false
set_option linter.unusedSimpArgs false
abbrev Kpt := Int × Ino
def KpP (w : World) (cs : List Value) (x : Kpt) : Prop := ∃ u v, cs = [.int .i64 x.1, u, v] ∧ InoAt w [u, v] x.2
def KtSl (w : World) (A : Option Addr) (n : Nat) (l : List Kpt) : Prop := ∃ vs, Sl w 3 A n vs ∧ l.length = n ∧ Ech 3 (KpP w) vs l
theorem KpP.fr {S : Nat → Prop} {w w' : World} {cs : List Value} {x : Kpt} (h : KpP w cs x) (f : Fr S w w') (hS : ∀ k, S k → Alien w k) : KpP w' cs x := by
  obtain ⟨u, v, e, h1⟩ := h
  exact ⟨u, v, e, h1.fr f hS⟩
theorem KpP.frI {S : Nat → Prop} {w w' : World} {cs : List Value} {x : Kpt} (h : KpP w cs x) (f : Fr S w w') (hS : ∀ k, S k → AlienI w k) : KpP w' cs x := by
  obtain ⟨u, v, e, h1⟩ := h
  exact ⟨u, v, e, h1.frI f hS⟩
theorem KtSl.fr {S : Nat → Prop} {w w' : World} {A : Option Addr} {n : Nat} {l : List Kpt} (h : KtSl w A n l) (f : Fr S w w') (hS : ∀ k, S k → Alien w k) (hA : ∀ k, blkOf A = some k → ¬ S k) : KtSl w' A n l := by
  obtain ⟨vs, h1, h2, h3⟩ := h
  exact ⟨vs, f.sl h1 (fun _ k hk => hA k hk), h2, h3.mono (fun cs x hx => hx.fr f hS)⟩
theorem KtSl.fr0 {w w' : World} {A : Option Addr} {n : Nat} {l : List Kpt} (h : KtSl w A n l) (f : Fr (fun _ => False) w w') : KtSl w' A n l := h.fr f (fun _ h => h.elim) (fun _ _ h => h)
theorem KtSl.len {w : World} {A : Option Addr} {n : Nat} {l : List Kpt} (h : KtSl w A n l) : l.length = n := by
  obtain ⟨_, _, h2, _⟩ := h; exact h2
theorem KpP.one {w : World} {cs : List Value} {x : Kpt} (h : KpP w cs x) : cs.length = 3 ∧ (∀ v ∈ cs, v.oneCell' = true) ∧ ∀ v ∈ cs, (∀ x, v ≠ .int .u8 x) ∧ ∀ t, v ≠ .bool t := by
  obtain ⟨u, v, rfl, A, n, c, A', n', c', e, _⟩ := h
  injection e with e1 e
  injection e with e2 e
  subst e1; subst e2
  refine ⟨rfl, fun v hv => ?_, fun v hv => ?_⟩
  · simp only [List.mem_cons, List.not_mem_nil, or_false] at hv
    rcases hv with rfl | rfl | rfl <;> rfl
  · simp only [List.mem_cons, List.not_mem_nil, or_false] at hv
    rcases hv with rfl | rfl | rfl
    · exact ⟨(fun x h => by injection h with h; cases h), fun t => Value.noConfusion⟩
    · exact ⟨fun x => Value.noConfusion, fun t => Value.noConfusion⟩
    · exact ⟨fun x => Value.noConfusion, fun t => Value.noConfusion⟩
theorem kt_at {w : World} {A : Option Addr} {n : Nat} {l : List Kpt} (h : KtSl w A n l) {i : Nat} {x : Kpt} (hi : l[i]? = some x) (hin : i < n) :
    ∃ b o A1 n1 c1 A2 n2 c2, A = some ⟨b, o, none⟩ ∧ cellsAt w b (o + i * 3) [.int .i64 x.1, .slice A1 n1 c1, .slice A2 n2 c2] ∧ InoAt w [.slice A1 n1 c1, .slice A2 n2 c2] x.2 := by
  obtain ⟨vs, hs, _, hE⟩ := h
  obtain ⟨b, o, e, h1, h2, u, v, ecs, hX⟩ := ech_rd hs hE (by omega) hi hin
  have hX0 := hX
  obtain ⟨A1, n1, c1, A2, n2, c2, e2, _⟩ := hX0
  injection e2 with e3 e2
  injection e2 with e4 e2
  subst e3; subst e4
  rw [ecs] at h1
  exact ⟨b, o, A1, n1, c1, A2, n2, c2, e, h1, hX⟩
theorem kt_rdI {w : World} {A : Option Addr} {n : Nat} {l : List Kpt} (h : KtSl w A n l) {i : Nat} {x : Kpt} (hi : l[i]? = some x) (hin : i < n) {K : Int → Prop} (hK : K x.1) :
    dr A fun b o => gd (decide (0 ≤ (i : Int))) (gd (decide ((i : Int) < ((n : Nat) : Int))) (ldI .i64 w b (o + ((i : Int)).toNat * 3) K)) := by
  obtain ⟨b, o, A1, n1, c1, A2, n2, c2, rfl, hc, hX⟩ := kt_at h hi hin
  refine dr_mk (gd_mk (decide_eq_true (by omega)) (gd_mk (decide_eq_true (by omega)) ⟨x.1, ?_, hK⟩))
  rw [Int.toNat_natCast]
  exact hc 0 _ rfl
theorem kt_rdX {w : World} {A : Option Addr} {n : Nat} {l : List Kpt} (h : KtSl w A n l) {i : Nat} {x : Kpt} (hi : l[i]? = some x) (hin : i < n) {K : List Value → Prop} (hK : ∀ cs, InoAt w cs x.2 → K cs) :
    dr A fun b o => gd (decide (0 ≤ (i : Int))) (gd (decide ((i : Int) < ((n : Nat) : Int))) (ldA 2 w b ((o + ((i : Int)).toNat * 3) + 1) K)) := by
  obtain ⟨b, o, A1, n1, c1, A2, n2, c2, rfl, hc, hX⟩ := kt_at h hi hin
  refine dr_mk (gd_mk (decide_eq_true (by omega)) (gd_mk (decide_eq_true (by omega)) ⟨[.slice A1 n1 c1, .slice A2 n2 c2], rfl, fun j v hj => ?_, hK _ hX⟩))
  rw [Int.toNat_natCast]
  have := hc (1 + j) v (by rw [Nat.add_comm, List.getElem?_cons_succ]; exact hj)
  rw [← Nat.add_assoc] at this
  exact this
theorem kt_rdL {w : World} {A : Option Addr} {n : Nat} {l : List Kpt} (h : KtSl w A n l) {i : Nat} {x : Kpt} (hi : l[i]? = some x) (hin : i < n) {K : Option Addr → Nat → Nat → Prop} (hK : ∀ B m c, Sl w 1 B m (bys x.2.b) → K B m c) :
    dr A fun b o => gd (decide (0 ≤ (i : Int))) (gd (decide ((i : Int) < ((n : Nat) : Int))) (ldSl w b ((o + ((i : Int)).toNat * 3) + 1) K)) := by
  obtain ⟨b, o, A1, n1, c1, A2, n2, c2, rfl, hc, B, m, c, B', m', c', e, q1, q2, q3, q4⟩ := kt_at h hi hin
  injection e with e1 e
  injection e1 with e1 e2 e3
  subst e1; subst e2; subst e3
  refine dr_mk (gd_mk (decide_eq_true (by omega)) (gd_mk (decide_eq_true (by omega)) ⟨A1, n1, c1, ?_, hK A1 n1 c1 q1⟩))
  rw [Int.toNat_natCast]
  exact hc 1 _ rfl
theorem kt_rdP {w : World} {A : Option Addr} {n : Nat} {l : List Kpt} (h : KtSl w A n l) {i : Nat} {x : Kpt} (hi : l[i]? = some x) (hin : i < n) {K : Option Addr → Nat → Nat → Prop} (hK : ∀ B m c, WSl w B m x.2.p → K B m c) :
    dr A fun b o => gd (decide (0 ≤ (i : Int))) (gd (decide ((i : Int) < ((n : Nat) : Int))) (ldSl w b (((o + ((i : Int)).toNat * 3) + 1) + 1) K)) := by
  obtain ⟨b, o, A1, n1, c1, A2, n2, c2, rfl, hc, B, m, c, B', m', c', e, q1, q2, q3, q4⟩ := kt_at h hi hin
  injection e with e1 e
  injection e with e2 e
  injection e2 with e1 e2 e3
  subst e1; subst e2; subst e3
  refine dr_mk (gd_mk (decide_eq_true (by omega)) (gd_mk (decide_eq_true (by omega)) ⟨A2, n2, c2, ?_, hK A2 n2 c2 q3⟩))
  rw [Int.toNat_natCast]
  exact hc 2 _ rfl
/-! ### the document's disk -/
def rkC (d : Dk) (u v : Value) (A : Option Addr) (n c : Nat) (lv : Int) : List Value := [.int .i64 d.lb, .int .i64 d.lf, u, v, .slice A n c, .int .i64 d.last, .bool d.down, .int .i64 lv, .int .i64 d.calls]
def lvR (o : Option Int) (lv : Int) : Prop := match o with | none => lv = -1 | some n => lv = n
/-- the parts of it -/
structure RkP (w : World) (lo rb : Nat) (d : Dk) (K : List Kpt) (u v : Value) (A : Option Addr) (n c : Nat) (lv : Int) : Prop where
  r : RecAt w rb 104 (rkC d u v A n c lv)
  F : FoAt w [u, v] d.F
  K : KtSl w A n K
  far : ∀ k, blkOf A = some k → lo ≤ k
  lv : lvR d.fu lv
  lo : rb < lo
def RkAt (w : World) (lo rb : Nat) (d : Dk) (K : List Kpt) : Prop := ∃ u v A n c lv, RkP w lo rb d K u v A n c lv
theorem RkP.alien {w : World} {lo rb : Nat} {d : Dk} {K : List Kpt} {u v : Value} {A : Option Addr} {n c : Nat} {lv : Int} (h : RkP w lo rb d K u v A n c lv) : Alien w rb := by
  obtain ⟨A1, n1, c1, A2, n2, c2, e, _⟩ := h.F
  injection e with e1 e
  injection e with e2 e
  subst e1; subst e2
  have hc : ∀ o, cellAt w rb o = (rkC d (.slice A1 n1 c1) (.slice A2 n2 c2) A n c lv)[o]? := fun o => by rw [cellAt_blk h.r]; simp
  refine ⟨fun o s hs => ?_, fun o x hx => ?_, fun o t z A1 n1 c1 ht => ?_⟩
  · rw [hc] at hs
    match o, hs with
    | 0, hs => cases hs
    | 1, hs => cases hs
    | 2, hs => cases hs
    | 3, hs => cases hs
    | 4, hs => cases hs
    | 5, hs => cases hs
    | 6, hs => cases hs
    | 7, hs => cases hs
    | 8, hs => cases hs
    | o + 9, hs => cases hs
  · rw [hc] at hx
    match o, hx with
    | 0, hx => cases hx
    | 1, hx => cases hx
    | 2, hx => cases hx
    | 3, hx => cases hx
    | 4, hx => cases hx
    | 5, hx => cases hx
    | 6, hx => cases hx
    | 7, hx => cases hx
    | 8, hx => cases hx
    | o + 9, hx => cases hx
  · obtain ⟨h0, h1, h2⟩ := ht
    rw [hc] at h0 h1 h2
    match o, h0, h1, h2 with
    | 0, h0, h1, h2 => cases h0
    | 1, h0, h1, h2 => cases h0
    | 2, h0, h1, h2 => cases h0
    | 3, h0, h1, h2 => cases h0
    | 4, h0, h1, h2 => cases h0
    | 5, h0, h1, h2 => cases h0
    | 6, h0, h1, h2 => cases h2
    | 7, h0, h1, h2 => cases h0
    | 8, h0, h1, h2 => cases h0
    | o + 9, h0, h1, h2 => cases h0
theorem RkP.fr {S : Nat → Prop} {w w' : World} {lo rb : Nat} {d : Dk} {K : List Kpt} {u v : Value} {A : Option Addr} {n c : Nat} {lv : Int} (h : RkP w lo rb d K u v A n c lv) (f : Fr S w w') (h1 : ¬ S rb) (hS : ∀ k, S k → Alien w k) (hlo : ∀ k, S k → k < lo) : RkP w' lo rb d K u v A n c lv :=
  ⟨h.r.fr f h1, fo_fr h.F f hS, h.K.fr f hS (fun k hk hs => by have := h.far k hk; have := hlo k hs; omega), h.far, h.lv, h.lo⟩
theorem RkP.fr0 {w w' : World} {lo rb : Nat} {d : Dk} {K : List Kpt} {u v : Value} {A : Option Addr} {n c : Nat} {lv : Int} (h : RkP w lo rb d K u v A n c lv) (f : Fr (fun _ => False) w w') : RkP w' lo rb d K u v A n c lv := h.fr f (fun h => h) (fun _ h => h.elim) (fun _ h => h.elim)
theorem RkAt.fr {S : Nat → Prop} {w w' : World} {lo rb : Nat} {d : Dk} {K : List Kpt} (h : RkAt w lo rb d K) (f : Fr S w w') (h1 : ¬ S rb) (hS : ∀ k, S k → Alien w k) (hlo : ∀ k, S k → k < lo) : RkAt w' lo rb d K := by
  obtain ⟨u, v, A, n, c, lv, h⟩ := h
  exact ⟨u, v, A, n, c, lv, h.fr f h1 hS hlo⟩
theorem RkAt.fr0 {w w' : World} {lo rb : Nat} {d : Dk} {K : List Kpt} (h : RkAt w lo rb d K) (f : Fr (fun _ => False) w w') : RkAt w' lo rb d K := h.fr f (fun h => h) (fun _ h => h.elim) (fun _ h => h.elim)
theorem RkAt.alien {w : World} {lo rb : Nat} {d : Dk} {K : List Kpt} (h : RkAt w lo rb d K) : Alien w rb := by
  obtain ⟨u, v, A, n, c, lv, h⟩ := h
  exact h.alien
theorem RkAt.lt {w : World} {lo rb : Nat} {d : Dk} {K : List Kpt} (h : RkAt w lo rb d K) : rb < w.heap.size ∧ rb < lo := by
  obtain ⟨u, v, A, n, c, lv, h⟩ := h
  exact ⟨h.r.lt, h.lo⟩
theorem rk_getF {w : World} {lo rb : Nat} {d : Dk} {K : List Kpt} (h : RkAt w lo rb d K) {Q : List Value → Prop} (hQ : ∀ cs, FoAt w cs d.F → Q cs) : ldA 2 w rb (0 + 2) Q := by
  obtain ⟨u, v, A, n, c, lv, h⟩ := h
  refine ⟨[u, v], rfl, h.r.cells (fun j x hj => ?_), hQ _ h.F⟩
  match j, hj with
  | 0, hj => exact hj
  | 1, hj => exact hj
  | j + 2, hj => cases hj
theorem rk_getK {w : World} {lo rb : Nat} {d : Dk} {K : List Kpt} (h : RkAt w lo rb d K) {Q : Option Addr → Nat → Nat → Prop} (hQ : ∀ A c, KtSl w A K.length K → (∀ k, blkOf A = some k → lo ≤ k) → Q A K.length c) : ldSl w rb (0 + 4) Q := by
  obtain ⟨u, v, A, n, c, lv, h⟩ := h
  have hl := h.K.len
  have hk := h.K
  subst hl
  exact ⟨A, _, c, h.r.cell (o := 0 + 4) rfl, hQ A c hk h.far⟩
theorem rk_getI {w : World} {lo rb : Nat} {d : Dk} {K : List Kpt} (h : RkAt w lo rb d K) {o : Nat} {x : Int} (hx : (o = 0 ∧ x = d.lb) ∨ (o = 1 ∧ x = d.lf) ∨ (o = 5 ∧ x = d.last) ∨ (o = 8 ∧ x = d.calls)) {Q : Int → Prop} (hQ : Q x) : ldI .i64 w rb (0 + o) Q := by
  obtain ⟨u, v, A, n, c, lv, h⟩ := h
  refine ⟨x, h.r.cell ?_, hQ⟩
  rw [Nat.zero_add]
  rcases hx with ⟨rfl, rfl⟩ | ⟨rfl, rfl⟩ | ⟨rfl, rfl⟩ | ⟨rfl, rfl⟩ <;> rfl
/-- a field is written -/
theorem rk_set {w : World} {lo rb : Nat} {d d' : Dk} {K K' : List Kpt} {u v u' v' : Value} {A A' : Option Addr} {n c n' c' : Nat} {lv lv' : Int} {o : Nat} {vs : List Value} {Q : World → Prop} (h : RkP w lo rb d K u v A n c lv)
    (e : splice (rkC d u v A n c lv) o vs = rkC d' u' v' A' n' c' lv') (hl : o + vs.length ≤ 9) (ho : ∀ v ∈ vs, v.oneCell' = true) (hF : FoAt w [u', v'] d'.F) (hK : KtSl w A' n' K') (hfar : ∀ k, blkOf A' = some k → lo ≤ k) (hlv : lvR d'.fu lv')
    (hQ : ∀ w', Fr (fun k => k = rb) w w' → RkP w' lo rb d' K' u' v' A' n' c' lv' → Q w') : st w rb o vs Q := by
  have ha := h.alien
  have hlo := h.lo
  refine h.r.st_mk hl ho (fun r2 f2 => hQ _ f2 ⟨by rw [e] at r2; exact r2, ?_, ?_, hfar, hlv, hlo⟩)
  · exact fo_fr hF f2 (fun k hk => by have hk : k = rb := hk; rw [hk]; exact ha)
  · exact hK.fr f2 (fun k hk => by have hk : k = rb := hk; rw [hk]; exact ha) (fun k hk h => by have := hfar k hk; have h : k = rb := h; omega)
theorem rk_setF {w : World} {lo rb : Nat} {d : Dk} {K : List Kpt} {F' : Fo} {cs : List Value} {Q : World → Prop} (h : RkAt w lo rb d K) (hF : FoAt w cs F') (hQ : ∀ w', Fr (fun k => k = rb) w w' → RkAt w' lo rb { d with F := F' } K → Q w') : gd (cs.length == 2) (st w rb (0 + 2) cs Q) := by
  obtain ⟨u, v, A, n, c, lv, h⟩ := h
  obtain ⟨u', v', rfl, hu, hv⟩ := fo_cells hF
  refine gd_mk rfl (rk_set (d' := { d with F := F' }) (K' := K) (u' := u') (v' := v') (A' := A) (n' := n) (c' := c) (lv' := lv) h rfl (by show 0 + 2 + 2 ≤ 9; omega) (fun x hx => ?_) hF h.K h.far h.lv (fun w' f' h' => hQ w' f' ⟨_, _, _, _, _, _, h'⟩))
  simp only [List.mem_cons, List.not_mem_nil, or_false] at hx
  rcases hx with rfl | rfl
  · exact hu
  · exact hv
theorem rk_setK {w : World} {lo rb : Nat} {d : Dk} {K K' : List Kpt} {A' : Option Addr} {n' c' : Nat} {Q : World → Prop} (h : RkAt w lo rb d K) (hK : KtSl w A' n' K') (hfar : ∀ k, blkOf A' = some k → lo ≤ k) (hQ : ∀ w', Fr (fun k => k = rb) w w' → RkAt w' lo rb d K' → Q w') : st w rb (0 + 4) [.slice A' n' c'] Q := by
  obtain ⟨u, v, A, n, c, lv, h⟩ := h
  exact rk_set (d' := d) (K' := K') (u' := u) (v' := v) (A' := A') (n' := n') (c' := c') (lv' := lv) h rfl (by show 0 + 4 + 1 ≤ 9; omega) (fun x hx => by simp at hx; subst hx; rfl) h.F hK hfar h.lv (fun w' f' h' => hQ w' f' ⟨_, _, _, _, _, _, h'⟩)
/-! ### get -/
def getK (K : List Kpt) (id : Int) : Ino := match K.find? (fun x => decide (x.1 = id)) with | some x => x.2 | none => zI
theorem getK_map {l : List Int} {f : Int → Ino} (h : ∀ id, id ∉ l → f id = zI) (id : Int) : getK (l.map fun k => (k, f k)) id = f id := by
  unfold getK
  have key : ∀ l : List Int, (l.map fun k => (k, f k)).find? (fun x => decide (x.1 = id)) = if id ∈ l then some (id, f id) else none := by
    intro l
    induction l with
    | nil => rfl
    | cons k r ih =>
      rw [List.map_cons, List.find?_cons]
      by_cases hk : k = id
      · subst hk; simp
      · have : decide (k = id) = false := decide_eq_false hk
        simp only [this, ih, List.mem_cons, show ¬ id = k from fun e => hk e.symm, false_or]
  rw [key]
  by_cases hm : id ∈ l
  · rw [if_pos hm]
  · rw [if_neg hm]; exact (h id hm).symm
theorem getK_at {K : List Kpt} {id : Int} {i : Nat} {x : Kpt} (hi : K[i]? = some x) (hx : x.1 = id) (hlo : ∀ y ∈ K.take i, y.1 ≠ id) : getK K id = x.2 := by
  unfold getK
  have e : K.find? (fun x => decide (x.1 = id)) = some x := by
    have h1 : K = K.take i ++ x :: K.drop (i + 1) := by rw [← drop_at hi, List.take_append_drop]
    rw [h1, List.find?_append, List.find?_eq_none.2 (fun y hy => by simpa using hlo y hy), List.find?_cons, decide_eq_true hx]; rfl
  rw [e]
theorem getK_none {K : List Kpt} {id : Int} (h : ∀ y ∈ K, y.1 ≠ id) : getK K id = zI := by
  unfold getK
  rw [List.find?_eq_none.2 (fun y hy => by simpa using h y hy)]
set_option maxHeartbeats 1000000 in
theorem get_calls (lo rb : Nat) (d : Dk) (K : List Kpt) (id : Int) (w : World) (h : RkAt w lo rb d K) (hK : K.length ≤ 549755813888) :
    Calls Tryz.prog 87 #[.pointer (some ⟨rb, 0, none⟩), .int .i64 id] w fun e w' => Fr (fun _ => False) w w' ∧ ∃ cs, e = .returned (ofL cs) ∧ InoAt w' cs (getK K id) := by
  refine (F87.of (some ⟨rb, 0, none⟩) id w (Q := fun v w' => Fr (fun _ => False) w w' ∧ ∃ cs, v = ofL cs ∧ InoAt w' cs (getK K id)) ?_).mono (fun e w' ⟨v, he, hf, cs, hv, h⟩ => ⟨hf, cs, by rw [he, hv], h⟩)
  refine rec_new (fun b1 w2 f1 hb1 r1 => ?_)
  have h2 := h.fr0 f1
  have hs1 := f1.size
  refine jnC_mk (loop_rule (fun s x => x = w2 ∧ ∃ i : Nat, i ≤ K.length ∧ s = (some ⟨rb, 0, none⟩, id, (b1, 0), (i : Int), ()) ∧ ∀ y ∈ K.take i, y.1 ≠ id) (fun s _ => (K.length - s.2.2.2.1).toNat) ?_ _ _ ⟨rfl, 0, by omega, rfl, fun y hy => by simp at hy⟩)
  rintro s x C ⟨rfl, i, hi, rfl, hlo⟩ hC _
  have fin : ∀ {u v : Value} {y : Ino}, InoAt x [u, v] y → ([u, v] : List Value).length = 2 → (∀ z ∈ ([u, v] : List Value), z.oneCell' = true) → y = getK K id → gd (([u, v] : List Value).length == 2) (st x b1 0 [u, v] fun w24 => ldA 2 w24 b1 0 fun a25 => Fr (fun _ => False) w w24 ∧ ∃ cs, ofL a25 = ofL cs ∧ InoAt w24 cs (getK K id)) := by
    intro u v y hy h2l h1l e
    refine ans_mk r1 rfl h2l h1l (fun w' f' => ⟨f1.trans f' (fun _ _ h => h) (fun k hk h => by have h : k = b1 := h; omega), [u, v], rfl, ?_⟩)
    rw [← e]
    exact hy.fr f' (fun k hk => by have hk : k = b1 := hk; rw [hk]; exact two_alien r1)
  refine dr_mk (rk_getK h2 (fun A c hA hfar => vIf_mk (fun hlt => ?_) (fun hge => ?_)))
  · have hlt : (i : Int) < (K.length : Int) := of_decide_eq_true hlt
    have gi : K[i]? = some (K[i]'(by omega)) := List.getElem?_eq_getElem (by omega)
    generalize K[i]'(by omega) = y at gi
    refine dr_mk (rk_getK h2 (fun A2 c2 hA2 _ => kt_rdI hA2 gi (by omega) (vIf_mk (fun he => ?_) (fun he => ?_))))
    · have he : y.1 = id := by simpa using he
      refine dr_mk (rk_getK h2 (fun A3 c3 hA3 _ => kt_rdX hA3 gi (by omega) (fun cs hX => ?_)))
      have hone := ino_one hX
      have hX0 := hX
      obtain ⟨A1, n1, c1, A2, n2, c2, rfl, _⟩ := hX0
      exact fin hX rfl hone.2 (getK_at gi he hlo).symm
    · have he : ¬ y.1 = id := by simpa using he
      refine jnC_mk (hC _ _ ⟨rfl, i + 1, by omega, by rw [ei i (by omega)], fun z hz => ?_⟩ ?_)
      · rw [List.take_add_one, gi] at hz
        rcases List.mem_append.1 hz with hz | hz
        · exact hlo z hz
        · have hz : z = y := by simpa using hz
          rw [hz]; exact he
      · show ((K.length : Int) - IntKind.wrap .i64 ((i : Int) + 1)).toNat < ((K.length : Int) - (i : Int)).toNat
        rw [ei i (by omega)]; omega
  · have hge : ¬ (i : Int) < (K.length : Int) := of_decide_eq_false hge
    have eT : K.take i = K := List.take_of_length_le (by omega)
    rw [eT] at hlo
    exact fin (zI_at x) rfl (fun z hz => by simp at hz; rcases hz with rfl | rfl <;> rfl) (getK_none hlo).symm
/-! ### tidy -/
abbrev ZK : List Value := [Value.int .i64 0, Value.slice none 0 0, Value.slice none 0 0]
theorem zk_no : ∀ v ∈ ZK, (∀ x, v ≠ .int .u8 x) ∧ ∀ t, v ≠ .bool t := by
  intro v hv
  simp only [List.mem_cons, List.not_mem_nil, or_false] at hv
  rcases hv with rfl | rfl | rfl
  · exact ⟨(fun x h => by injection h with h; cases h), fun t => Value.noConfusion⟩
  · exact ⟨fun x => Value.noConfusion, fun t => Value.noConfusion⟩
  · exact ⟨fun x => Value.noConfusion, fun t => Value.noConfusion⟩
set_option maxHeartbeats 2000000 in
theorem tidy_calls (lo rb : Nat) (d : Dk) (K : List Kpt) (w : World) (h : RkAt w lo rb d K) (hb : FoB d.F) (hK : K.length ≤ 549755813888) (hlw : lo ≤ w.heap.size) :
    Calls Tryz.prog 83 #[.pointer (some ⟨rb, 0, none⟩)] w fun e w' => Fr (fun k => k = rb) w w' ∧ e = .returned (.tuple #[]) ∧ RkAt w' lo rb d ((idsF d.F).map fun id => (id, getK K id)) := by
  refine (F83.of (some ⟨rb, 0, none⟩) w (Q := fun v w' => Fr (fun k => k = rb) w w' ∧ v = .tuple #[] ∧ RkAt w' lo rb d ((idsF d.F).map fun id => (id, getK K id))) ?_).mono (fun e w' ⟨v, he, hf, hv, h⟩ => ⟨hf, by rw [he, hv], h⟩)
  refine dr_mk (rk_getF h (fun cs hF => (rids_calls cs d.F w hF hb).mono ?_))
  rintro e w4 ⟨f4, A6, c8, rfl, r6⟩
  have hm := ids_max hb
  have hs6 := r6.sl
  have hs4 := f4.size
  have h4 := h.fr0 f4
  generalize idsF d.F = W at hm r6 hs6 ⊢
  let G : Int → Kpt := fun id => (id, getK K id)
  refine ⟨A6, _, c8, rfl, jnC_mk (loop_rule (fun s x => Fr (fun _ => False) w4 x ∧ ∃ (i : Nat) (A : Option Addr) (c : Nat) (vs : List Value), i ≤ W.length ∧ s = (some ⟨rb, 0, none⟩, (A6, W.length, c8), (A, i, c), (i : Int), ()) ∧ RowW x w4.heap.size 106 3 ZK A i c vs ∧ (∀ v ∈ vs, (∀ x, v ≠ .int .u8 x) ∧ ∀ t, v ≠ .bool t) ∧ Ech 3 (KpP x) vs ((W.take i).map G))
    (fun s _ => (W.length - s.2.2.2.1).toNat) ?_ _ _ ⟨Fr.refl _ _, 0, none, 0, [], by omega, rfl, RowW.nil _ _ _ _ _, (fun v hv => by cases hv), Ech.nil⟩)⟩
  rintro s x C ⟨hf, i, A, c, vs, hi, rfl, hr, hvs, hE⟩ hC _
  refine vIf_mk (fun hlt => ?_) (fun hge => ?_)
  · have hlt : (i : Int) < (W.length : Int) := of_decide_eq_true hlt
    have gi : W[i]? = some (W[i]'(by omega)) := List.getElem?_eq_getElem (by omega)
    generalize W[i]'(by omega) = id at gi
    have fd : Fr (fun _ => False) x x.drew := Fr.drew _ _
    have hfd := hf.trans1 fd
    have hrd := fd.rowW hr (fun _ _ h => h)
    have hEd : Ech 3 (KpP x.drew) vs ((W.take i).map G) := hE.mono (fun cs z hz => hz.fr fd (fun _ h => h.elim))
    have hxd := h4.fr0 hfd
    dsimp only
    generalize x.drew = y at fd hfd hrd hEd hxd ⊢
    have hsl := hfd.sl hs6 (fun _ _ _ h => h)
    obtain ⟨bi, oi, eA6, hci⟩ := sl_at hsl (by omega) gi
    subst eA6
    have hcell := hci i id gi
    refine dr_mk (gd_mk (decide_eq_true (by omega)) (gd_mk (decide_eq_true (by omega)) ⟨id, by rw [Int.toNat_natCast]; exact hcell, dr_mk (gd_mk (decide_eq_true (by omega)) (gd_mk (decide_eq_true (by omega)) ⟨id, by rw [Int.toNat_natCast]; exact hcell, (get_calls lo rb d K id y hxd hK).mono ?_⟩))⟩))
    rintro e w15 ⟨f15, cs, rfl, hX⟩
    have hX0 := hX
    obtain ⟨A1, n1, c1, A2, n2, c2, rfl, _⟩ := hX0
    have hkp : KpP w15 [.int .i64 id, .slice A1 n1 c1, .slice A2 n2 c2] (G id) := ⟨_, _, rfl, hX⟩
    have hk1 := hkp.one
    refine ⟨_, rfl, kp_mk f15 (cellAt_lt hcell) (fun h => h) (gd_mk rfl (gd_mk rfl ?_))⟩
    have hf15 := hfd.trans1 f15
    have hr15 := f15.rowW hrd (fun _ _ h => h)
    have ha := rowW_alien hr15 hvs zk_no
    refine push_recW hr15 rfl hk1.2.1 rfl (by show (i + 1) * 56 ≤ _; omega) (by show i ≤ _; omega) hf15.size (fun A' c' w3 hr3 f3 _ => jnC_mk (hC _ _ ⟨?_, i + 1, A', c', _, by omega, by rw [ei i (by omega)], hr3, ?_, ?_⟩ ?_))
    · exact fr_own hf15 (fun k hk => (hr15.blt hk).1) (Nat.le_refl _) f3
    · intro v hv
      rcases List.mem_append.1 hv with hv | hv
      · exact hvs v hv
      · exact hk1.2.2 v hv
    · have eT : (W.take (i + 1)).map G = (W.take i).map G ++ [G id] := by rw [List.take_add_one, gi]; simp
      rw [eT]
      have hE3 : Ech 3 (KpP w3) vs ((W.take i).map G) := hEd.mono (fun cs z hz => (hz.fr f15 (fun _ h => h.elim)).frI f3 ha)
      exact hE3.snoc hr.len (by rw [List.length_map, List.length_take]; omega) rfl (hkp.frI f3 ha)
    · show ((W.length : Int) - IntKind.wrap .i64 ((i : Int) + 1)).toNat < ((W.length : Int) - (i : Int)).toNat
      rw [ei i (by omega)]; omega
  · have hge : ¬ (i : Int) < (W.length : Int) := of_decide_eq_false hge
    have eT : W.take i = W := List.take_of_length_le (by omega)
    rw [eT] at hE
    have e3 : i = (W.map G).length := by rw [List.length_map]; omega
    refine dr_mk (rk_setK (h4.fr0 hf) ⟨vs, hr.sl, e3.symm, hE⟩ (fun k hk => by have := (hr.blt hk).1; omega) (fun w' f' h' => ⟨?_, rfl, h'⟩))
    exact (f4.trans1 hf).trans f' (fun _ _ h => h.elim) (fun _ _ h => h)
/-! ### Taken -/
def sumK (K : List Kpt) : Int := (K.map fun x => roomI x.2).sum
theorem sumK_map (l : List Int) (f : Int → Ino) : sumK (l.map fun k => (k, f k)) = (l.map fun k => roomI (f k)).sum := by unfold sumK; rw [List.map_map]; rfl
set_option maxHeartbeats 1000000 in
theorem Taken_calls (lo rb : Nat) (d : Dk) (K : List Kpt) (w : World) (h : RkAt w lo rb d K) (hK : K.length ≤ 549755813888) (hi : ∀ x ∈ K, InoB x.2) (hp : ∀ x ∈ K, x.2.p.length ≤ 1099511627775) :
    Calls Tryz.prog 86 #[.pointer (some ⟨rb, 0, none⟩)] w fun e w' => e = .returned (.int .i64 (sumK K)) ∧ Fr (fun _ => False) w w' := by
  refine (F86.of (some ⟨rb, 0, none⟩) w (Q := fun v w' => v = .int .i64 (sumK K) ∧ Fr (fun _ => False) w w') ?_).mono (fun e w' ⟨v, he, hv, h⟩ => ⟨by rw [he, hv], h⟩)
  have bound : ∀ l : List Kpt, (∀ x ∈ l, InoB x.2) → 0 ≤ sumK l ∧ sumK l ≤ l.length * 1048576 := by
    intro l
    induction l with
    | nil => intro _; exact ⟨Int.le_refl _, Int.le_refl _⟩
    | cons x r ih =>
      intro hx
      have h1 := room_le (hx x (List.mem_cons_self ..))
      have h2 := ih (fun y hy => hx y (List.mem_cons_of_mem _ hy))
      have e : sumK (x :: r) = roomI x.2 + sumK r := by simp [sumK]
      rw [e, List.length_cons, Int.natCast_add, Int.add_mul]
      omega
  refine jnC_mk (loop_rule (fun s x => Fr (fun _ => False) w x ∧ ∃ i : Nat, i ≤ K.length ∧ s = (some ⟨rb, 0, none⟩, sumK (K.take i), (i : Int), ())) (fun s _ => (K.length - s.2.2.1).toNat) ?_ _ _ ⟨Fr.refl _ _, 0, by omega, rfl⟩)
  rintro s x C ⟨hf, i, hi2, rfl⟩ hC _
  refine dr_mk (rk_getK (h.fr0 hf) (fun A c hA hfar => vIf_mk (fun hlt => ?_) (fun hge => ?_)))
  · have hlt : (i : Int) < (K.length : Int) := of_decide_eq_true hlt
    have gi : K[i]? = some (K[i]'(by omega)) := List.getElem?_eq_getElem (by omega)
    generalize K[i]'(by omega) = y at gi
    have hym := List.mem_of_getElem? gi
    have hyi := hi y hym
    have hyp := hp y hym
    dsimp only
    have fd := hf.trans1 (Fr.drew (fun _ => False) x)
    generalize x.drew = v at fd ⊢
    have hv := h.fr0 fd
    refine dr_mk (rk_getK hv (fun A2 c2 hA2 _ => kt_rdL hA2 gi (by omega) (fun B m c hB => dr_mk (rk_getK hv (fun A3 c3 hA3 _ => kt_rdP hA3 gi (by omega) (fun B' m' c' hB' => ?_))))))
    have hbl := by_n hB
    have hm' := wsl_n hB'
    refine (rpeak_calls (m : Int) B' m' c' y.2.p v hB' (by omega) hyi.d).mono ?_
    rintro e w26 ⟨rfl, f26⟩
    have er : peakW (m : Int) y.2.p = roomI y.2 := by unfold roomI; rw [hbl]
    rw [er]
    have hb1 := bound (K.take i) (fun z hz => hi z (List.mem_of_mem_take hz))
    have hti : (K.take i).length = i := by rw [List.length_take]; omega
    rw [hti] at hb1
    have hr := room_le hyi
    have e1 : IntKind.wrap .i64 (sumK (K.take i) + roomI y.2) = sumK (K.take (i + 1)) := by
      rw [i64_id (by omega) (by omega), List.take_add_one, gi]; simp [sumK]
    refine ⟨_, rfl, jnC_mk (hC _ _ ⟨fd.trans1 f26, i + 1, by omega, by rw [ei i (by omega), e1]⟩ ?_)⟩
    show ((K.length : Int) - IntKind.wrap .i64 ((i : Int) + 1)).toNat < ((K.length : Int) - (i : Int)).toNat
    rw [ei i (by omega)]; omega
  · have hge : ¬ (i : Int) < (K.length : Int) := of_decide_eq_false hge
    have eT : K.take i = K := List.take_of_length_le (by omega)
    rw [eT]
    exact ⟨rfl, hf⟩
end Go.Proofs.YtfdhaeglhkmmpaaGreat
/- chapter 12, the document's: change, set, on -/
namespace Go.Proofs.YtfdhaeglhkmmpaaGreat
open Go.GV Go.RowKit Go.Lib
set_option linter.unusedVariables false
set_option linter.unusedSimpArgs false
def KD (d : Dk) : List Kpt := (idsF d.F).map fun id => (id, d.f id)
theorem rk_f {w : World} {lo rb : Nat} {d : Dk} {K : List Kpt} (h : RkAt w lo rb d K) (g : Int → Ino) : RkAt w lo rb { d with f := g } K := by
  obtain ⟨u, v, A, n, c, lv, h⟩ := h
  exact ⟨u, v, A, n, c, lv, h.r, h.F, h.K, h.far, h.lv, h.lo⟩
theorem KD_len {d : Dk} (hb : FoB d.F) : (KD d).length ≤ 549755813888 := by
  have := ids_max hb
  unfold KD
  rw [List.length_map]; omega
/-- a variable of two empty slices holds nothing of it -/
theorem kt_fr2 {w w' : World} {b : Nat} {e : TypeId} (r : RecAt w b e [Value.slice none 0 0, Value.slice none 0 0]) (f : Fr (fun k => k = b) w w') {A : Option Addr} {n : Nat} {K : List Kpt} (h : KtSl w A n K) : KtSl w' A n K := by
  have ha : ∀ k, k = b → Alien w k := fun k hk => by rw [hk]; exact two_alien r
  obtain ⟨vs, q1, q2, q3⟩ := h
  refine ⟨vs, f.sl q1 (fun h0 k hk h => ?_), q2, q3.mono (fun cs z hz => hz.fr f ha)⟩
  have h : k = b := h
  subst h
  have gz : K[0]? = some (K[0]'(by omega)) := List.getElem?_eq_getElem (by omega)
  obtain ⟨b', o, A1, n1, c1, A2, n2, c2, rfl, hc, _⟩ := kt_at (i := 0) ⟨vs, q1, q2, q3⟩ gz (by omega)
  injection hk with hk
  have hk : b' = k := hk
  subst hk
  have h0 := hc 0 _ rfl
  rw [cellAt_blk r] at h0
  generalize o + 0 * 3 + 0 = q at h0
  match q, h0 with
  | 0, h0 => simp at h0
  | 1, h0 => simp at h0
  | q + 2, h0 => simp at h0
theorem rk_fr2 {w w' : World} {b : Nat} {e : TypeId} (r : RecAt w b e [Value.slice none 0 0, Value.slice none 0 0]) (f : Fr (fun k => k = b) w w') {lo rb : Nat} {d : Dk} {K : List Kpt} (h : RkAt w lo rb d K) : RkAt w' lo rb d K := by
  have ha : ∀ k, k = b → Alien w k := fun k hk => by rw [hk]; exact two_alien r
  obtain ⟨u, v, A, n, c, lv, hp⟩ := h
  refine ⟨u, v, A, n, c, lv, hp.r.fr f (fun h => ?_), fo_fr hp.F f ha, kt_fr2 r f hp.K, hp.far, hp.lv, hp.lo⟩
  have h : rb = b := h
  subst h
  have h1 := hp.r.cell (o := 0) rfl
  rw [cellAt_blk r] at h1
  simp at h1
/-- what tidy makes of it -/
theorem tidy_KD {F' : Fo} {W : List Int} {f : Int → Ino} (h : ∀ id, id ∉ W → f id = zI) : ((idsF F').map fun id => (id, getK (W.map fun k => (k, f k)) id)) = (idsF F').map fun id => (id, trim F' f id) := by
  refine List.map_congr_left (fun id hid => ?_)
  rw [getK_map h, trim_in hid]
set_option maxHeartbeats 2000000 in
theorem rchange_calls (lo rb : Nat) (d : Dk) (x : Ch) (w : World) (N : Nat) (h : RkAt w lo rb d (KD d)) (hx : ChB x) (hb : d.F.L.length + d.F.P.length ≤ 349524) (ho : ∀ id, id ∉ idsF d.F → d.f id = zI) (hlw : lo ≤ w.heap.size) (hla : 0 ≤ d.last ∧ d.last ≤ N) (hN : N ≤ 349525) :
    Calls Tryz.prog 82 #[.pointer (some ⟨rb, 0, none⟩), ofL (encC x)] w fun e w' => Fr (fun k => k = rb) w w' ∧ e = .returned (.int .i64 (wrongF d.F x)) ∧ RkAt w' lo rb { d with F := doF d.F x, f := trim (doF d.F x) d.f, last := if wrongF d.F x = 0 ∧ x.k = 1 then d.last + 1 else d.last } ((idsF (doF d.F x)).map fun id => (id, trim (doF d.F x) d.f id)) := by
  refine (F82.of (some ⟨rb, 0, none⟩) (encC x) w (Q := fun v w' => Fr (fun k => k = rb) w w' ∧ v = .int .i64 (wrongF d.F x) ∧ RkAt w' lo rb { d with F := doF d.F x, f := trim (doF d.F x) d.f, last := if wrongF d.F x = 0 ∧ x.k = 1 then d.last + 1 else d.last } ((idsF (doF d.F x)).map fun id => (id, trim (doF d.F x) d.f id))) ?_).mono (fun e w' ⟨v, he, hf, hv, h⟩ => ⟨hf, by rw [he, hv], h⟩)
  have hbF : FoB d.F := by unfold FoB; omega
  have hbF' : FoB (doF d.F x) := by
    have := do_len d.F x
    unfold FoB; omega
  have hlt := h.lt
  have hKl := KD_len hbF
  refine rec_new (fun b1 w2 f1 hb1 r1 => dr_mk ?_)
  have hlt1 := r1.lt
  have fd : Fr (fun _ => False) w2 w2.drew := Fr.drew _ _
  have f0 := f1.trans1 fd
  have h0 := h.fr0 f0
  have r1 := r1.fr fd (fun h => h)
  have e0 : w2.drew.heap.size = w2.heap.size := rfl
  have hs1 := f1.size
  generalize w2.drew = w3 at fd f0 h0 r1 e0 ⊢
  -- the end: with the new folder and the number
  have k5 : ∀ (y : World) (L : Int), L = (if wrongF d.F x = 0 ∧ x.k = 1 then d.last + 1 else d.last) → Fr (fun k => k = rb ∨ w3.heap.size ≤ k) w3 y → lo ≤ y.heap.size → RkAt y lo rb { d with F := doF d.F x, last := L } (KD d) → jnC (F82.k5 (fun v w' => Fr (fun k => k = rb) w w' ∧ v = .int .i64 (wrongF d.F x) ∧ RkAt w' lo rb { d with F := doF d.F x, f := trim (doF d.F x) d.f, last := if wrongF d.F x = 0 ∧ x.k = 1 then d.last + 1 else d.last } ((idsF (doF d.F x)).map fun id => (id, trim (doF d.F x) d.f id)))) (some ⟨rb, 0, none⟩, wrongF d.F x, ()) y := by
    intro y L hL fy hly hy
    refine jnC_mk (fun _ => (tidy_calls lo rb _ (KD d) y hy hbF' hKl hly).mono ?_)
    rintro e u ⟨fu, rfl, hu⟩
    refine ⟨rfl, (f0.trans fy (U := fun k => k = rb) (fun _ _ h => h.elim) (fun k hk h => h.elim id (fun h => by omega))).trans fu (fun _ _ h => h) (fun _ _ h => h), rfl, ?_⟩
    have hu : RkAt u lo rb { d with F := doF d.F x, last := L } ((idsF (doF d.F x)).map fun id => (id, getK (KD d) id)) := hu
    have e2 : ((idsF (doF d.F x)).map fun id => (id, getK (KD d) id)) = ((idsF (doF d.F x)).map fun id => (id, trim (doF d.F x) d.f id)) := tidy_KD ho
    rw [e2, hL] at hu
    exact rk_f hu (trim (doF d.F x) d.f)
  have k4 : ∀ (t : Bool) (y : World), (t = true ↔ wrongF d.F x = 0 ∧ x.k = 1) → Fr (fun k => k = rb ∨ w3.heap.size ≤ k) w3 y → lo ≤ y.heap.size → RkAt y lo rb { d with F := doF d.F x } (KD d) → jnC (F82.k4 (fun v w' => Fr (fun k => k = rb) w w' ∧ v = .int .i64 (wrongF d.F x) ∧ RkAt w' lo rb { d with F := doF d.F x, f := trim (doF d.F x) d.f, last := if wrongF d.F x = 0 ∧ x.k = 1 then d.last + 1 else d.last } ((idsF (doF d.F x)).map fun id => (id, trim (doF d.F x) d.f id)))) (some ⟨rb, 0, none⟩, wrongF d.F x, t, ()) y := by
    intro t y ht fy hly hy
    refine jnC_mk (fun _ => vIf_mk (fun htt => ?_) (fun htf => k5 y d.last ?_ fy hly hy))
    · have hc := ht.1 htt
      have ew : IntKind.wrap .i64 (d.last + 1) = d.last + 1 := i64_id (by omega) (by omega)
      refine dr_mk (rk_getI (o := 5) hy (.inr (.inr (.inl ⟨rfl, rfl⟩))) (dr_mk ?_))
      obtain ⟨u, v, A, n, c, lv, hp⟩ := hy
      refine rk_set (d' := { d with F := doF d.F x, last := d.last + 1 }) (K' := KD d) (u' := u) (v' := v) (A' := A) (n' := n) (c' := c) (lv' := lv) hp (by show splice (rkC _ u v A n c lv) (0 + 5) [Value.int .i64 (IntKind.wrap .i64 (d.last + 1))] = _; rw [ew]; rfl) (by show 0 + 5 + 1 ≤ 9; omega) (fun x hx => by simp at hx; subst hx; rfl) hp.F hp.K hp.far hp.lv (fun w' f' h' => k5 w' (d.last + 1) ?_ ?_ (by have := f'.size; omega) ⟨_, _, _, _, _, _, h'⟩)
      · rw [if_pos hc]
      · exact fy.trans f' (fun _ _ h => h) (fun k hk h => .inl h)
    · have htf : t = false := htf
      have hc : ¬ (wrongF d.F x = 0 ∧ x.k = 1) := fun hc => by have := ht.2 hc; rw [htf] at this; cases this
      rw [if_neg hc]
  -- behind the folder's change
  have tail : ∀ (y : World) (cs' : List Value), Fr (fun k => w3.heap.size ≤ k) w3 y → FoAt y cs' (doF d.F x) → RkAt y lo rb d (KD d) → gd (cs'.length == 2) (st y rb (0 + 2) cs' fun w17 => vIf (wrongF d.F x == 0) (ldI .i64 w17 b1 0 fun i18 => jnC (F82.k4 (fun v w' => Fr (fun k => k = rb) w w' ∧ v = .int .i64 (wrongF d.F x) ∧ RkAt w' lo rb { d with F := doF d.F x, f := trim (doF d.F x) d.f, last := if wrongF d.F x = 0 ∧ x.k = 1 then d.last + 1 else d.last } ((idsF (doF d.F x)).map fun id => (id, trim (doF d.F x) d.f id)))) (some ⟨rb, 0, none⟩, wrongF d.F x, (i18 == 1), ()) w17) (jnC (F82.k4 (fun v w' => Fr (fun k => k = rb) w w' ∧ v = .int .i64 (wrongF d.F x) ∧ RkAt w' lo rb { d with F := doF d.F x, f := trim (doF d.F x) d.f, last := if wrongF d.F x = 0 ∧ x.k = 1 then d.last + 1 else d.last } ((idsF (doF d.F x)).map fun id => (id, trim (doF d.F x) d.f id)))) (some ⟨rb, 0, none⟩, wrongF d.F x, false, ()) w17)) := by
    intro y cs' fy hF' hy
    have hys := fy.size
    have r1y := r1.fr fy (fun h => by omega)
    refine rk_setF hy hF' (fun w17 f17 h17 => ?_)
    have hs17 := f17.size
    have f317 : Fr (fun k => k = rb ∨ w3.heap.size ≤ k) w3 w17 := fy.trans f17 (fun _ _ h => .inr h) (fun k hk h => .inl h)
    have r1z := r1y.fr f17 (fun h => by omega)
    refine vIf_mk (fun hz => ⟨x.k, r1z.cell (o := 0) rfl, k4 _ w17 ?_ f317 (by omega) h17⟩) (fun hz => k4 false w17 ?_ f317 (by omega) h17)
    · have hz : wrongF d.F x = 0 := by simpa using hz
      constructor
      · intro h1; exact ⟨hz, by simpa using h1⟩
      · rintro ⟨_, h1⟩; rw [h1]; rfl
    · have hz : ¬ wrongF d.F x = 0 := by simpa using hz
      exact ⟨(fun h => by cases h), fun h => absurd h.1 hz⟩
  refine rk_getF h0 (fun cs hF => ⟨encC x, rfl, rec_rd r1, ?_, ?_⟩)
  · refine (rdo_calls cs d.F x w3 hF hbF hx).mono ?_
    rintro e w7 ⟨f7, a9, rfl, hF'⟩
    refine ⟨_, _, rfl, ?_⟩
    refine rec_new (fun b11 w12 f12 hb11 r11 => ?_)
    have g2 := f7.trans1 f12
    have hF12 := hF'.fr0 f12
    have hs7 := f7.size
    refine kp_mk g2 r1.lt (fun h => h) (kp_mk g2 h0.lt.1 (fun h => h) ?_)
    obtain ⟨u', v', rfl, hu, hv⟩ := fo_cells hF12
    refine gd_mk rfl (fo_st (y := [u', v']) r11 rfl (fun y hy => ?_) (fun w13 f13 r13 => ⟨_, rfl, rec_rd r13, dr_mk (tail w13 _ ?_ ?_ ?_)⟩))
    · simp only [List.mem_cons, List.not_mem_nil, or_false] at hy
      rcases hy with rfl | rfl
      · exact hu
      · exact hv
    · exact g2.trans f13 (fun _ _ h => h.elim) (fun k hk h => by have h : k = b11 := h; omega)
    · exact fo_fr hF12 f13 (fun k hk => by have hk : k = b11 := hk; rw [hk]; exact two_alien r11)
    · exact rk_fr2 r11 f13 (h0.fr0 g2)
  · refine rec_new (fun b28 w29 f29 hb28 r28 => kp_mk f29 r1.lt (fun h => h) (kp_mk f29 h0.lt.1 (fun h => h) ((rdo_calls cs d.F x w29 (hF.fr0 f29) hbF hx).mono ?_)))
    rintro e w30 ⟨f30, a32, rfl, hF'⟩
    have r28 := r28.fr f30 (fun h => h)
    have g2 := f29.trans1 f30
    refine ⟨_, _, rfl, ?_⟩
    obtain ⟨u', v', rfl, hu, hv⟩ := fo_cells hF'
    refine gd_mk rfl (fo_st (y := [u', v']) r28 rfl (fun y hy => ?_) (fun w34 f34 r34 => ⟨_, rfl, rec_rd r34, dr_mk (tail w34 _ ?_ ?_ ?_)⟩))
    · simp only [List.mem_cons, List.not_mem_nil, or_false] at hy
      rcases hy with rfl | rfl
      · exact hu
      · exact hv
    · exact g2.trans f34 (fun _ _ h => h.elim) (fun k hk h => by have h : k = b28 := h; omega)
    · exact fo_fr hF' f34 (fun k hk => by have hk : k = b28 := hk; rw [hk]; exact two_alien r28)
    · exact rk_fr2 r28 f34 (h0.fr0 g2)
end Go.Proofs.YtfdhaeglhkmmpaaGreat
