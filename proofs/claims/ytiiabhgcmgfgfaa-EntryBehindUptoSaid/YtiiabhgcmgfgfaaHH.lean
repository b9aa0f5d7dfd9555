/- chapter 19: Keep, KeepTag; Same, SameTag; Alive -/
import Derived.Test.YtiiabhgcmgfgfaaHG
namespace Go.Proofs.Ytiiabhgcmgfgfaa
open Go.GV Go.RowKit Go.Lib
set_option linter.unusedVariables false
set_option linter.unusedSimpArgs false
def zE : En := ⟨List.replicate 32 0, 0, 0, 0, 0, 0, []⟩
def zT : Tn := ⟨⟨#[]⟩, List.replicate 32 0, false, 0, 0, 0, []⟩
def keepE (e : En) (sg : List Int) : En × Bool :=
  if both e.l sg = [] ∧ (e.s ∉ sg ∨ e.k = 5) then (zE, false)
  else if e.s ∉ sg then (⟨e.d, 5, 0, 0, 0, 0, both e.l sg⟩, true) else (⟨e.d, e.k, e.z, e.s, e.o, e.q, both e.l sg⟩, true)
def keepT (e : Tn) (sg : List Int) : Tn × Bool :=
  if both e.l sg = [] ∧ (e.s ∉ sg ∨ e.g = true) then (zT, false)
  else if e.s ∉ sg then (⟨e.nm, List.replicate 32 0, true, 0, 0, 0, both e.l sg⟩, true) else (⟨e.nm, e.d, e.g, e.s, e.o, e.q, both e.l sg⟩, true)
theorem splice_last {p : List Value} {v v' : Value} {k : Nat} (hk : p.length = k) : splice (p ++ [v]) k [v'] = p ++ [v'] := by
  unfold splice
  rw [List.take_left' hk, List.drop_of_length_le (by simp; omega)]
  simp
theorem En.splice_l (e : En) (A A' : Option Addr) (n n' c c' : Nat) (l : List Int) (hd : e.d.length = 32) : splice (e.cs A n c) 37 [.slice A' n' c'] = (⟨e.d, e.k, e.z, e.s, e.o, e.q, l⟩ : En).cs A' n' c' := by
  have h : ∀ (B : Option Addr) (m k : Nat), e.d.map bv ++ [Value.int .i64 e.k, .int .i64 e.z, .int .i64 e.s, .int .i64 e.o, .int .i64 e.q, .slice B m k] = (e.d.map bv ++ [Value.int .i64 e.k, .int .i64 e.z, .int .i64 e.s, .int .i64 e.o, .int .i64 e.q]) ++ [.slice B m k] := fun B m k => by simp
  unfold En.cs
  rw [h, h, splice_last (by simp [hd])]
theorem Tn.splice_l (e : Tn) (A A' : Option Addr) (n n' c c' : Nat) (l : List Int) (hd : e.d.length = 32) : splice (e.cs A n c) 37 [.slice A' n' c'] = (⟨e.nm, e.d, e.g, e.s, e.o, e.q, l⟩ : Tn).cs A' n' c' := by
  have h : ∀ (B : Option Addr) (m k : Nat), [Value.string e.nm] ++ (e.d.map bv ++ [Value.bool e.g, .int .i64 e.s, .int .i64 e.o, .int .i64 e.q, .slice B m k]) = ([Value.string e.nm] ++ (e.d.map bv ++ [Value.bool e.g, .int .i64 e.s, .int .i64 e.o, .int .i64 e.q])) ++ [.slice B m k] := fun B m k => by simp
  unfold Tn.cs
  rw [h, h, splice_last (by simp [hd])]
theorem both_len (l sg : List Int) : (both l sg).length ≤ l.length := Nat.le_trans (norm_len _) (List.length_filter_le _ _)
set_option maxHeartbeats 1000000 in
theorem keep_calls (e : En) (x0 : List Value) (S : Option Addr) (m k : Nat) (sg : List Int) (w : World) (h : EnAt w x0 e) (hsg : Sl w 1 S m (ivs sg)) (hn : e.l.length ≤ 4294967296) (hm : m ≤ 8589934592) :
    Calls Try.prog 6 #[ofL x0, .slice S m k] w fun r w' => Fr (fun _ => False) w w' ∧ ∃ cs, r = .returned (.tuple #[ofL cs, .bool (keepE e sg).2]) ∧ EnAt w' cs (keepE e sg).1 := by
  refine (F6.of x0 S m k w (Q := fun v w' => Fr (fun _ => False) w w' ∧ ∃ cs, v = .tuple #[ofL cs, .bool (keepE e sg).2] ∧ EnAt w' cs (keepE e sg).1) ?_).mono (fun e w' ⟨v, he, hf, cs, hv, h⟩ => ⟨hf, cs, by rw [he, hv], h⟩)
  obtain ⟨A, n, c, rfl, hs, hd⟩ := h
  have hl := sl_n hs
  have hbl := both_len e.l sg
  refine nw2 (fun b1 b5 u f r1 r5 hb1w hb5w n15 => ?_)
  have f := f.trans1 (Fr.drew _ u)
  have r1 : RecAt u.drew b1 _ ([] ++ (e.d.map bv ++ [.int .i64 e.k, .int .i64 e.z, .int .i64 e.s, .int .i64 e.o, .int .i64 e.q, .slice A n c])) := r1
  have r5 : RecAt u.drew b5 _ _ := r5
  generalize u.drew = u at f r1 r5 ⊢
  have hb1 := r1.lt
  have hb5 := r5.lt
  -- the three ends
  have e1 : ∀ (v : World), Fr (fun _ => False) u v → (both e.l sg = [] ∧ (e.s ∉ sg ∨ e.k = 5)) → st v b5 0 (zE.cs none 0 0) fun w' => ldA 38 w' b5 0 fun a => Fr (fun _ => False) w w' ∧ ∃ cs, Value.tuple #[ofL a, .bool false] = .tuple #[ofL cs, .bool (keepE e sg).2] ∧ EnAt w' cs (keepE e sg).1 := by
    intro v g hc
    have hk : keepE e sg = (zE, false) := if_pos hc
    rw [hk]
    exact st_all (r5.fr g (fun h => h)) z28 rfl (zE.one none 0 0) (fun w' f5 r5' => ⟨fr_own (f.trans1 g) f5 hb5w, _, rfl, none, 0, 0, rfl, Sl.nil _ _ _, rfl⟩)
  have e2 : ∀ (v : World) (A' : Option Addr) (c' : Nat), Fr (fun _ => False) u v → Row v u.heap.size 3 1 A' (both e.l sg).length c' (ivs (both e.l sg)) → ¬ (both e.l sg = [] ∧ (e.s ∉ sg ∨ e.k = 5)) → e.s ∉ sg → st v b5 0 ((⟨e.d, 5, 0, 0, 0, 0, both e.l sg⟩ : En).cs A' (both e.l sg).length c') fun w' => ldA 38 w' b5 0 fun a => Fr (fun _ => False) w w' ∧ ∃ cs, Value.tuple #[ofL a, .bool true] = .tuple #[ofL cs, .bool (keepE e sg).2] ∧ EnAt w' cs (keepE e sg).1 := by
    intro v A' c' g hr hc hn
    have hk : keepE e sg = ((⟨e.d, 5, 0, 0, 0, 0, both e.l sg⟩ : En), true) := by unfold keepE; rw [if_neg hc, if_pos hn]
    rw [hk]
    exact st_all (r5.fr g (fun h => h)) z28 (by simp [En.cs, hd]) ((⟨e.d, 5, 0, 0, 0, 0, both e.l sg⟩ : En).one A' _ c') (fun w' f5 r5' => ⟨fr_own (f.trans1 g) f5 hb5w, _, rfl, A', _, c', rfl, sl_fr1 hr f5 hb5, hd⟩)
  have e3 : ∀ (v : World) (A' : Option Addr) (c' : Nat), Fr (fun _ => False) u v → Row v u.heap.size 3 1 A' (both e.l sg).length c' (ivs (both e.l sg)) → ¬ (both e.l sg = [] ∧ (e.s ∉ sg ∨ e.k = 5)) → e.s ∈ sg →
      st v b1 (0 + 37) [Value.slice A' (both e.l sg).length c'] fun w22 => ldA 38 w22 b1 0 fun a23 => gd (a23.length == 38) <| st w22 b5 0 a23 fun w' => ldA 38 w' b5 0 fun a => Fr (fun _ => False) w w' ∧ ∃ cs, Value.tuple #[ofL a, .bool true] = .tuple #[ofL cs, .bool (keepE e sg).2] ∧ EnAt w' cs (keepE e sg).1 := by
    intro v A' c' g hr hc hn
    have hk : keepE e sg = ((⟨e.d, e.k, e.z, e.s, e.o, e.q, both e.l sg⟩ : En), true) := by unfold keepE; rw [if_neg hc, if_neg (not_not_intro hn)]
    rw [hk]
    have r1v := r1.fr g (fun h => h)
    refine r1v.st_mk (o := 0 + 37) (by simp [hd]) (fun v hv => by simp at hv; subst hv; rfl) (fun r f1 => ?_)
    have hsp := En.splice_l e A A' n (both e.l sg).length c c' (both e.l sg) hd
    have r : RecAt (stB v b1 (0 + 37) [Value.slice A' (both e.l sg).length c']) b1 28 ((⟨e.d, e.k, e.z, e.s, e.o, e.q, both e.l sg⟩ : En).cs A' (both e.l sg).length c') := by rw [← hsp]; exact r
    generalize stB v b1 (0 + 37) [Value.slice A' (both e.l sg).length c'] = v2 at r f1 ⊢
    refine ⟨_, by simp [En.cs, hd], rec_all r, gd_mk (by simp [En.cs, hd]) ?_⟩
    have r5v := (r5.fr g (fun h => h)).fr f1 (fun h => n15 h.symm)
    have hr2 := f1.row hr (fun k hk h' => by have := (hr.blt hk).1; omega)
    exact st_all r5v z28 (by simp [En.cs, hd]) ((⟨e.d, e.k, e.z, e.s, e.o, e.q, both e.l sg⟩ : En).one A' _ c') (fun w' f5 r5' => ⟨fr_own (fr_own (f.trans1 g) f1 hb1w) f5 hb5w, _, rfl, A', _, c', rfl, sl_fr1 hr2 f5 hb5, hd⟩)
  refine ⟨A, n, c, rec_end r1 (bvl hd) (j := 5) rfl rfl, e.s, rec_end r1 (bvl hd) (j := 2) rfl rfl, (left_calls A n c e.l S m k sg u (sl_fr hs f) (sl_fr hsg f) (by omega) (by omega)).mono ?_⟩
  rintro r u4 ⟨g4, A', c', rfl, h4⟩
  refine ⟨_, _, _, rfl, kp_mk g4 hb1 (fun h => h) ((contains_calls S m k sg e.s u4 (sl_fr hsg (f.trans1 g4)) (by omega)).mono ?_)⟩
  rintro r u5 ⟨rfl, rfl⟩
  refine ⟨_, rfl, ?_⟩
  have fin : ∀ t17 : Bool, t17 = decide (both e.l sg = [] ∧ (e.s ∉ sg ∨ e.k = 5)) → jnC (F6.k3 (fun v w' => Fr (fun _ => False) w w' ∧ ∃ cs, v = .tuple #[ofL cs, .bool (keepE e sg).2] ∧ EnAt w' cs (keepE e sg).1)) ((b1, 0), (b5, 0), (A', (both e.l sg).length, c'), decide (e.s ∈ sg), t17, ()) u5 := by
    intro t17 ht
    refine jnC_mk (fun _ => vIf_mk (fun h1 => gd_mk rfl ?_) (fun h1 => ?_))
    · have h1 : t17 = true := h1
      rw [h1] at ht
      exact e1 u5 g4 (of_decide_eq_true ht.symm)
    · have h1 : t17 = false := h1
      rw [h1] at ht
      have hc := of_decide_eq_false ht.symm
      refine vIf_mk (fun h2 => ⟨e.d.map bv, bvl hd, rec_mid (r1.fr g4 (fun h => h)), gd_mk (len1 hd) (gd_mk (by simp [hd]) ?_)⟩) (fun h2 => jnC_mk (fun _ => ?_))
      · exact e2 u5 A' c' g4 h4 hc (by simpa using h2)
      · exact e3 u5 A' c' g4 h4 hc (by simpa using h2)
  refine vIf_mk (fun h0 => vIf_mk (fun h1 => fin true ?_) (fun h1 => ?_)) (fun h0 => fin false ?_)
  · have h0 : both e.l sg = [] := List.length_eq_zero_iff.1 (by simpa using h0)
    have h1 : e.s ∉ sg := by simpa using h1
    rw [decide_eq_true ⟨h0, .inl h1⟩]
  · have h0 : both e.l sg = [] := List.length_eq_zero_iff.1 (by simpa using h0)
    have h1 : e.s ∈ sg := by simpa using h1
    refine ⟨e.k, rec_end (r1.fr g4 (fun h => h)) (bvl hd) (j := 0) rfl rfl, fin _ ?_⟩
    rw [Bool.eq_iff_iff]
    simp [h0, h1]
  · have h0 : both e.l sg ≠ [] := fun h => by rw [h] at h0; simp at h0
    rw [decide_eq_false (fun h => h0 h.1)]
set_option maxHeartbeats 1000000 in
theorem keepT_calls (e : Tn) (x0 : List Value) (S : Option Addr) (m k : Nat) (sg : List Int) (w : World) (h : TnAt w x0 e) (hsg : Sl w 1 S m (ivs sg)) (hn : e.l.length ≤ 4294967296) (hm : m ≤ 8589934592) :
    Calls Try.prog 19 #[ofL x0, .slice S m k] w fun r w' => Fr (fun _ => False) w w' ∧ ∃ cs, r = .returned (.tuple #[ofL cs, .bool (keepT e sg).2]) ∧ TnAt w' cs (keepT e sg).1 := by
  refine (F19.of x0 S m k w (Q := fun v w' => Fr (fun _ => False) w w' ∧ ∃ cs, v = .tuple #[ofL cs, .bool (keepT e sg).2] ∧ TnAt w' cs (keepT e sg).1) ?_).mono (fun e w' ⟨v, he, hf, cs, hv, h⟩ => ⟨hf, cs, by rw [he, hv], h⟩)
  obtain ⟨A, n, c, rfl, hs, hd⟩ := h
  have hl := sl_n hs
  have hbl := both_len e.l sg
  refine nw2 (fun b1 b5 u f r1 r5 hb1w hb5w n15 => ?_)
  have f := f.trans1 (Fr.drew _ u)
  have r1 : RecAt u.drew b1 _ ([.string e.nm] ++ (e.d.map bv ++ [.bool e.g, .int .i64 e.s, .int .i64 e.o, .int .i64 e.q, .slice A n c])) := r1
  have r5 : RecAt u.drew b5 _ _ := r5
  generalize u.drew = u at f r1 r5 ⊢
  have hb1 := r1.lt
  have hb5 := r5.lt
  -- the three ends
  have e1 : ∀ (v : World), Fr (fun _ => False) u v → (both e.l sg = [] ∧ (e.s ∉ sg ∨ e.g = true)) → st v b5 0 (zT.cs none 0 0) fun w' => ldA 38 w' b5 0 fun a => Fr (fun _ => False) w w' ∧ ∃ cs, Value.tuple #[ofL a, .bool false] = .tuple #[ofL cs, .bool (keepT e sg).2] ∧ TnAt w' cs (keepT e sg).1 := by
    intro v g hc
    have hk : keepT e sg = (zT, false) := if_pos hc
    rw [hk]
    exact st_all (r5.fr g (fun h => h)) z35 rfl (zT.one none 0 0) (fun w' f5 r5' => ⟨fr_own (f.trans1 g) f5 hb5w, _, rfl, none, 0, 0, rfl, Sl.nil _ _ _, rfl⟩)
  have e2 : ∀ (v : World) (A' : Option Addr) (c' : Nat), Fr (fun _ => False) u v → Row v u.heap.size 3 1 A' (both e.l sg).length c' (ivs (both e.l sg)) → ¬ (both e.l sg = [] ∧ (e.s ∉ sg ∨ e.g = true)) → e.s ∉ sg → st v b5 0 ((⟨e.nm, List.replicate 32 0, true, 0, 0, 0, both e.l sg⟩ : Tn).cs A' (both e.l sg).length c') fun w' => ldA 38 w' b5 0 fun a => Fr (fun _ => False) w w' ∧ ∃ cs, Value.tuple #[ofL a, .bool true] = .tuple #[ofL cs, .bool (keepT e sg).2] ∧ TnAt w' cs (keepT e sg).1 := by
    intro v A' c' g hr hc hn
    have hk : keepT e sg = ((⟨e.nm, List.replicate 32 0, true, 0, 0, 0, both e.l sg⟩ : Tn), true) := by unfold keepT; rw [if_neg hc, if_pos hn]
    rw [hk]
    exact st_all (r5.fr g (fun h => h)) z35 (rfl) ((⟨e.nm, List.replicate 32 0, true, 0, 0, 0, both e.l sg⟩ : Tn).one A' _ c') (fun w' f5 r5' => ⟨fr_own (f.trans1 g) f5 hb5w, _, rfl, A', _, c', rfl, sl_fr1 hr f5 hb5, rfl⟩)
  have e3 : ∀ (v : World) (A' : Option Addr) (c' : Nat), Fr (fun _ => False) u v → Row v u.heap.size 3 1 A' (both e.l sg).length c' (ivs (both e.l sg)) → ¬ (both e.l sg = [] ∧ (e.s ∉ sg ∨ e.g = true)) → e.s ∈ sg →
      st v b1 (0 + 37) [Value.slice A' (both e.l sg).length c'] fun w22 => ldA 38 w22 b1 0 fun a23 => gd (a23.length == 38) <| st w22 b5 0 a23 fun w' => ldA 38 w' b5 0 fun a => Fr (fun _ => False) w w' ∧ ∃ cs, Value.tuple #[ofL a, .bool true] = .tuple #[ofL cs, .bool (keepT e sg).2] ∧ TnAt w' cs (keepT e sg).1 := by
    intro v A' c' g hr hc hn
    have hk : keepT e sg = ((⟨e.nm, e.d, e.g, e.s, e.o, e.q, both e.l sg⟩ : Tn), true) := by unfold keepT; rw [if_neg hc, if_neg (not_not_intro hn)]
    rw [hk]
    have r1v := r1.fr g (fun h => h)
    refine r1v.st_mk (o := 0 + 37) (by simp [hd]) (fun v hv => by simp at hv; subst hv; rfl) (fun r f1 => ?_)
    have hsp := Tn.splice_l e A A' n (both e.l sg).length c c' (both e.l sg) hd
    have r : RecAt (stB v b1 (0 + 37) [Value.slice A' (both e.l sg).length c']) b1 35 ((⟨e.nm, e.d, e.g, e.s, e.o, e.q, both e.l sg⟩ : Tn).cs A' (both e.l sg).length c') := by rw [← hsp]; exact r
    generalize stB v b1 (0 + 37) [Value.slice A' (both e.l sg).length c'] = v2 at r f1 ⊢
    refine ⟨_, by simp [Tn.cs, hd], rec_all r, gd_mk (by simp [Tn.cs, hd]) ?_⟩
    have r5v := (r5.fr g (fun h => h)).fr f1 (fun h => n15 h.symm)
    have hr2 := f1.row hr (fun k hk h' => by have := (hr.blt hk).1; omega)
    exact st_all r5v z35 (by simp [Tn.cs, hd]) ((⟨e.nm, e.d, e.g, e.s, e.o, e.q, both e.l sg⟩ : Tn).one A' _ c') (fun w' f5 r5' => ⟨fr_own (fr_own (f.trans1 g) f1 hb1w) f5 hb5w, _, rfl, A', _, c', rfl, sl_fr1 hr2 f5 hb5, hd⟩)
  refine ⟨A, n, c, rec_end r1 (bvl hd) (j := 4) rfl rfl, e.s, rec_end r1 (bvl hd) (j := 1) rfl rfl, (left_calls A n c e.l S m k sg u (sl_fr hs f) (sl_fr hsg f) (by omega) (by omega)).mono ?_⟩
  rintro r u4 ⟨g4, A', c', rfl, h4⟩
  refine ⟨_, _, _, rfl, kp_mk g4 hb1 (fun h => h) ((contains_calls S m k sg e.s u4 (sl_fr hsg (f.trans1 g4)) (by omega)).mono ?_)⟩
  rintro r u5 ⟨rfl, rfl⟩
  refine ⟨_, rfl, ?_⟩
  have fin : ∀ t17 : Bool, t17 = decide (both e.l sg = [] ∧ (e.s ∉ sg ∨ e.g = true)) → jnC (F19.k3 (fun v w' => Fr (fun _ => False) w w' ∧ ∃ cs, v = .tuple #[ofL cs, .bool (keepT e sg).2] ∧ TnAt w' cs (keepT e sg).1)) ((b1, 0), (b5, 0), (A', (both e.l sg).length, c'), decide (e.s ∈ sg), t17, ()) u5 := by
    intro t17 ht
    refine jnC_mk (fun _ => vIf_mk (fun h1 => gd_mk rfl ?_) (fun h1 => ?_))
    · have h1 : t17 = true := h1
      rw [h1] at ht
      exact e1 u5 g4 (of_decide_eq_true ht.symm)
    · have h1 : t17 = false := h1
      rw [h1] at ht
      have hc := of_decide_eq_false ht.symm
      refine vIf_mk (fun h2 => ⟨e.nm, (r1.fr g4 (fun h => h)).cell rfl, gd_mk rfl ?_⟩) (fun h2 => jnC_mk (fun _ => ?_))
      · exact e2 u5 A' c' g4 h4 hc (by simpa using h2)
      · exact e3 u5 A' c' g4 h4 hc (by simpa using h2)
  refine vIf_mk (fun h0 => vIf_mk (fun h1 => fin true ?_) (fun h1 => ?_)) (fun h0 => fin false ?_)
  · have h0 : both e.l sg = [] := List.length_eq_zero_iff.1 (by simpa using h0)
    have h1 : e.s ∉ sg := by simpa using h1
    rw [decide_eq_true ⟨h0, .inl h1⟩]
  · have h0 : both e.l sg = [] := List.length_eq_zero_iff.1 (by simpa using h0)
    have h1 : e.s ∈ sg := by simpa using h1
    refine ⟨e.g, rec_end (r1.fr g4 (fun h => h)) (bvl hd) (j := 0) rfl rfl, fin _ ?_⟩
    rw [Bool.eq_iff_iff]
    simp [h0, h1]
  · have h0 : both e.l sg ≠ [] := fun h => by rw [h] at h0; simp at h0
    rw [decide_eq_false (fun h => h0 h.1)]
set_option maxHeartbeats 1000000 in
theorem rkeep_calls (e : En) (x0 : List Value) (S : Option Addr) (m k : Nat) (sg : List Int) (w : World) (h : EnAt w x0 e) (hsg : Sl w 1 S m (ivs sg)) (hn : e.l.length ≤ 4294967296) (hm : m ≤ 8589934592) :
    Calls Try.prog 18 #[ofL x0, .slice S m k] w fun r w' => Fr (fun _ => False) w w' ∧ ∃ cs, r = .returned (.tuple #[ofL cs, .bool (keepE e sg).2]) ∧ EnAt w' cs (keepE e sg).1 := by
  refine (F18.of x0 S m k w (Q := fun v w' => Fr (fun _ => False) w w' ∧ ∃ cs, v = .tuple #[ofL cs, .bool (keepE e sg).2] ∧ EnAt w' cs (keepE e sg).1) ?_).mono (fun e w' ⟨v, he, hf, cs, hv, h⟩ => ⟨hf, cs, by rw [he, hv], h⟩)
  obtain ⟨A, n, c, rfl, hs, hd⟩ := h
  have hl := sl_n hs
  have hbl := both_len e.l sg
  refine nw2 (fun b1 b5 u f r1 r5 hb1w hb5w n15 => ?_)
  have r1 : RecAt u b1 _ ([] ++ (e.d.map bv ++ [.int .i64 e.k, .int .i64 e.z, .int .i64 e.s, .int .i64 e.o, .int .i64 e.q, .slice A n c])) := r1
  have hb1 := r1.lt
  have hb5 := r5.lt
  -- the three ends
  have e1 : ∀ (v : World), Fr (fun _ => False) u v → (both e.l sg = [] ∧ (e.s ∉ sg ∨ e.k = 5)) → st v b5 0 (zE.cs none 0 0) fun w' => ldA 38 w' b5 0 fun a => Fr (fun _ => False) w w' ∧ ∃ cs, Value.tuple #[ofL a, .bool false] = .tuple #[ofL cs, .bool (keepE e sg).2] ∧ EnAt w' cs (keepE e sg).1 := by
    intro v g hc
    have hk : keepE e sg = (zE, false) := if_pos hc
    rw [hk]
    exact st_all (r5.fr g (fun h => h)) z28 rfl (zE.one none 0 0) (fun w' f5 r5' => ⟨fr_own (f.trans1 g) f5 hb5w, _, rfl, none, 0, 0, rfl, Sl.nil _ _ _, rfl⟩)
  have e2 : ∀ (v : World) (A' : Option Addr) (c' : Nat), Fr (fun _ => False) u v → Row v u.heap.size 3 1 A' (both e.l sg).length c' (ivs (both e.l sg)) → ¬ (both e.l sg = [] ∧ (e.s ∉ sg ∨ e.k = 5)) → e.s ∉ sg → st v b5 0 ((⟨e.d, 5, 0, 0, 0, 0, both e.l sg⟩ : En).cs A' (both e.l sg).length c') fun w' => ldA 38 w' b5 0 fun a => Fr (fun _ => False) w w' ∧ ∃ cs, Value.tuple #[ofL a, .bool true] = .tuple #[ofL cs, .bool (keepE e sg).2] ∧ EnAt w' cs (keepE e sg).1 := by
    intro v A' c' g hr hc hn
    have hk : keepE e sg = ((⟨e.d, 5, 0, 0, 0, 0, both e.l sg⟩ : En), true) := by unfold keepE; rw [if_neg hc, if_pos hn]
    rw [hk]
    exact st_all (r5.fr g (fun h => h)) z28 (by simp [En.cs, hd]) ((⟨e.d, 5, 0, 0, 0, 0, both e.l sg⟩ : En).one A' _ c') (fun w' f5 r5' => ⟨fr_own (f.trans1 g) f5 hb5w, _, rfl, A', _, c', rfl, sl_fr1 hr f5 hb5, hd⟩)
  have e3 : ∀ (v : World) (A' : Option Addr) (c' : Nat), Fr (fun _ => False) u v → Row v u.heap.size 3 1 A' (both e.l sg).length c' (ivs (both e.l sg)) → ¬ (both e.l sg = [] ∧ (e.s ∉ sg ∨ e.k = 5)) → e.s ∈ sg →
      st v b1 (0 + 37) [Value.slice A' (both e.l sg).length c'] fun w22 => ldA 38 w22 b1 0 fun a23 => gd (a23.length == 38) <| st w22 b5 0 a23 fun w' => ldA 38 w' b5 0 fun a => Fr (fun _ => False) w w' ∧ ∃ cs, Value.tuple #[ofL a, .bool true] = .tuple #[ofL cs, .bool (keepE e sg).2] ∧ EnAt w' cs (keepE e sg).1 := by
    intro v A' c' g hr hc hn
    have hk : keepE e sg = ((⟨e.d, e.k, e.z, e.s, e.o, e.q, both e.l sg⟩ : En), true) := by unfold keepE; rw [if_neg hc, if_neg (not_not_intro hn)]
    rw [hk]
    have r1v := r1.fr g (fun h => h)
    refine r1v.st_mk (o := 0 + 37) (by simp [hd]) (fun v hv => by simp at hv; subst hv; rfl) (fun r f1 => ?_)
    have hsp := En.splice_l e A A' n (both e.l sg).length c c' (both e.l sg) hd
    have r : RecAt (stB v b1 (0 + 37) [Value.slice A' (both e.l sg).length c']) b1 28 ((⟨e.d, e.k, e.z, e.s, e.o, e.q, both e.l sg⟩ : En).cs A' (both e.l sg).length c') := by rw [← hsp]; exact r
    generalize stB v b1 (0 + 37) [Value.slice A' (both e.l sg).length c'] = v2 at r f1 ⊢
    refine ⟨_, by simp [En.cs, hd], rec_all r, gd_mk (by simp [En.cs, hd]) ?_⟩
    have r5v := (r5.fr g (fun h => h)).fr f1 (fun h => n15 h.symm)
    have hr2 := f1.row hr (fun k hk h' => by have := (hr.blt hk).1; omega)
    exact st_all r5v z28 (by simp [En.cs, hd]) ((⟨e.d, e.k, e.z, e.s, e.o, e.q, both e.l sg⟩ : En).one A' _ c') (fun w' f5 r5' => ⟨fr_own (fr_own (f.trans1 g) f1 hb1w) f5 hb5w, _, rfl, A', _, c', rfl, sl_fr1 hr2 f5 hb5, hd⟩)
  refine ⟨A, n, c, rec_end r1 (bvl hd) (j := 5) rfl rfl, (both_calls A n c e.l S m k sg u (sl_fr hs f) (sl_fr hsg f) (by omega) (by omega)).mono ?_⟩
  rintro r u4 ⟨g4, A', c', rfl, h4⟩
  refine ⟨_, _, _, rfl, e.s, rec_end (r1.fr g4 (fun h => h)) (bvl hd) (j := 2) rfl rfl, (in_calls S m k sg e.s u4 (sl_fr hsg (f.trans1 g4)) (by omega)).mono ?_⟩
  rintro r u5 ⟨rfl, rfl⟩
  refine ⟨_, rfl, ?_⟩
  have fin : ∀ t17 : Bool, t17 = decide (e.s ∈ sg ∧ (¬ e.k = 5 ∨ both e.l sg ≠ [])) → jnC (F18.k3 (fun v w' => Fr (fun _ => False) w w' ∧ ∃ cs, v = .tuple #[ofL cs, .bool (keepE e sg).2] ∧ EnAt w' cs (keepE e sg).1)) ((b1, 0), (b5, 0), (A', (both e.l sg).length, c'), t17, ()) u5 := by
    intro t17 ht
    refine jnC_mk (fun _ => vIf_mk (fun h1 => ?_) (fun h1 => jnC_mk (fun _ => ?_)))
    · have h1 : t17 = true := h1
      rw [h1] at ht
      have hc := of_decide_eq_true ht.symm
      exact e3 u5 A' c' g4 h4 (fun h => h.2.elim (fun h' => h' hc.1) (fun h' => hc.2.elim (fun h'' => h'' h') (fun h'' => h'' h.1))) hc.1
    · have h1 : t17 = false := h1
      rw [h1] at ht
      have hc := of_decide_eq_false ht.symm
      refine vIf_mk (fun h2 => ⟨e.d.map bv, bvl hd, rec_mid (r1.fr g4 (fun h => h)), gd_mk (len1 hd) (gd_mk (by simp [hd]) ?_)⟩) (fun h2 => gd_mk rfl ?_)
      · have h2 : both e.l sg ≠ [] := fun h => by rw [h] at h2; simp at h2
        exact e2 u5 A' c' g4 h4 (fun h => h2 h.1) (fun h => hc ⟨h, .inr h2⟩)
      · have h2 : both e.l sg = [] := List.length_eq_zero_iff.1 (by have h2 := of_decide_eq_false h2; dsimp only at h2; omega)
        refine e1 u5 g4 ⟨h2, ?_⟩
        by_cases hs : e.s ∈ sg
        · by_cases hk : e.k = 5
          · exact .inr hk
          · exact absurd ⟨hs, .inl hk⟩ hc
        · exact .inl hs
  refine vIf_mk (fun h0 => ⟨e.k, rec_end (r1.fr g4 (fun h => h)) (bvl hd) (j := 0) rfl rfl, vIf_mk (fun h1 => fin true ?_) (fun h1 => fin _ ?_)⟩) (fun h0 => fin false ?_)
  · have h0 : e.s ∈ sg := by simpa using h0
    have h1 : ¬ e.k = 5 := by simpa using h1
    rw [decide_eq_true ⟨h0, .inl h1⟩]
  · have h0 : e.s ∈ sg := by simpa using h0
    have h1 : e.k = 5 := by simpa using h1
    rw [Bool.eq_iff_iff, decide_eq_true_iff, decide_eq_true_iff]
    constructor
    · intro h
      exact ⟨h0, .inr (fun h' => by rw [h'] at h; simp at h)⟩
    · rintro ⟨_, h | h⟩
      · exact absurd h1 h
      · have : (both e.l sg).length ≠ 0 := fun h' => h (List.length_eq_zero_iff.1 h')
        omega
  · have h0 : e.s ∉ sg := by simpa using h0
    rw [decide_eq_false (fun h => h0 h.1)]
set_option maxHeartbeats 1000000 in
theorem rkeepT_calls (e : Tn) (x0 : List Value) (S : Option Addr) (m k : Nat) (sg : List Int) (w : World) (h : TnAt w x0 e) (hsg : Sl w 1 S m (ivs sg)) (hn : e.l.length ≤ 4294967296) (hm : m ≤ 8589934592) :
    Calls Try.prog 20 #[ofL x0, .slice S m k] w fun r w' => Fr (fun _ => False) w w' ∧ ∃ cs, r = .returned (.tuple #[ofL cs, .bool (keepT e sg).2]) ∧ TnAt w' cs (keepT e sg).1 := by
  refine (F20.of x0 S m k w (Q := fun v w' => Fr (fun _ => False) w w' ∧ ∃ cs, v = .tuple #[ofL cs, .bool (keepT e sg).2] ∧ TnAt w' cs (keepT e sg).1) ?_).mono (fun e w' ⟨v, he, hf, cs, hv, h⟩ => ⟨hf, cs, by rw [he, hv], h⟩)
  obtain ⟨A, n, c, rfl, hs, hd⟩ := h
  have hl := sl_n hs
  have hbl := both_len e.l sg
  refine nw2 (fun b1 b5 u f r1 r5 hb1w hb5w n15 => ?_)
  have r1 : RecAt u b1 _ ([.string e.nm] ++ (e.d.map bv ++ [.bool e.g, .int .i64 e.s, .int .i64 e.o, .int .i64 e.q, .slice A n c])) := r1
  have hb1 := r1.lt
  have hb5 := r5.lt
  -- the three ends
  have e1 : ∀ (v : World), Fr (fun _ => False) u v → (both e.l sg = [] ∧ (e.s ∉ sg ∨ e.g = true)) → st v b5 0 (zT.cs none 0 0) fun w' => ldA 38 w' b5 0 fun a => Fr (fun _ => False) w w' ∧ ∃ cs, Value.tuple #[ofL a, .bool false] = .tuple #[ofL cs, .bool (keepT e sg).2] ∧ TnAt w' cs (keepT e sg).1 := by
    intro v g hc
    have hk : keepT e sg = (zT, false) := if_pos hc
    rw [hk]
    exact st_all (r5.fr g (fun h => h)) z35 rfl (zT.one none 0 0) (fun w' f5 r5' => ⟨fr_own (f.trans1 g) f5 hb5w, _, rfl, none, 0, 0, rfl, Sl.nil _ _ _, rfl⟩)
  have e2 : ∀ (v : World) (A' : Option Addr) (c' : Nat), Fr (fun _ => False) u v → Row v u.heap.size 3 1 A' (both e.l sg).length c' (ivs (both e.l sg)) → ¬ (both e.l sg = [] ∧ (e.s ∉ sg ∨ e.g = true)) → e.s ∉ sg → st v b5 0 ((⟨e.nm, List.replicate 32 0, true, 0, 0, 0, both e.l sg⟩ : Tn).cs A' (both e.l sg).length c') fun w' => ldA 38 w' b5 0 fun a => Fr (fun _ => False) w w' ∧ ∃ cs, Value.tuple #[ofL a, .bool true] = .tuple #[ofL cs, .bool (keepT e sg).2] ∧ TnAt w' cs (keepT e sg).1 := by
    intro v A' c' g hr hc hn
    have hk : keepT e sg = ((⟨e.nm, List.replicate 32 0, true, 0, 0, 0, both e.l sg⟩ : Tn), true) := by unfold keepT; rw [if_neg hc, if_pos hn]
    rw [hk]
    exact st_all (r5.fr g (fun h => h)) z35 (rfl) ((⟨e.nm, List.replicate 32 0, true, 0, 0, 0, both e.l sg⟩ : Tn).one A' _ c') (fun w' f5 r5' => ⟨fr_own (f.trans1 g) f5 hb5w, _, rfl, A', _, c', rfl, sl_fr1 hr f5 hb5, rfl⟩)
  have e3 : ∀ (v : World) (A' : Option Addr) (c' : Nat), Fr (fun _ => False) u v → Row v u.heap.size 3 1 A' (both e.l sg).length c' (ivs (both e.l sg)) → ¬ (both e.l sg = [] ∧ (e.s ∉ sg ∨ e.g = true)) → e.s ∈ sg →
      st v b1 (0 + 37) [Value.slice A' (both e.l sg).length c'] fun w22 => ldA 38 w22 b1 0 fun a23 => gd (a23.length == 38) <| st w22 b5 0 a23 fun w' => ldA 38 w' b5 0 fun a => Fr (fun _ => False) w w' ∧ ∃ cs, Value.tuple #[ofL a, .bool true] = .tuple #[ofL cs, .bool (keepT e sg).2] ∧ TnAt w' cs (keepT e sg).1 := by
    intro v A' c' g hr hc hn
    have hk : keepT e sg = ((⟨e.nm, e.d, e.g, e.s, e.o, e.q, both e.l sg⟩ : Tn), true) := by unfold keepT; rw [if_neg hc, if_neg (not_not_intro hn)]
    rw [hk]
    have r1v := r1.fr g (fun h => h)
    refine r1v.st_mk (o := 0 + 37) (by simp [hd]) (fun v hv => by simp at hv; subst hv; rfl) (fun r f1 => ?_)
    have hsp := Tn.splice_l e A A' n (both e.l sg).length c c' (both e.l sg) hd
    have r : RecAt (stB v b1 (0 + 37) [Value.slice A' (both e.l sg).length c']) b1 35 ((⟨e.nm, e.d, e.g, e.s, e.o, e.q, both e.l sg⟩ : Tn).cs A' (both e.l sg).length c') := by rw [← hsp]; exact r
    generalize stB v b1 (0 + 37) [Value.slice A' (both e.l sg).length c'] = v2 at r f1 ⊢
    refine ⟨_, by simp [Tn.cs, hd], rec_all r, gd_mk (by simp [Tn.cs, hd]) ?_⟩
    have r5v := (r5.fr g (fun h => h)).fr f1 (fun h => n15 h.symm)
    have hr2 := f1.row hr (fun k hk h' => by have := (hr.blt hk).1; omega)
    exact st_all r5v z35 (by simp [Tn.cs, hd]) ((⟨e.nm, e.d, e.g, e.s, e.o, e.q, both e.l sg⟩ : Tn).one A' _ c') (fun w' f5 r5' => ⟨fr_own (fr_own (f.trans1 g) f1 hb1w) f5 hb5w, _, rfl, A', _, c', rfl, sl_fr1 hr2 f5 hb5, hd⟩)
  refine ⟨A, n, c, rec_end r1 (bvl hd) (j := 4) rfl rfl, (both_calls A n c e.l S m k sg u (sl_fr hs f) (sl_fr hsg f) (by omega) (by omega)).mono ?_⟩
  rintro r u4 ⟨g4, A', c', rfl, h4⟩
  refine ⟨_, _, _, rfl, e.s, rec_end (r1.fr g4 (fun h => h)) (bvl hd) (j := 1) rfl rfl, (in_calls S m k sg e.s u4 (sl_fr hsg (f.trans1 g4)) (by omega)).mono ?_⟩
  rintro r u5 ⟨rfl, rfl⟩
  refine ⟨_, rfl, ?_⟩
  have fin : ∀ t17 : Bool, t17 = decide (e.s ∈ sg ∧ (¬ e.g = true ∨ both e.l sg ≠ [])) → jnC (F20.k3 (fun v w' => Fr (fun _ => False) w w' ∧ ∃ cs, v = .tuple #[ofL cs, .bool (keepT e sg).2] ∧ TnAt w' cs (keepT e sg).1)) ((b1, 0), (b5, 0), (A', (both e.l sg).length, c'), t17, ()) u5 := by
    intro t17 ht
    refine jnC_mk (fun _ => vIf_mk (fun h1 => ?_) (fun h1 => jnC_mk (fun _ => ?_)))
    · have h1 : t17 = true := h1
      rw [h1] at ht
      have hc := of_decide_eq_true ht.symm
      exact e3 u5 A' c' g4 h4 (fun h => h.2.elim (fun h' => h' hc.1) (fun h' => hc.2.elim (fun h'' => h'' h') (fun h'' => h'' h.1))) hc.1
    · have h1 : t17 = false := h1
      rw [h1] at ht
      have hc := of_decide_eq_false ht.symm
      refine vIf_mk (fun h2 => ⟨e.nm, (r1.fr g4 (fun h => h)).cell rfl, gd_mk rfl ?_⟩) (fun h2 => gd_mk rfl ?_)
      · have h2 : both e.l sg ≠ [] := fun h => by rw [h] at h2; simp at h2
        exact e2 u5 A' c' g4 h4 (fun h => h2 h.1) (fun h => hc ⟨h, .inr h2⟩)
      · have h2 : both e.l sg = [] := List.length_eq_zero_iff.1 (by have h2 := of_decide_eq_false h2; dsimp only at h2; omega)
        refine e1 u5 g4 ⟨h2, ?_⟩
        by_cases hs : e.s ∈ sg
        · by_cases hk : e.g = true
          · exact .inr hk
          · exact absurd ⟨hs, .inl hk⟩ hc
        · exact .inl hs
  refine vIf_mk (fun h0 => ⟨e.g, rec_end (r1.fr g4 (fun h => h)) (bvl hd) (j := 0) rfl rfl, vIf_mk (fun h1 => fin true ?_) (fun h1 => fin _ ?_)⟩) (fun h0 => fin false ?_)
  · have h0 : e.s ∈ sg := by simpa using h0
    have h1 : ¬ e.g = true := by simpa using h1
    rw [decide_eq_true ⟨h0, .inl h1⟩]
  · have h0 : e.s ∈ sg := by simpa using h0
    have h1 : e.g = true := by simpa using h1
    rw [Bool.eq_iff_iff, decide_eq_true_iff, decide_eq_true_iff]
    constructor
    · intro h
      exact ⟨h0, .inr (fun h' => by rw [h'] at h; simp at h)⟩
    · rintro ⟨_, h | h⟩
      · exact absurd h1 h
      · have : (both e.l sg).length ≠ 0 := fun h' => h (List.length_eq_zero_iff.1 h')
        omega
  · have h0 : e.s ∉ sg := by simpa using h0
    rw [decide_eq_false (fun h => h0 h.1)]
/-! ### Same -/
theorem same_calls (e : En) (x0 x1 : List Value) (w : World) (h0 : EnAt w x0 e) (h1 : EnAt w x1 e) (hn : e.l.length ≤ 8589934592) :
    Calls Try.prog 7 #[ofL x0, ofL x1] w fun r w' => r = .returned (.bool true) ∧ Fr (fun _ => False) w w' := by
  refine (F7.of x0 x1 w (Q := fun v w' => v = .bool true ∧ Fr (fun _ => False) w w') ?_).mono (fun e w' ⟨v, he, hv, h⟩ => ⟨by rw [he, hv], h⟩)
  obtain ⟨A, n, c, rfl, hs, hd⟩ := h0
  obtain ⟨A', n', c', rfl, hs', _⟩ := h1
  have hl := sl_n hs
  refine nw2 (fun b1 b3 u f r1 r3 _ _ _ => ?_)
  have r1 : RecAt u b1 _ ([] ++ (e.d.map bv ++ [.int .i64 e.k, .int .i64 e.z, .int .i64 e.s, .int .i64 e.o, .int .i64 e.q, .slice A n c])) := r1
  have r3 : RecAt u b3 _ ([] ++ (e.d.map bv ++ [.int .i64 e.k, .int .i64 e.z, .int .i64 e.s, .int .i64 e.o, .int .i64 e.q, .slice A' n' c'])) := r3
  refine ⟨_, bvl hd, rec_mid r1, _, bvl hd, rec_mid r3, e.d, e.d, hd, hd, rfl, rfl, vIf_t (by simp) ⟨e.k, rec_end r1 (bvl hd) (j := 0) rfl rfl, e.k, rec_end r3 (bvl hd) (j := 0) rfl rfl, vIf_t (by simp) ⟨e.z, rec_end r1 (bvl hd) (j := 1) rfl rfl, e.z, rec_end r3 (bvl hd) (j := 1) rfl rfl, vIf_t (by simp) ?_⟩⟩⟩
  refine ⟨[.int .i64 e.s, .int .i64 e.o, .int .i64 e.q], rfl, rec_loc r1 (bvl hd) (j := 2) rfl rfl rfl rfl, [.int .i64 e.s, .int .i64 e.o, .int .i64 e.q], rfl, rec_loc r3 (bvl hd) (j := 2) rfl rfl rfl rfl, [e.s, e.o, e.q], [e.s, e.o, e.q], rfl, rfl, rfl, rfl, vIf_t (by simp) ?_⟩
  refine ⟨A, n, c, rec_end r1 (bvl hd) (j := 5) rfl rfl, A', n', c', rec_end r3 (bvl hd) (j := 5) rfl rfl, (ints_calls A n c e.l A' n' c' e.l u (sl_fr hs f) (sl_fr hs' f) (by omega)).mono ?_⟩
  rintro r u2 ⟨rfl, f2⟩
  exact ⟨_, rfl, by rw [decide_eq_true rfl], f.trans1 f2⟩
theorem sameT_calls (e : Tn) (x0 x1 : List Value) (w : World) (h0 : TnAt w x0 e) (h1 : TnAt w x1 e) (hn : e.l.length ≤ 8589934592) :
    Calls Try.prog 13 #[ofL x0, ofL x1] w fun r w' => r = .returned (.bool true) ∧ Fr (fun _ => False) w w' := by
  refine (F13.of x0 x1 w (Q := fun v w' => v = .bool true ∧ Fr (fun _ => False) w w') ?_).mono (fun e w' ⟨v, he, hv, h⟩ => ⟨by rw [he, hv], h⟩)
  obtain ⟨A, n, c, rfl, hs, hd⟩ := h0
  obtain ⟨A', n', c', rfl, hs', _⟩ := h1
  have hl := sl_n hs
  refine nw2 (fun b1 b3 u f r1 r3 _ _ _ => ?_)
  have r1 : RecAt u b1 _ ([.string e.nm] ++ (e.d.map bv ++ [.bool e.g, .int .i64 e.s, .int .i64 e.o, .int .i64 e.q, .slice A n c])) := r1
  have r3 : RecAt u b3 _ ([.string e.nm] ++ (e.d.map bv ++ [.bool e.g, .int .i64 e.s, .int .i64 e.o, .int .i64 e.q, .slice A' n' c'])) := r3
  refine ⟨e.nm, r1.cell rfl, e.nm, r3.cell rfl, vIf_t (by simp) ⟨_, bvl hd, rec_mid r1, _, bvl hd, rec_mid r3, e.d, e.d, hd, hd, rfl, rfl, vIf_t (by simp) ⟨e.g, rec_end r1 (bvl hd) (j := 0) rfl rfl, e.g, rec_end r3 (bvl hd) (j := 0) rfl rfl, vIf_t (by simp) ?_⟩⟩⟩
  refine ⟨[.int .i64 e.s, .int .i64 e.o, .int .i64 e.q], rfl, rec_loc r1 (bvl hd) (j := 1) rfl rfl rfl rfl, [.int .i64 e.s, .int .i64 e.o, .int .i64 e.q], rfl, rec_loc r3 (bvl hd) (j := 1) rfl rfl rfl rfl, [e.s, e.o, e.q], [e.s, e.o, e.q], rfl, rfl, rfl, rfl, vIf_t (by simp) ?_⟩
  refine ⟨A, n, c, rec_end r1 (bvl hd) (j := 4) rfl rfl, A', n', c', rec_end r3 (bvl hd) (j := 4) rfl rfl, (ints_calls A n c e.l A' n' c' e.l u (sl_fr hs f) (sl_fr hs' f) (by omega)).mono ?_⟩
  rintro r u2 ⟨rfl, f2⟩
  exact ⟨_, rfl, by rw [decide_eq_true rfl], f.trans1 f2⟩
/-! ### Alive -/
def liveE (e : En) : Bool := !(e.k == 5) || decide (others e.l e.s ≠ 0)
def liveT (e : Tn) : Bool := !e.g || decide (others e.l e.s ≠ 0)
theorem alive_calls (e : En) (x0 : List Value) (w : World) (h : EnAt w x0 e) (hn : e.l.length ≤ 8589934592) :
    Calls Try.prog 21 #[ofL x0] w fun r w' => r = .returned (.bool (liveE e)) ∧ Fr (fun _ => False) w w' := by
  refine (F21.of x0 w (Q := fun v w' => v = .bool (liveE e) ∧ Fr (fun _ => False) w w') ?_).mono (fun e w' ⟨v, he, hv, h⟩ => ⟨by rw [he, hv], h⟩)
  obtain ⟨A, n, c, rfl, hs, hd⟩ := h
  have hl := sl_n hs
  refine nw_mk ?_
  have f : Fr (fun _ => False) w (w.alloc (.cells (e.cs A n c).toArray 28)) := Fr.alloc _ _ _
  have r1 : RecAt (w.alloc (.cells (e.cs A n c).toArray 28)) w.heap.size 28 ([] ++ (e.d.map bv ++ [.int .i64 e.k, .int .i64 e.z, .int .i64 e.s, .int .i64 e.o, .int .i64 e.q, .slice A n c])) := RecAt.new _ _ _
  generalize w.alloc (.cells (e.cs A n c).toArray 28) = u at f r1 ⊢
  refine ⟨e.k, rec_end r1 (bvl hd) (j := 0) rfl rfl, vIf_mk (fun h1 => ⟨?_, f⟩) (fun h1 => ?_)⟩
  · have : liveE e = true := by unfold liveE; rw [show (!(e.k == 5)) = true from h1]; rfl
    rw [this]
  · refine ⟨A, n, c, rec_end r1 (bvl hd) (j := 5) rfl rfl, e.s, rec_end r1 (bvl hd) (j := 2) rfl rfl, (other_calls A n c e.l e.s u (sl_fr hs f) (by omega)).mono ?_⟩
    rintro r u2 ⟨rfl, f2⟩
    have : liveE e = decide (others e.l e.s ≠ 0) := by unfold liveE; rw [show (!(e.k == 5)) = false from h1]; rfl
    exact ⟨_, rfl, by rw [this], f.trans1 f2⟩
theorem aliveT_calls (e : Tn) (x0 : List Value) (w : World) (h : TnAt w x0 e) (hn : e.l.length ≤ 8589934592) :
    Calls Try.prog 23 #[ofL x0] w fun r w' => r = .returned (.bool (liveT e)) ∧ Fr (fun _ => False) w w' := by
  refine (F23.of x0 w (Q := fun v w' => v = .bool (liveT e) ∧ Fr (fun _ => False) w w') ?_).mono (fun e w' ⟨v, he, hv, h⟩ => ⟨by rw [he, hv], h⟩)
  obtain ⟨A, n, c, rfl, hs, hd⟩ := h
  have hl := sl_n hs
  refine nw_mk ?_
  have f : Fr (fun _ => False) w (w.alloc (.cells (e.cs A n c).toArray 35)) := Fr.alloc _ _ _
  have r1 : RecAt (w.alloc (.cells (e.cs A n c).toArray 35)) w.heap.size 35 ([.string e.nm] ++ (e.d.map bv ++ [.bool e.g, .int .i64 e.s, .int .i64 e.o, .int .i64 e.q, .slice A n c])) := RecAt.new _ _ _
  generalize w.alloc (.cells (e.cs A n c).toArray 35) = u at f r1 ⊢
  refine ⟨e.g, rec_end r1 (bvl hd) (j := 0) rfl rfl, vIf_mk (fun h1 => ⟨?_, f⟩) (fun h1 => ?_)⟩
  · have : liveT e = true := by unfold liveT; rw [h1]; rfl
    rw [this]
  · refine ⟨A, n, c, rec_end r1 (bvl hd) (j := 4) rfl rfl, e.s, rec_end r1 (bvl hd) (j := 1) rfl rfl, (other_calls A n c e.l e.s u (sl_fr hs f) (by omega)).mono ?_⟩
    rintro r u2 ⟨rfl, f2⟩
    have : liveT e = decide (others e.l e.s ≠ 0) := by unfold liveT; rw [h1]; rfl
    exact ⟨_, rfl, by rw [this], f.trans1 f2⟩
end Go.Proofs.Ytiiabhgcmgfgfaa
