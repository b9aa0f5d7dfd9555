/- an index: Get, Apply, Row -/
import Derived.Test.YtnablplljilahaaLIxT
namespace Go.Proofs.Ytnablplljilahaa
open Go.GV Go.RowKit Go.Lib
set_option linter.unusedVariables false
set_option linter.unusedSimpArgs false
/-- a variable of k cells gets its cells -/
theorem var_k {w : World} {t : TypeId} {z cs : List Value} {k : Nat} {K : Nat → World → Prop} (hz : z.length = k) (hl : cs.length = k) (h1 : ∀ v ∈ cs, v.oneCell' = true)
    (hK : ∀ b u, Fr (fun _ => False) w u → RecAt u b t cs → w.heap.size ≤ b → K b u) : nw w z t fun b w' => gd (cs.length == k) (st w' b 0 cs fun w'' => K b w'') := by
  refine nw_mk (gd_mk (by rw [hl]; simp) ?_)
  have f1 : Fr (fun _ => False) w (w.alloc (.cells z.toArray t)) := Fr.alloc _ _ _
  refine (RecAt.new w z t).st_mk (o := 0) (by omega) h1 (fun r f => ?_)
  rw [splice_full (by omega)] at r
  exact hK _ _ (f1.trans f (fun _ _ h => h) (fun k hk h' => by omega)) r (Nat.le_refl _)
set_option maxRecDepth 10000 in
theorem getX_calls {X : Nat → Prop} (base ib bt bs N p : Nat) (S : Slo.SRow) (l : List En) (dg : List UInt8) (w : World) (h : Ix X w base ib bt bs N p S l) (hd : dg.length = 32) (hb : BdE 4294967296 l) :
    Calls Try.prog 12 #[.pointer (some ⟨ib, 0, none⟩), ofL (dg.map bv)] w fun e w' => Fr (fun _ => False) w w' ∧ ∃ cs, e = .returned (.tuple #[ofL cs, .bool (getE dg l).2]) ∧ EnP (fun k => w.heap.size ≤ k) w' cs (getE dg l).1 := by
  refine (F12.of (some ⟨ib, 0, none⟩) (dg.map bv) w (Q := fun v w' => Fr (fun _ => False) w w' ∧ ∃ cs, v = .tuple #[ofL cs, .bool (getE dg l).2] ∧ EnP (fun k => w.heap.size ≤ k) w' cs (getE dg l).1) ?_).mono (fun e w' ⟨v, he, hf, cs, hv, h⟩ => ⟨hf, cs, by rw [he, hv], h⟩)
  have hbg := hb.get dg
  refine nw2 (fun b1 b3 u f r1 r3 hb1w hb3w n13 => vIf_f rfl ?_)
  have f := f.trans1 (Fr.drew _ u)
  have r1 : RecAt u.drew _ _ _ := r1
  have r3 : RecAt u.drew _ _ _ := r3
  have hI := h.fr0 f
  generalize u.drew = u at f r1 r3 hI ⊢
  have hb1 := r1.lt
  have hib := hI.ri.lt
  have r1' : RecAt u b1 29 ([] ++ (dg.map bv ++ [])) := by simpa using r1
  -- the copy is made, and answered
  have fin : ∀ (v : World) (cs : List Value), Fr (fun _ => False) u v → EnP (fun j => ¬ DI ib bt bs j ∧ X j) v cs (getE dg l).1 → 
      Calls Try.prog 22 #[ofL cs] v fun e20 w19 => ∃ a21 : List Value, e20 = .returned (ofL a21) ∧ (gd (a21.length == 38) <| st w19 b3 0 a21 fun w22 => ldA 38 w22 b3 0 fun a23 => Fr (fun _ => False) w w22 ∧ ∃ cs, Value.tuple #[ofL a23, Value.bool (getE dg l).2] = .tuple #[ofL cs, .bool (getE dg l).2] ∧ EnP (fun k => w.heap.size ≤ k) w22 cs (getE dg l).1) := by
    intro v cs g hE
    refine (freshE_calls _ cs v hE hbg).mono ?_
    rintro r v2 ⟨g2, cs2, rfl, hE2⟩
    have hs := (f.trans1 g).size
    refine ⟨_, rfl, gd_mk (by rw [hE2.len]; rfl) (st_all (r3.fr (g.trans1 g2) (fun h => h)) z28 hE2.len hE2.one (fun w4 f4 r4 => ⟨fr_own ((f.trans1 g).trans1 g2) f4 hb3w, _, rfl, ?_⟩))⟩
    have hb3v := (r3.fr g (fun h => h)).lt
    exact (hE2.fr f4 (fun k hk h' => by omega)).mono (fun k _ hk => by omega)
  refine dr_mk ⟨_, hI.ri.cell rfl, dg.map bv, bvl hd, rec_all r1, ?_, ?_⟩
  · refine (tget_calls base ib bt bs N p S l dg u hI hd).mono ?_
    rintro r u2 ⟨g2, cs, rfl, hE⟩
    refine ⟨_, _, rfl, nw_mk ?_⟩
    have g3 : Fr (fun _ => False) u2 (u2.alloc (.cells Z42.toArray 42)) := Fr.alloc _ _ _
    have r15 := RecAt.new u2 Z42 42
    have g23 := g2.trans1 g3
    generalize hb15 : u2.heap.size = b15 at r15 ⊢
    generalize u2.alloc (.cells Z42.toArray 42) = u3 at g3 r15 g23 ⊢
    refine kp_mk g23 hb1 (fun h => h) (kp_mk g23 hib (fun h => h) (gd_mk (by rw [hE.len]; rfl) (st_all r15 z28 hE.len hE.one (fun u4 g4 r4 => ?_))))
    have g34 : Fr (fun _ => False) u2 u4 := g3.trans g4 (fun _ _ h => h) (fun k hk h' => by omega)
    exact fin u4 _ (g2.trans1 g34) (hE.fr0 g34)
  · refine nw_mk ?_
    have g3 : Fr (fun _ => False) u (u.alloc (.cells Z42.toArray 42)) := Fr.alloc _ _ _
    have r15 := RecAt.new u Z42 42
    have hI3 := (hI.monoX (X' := fun k => X k ∧ k < u.heap.size) (fun k hk h => ⟨h, hk⟩)).fr0 g3
    generalize hb15 : u.heap.size = b15 at r15 hI3 ⊢
    generalize u.alloc (.cells Z42.toArray 42) = u3 at g3 r15 hI3 ⊢
    refine kp_mk g3 hb1 (fun h => h) (kp_mk g3 hib (fun h => h) ((tget_calls base ib bt bs N p S l dg u3 hI3 hd).mono ?_))
    rintro r u2 ⟨g2, cs, rfl, hE⟩
    refine ⟨_, _, rfl, gd_mk (by rw [hE.len]; rfl) (st_all (r15.fr g2 (fun h => h)) z28 hE.len hE.one (fun u4 g4 r4 => ?_))⟩
    have hl15 := r15.lt
    have g34 : Fr (fun _ => False) u u4 := (g3.trans1 g2).trans g4 (fun _ _ h => h) (fun k hk h' => by omega)
    exact fin u4 _ g34 ((hE.fr g4 (fun k hk h' => by have := hk.2.2; omega)).mono (fun k _ hk => ⟨hk.1, hk.2.1⟩))
/-- what is behind Apply -/
theorem applyX_calls {X : Nat → Prop} (base ib bt bs N p : Nat) (S : Slo.SRow) (l : List En) (x : Wd) (w : World) (h : Ix X w base ib bt bs N p S l) (hx : x.d.length = 32) (hb : BdE 4294967296 l) (hp : p ≤ 34359738368) (hB : base ≤ w.heap.size) (hX : ∀ k, w.heap.size ≤ k → X k) :
    Calls Try.prog 8 #[.pointer (some ⟨ib, 0, none⟩), ofL x.cs] w fun e w' => e = .returned (.tuple #[]) ∧ Fr (DI ib bt bs) w w' ∧ ∃ bs' N' S', Ix X w' base ib bt bs' N' (p + 1) S' (applyE l x) ∧ (bs' = bs ∨ w.heap.size ≤ bs') := by
  refine (F8.of (some ⟨ib, 0, none⟩) x.cs w (Q := fun v w' => v = .tuple #[] ∧ Fr (DI ib bt bs) w w' ∧ ∃ bs' N' S', Ix X w' base ib bt bs' N' (p + 1) S' (applyE l x) ∧ (bs' = bs ∨ w.heap.size ≤ bs')) ?_).mono (fun e w' ⟨v, he, hv, h⟩ => ⟨by rw [he, hv], h⟩)
  have hbg := hb.get x.d
  refine nw_mk (vIf_f rfl ?_)
  have f : Fr (fun _ => False) w (w.alloc (.cells x.cs.toArray 33)).drew := (Fr.alloc _ _ _).trans1 (Fr.drew _ _)
  have r1 : RecAt (w.alloc (.cells x.cs.toArray 33)).drew w.heap.size 33 ([.int .i64 x.k, .int .u64 x.sq] ++ (x.d.map bv ++ [.string x.nm, .int .i64 x.z, .int .i64 x.s, .int .i64 x.o, .int .i64 x.q])) := RecAt.new w _ _
  have hI := h.fr0 f
  have hltw := fun k hk => h.lt (k := k) hk
  generalize (w.alloc (.cells x.cs.toArray 33)).drew = u at f r1 hI ⊢
  generalize hb1 : w.heap.size = b1 at *
  have hb1l := r1.lt
  have hib := hI.ri.lt
  have xl : x.cs.length = 39 := by simp [Wd.cs, hx]
  -- the word's kind decides
  have fin : ∀ (v : World) (b : Nat) (cs : List Value), Fr (fun _ => False) u v → RecAt v b 42 cs → EnP (fun j => ¬ DI ib bt bs j ∧ X j) v cs (getE x.d l).1 → Ix X v base ib bt bs N p S l → b1 < b →
      ldI .i64 v b1 0 fun i14 => vIf (i14 == 1) (jnC (F8.k6 (fun v w' => v = .tuple #[] ∧ Fr (DI ib bt bs) w w' ∧ ∃ bs' N' S', Ix X w' base ib bt bs' N' (p + 1) S' (applyE l x) ∧ (bs' = bs ∨ b1 ≤ bs'))) (some ⟨ib, 0, none⟩, (b1, 0), (b, 0), (getE x.d l).2, (i14), (i14 == 1), ()) v)
        (jnC (F8.k6 (fun v w' => v = .tuple #[] ∧ Fr (DI ib bt bs) w w' ∧ ∃ bs' N' S', Ix X w' base ib bt bs' N' (p + 1) S' (applyE l x) ∧ (bs' = bs ∨ b1 ≤ bs'))) (some ⟨ib, 0, none⟩, (b1, 0), (b, 0), (getE x.d l).2, (i14), (i14 == 2), ()) v) := by
    intro v b cs g rb hE hIv hbb
    have r1v := r1.fr g (fun h => h)
    have hs := g.size
    have hs0 := f.size
    have put : ∀ (bb : Bool), bb = decide (x.k = 1 ∨ x.k = 2) → jnC (F8.k6 (fun v w' => v = .tuple #[] ∧ Fr (DI ib bt bs) w w' ∧ ∃ bs' N' S', Ix X w' base ib bt bs' N' (p + 1) S' (applyE l x) ∧ (bs' = bs ∨ b1 ≤ bs'))) (some ⟨ib, 0, none⟩, (b1, 0), (b, 0), (getE x.d l).2, x.k, bb, ()) v := by
      intro bb hbb
      refine jnC_mk (fun _ => ?_)
      refine vIf_mk (fun h1 => ?_) (fun h1 => vIf_mk (fun h5 => vIf_mk (fun hin => ?_) (fun hin => ?_)) (fun h5 => ?_))
      · have hk : x.k = 1 ∨ x.k = 2 := by
          have h1 : bb = true := h1
          rw [h1] at hbb; exact of_decide_eq_true hbb.symm
        have ha : applyE l x = setE (putE (getE x.d l).1 x) l := if_pos hk
        have gd1 : Fr (fun _ => False) v v.drew := Fr.drew _ _
        have hIv := hIv.fr0 gd1
        have hE := hE.fr0 gd1
        have r1v : RecAt v.drew _ _ _ := r1v
        have rb : RecAt v.drew _ _ _ := rb
        have g := g.trans1 gd1
        generalize v.drew = v at gd1 hIv hE r1v rb g ⊢
        have hs := g.size
        refine dr_mk ⟨_, hIv.ri.cell rfl, x.d.map bv, bvl hx, rec_mid r1v, cs, hE.len, rec_all rb, x.cs, xl, rec_all r1v, (put_calls (getE x.d l).1 x cs v hE.at hx hbg).mono ?_⟩
        rintro r v2 ⟨g2, cs2, rfl, hE2⟩
        have hI2 := hIv.fr0 g2
        refine ⟨_, rfl, kp_mk g2 r1v.lt (fun h => h) (kp_mk g2 hIv.ri.lt (fun h => h) ?_)⟩
        refine (tputX_calls base ib bt bs N p S l (putE (getE x.d l).1 x) cs2 v2 hI2 (hE2.mono (fun k _ hk => ⟨fun h' => by have := (hIv.lt h').2; omega, hX k (by omega)⟩)) hp (by have := g2.size; omega)).mono ?_
        rintro r v3 ⟨rfl, g3, bs3, N3, p3, S3, h3, hbs, hp3, _⟩
        rw [← ha] at h3
        have hs2 := g2.size
        refine ⟨rfl, rfl, ?_, bs3, N3, S3, h3.monoP hp3, hbs.imp id (fun hh => by omega)⟩
        exact ((f.trans1 (g.trans1 g2)).mono (fun _ _ h => h.elim)).trans1 (g3.mono (fun k _ hk => .inr hk))
      · have h1 : bb = false := h1
        rw [h1] at hbb
        have hk := of_decide_eq_false hbb.symm
        have h5 : x.k = 5 := by simpa using h5
        have ha : applyE l x = setE (delE (getE x.d l).1 x) l := by unfold applyE; rw [if_neg hk, if_pos ⟨h5, hin⟩]
        have hdd : (delE (getE x.d l).1 x).d = x.d := (getE_mem hin).2
        have gd1 : Fr (fun _ => False) v v.drew := Fr.drew _ _
        have hIv := hIv.fr0 gd1
        have hE := hE.fr0 gd1
        have r1v : RecAt v.drew _ _ _ := r1v
        have rb : RecAt v.drew _ _ _ := rb
        have g := g.trans1 gd1
        generalize v.drew = v at gd1 hIv hE r1v rb g ⊢
        have hs := g.size
        refine dr_mk ⟨_, hIv.ri.cell rfl, x.d.map bv, bvl hx, rec_mid r1v, cs, hE.len, rec_all rb, x.cs, xl, rec_all r1v, (del_calls (getE x.d l).1 x cs v hE.at hx hbg).mono ?_⟩
        rintro r v2 ⟨g2, cs2, rfl, hE2⟩
        have hI2 := hIv.fr0 g2
        refine ⟨_, rfl, kp_mk g2 r1v.lt (fun h => h) (kp_mk g2 hIv.ri.lt (fun h => h) ?_)⟩
        have tp := tputX_calls base ib bt bs N p S l (delE (getE x.d l).1 x) cs2 v2 hI2 (hE2.mono (fun k _ hk => ⟨fun h' => by have := (hIv.lt h').2; omega, hX k (by omega)⟩)) hp (by have := g2.size; omega)
        rw [hdd] at tp
        refine tp.mono ?_
        rintro r v3 ⟨rfl, g3, bs3, N3, p3, S3, h3, hbs, hp3, _⟩
        rw [← ha] at h3
        have hs2 := g2.size
        refine ⟨rfl, rfl, ?_, bs3, N3, S3, h3.monoP hp3, hbs.imp id (fun hh => by omega)⟩
        exact ((f.trans1 (g.trans1 g2)).mono (fun _ _ h => h.elim)).trans1 (g3.mono (fun k _ hk => .inr hk))
      · have h1 : bb = false := h1
        rw [h1] at hbb
        have hk := of_decide_eq_false hbb.symm
        have hin : (getE x.d l).2 = false := hin
        have ha : applyE l x = l := by unfold applyE; rw [if_neg hk, if_neg (fun h => by rw [hin] at h; cases h.2)]
        rw [ha]
        exact ⟨rfl, (f.trans1 g).mono (fun _ _ h => h.elim), bs, N, S, hIv.monoP (by omega), .inl rfl⟩
      · have h1 : bb = false := h1
        rw [h1] at hbb
        have hk := of_decide_eq_false hbb.symm
        have h5 : x.k ≠ 5 := by simpa using h5
        have ha : applyE l x = l := by unfold applyE; rw [if_neg hk, if_neg (fun h => h5 h.1)]
        rw [ha]
        exact ⟨rfl, (f.trans1 g).mono (fun _ _ h => h.elim), bs, N, S, hIv.monoP (by omega), .inl rfl⟩
    refine ⟨x.k, r1v.cell rfl, vIf_mk (fun h1 => put _ ?_) (fun h1 => put _ ?_)⟩
    · rw [h1, decide_eq_true]
      exact .inl (by simpa using h1)
    · have h1 : x.k ≠ 1 := by simpa using h1
      rw [Bool.eq_iff_iff, decide_eq_true_iff]
      simp [h1]
  refine dr_mk ⟨_, hI.ri.cell rfl, x.d.map bv, bvl hx, rec_mid r1, ?_, ?_⟩
  · refine (tget_calls base ib bt bs N p S l x.d u hI hx).mono ?_
    rintro r u2 ⟨g2, cs, rfl, hE⟩
    refine ⟨_, _, rfl, nw_mk ?_⟩
    have g3 : Fr (fun _ => False) u2 (u2.alloc (.cells Z42.toArray 42)) := Fr.alloc _ _ _
    have r15 := RecAt.new u2 Z42 42
    have g23 := g2.trans1 g3
    have hs2 := g2.size
    generalize hb15 : u2.heap.size = b15 at r15 hs2 ⊢
    generalize u2.alloc (.cells Z42.toArray 42) = u3 at g3 r15 g23 ⊢
    refine kp_mk g23 hb1l (fun h => h) (kp_mk g23 hib (fun h => h) (gd_mk (by rw [hE.len]; rfl) (r15.st_mk (o := 0) (by rw [hE.len]; exact Nat.le_refl _) hE.one (fun r4 g4 => ?_))))
    rw [splice_full (by rw [hE.len]; rfl)] at r4
    have g34 : Fr (fun _ => False) u2 (stB u3 b15 0 cs) := g3.trans g4 (fun _ _ h => h) (fun k hk h' => by omega)
    exact fin _ b15 cs (g2.trans1 g34) r4 (hE.fr0 g34) ((hI.fr0 g2).fr0 g34) (by omega)
  · refine nw_mk ?_
    have g3 : Fr (fun _ => False) u (u.alloc (.cells Z42.toArray 42)) := Fr.alloc _ _ _
    have r15 := RecAt.new u Z42 42
    have hI3 := (hI.monoX (X' := fun k => X k ∧ k < u.heap.size) (fun k hk h => ⟨h, hk⟩)).fr0 g3
    generalize hb15 : u.heap.size = b15 at r15 hI3 hb1l ⊢
    generalize u.alloc (.cells Z42.toArray 42) = u3 at g3 r15 hI3 ⊢
    refine kp_mk g3 (by omega) (fun h => h) (kp_mk g3 hib (fun h => h) ((tget_calls base ib bt bs N p S l x.d u3 hI3 hx).mono ?_))
    rintro r u2 ⟨g2, cs, rfl, hE⟩
    have hl15 := r15.lt
    refine ⟨_, _, rfl, gd_mk (by rw [hE.len]; rfl) ((r15.fr g2 (fun h => h)).st_mk (o := 0) (by rw [hE.len]; exact Nat.le_refl _) hE.one (fun r4 g4 => ?_))⟩
    rw [splice_full (by rw [hE.len]; rfl)] at r4
    have g34 : Fr (fun _ => False) u (stB u2 b15 0 cs) := (g3.trans1 g2).trans g4 (fun _ _ h => h) (fun k hk h' => by omega)
    exact fin _ b15 cs g34 r4 ((hE.fr g4 (fun k hk h' => by have := hk.2.2; omega)).mono (fun k _ hk => ⟨hk.1, hk.2.1⟩)) (hI.fr0 g34) hb1l
end Go.Proofs.Ytnablplljilahaa
