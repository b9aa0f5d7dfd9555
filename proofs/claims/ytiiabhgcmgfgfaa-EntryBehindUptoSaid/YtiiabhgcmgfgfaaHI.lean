/- chapter 19: lives, and the three laws -/
import Derived.Test.YtiiabhgcmgfgfaaHH
namespace Go.Proofs.Ytiiabhgcmgfgfaa
open Go.GV Go.RowKit Go.Lib
set_option linter.unusedVariables false
set_option linter.unusedSimpArgs false
/-- a variable that takes what a call handed back -/
theorem var_mk {w : World} {t : TypeId} {z cs : List Value} {K : Nat → World → Prop} (hz : z.length = 38) (hl : cs.length = 38) (h1 : ∀ v ∈ cs, v.oneCell' = true)
    (hK : ∀ b u, Fr (fun _ => False) w u → RecAt u b t cs → K b u) : nw w z t fun b w' => gd (cs.length == 38) (st w' b 0 cs fun w'' => K b w'') := by
  refine nw_mk (gd_mk (by rw [hl]; rfl) ?_)
  have f1 : Fr (fun _ => False) w (w.alloc (.cells z.toArray t)) := Fr.alloc _ _ _
  refine (RecAt.new w z t).st_mk (o := 0) (by omega) h1 (fun r f => ?_)
  rw [splice_full (by omega)] at r
  exact hK _ _ (f1.trans f (fun _ _ h => h) (fun k hk h' => by omega)) r
def one1 : List UInt8 := 1 :: List.replicate 31 0
def wd1 : Wd := ⟨1, 0, one1, ⟨#[]⟩, 9, 1, 0, 0⟩
def wd2 : Wd := ⟨5, 0, one1, ⟨#[]⟩, 0, 2, 0, 0⟩
def ent1 : En := ⟨one1, 1, 9, 1, 0, 0, [1]⟩
def ent2 : En := ⟨one1, 5, 0, 2, 0, 0, [1]⟩
theorem ent1_eq : putE zE wd1 = ent1 := by
  have : norm ([] ++ [1]) = [1] := by decide
  show (⟨one1, 1, 9, 1, 0, 0, norm ([] ++ [1])⟩ : En) = _
  rw [this]; rfl
theorem ent2_eq : delE ent1 wd2 = ent2 := by
  have : norm [1] = [1] := by decide
  show (⟨one1, 5, 0, 2, 0, 0, norm [1]⟩ : En) = _
  rw [this]; rfl
theorem ent2_12 : keepE ent2 [1, 2] = (ent2, true) := by
  have : both [1] [1, 2] = [1] := by decide
  unfold keepE
  rw [show both ent2.l [1, 2] = [1] from this, if_neg (by simp), if_neg (by simp [ent2])]
  rfl
theorem ent2_2 : keepE ent2 [2] = (zE, false) := by
  have : both [1] [2] = [] := by decide
  unfold keepE
  rw [show both ent2.l [2] = [] from this, if_pos ⟨rfl, .inr rfl⟩]
theorem live1 : liveE ent1 = true := by decide
theorem live2 : liveE ent2 = true := by decide
set_option maxRecDepth 100000 in
set_option maxHeartbeats 1000000 in
theorem lives_calls (w : World) : Calls Try.prog 8 #[] w fun e w' => e = .returned (.bool true) ∧ Fr (fun _ => False) w w' := by
  refine (F8.of w (Q := fun v w' => v = .bool true ∧ Fr (fun _ => False) w w') ?_).mono (fun e w' ⟨v, he, hv, h⟩ => ⟨by rw [he, hv], h⟩)
  refine gd_mk rfl (gd_mk rfl ?_)
  refine (put_calls zE wd1 (zE.cs none 0 0) w ⟨none, 0, 0, rfl, Sl.nil _ _ _, rfl⟩ rfl (by decide)).mono ?_
  rintro r w1 ⟨f1, cs1, rfl, h1⟩
  rw [ent1_eq] at h1
  refine ⟨_, rfl, var_mk z28 h1.len h1.one (fun b4 u f2 r4 => ?_)⟩
  have g2 := f1.trans1 f2
  have h1 := h1.fr f2
  refine ⟨_, h1.len, rec_all r4, gd_mk rfl (gd_mk rfl ?_)⟩
  refine (del_calls ent1 wd2 cs1 u h1 rfl (by decide)).mono ?_
  rintro r w3 ⟨f3, cs3, rfl, h3⟩
  rw [ent2_eq] at h3
  refine ⟨_, rfl, var_mk z28 h3.len h3.one (fun b11 u4 f4 r11 => ?_)⟩
  have h1 := h1.fr (f3.trans1 f4)
  have r4 := r4.fr (f3.trans1 f4) (fun h => h)
  have h3 := h3.fr f4
  have g4 := g2.trans1 (f3.trans1 f4)
  refine ⟨_, h3.len, rec_all r11, nw_mk (cs := [Value.int .i64 1, .int .i64 2]) ?_⟩
  have f5 : Fr (fun _ => False) u4 (u4.alloc (.cells [Value.int .i64 1, .int .i64 2].toArray 3)) := Fr.alloc _ _ _
  have r15 := RecAt.new u4 [Value.int .i64 1, .int .i64 2] 3
  generalize u4.alloc (.cells [Value.int .i64 1, .int .i64 2].toArray 3) = u5 at f5 r15 ⊢
  have s15 : Sl u5 1 (some ⟨u4.heap.size, 0, none⟩) 2 (ivs [1, 2]) := ⟨rfl, fun _ => ⟨_, 0, rfl, rec_all r15⟩⟩
  refine (keep_calls ent2 cs3 _ 2 2 [1, 2] u5 (h3.fr f5) s15 (by decide) (by omega)).mono ?_
  rintro r w6 ⟨f6, cs6, rfl, h6⟩
  rw [ent2_12] at h6 ⊢
  refine ⟨_, _, rfl, var_mk z28 h6.len h6.one (fun b21 u7 f7 r21 => ?_)⟩
  have f57 := (f5.trans1 f6).trans1 f7
  have h1 := h1.fr f57
  have h3 := h3.fr f57
  have r4 := r4.fr f57 (fun h => h)
  have r11 := r11.fr f57 (fun h => h)
  have h6 := h6.fr f7
  have g7 := g4.trans1 f57
  refine ⟨_, h3.len, rec_all r11, nw_mk (cs := [Value.int .i64 2]) ?_⟩
  have f8 : Fr (fun _ => False) u7 (u7.alloc (.cells [Value.int .i64 2].toArray 3)) := Fr.alloc _ _ _
  have r25 := RecAt.new u7 [Value.int .i64 2] 3
  generalize u7.alloc (.cells [Value.int .i64 2].toArray 3) = u8 at f8 r25 ⊢
  have s25 : Sl u8 1 (some ⟨u7.heap.size, 0, none⟩) 1 (ivs [2]) := ⟨rfl, fun _ => ⟨_, 0, rfl, rec_all r25⟩⟩
  refine (keep_calls ent2 cs3 _ 1 1 [2] u8 (h3.fr f8) s25 (by decide) (by omega)).mono ?_
  rintro r w9 ⟨f9, cs9, rfl, h9⟩
  rw [ent2_2] at h9 ⊢
  refine ⟨_, _, rfl, var_mk z28 h9.len h9.one (fun b31 u10 f10 r31 => ?_)⟩
  have f80 := (f8.trans1 f9).trans1 f10
  have h1 := h1.fr f80
  have h3 := h3.fr f80
  have h6 := h6.fr f80
  have r4 := r4.fr f80 (fun h => h)
  have r11 := r11.fr f80 (fun h => h)
  have r21 := r21.fr f80 (fun h => h)
  have g10 := g7.trans1 f80
  have h1' := h1
  have h6' := h6
  obtain ⟨A1, n1, c1, e1, hs1, hd1⟩ := h1'
  obtain ⟨A6, n6, c6, e6, hs6, hd6⟩ := h6'
  have hn1 : n1 = 1 := (sl_n hs1).symm
  have hn6 : n6 = 1 := (sl_n hs6).symm
  subst hn1; subst hn6
  have q4 : RecAt u10 b4 28 ([] ++ (one1.map bv ++ [.int .i64 1, .int .i64 9, .int .i64 1, .int .i64 0, .int .i64 0, .slice A1 1 c1])) := by rw [e1] at r4; exact r4
  refine ⟨1, rec_end q4 (bvl hd1) (j := 0) rfl rfl, vIf_t rfl ⟨A1, 1, c1, rec_end q4 (bvl hd1) (j := 5) rfl rfl, vIf_t rfl ⟨_, h1.len, rec_all r4, (alive_calls ent1 cs1 u10 h1 (by decide)).mono ?_⟩⟩⟩
  rintro r w11 ⟨rfl, f11⟩
  rw [live1]
  refine ⟨_, rfl, vIf_t rfl ⟨_, h3.len, rec_all (r11.fr f11 (fun h => h)), (alive_calls ent2 cs3 w11 (h3.fr f11) (by decide)).mono ?_⟩⟩
  rintro r w12 ⟨rfl, f12⟩
  rw [live2]
  have r21 := r21.fr (f11.trans1 f12) (fun h => h)
  have q21 : RecAt w12 b21 28 ([] ++ (one1.map bv ++ [.int .i64 5, .int .i64 0, .int .i64 2, .int .i64 0, .int .i64 0, .slice A6 1 c6])) := by rw [e6] at r21; exact r21
  exact ⟨_, rfl, vIf_t rfl (vIf_t rfl ⟨A6, 1, c6, rec_end q21 (bvl hd6) (j := 5) rfl rfl, vIf_t rfl ⟨rfl, g10.trans1 (f11.trans1 f12)⟩⟩)⟩
/-! ### what is behind words -/
theorem norm_one_le (l : List Int) (x : Int) : (norm (l ++ [x])).length ≤ l.length + 1 := Nat.le_trans (norm_len _) (by simp)
set_option maxHeartbeats 1000000 in
theorem behind_law (e : En) (t : Tn) (x : Wd) (x0 x1 : List Value) (w : World) (h0 : EnAt w x0 e) (h1 : TnAt w x1 t) (hx : x.d.length = 32) (hn : e.l.length ≤ 1048576) (hnt : t.l.length ≤ 1048576) :
    Calls Try.prog 4 #[ofL x0, ofL x1, ofL x.cs] w fun r w' => r = .returned (.bool true) ∧ Fr (fun _ => False) w w' := by
  refine (F4.of x0 x1 x.cs w (Q := fun v w' => v = .bool true ∧ Fr (fun _ => False) w w') ?_).mono (fun e w' ⟨v, he, hv, h⟩ => ⟨by rw [he, hv], h⟩)
  have hxl : x.cs.length = 39 := by simp [Wd.cs, hx]
  have np := norm_one_le e.l x.s
  have nt := norm_one_le t.l x.s
  have nd := norm_len e.l
  have nu := norm_len t.l
  refine nw3 (fun b1 b3 b5 u f r1 r3 r5 _ _ _ => ?_)
  have f := f.trans1 (Fr.drew _ u)
  have r1 : RecAt u.drew b1 _ _ := r1
  have r3 : RecAt u.drew b3 _ _ := r3
  have r5 : RecAt u.drew b5 _ _ := r5
  generalize u.drew = u at f r1 r3 r5 ⊢
  have h0 := h0.fr f
  have h1 := h1.fr f
  have hb1 := r1.lt
  have hb3 := r3.lt
  have hb5 := r5.lt
  refine ⟨_, h0.len, rec_all r1, _, hxl, rec_all r5, _, h0.len, rec_all r1, _, hxl, rec_all r5, (put_calls e x x0 u h0 hx (by omega)).mono ?_⟩
  rintro r u1 ⟨f1, c1, rfl, p1⟩
  refine ⟨_, rfl, kp_mk f1 hb5 (fun h => h) (kp_mk f1 hb1 (fun h => h) ((rput_calls e x x0 u1 (h0.fr f1) hx (by omega)).mono ?_))⟩
  rintro r u2 ⟨f2, c2, rfl, p2⟩
  refine ⟨_, rfl, (same_calls _ c1 c2 u2 (p1.fr f2) p2 (by show (norm (e.l ++ [x.s])).length ≤ _; omega)).mono ?_⟩
  rintro r u3 ⟨rfl, f3⟩
  have g3 := (f1.trans1 f2).trans1 f3
  have r1 := r1.fr g3 (fun h => h)
  have r3 := r3.fr g3 (fun h => h)
  have r5 := r5.fr g3 (fun h => h)
  have h0 := h0.fr g3
  have h1 := h1.fr g3
  have hb1 := r1.lt
  have hb3 := r3.lt
  have hb5 := r5.lt
  refine ⟨_, rfl, vIf_t rfl ⟨_, h0.len, rec_all r1, _, hxl, rec_all r5, _, h0.len, rec_all r1, _, hxl, rec_all r5, (del_calls e x x0 u3 h0 hx (by omega)).mono ?_⟩⟩
  rintro r u4 ⟨f4, c1, rfl, p1⟩
  refine ⟨_, rfl, kp_mk f4 hb5 (fun h => h) (kp_mk f4 hb1 (fun h => h) ((rdel_calls e x x0 u4 (h0.fr f4) hx (by omega)).mono ?_))⟩
  rintro r u5 ⟨f5, c2, rfl, p2⟩
  refine ⟨_, rfl, (same_calls _ c1 c2 u5 (p1.fr f5) p2 (by show (norm e.l).length ≤ _; omega)).mono ?_⟩
  rintro r u6 ⟨rfl, f6⟩
  have g6 := (f4.trans1 f5).trans1 f6
  have r1 := r1.fr g6 (fun h => h)
  have r3 := r3.fr g6 (fun h => h)
  have r5 := r5.fr g6 (fun h => h)
  have h0 := h0.fr g6
  have h1 := h1.fr g6
  have hb1 := r1.lt
  have hb3 := r3.lt
  have hb5 := r5.lt
  refine ⟨_, rfl, vIf_t rfl ⟨_, h1.len, rec_all r3, _, hxl, rec_all r5, _, h1.len, rec_all r3, _, hxl, rec_all r5, (tag_calls t x x1 u6 h1 hx (by omega)).mono ?_⟩⟩
  rintro r u7 ⟨f7, c1, rfl, p1⟩
  refine ⟨_, rfl, kp_mk f7 hb5 (fun h => h) (kp_mk f7 hb3 (fun h => h) ((rtag_calls t x x1 u7 (h1.fr f7) hx (by omega)).mono ?_))⟩
  rintro r u8 ⟨f8, c2, rfl, p2⟩
  refine ⟨_, rfl, (sameT_calls _ c1 c2 u8 (p1.fr f8) p2 (by show (norm (t.l ++ [x.s])).length ≤ _; omega)).mono ?_⟩
  rintro r u9 ⟨rfl, f9⟩
  have g9 := (f7.trans1 f8).trans1 f9
  have r1 := r1.fr g9 (fun h => h)
  have r3 := r3.fr g9 (fun h => h)
  have r5 := r5.fr g9 (fun h => h)
  have h0 := h0.fr g9
  have h1 := h1.fr g9
  have hb1 := r1.lt
  have hb3 := r3.lt
  have hb5 := r5.lt
  refine ⟨_, rfl, vIf_t rfl ⟨_, h1.len, rec_all r3, _, hxl, rec_all r5, _, h1.len, rec_all r3, _, hxl, rec_all r5, (unt_calls t x x1 u9 h1 hx (by omega)).mono ?_⟩⟩
  rintro r u10 ⟨f10, c1, rfl, p1⟩
  refine ⟨_, rfl, kp_mk f10 hb5 (fun h => h) (kp_mk f10 hb3 (fun h => h) ((runt_calls t x x1 u10 (h1.fr f10) hx (by omega)).mono ?_))⟩
  rintro r u11 ⟨f11, c2, rfl, p2⟩
  refine ⟨_, rfl, (sameT_calls _ c1 c2 u11 (p1.fr f11) p2 (by show (norm t.l).length ≤ _; omega)).mono ?_⟩
  rintro r u12 ⟨rfl, f12⟩
  refine ⟨_, rfl, vIf_t rfl ((lives_calls u12).mono ?_)⟩
  rintro r u13 ⟨rfl, f13⟩
  exact ⟨_, rfl, rfl, ((((f.trans1 g3).trans1 g6).trans1 g9).trans1 ((f10.trans1 f11).trans1 f12)).trans1 f13⟩
/-! ### what is kept -/
theorem keepE_len (e : En) (sg : List Int) : (keepE e sg).1.l.length ≤ e.l.length := by
  have := both_len e.l sg
  unfold keepE
  split
  · exact Nat.zero_le _
  · split <;> exact this
theorem keepT_len (e : Tn) (sg : List Int) : (keepT e sg).1.l.length ≤ e.l.length := by
  have := both_len e.l sg
  unfold keepT
  split
  · exact Nat.zero_le _
  · split <;> exact this
set_option maxHeartbeats 1000000 in
theorem keeps_law (e : En) (t : Tn) (S : Option Addr) (m k : Nat) (sg : List Int) (x0 x1 : List Value) (w : World) (h0 : EnAt w x0 e) (h1 : TnAt w x1 t) (hsg : Sl w 1 S m (ivs sg)) (hn : e.l.length ≤ 1048576) (hnt : t.l.length ≤ 1048576) (hm : m ≤ 1048576) :
    Calls Try.prog 5 #[ofL x0, ofL x1, .slice S m k] w fun r w' => r = .returned (.bool true) ∧ Fr (fun _ => False) w w' := by
  refine (F5.of x0 x1 S m k w (Q := fun v w' => v = .bool true ∧ Fr (fun _ => False) w w') ?_).mono (fun e w' ⟨v, he, hv, h⟩ => ⟨by rw [he, hv], h⟩)
  have ne := keepE_len e sg
  have nt := keepT_len t sg
  refine nw2 (fun b1 b3 u f r1 r3 _ _ _ => ?_)
  have h0 := h0.fr f
  have h1 := h1.fr f
  have hs := sl_fr hsg f
  refine ⟨_, h0.len, rec_all r1, (keep_calls e x0 S m k sg u h0 hs (by omega) (by omega)).mono ?_⟩
  rintro r u1 ⟨f1, c1, rfl, p1⟩
  refine ⟨_, _, rfl, var_mk z28 p1.len p1.one (fun b10 u2 f2 r10 => ?_)⟩
  have g2 := f1.trans1 f2
  have p1 := p1.fr f2
  have r1 := r1.fr g2 (fun h => h)
  have r3 := r3.fr g2 (fun h => h)
  have h0 := h0.fr g2
  have h1 := h1.fr g2
  have hs := sl_fr hs g2
  refine ⟨_, h0.len, rec_all r1, (rkeep_calls e x0 S m k sg u2 h0 hs (by omega) (by omega)).mono ?_⟩
  rintro r u3 ⟨f3, c2, rfl, p2⟩
  refine ⟨_, _, rfl, var_mk z28 p2.len p2.one (fun b18 u4 f4 r18 => ?_)⟩
  have g4 := f3.trans1 f4
  have p1 := p1.fr g4
  have p2 := p2.fr f4
  have r1 := r1.fr g4 (fun h => h)
  have r3 := r3.fr g4 (fun h => h)
  have r10 := r10.fr g4 (fun h => h)
  have h0 := h0.fr g4
  have h1 := h1.fr g4
  have hs := sl_fr hs g4
  refine ⟨_, h1.len, rec_all r3, (keepT_calls t x1 S m k sg u4 h1 hs (by omega) (by omega)).mono ?_⟩
  rintro r u5 ⟨f5, c3, rfl, p3⟩
  refine ⟨_, _, rfl, var_mk z35 p3.len p3.one (fun b26 u6 f6 r26 => ?_)⟩
  have g6 := f5.trans1 f6
  have p1 := p1.fr g6
  have p2 := p2.fr g6
  have p3 := p3.fr f6
  have r1 := r1.fr g6 (fun h => h)
  have r3 := r3.fr g6 (fun h => h)
  have r10 := r10.fr g6 (fun h => h)
  have r18 := r18.fr g6 (fun h => h)
  have h0 := h0.fr g6
  have h1 := h1.fr g6
  have hs := sl_fr hs g6
  refine ⟨_, h1.len, rec_all r3, (rkeepT_calls t x1 S m k sg u6 h1 hs (by omega) (by omega)).mono ?_⟩
  rintro r u7 ⟨f7, c4, rfl, p4⟩
  refine ⟨_, _, rfl, var_mk z35 p4.len p4.one (fun b34 u8 f8 r34 => ?_)⟩
  have g8 := (f7.trans1 f8).trans1 (Fr.drew _ u8)
  have p1 := p1.fr g8
  have p2 := p2.fr g8
  have p3 := p3.fr g8
  have p4 := p4.fr (f8.trans1 (Fr.drew _ u8))
  have r1 := r1.fr g8 (fun h => h)
  have r3 := r3.fr g8 (fun h => h)
  have r10 := r10.fr g8 (fun h => h)
  have r18 := r18.fr g8 (fun h => h)
  have r26 := r26.fr g8 (fun h => h)
  have r34 : RecAt u8.drew b34 _ _ := r34
  have h0 := h0.fr g8
  have h1 := h1.fr g8
  have g := (((f.trans1 g2).trans1 g4).trans1 g6).trans1 g8
  generalize u8.drew = v at g p1 p2 p3 p4 r1 r3 r10 r18 r26 r34 h0 h1 ⊢
  have h0' := h0
  have h1' := h1
  obtain ⟨A, n, c, e0, hse, hde⟩ := h0'
  obtain ⟨A', n', c', e1, hst, hdt⟩ := h1'
  have hln := sl_n hse
  have hln' := sl_n hst
  have q1 : RecAt v b1 28 ([] ++ (e.d.map bv ++ [.int .i64 e.k, .int .i64 e.z, .int .i64 e.s, .int .i64 e.o, .int .i64 e.q, .slice A n c])) := by rw [e0] at r1; exact r1
  have hb1 := r1.lt
  refine ⟨_, h0.len, rec_all r1, e.k, rec_end q1 (bvl hde) (j := 0) rfl rfl, A, n, c, rec_end q1 (bvl hde) (j := 5) rfl rfl, e.s, rec_end q1 (bvl hde) (j := 2) rfl rfl, (alive_calls e x0 v h0 (by omega)).mono ?_⟩
  rintro r v1 ⟨rfl, k1⟩
  refine ⟨_, rfl, kp_mk k1 hb1 (fun h => h) (kp_mk k1 hb1 (fun h => h) (kp_mk k1 hb1 (fun h => h) ((ralive_calls (e.k == 5) A n c e.l e.s v1 (sl_fr hse k1) (by omega)).mono ?_)))⟩
  rintro r v1' ⟨rfl, rfl⟩
  have h1 := h1.fr k1
  have r3 := r3.fr k1 (fun h => h)
  have q3 : RecAt v1' b3 35 ([.string t.nm] ++ (t.d.map bv ++ [.bool t.g, .int .i64 t.s, .int .i64 t.o, .int .i64 t.q, .slice A' n' c'])) := by rw [e1] at r3; exact r3
  have hb3 := r3.lt
  refine ⟨_, rfl, vIf_f (by unfold liveE; simp) ⟨_, h1.len, rec_all r3, t.g, rec_end q3 (bvl hdt) (j := 0) rfl rfl, A', n', c', rec_end q3 (bvl hdt) (j := 4) rfl rfl, t.s, rec_end q3 (bvl hdt) (j := 1) rfl rfl, (aliveT_calls t x1 v1' h1 (by omega)).mono ?_⟩⟩
  rintro r v2 ⟨rfl, k2⟩
  refine ⟨_, rfl, kp_mk k2 hb3 (fun h => h) (kp_mk k2 hb3 (fun h => h) (kp_mk k2 hb3 (fun h => h) ((ralive_calls t.g A' n' c' t.l t.s v2 (sl_fr hst (k1.trans1 k2)) (by omega)).mono ?_)))⟩
  rintro r v2' ⟨rfl, rfl⟩
  have k12 := k1.trans1 k2
  refine ⟨_, rfl, vIf_f (by unfold liveT; simp) (jnC_mk (fun _ => ?_))⟩
  have p1 := p1.fr k12
  have p2 := p2.fr k12
  have p3 := p3.fr k12
  have p4 := p4.fr k12
  have r10 := r10.fr k12 (fun h => h)
  have r18 := r18.fr k12 (fun h => h)
  have r26 := r26.fr k12 (fun h => h)
  have r34 := r34.fr k12 (fun h => h)
  refine ⟨_, p1.len, rec_all r10, _, p2.len, rec_all r18, (same_calls _ c1 c2 v2' p1 p2 (by omega)).mono ?_⟩
  rintro r v3 ⟨rfl, k3⟩
  refine ⟨_, rfl, vIf_t rfl (vIf_t (by simp) ⟨_, p3.len, rec_all (r26.fr k3 (fun h => h)), _, p4.len, rec_all (r34.fr k3 (fun h => h)), (sameT_calls _ c3 c4 v3 (p3.fr k3) (p4.fr k3) (by omega)).mono ?_⟩)⟩
  rintro r v4 ⟨rfl, k4⟩
  refine ⟨_, rfl, vIf_t rfl (vIf_t (by simp) ((lives_calls v4).mono ?_))⟩
  rintro r v5 ⟨rfl, k5⟩
  exact ⟨_, rfl, rfl, (((g.trans1 k12).trans1 k3).trans1 k4).trans1 k5⟩
/-! ### fewer segments -/
theorem both_both {l all sg : List Int} (h : ∀ x ∈ sg, x ∈ all) : both (both l all) sg = both l sg := by
  refine AscI.unique (norm_asc _) (norm_asc _) (fun y => ?_)
  unfold both
  rw [norm_mem, norm_mem, List.mem_filter, List.mem_filter, norm_mem, List.mem_filter]
  simp only [decide_eq_true_eq]
  constructor
  · rintro ⟨⟨h1, _⟩, h2⟩; exact ⟨h1, h2⟩
  · rintro ⟨h1, h2⟩; exact ⟨⟨h1, h y h2⟩, h2⟩
theorem both_nil {l all sg : List Int} (h : ∀ x ∈ sg, x ∈ all) (hb : both l all = []) : both l sg = [] := by
  rw [← both_both (l := l) h, hb]; rfl
theorem keepE_fewer (e : En) {all sg : List Int} (h : ∀ x ∈ sg, x ∈ all) :
    ((keepE e all).2 = false → (keepE e sg).2 = false) ∧ ((keepE e all).2 = true → keepE (keepE e all).1 sg = keepE e sg) := by
  by_cases hA : both e.l all = [] ∧ (e.s ∉ all ∨ e.k = 5)
  · have h1 : keepE e all = (zE, false) := if_pos hA
    have h2 : keepE e sg = (zE, false) := if_pos ⟨both_nil h hA.1, hA.2.imp (fun h' h'' => h' (h _ h'')) id⟩
    rw [h1, h2]
    exact ⟨fun _ => rfl, fun h => by cases h⟩
  · by_cases hB : e.s ∉ all
    · have h1 : keepE e all = (⟨e.d, 5, 0, 0, 0, 0, both e.l all⟩, true) := by unfold keepE; rw [if_neg hA, if_pos hB]
      rw [h1]
      refine ⟨(fun h => by cases h), fun _ => ?_⟩
      have hs : e.s ∉ sg := fun h' => hB (h _ h')
      show (if both (both e.l all) sg = [] ∧ ((0 : Int) ∉ sg ∨ (5 : Int) = 5) then (zE, false) else if (0 : Int) ∉ sg then (⟨e.d, 5, 0, 0, 0, 0, both (both e.l all) sg⟩, true) else (⟨e.d, 5, 0, 0, 0, 0, both (both e.l all) sg⟩, true)) = keepE e sg
      rw [both_both h]
      unfold keepE
      by_cases hb : both e.l sg = []
      · rw [if_pos ⟨hb, .inr rfl⟩, if_pos ⟨hb, .inl hs⟩]
      · rw [if_neg (show ¬ (both e.l sg = [] ∧ ((0 : Int) ∉ sg ∨ (5 : Int) = 5)) from fun h => hb h.1), if_neg (show ¬ (both e.l sg = [] ∧ (e.s ∉ sg ∨ e.k = 5)) from fun h => hb h.1), if_pos hs]
        split <;> rfl
    · have h1 : keepE e all = (⟨e.d, e.k, e.z, e.s, e.o, e.q, both e.l all⟩, true) := by unfold keepE; rw [if_neg hA, if_neg hB]
      rw [h1]
      refine ⟨(fun h => by cases h), fun _ => ?_⟩
      show (if both (both e.l all) sg = [] ∧ (e.s ∉ sg ∨ e.k = 5) then (zE, false) else if e.s ∉ sg then (⟨e.d, 5, 0, 0, 0, 0, both (both e.l all) sg⟩, true) else (⟨e.d, e.k, e.z, e.s, e.o, e.q, both (both e.l all) sg⟩, true)) = keepE e sg
      rw [both_both h]
      rfl
set_option maxHeartbeats 1000000 in
theorem fewer_law (e : En) (S : Option Addr) (m k : Nat) (sg : List Int) (M : Option Addr) (m' k' : Nat) (mo : List Int) (x0 : List Value) (w : World) (h0 : EnAt w x0 e) (hsg : Sl w 1 S m (ivs sg)) (hmo : Sl w 1 M m' (ivs mo)) (hn : e.l.length ≤ 1048576) (hm : m ≤ 1048576) (hm' : m' ≤ 1048576) :
    Calls Try.prog 3 #[ofL x0, .slice S m k, .slice M m' k'] w fun r w' => r = .returned (.bool true) ∧ Fr (fun _ => False) w w' := by
  refine (F3.of x0 S m k M m' k' w (Q := fun v w' => v = .bool true ∧ Fr (fun _ => False) w w') ?_).mono (fun e w' ⟨v, he, hv, h⟩ => ⟨by rw [he, hv], h⟩)
  refine nw_mk (cs := x0) (nw_mk (cs := []) ?_)
  have f0 : Fr (fun _ => False) w (w.alloc (.cells x0.toArray 28)) := Fr.alloc _ _ _
  have r1 := RecAt.new w x0 28
  generalize w.alloc (.cells x0.toArray 28) = w2 at f0 r1 ⊢
  have f4 : Fr (fun _ => False) w2 (w2.alloc (.cells ([] : List Value).toArray 3)) := Fr.alloc _ _ _
  have q4 : Row (w2.alloc (.cells ([] : List Value).toArray 3)) w2.heap.size 3 1 (some ⟨w2.heap.size, 0, none⟩) 0 0 (ivs []) := Row.new (n := 0) (Nat.le_refl _) rfl
  generalize w2.alloc (.cells ([] : List Value).toArray 3) = w4 at f4 q4 ⊢
  have hs2 := sl_fr hsg f0
  have hm2 := sl_fr hmo f0
  refine app_row q4 (sl_fr hs2 f4).src (ivs_one sg) rfl (by omega) (by omega) f4.size (fun A5 c5 w8 q8 f8 => ?_)
  have f8 := own_fr f4 q4 f8
  refine app_row q8 (sl_fr hm2 f8).src (ivs_one mo) rfl (by omega) (by omega) f8.size (fun A9 c9 u q f9 => ?_)
  have f9 := own_fr f8 q8 f9
  rw [← ivs_app, ← ivs_app, List.nil_append] at q
  have hall : ∀ x ∈ sg, x ∈ sg ++ mo := fun x hx => List.mem_append_left _ hx
  obtain ⟨hA, hB⟩ := keepE_fewer e hall
  have n1 := keepE_len e (sg ++ mo)
  have n2 := keepE_len e sg
  have g := f0.trans1 f9
  have r1 := r1.fr f9 (fun h => h)
  have h0 := h0.fr g
  have hs := sl_fr hs2 f9
  refine ⟨_, h0.len, rec_all r1, (keep_calls e x0 A9 _ c9 (sg ++ mo) u h0 q.sl (by omega) (by omega)).mono ?_⟩
  rintro r u1 ⟨f1, c1, rfl, p1⟩
  refine ⟨_, _, rfl, var_mk z28 p1.len p1.one (fun b18 u2 f2 r18 => ?_)⟩
  have g2 := f1.trans1 f2
  have p1 := p1.fr f2
  have r1 := r1.fr g2 (fun h => h)
  have h0 := h0.fr g2
  have hs := sl_fr hs g2
  refine ⟨_, h0.len, rec_all r1, (keep_calls e x0 S m k sg u2 h0 hs (by omega) (by omega)).mono ?_⟩
  rintro r u3 ⟨f3, c2, rfl, p2⟩
  refine ⟨_, _, rfl, var_mk z28 p2.len p2.one (fun b26 u4 f4 r26 => ?_)⟩
  have g4 := f3.trans1 f4
  have p1 := p1.fr g4
  have p2 := p2.fr f4
  have r18 := r18.fr g4 (fun h => h)
  have hs := sl_fr hs g4
  refine ⟨_, p1.len, rec_all r18, (keep_calls _ c1 S m k sg u4 p1 hs (by omega) (by omega)).mono ?_⟩
  rintro r u5 ⟨f5, c3, rfl, p3⟩
  refine ⟨_, _, rfl, var_mk z28 p3.len p3.one (fun b34 u6 f6 r34 => ?_)⟩
  have g6 := f5.trans1 f6
  have p2 := p2.fr g6
  have p3 := p3.fr f6
  have r26 := r26.fr g6 (fun h => h)
  have gg := ((g.trans1 g2).trans1 g4).trans1 g6
  have live : ∀ v, Fr (fun _ => False) w v → Calls Try.prog 8 #[] v fun e w' => ∃ t : Bool, e = .returned (.bool t) ∧ (Value.bool t = .bool true ∧ Fr (fun _ => False) w w') := fun v fv => (lives_calls v).mono (fun e w' ⟨he, hf⟩ => ⟨true, he, rfl, fv.trans1 hf⟩)
  refine vIf_mk (fun hno => ?_) (fun hok => ?_)
  · have hno : (keepE e (sg ++ mo)).2 = false := by simpa using hno
    rw [hA hno]
    exact vIf_t rfl (live u6 gg)
  · have hok : (keepE e (sg ++ mo)).2 = true := by simpa using hok
    have heq := hB hok
    rw [heq] at p3 ⊢
    refine vIf_t hok (vIf_t (by simp) ⟨_, p2.len, rec_all r26, _, p3.len, rec_all r34, (same_calls _ c2 c3 u6 p2 p3 (by omega)).mono ?_⟩)
    rintro r u7 ⟨rfl, f7⟩
    exact ⟨_, rfl, vIf_t rfl (live u7 (gg.trans1 f7))⟩
end Go.Proofs.Ytiiabhgcmgfgfaa
