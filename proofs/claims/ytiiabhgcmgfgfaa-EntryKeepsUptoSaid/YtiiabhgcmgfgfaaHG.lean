/- chapter 19: Delete, Tag, Untag -/
import Derived.Test.YtiiabhgcmgfgfaaHF
namespace Go.Proofs.Ytiiabhgcmgfgfaa
open Go.GV Go.RowKit Go.Lib
set_option linter.unusedVariables false
set_option linter.unusedSimpArgs false
set_option maxHeartbeats 1000000 in
theorem del_calls (e : En) (x : Wd) (x0 : List Value) (w : World) (h : EnAt w x0 e) (hx : x.d.length = 32) (hn : e.l.length ≤ 4294967296) :
    Calls Try.prog 11 #[ofL x0, ofL x.cs] w fun r w' => Fr (fun _ => False) w w' ∧ ∃ cs, r = .returned (ofL cs) ∧ EnAt w' cs (delE e x) := by
  refine (F11.of x0 x.cs w (Q := fun v w' => Fr (fun _ => False) w w' ∧ ∃ cs, v = ofL cs ∧ EnAt w' cs (delE e x)) ?_).mono (fun e w' ⟨v, he, hf, cs, hv, h⟩ => ⟨hf, cs, by rw [he, hv], h⟩)
  obtain ⟨A, n, c, rfl, hs, hd⟩ := h
  have hl := sl_n hs
  refine nw3 (fun b1 b3 b5 u f r1 r3 r5 hb5 n15 n35 => ?_)
  have f := f.trans1 (Fr.drew _ u)
  have r1 : RecAt u.drew b1 _ ([] ++ (e.d.map bv ++ [.int .i64 e.k, .int .i64 e.z, .int .i64 e.s, .int .i64 e.o, .int .i64 e.q, .slice A n c])) := r1
  have r3 : RecAt u.drew b3 _ ([.int .i64 x.k, .int .u64 x.sq] ++ (x.d.map bv ++ [.string x.nm, .int .i64 x.z, .int .i64 x.s, .int .i64 x.o, .int .i64 x.q])) := r3
  have r5 : RecAt u.drew b5 _ _ := r5
  generalize u.drew = u at f r1 r3 r5 ⊢
  have hb1 := r1.lt
  have hb3 := r3.lt
  refine ⟨e.d.map bv, bvl hd, rec_mid r1, [.int .i64 x.s, .int .i64 x.o, .int .i64 x.q], rfl, rec_loc r3 (bvl hx) (j := 2) rfl rfl rfl rfl, A, n, c, rec_end r1 (bvl hd) (j := 5) rfl rfl, ?_⟩
  refine nw_mk (cs := [Value.slice A n c]) ?_
  have g3 : Fr (fun _ => False) u (u.alloc (.cells [Value.slice A n c].toArray 26)) := Fr.alloc _ _ _
  have q3 := RecAt.new u [Value.slice A n c] 26
  generalize u.alloc (.cells [Value.slice A n c].toArray 26) = u3 at g3 q3 ⊢
  refine kp_mk g3 hb3 (fun h => h) (kp_mk g3 hb1 (fun h => h) (?_))
  refine (row1_calls A n c e.l _ u3 (sl_fr hs (f.trans1 g3)) q3 (by omega)).mono ?_
  rintro r u4 ⟨f4, A', c', rfl, h4⟩
  have g4 := g3.trans1 f4
  refine ⟨_, _, _, rfl, kp_mk g4 hb3 (fun h => h) (kp_mk g4 hb1 (fun h => h) (gd_mk (len1 hd) (gd_mk rfl (gd_mk (by simp [hd]) ?_))))⟩
  refine st_all (r5.fr g4 (fun h => h)) z28 (by simp [hd]) ((delE e x).one A' _ c') (fun u5 f5 r5' => ⟨?_, _, rfl, A', _, c', rfl, ?_, hd⟩)
  · exact fr_own (f.trans1 g4) f5 hb5
  · exact sl_fr1 h4 f5 (by have := g3.size; have := r5.lt; omega)
set_option maxHeartbeats 1000000 in
theorem tag_calls (e : Tn) (x : Wd) (x0 : List Value) (w : World) (h : TnAt w x0 e) (hx : x.d.length = 32) (hn : e.l.length ≤ 4294967296) :
    Calls Try.prog 14 #[ofL x0, ofL x.cs] w fun r w' => Fr (fun _ => False) w w' ∧ ∃ cs, r = .returned (ofL cs) ∧ TnAt w' cs (tagE e x) := by
  refine (F14.of x0 x.cs w (Q := fun v w' => Fr (fun _ => False) w w' ∧ ∃ cs, v = ofL cs ∧ TnAt w' cs (tagE e x)) ?_).mono (fun e w' ⟨v, he, hf, cs, hv, h⟩ => ⟨hf, cs, by rw [he, hv], h⟩)
  obtain ⟨A, n, c, rfl, hs, hd⟩ := h
  have hl := sl_n hs
  refine nw3 (fun b1 b3 b5 u f r1 r3 r5 hb5 n15 n35 => ?_)
  have f := f.trans1 (Fr.drew _ u)
  have r1 : RecAt u.drew b1 _ ([.string e.nm] ++ (e.d.map bv ++ [.bool e.g, .int .i64 e.s, .int .i64 e.o, .int .i64 e.q, .slice A n c])) := r1
  have r3 : RecAt u.drew b3 _ ([.int .i64 x.k, .int .u64 x.sq] ++ (x.d.map bv ++ [.string x.nm, .int .i64 x.z, .int .i64 x.s, .int .i64 x.o, .int .i64 x.q])) := r3
  have r5 : RecAt u.drew b5 _ _ := r5
  generalize u.drew = u at f r1 r3 r5 ⊢
  have hb1 := r1.lt
  have hb3 := r3.lt
  refine ⟨x.nm, rec_end r3 (bvl hx) (j := 0) rfl rfl, x.d.map bv, bvl hx, rec_mid r3, [.int .i64 x.s, .int .i64 x.o, .int .i64 x.q], rfl, rec_loc r3 (bvl hx) (j := 2) rfl rfl rfl rfl, A, n, c, rec_end r1 (bvl hd) (j := 4) rfl rfl, x.s, rec_end r3 (bvl hx) (j := 2) rfl rfl, ?_⟩
  refine nw_mk (cs := [Value.int .i64 x.s]) ?_
  have f2 : Fr (fun _ => False) u (u.alloc (.cells [Value.int .i64 x.s].toArray 3)) := Fr.alloc _ _ _
  have q2 := RecAt.new u [Value.int .i64 x.s] 3
  generalize u.alloc (.cells [Value.int .i64 x.s].toArray 3) = u2 at f2 q2 ⊢
  refine kp_mk f2 hb1 (fun h => h) (kp_mk f2 hb3 (fun h => h) (kp_mk f2 hb3 (fun h => h) (kp_mk f2 hb3 (fun h => h) (nw_mk (cs := [Value.slice A n c, .slice (some ⟨u.heap.size, 0, none⟩) 1 1]) ?_))))
  have f3 : Fr (fun _ => False) u2 (u2.alloc (.cells [Value.slice A n c, .slice (some ⟨u.heap.size, 0, none⟩) 1 1].toArray 26)) := Fr.alloc _ _ _
  have q3 := RecAt.new u2 [Value.slice A n c, .slice (some ⟨u.heap.size, 0, none⟩) 1 1] 26
  generalize u2.alloc (.cells [Value.slice A n c, .slice (some ⟨u.heap.size, 0, none⟩) 1 1].toArray 26) = u3 at f3 q3 ⊢
  have g3 := f2.trans1 f3
  refine kp_mk g3 hb3 (fun h => h) (kp_mk g3 hb3 (fun h => h) (kp_mk g3 hb3 (fun h => h) (?_)))
  refine (row2_calls A n c e.l _ x.s _ u3 (sl_fr hs (f.trans1 g3)) (q2.fr f3 (fun h => h)) q3 (by omega)).mono ?_
  rintro r u4 ⟨f4, A', c', rfl, h4⟩
  have g4 := g3.trans1 f4
  refine ⟨_, _, _, rfl, kp_mk g4 hb3 (fun h => h) (kp_mk g4 hb3 (fun h => h) (kp_mk g4 hb3 (fun h => h) (gd_mk (len1 hx) (gd_mk rfl (gd_mk (by simp [hx]) ?_)))))⟩
  refine st_all (r5.fr g4 (fun h => h)) z35 (by simp [hx]) ((tagE e x).one A' _ c') (fun u5 f5 r5' => ⟨?_, _, rfl, A', _, c', rfl, ?_, hx⟩)
  · exact fr_own (f.trans1 g4) f5 hb5
  · exact sl_fr1 h4 f5 (by have := g3.size; have := r5.lt; omega)
set_option maxHeartbeats 1000000 in
theorem rtag_calls (e : Tn) (x : Wd) (x0 : List Value) (w : World) (h : TnAt w x0 e) (hx : x.d.length = 32) (hn : e.l.length ≤ 4294967296) :
    Calls Try.prog 15 #[ofL x0, ofL x.cs] w fun r w' => Fr (fun _ => False) w w' ∧ ∃ cs, r = .returned (ofL cs) ∧ TnAt w' cs (tagE e x) := by
  refine (F15.of x0 x.cs w (Q := fun v w' => Fr (fun _ => False) w w' ∧ ∃ cs, v = ofL cs ∧ TnAt w' cs (tagE e x)) ?_).mono (fun e w' ⟨v, he, hf, cs, hv, h⟩ => ⟨hf, cs, by rw [he, hv], h⟩)
  obtain ⟨A, n, c, rfl, hs, hd⟩ := h
  have hl := sl_n hs
  refine nw3 (fun b1 b3 b5 u f r1 r3 r5 hb5 n15 n35 => ?_)
  have f := f.trans1 (Fr.drew _ u)
  have r1 : RecAt u.drew b1 _ ([.string e.nm] ++ (e.d.map bv ++ [.bool e.g, .int .i64 e.s, .int .i64 e.o, .int .i64 e.q, .slice A n c])) := r1
  have r3 : RecAt u.drew b3 _ ([.int .i64 x.k, .int .u64 x.sq] ++ (x.d.map bv ++ [.string x.nm, .int .i64 x.z, .int .i64 x.s, .int .i64 x.o, .int .i64 x.q])) := r3
  have r5 : RecAt u.drew b5 _ _ := r5
  generalize u.drew = u at f r1 r3 r5 ⊢
  have hb1 := r1.lt
  have hb3 := r3.lt
  refine ⟨x.nm, rec_end r3 (bvl hx) (j := 0) rfl rfl, x.d.map bv, bvl hx, rec_mid r3, [.int .i64 x.s, .int .i64 x.o, .int .i64 x.q], rfl, rec_loc r3 (bvl hx) (j := 2) rfl rfl rfl rfl, A, n, c, rec_end r1 (bvl hd) (j := 4) rfl rfl, x.s, rec_end r3 (bvl hx) (j := 2) rfl rfl, ?_⟩
  refine (rrow_calls A n c e.l u (sl_fr hs f) (by omega)).mono ?_
  rintro r u3 ⟨g3, A3, c3, rfl, h3⟩
  refine ⟨_, _, _, rfl, kp_mk g3 hb3 (fun h => h) (kp_mk g3 hb3 (fun h => h) (kp_mk g3 hb3 (fun h => h) (kp_mk g3 hb3 (fun h => h) (?_))))⟩
  have hnl := norm_len e.l
  refine (add_calls A3 _ c3 _ x.s u3 h3.sl (by omega)).mono ?_
  rintro r u4 ⟨f4, A', c', rfl, h4⟩
  rw [← norm_snoc] at h4 ⊢
  have g4 := g3.trans1 f4
  refine ⟨_, _, _, rfl, kp_mk g4 hb3 (fun h => h) (kp_mk g4 hb3 (fun h => h) (kp_mk g4 hb3 (fun h => h) (gd_mk (len1 hx) (gd_mk rfl (gd_mk (by simp [hx]) ?_)))))⟩
  refine st_all (r5.fr g4 (fun h => h)) z35 (by simp [hx]) ((tagE e x).one A' _ c') (fun u5 f5 r5' => ⟨?_, _, rfl, A', _, c', rfl, ?_, hx⟩)
  · exact fr_own (f.trans1 g4) f5 hb5
  · exact sl_fr1 h4 f5 (by have := g3.size; have := r5.lt; omega)
set_option maxHeartbeats 1000000 in
theorem unt_calls (e : Tn) (x : Wd) (x0 : List Value) (w : World) (h : TnAt w x0 e) (hx : x.d.length = 32) (hn : e.l.length ≤ 4294967296) :
    Calls Try.prog 16 #[ofL x0, ofL x.cs] w fun r w' => Fr (fun _ => False) w w' ∧ ∃ cs, r = .returned (ofL cs) ∧ TnAt w' cs (untE e x) := by
  refine (F16.of x0 x.cs w (Q := fun v w' => Fr (fun _ => False) w w' ∧ ∃ cs, v = ofL cs ∧ TnAt w' cs (untE e x)) ?_).mono (fun e w' ⟨v, he, hf, cs, hv, h⟩ => ⟨hf, cs, by rw [he, hv], h⟩)
  obtain ⟨A, n, c, rfl, hs, hd⟩ := h
  have hl := sl_n hs
  refine nw3 (fun b1 b3 b5 u f r1 r3 r5 hb5 n15 n35 => ?_)
  have f := f.trans1 (Fr.drew _ u)
  have r1 : RecAt u.drew b1 _ ([.string e.nm] ++ (e.d.map bv ++ [.bool e.g, .int .i64 e.s, .int .i64 e.o, .int .i64 e.q, .slice A n c])) := r1
  have r3 : RecAt u.drew b3 _ ([.int .i64 x.k, .int .u64 x.sq] ++ (x.d.map bv ++ [.string x.nm, .int .i64 x.z, .int .i64 x.s, .int .i64 x.o, .int .i64 x.q])) := r3
  have r5 : RecAt u.drew b5 _ _ := r5
  generalize u.drew = u at f r1 r3 r5 ⊢
  have hb1 := r1.lt
  have hb3 := r3.lt
  refine ⟨e.nm, r1.cell rfl, [.int .i64 x.s, .int .i64 x.o, .int .i64 x.q], rfl, rec_loc r3 (bvl hx) (j := 2) rfl rfl rfl rfl, A, n, c, rec_end r1 (bvl hd) (j := 4) rfl rfl, ?_⟩
  refine nw_mk (cs := [Value.slice A n c]) ?_
  have g3 : Fr (fun _ => False) u (u.alloc (.cells [Value.slice A n c].toArray 26)) := Fr.alloc _ _ _
  have q3 := RecAt.new u [Value.slice A n c] 26
  generalize u.alloc (.cells [Value.slice A n c].toArray 26) = u3 at g3 q3 ⊢
  refine kp_mk g3 hb3 (fun h => h) (kp_mk g3 hb1 (fun h => h) (?_))
  refine (row1_calls A n c e.l _ u3 (sl_fr hs (f.trans1 g3)) q3 (by omega)).mono ?_
  rintro r u4 ⟨f4, A', c', rfl, h4⟩
  have g4 := g3.trans1 f4
  refine ⟨_, _, _, rfl, kp_mk g4 hb3 (fun h => h) (kp_mk g4 hb1 (fun h => h) (gd_mk rfl (gd_mk rfl ?_)))⟩
  refine st_all (r5.fr g4 (fun h => h)) z35 (rfl) ((untE e x).one A' _ c') (fun u5 f5 r5' => ⟨?_, _, rfl, A', _, c', rfl, ?_, rfl⟩)
  · exact fr_own (f.trans1 g4) f5 hb5
  · exact sl_fr1 h4 f5 (by have := g3.size; have := r5.lt; omega)
set_option maxHeartbeats 1000000 in
theorem rdel_calls (e : En) (x : Wd) (x0 : List Value) (w : World) (h : EnAt w x0 e) (hx : x.d.length = 32) (hn : e.l.length ≤ 4294967296) :
    Calls Try.prog 12 #[ofL x0, ofL x.cs] w fun r w' => Fr (fun _ => False) w w' ∧ ∃ cs, r = .returned (ofL cs) ∧ EnAt w' cs (delE e x) := by
  refine (F12.of x0 x.cs w (Q := fun v w' => Fr (fun _ => False) w w' ∧ ∃ cs, v = ofL cs ∧ EnAt w' cs (delE e x)) ?_).mono (fun e w' ⟨v, he, hf, cs, hv, h⟩ => ⟨hf, cs, by rw [he, hv], h⟩)
  obtain ⟨A, n, c, rfl, hs, hd⟩ := h
  have hl := sl_n hs
  refine nw3 (fun b1 b3 b5 u f r1 r3 r5 hb5 n15 n35 => ?_)
  have f := f.trans1 (Fr.drew _ u)
  have r1 : RecAt u.drew b1 _ ([] ++ (e.d.map bv ++ [.int .i64 e.k, .int .i64 e.z, .int .i64 e.s, .int .i64 e.o, .int .i64 e.q, .slice A n c])) := r1
  have r3 : RecAt u.drew b3 _ ([.int .i64 x.k, .int .u64 x.sq] ++ (x.d.map bv ++ [.string x.nm, .int .i64 x.z, .int .i64 x.s, .int .i64 x.o, .int .i64 x.q])) := r3
  have r5 : RecAt u.drew b5 _ _ := r5
  generalize u.drew = u at f r1 r3 r5 ⊢
  have hb1 := r1.lt
  have hb3 := r3.lt
  refine ⟨e.d.map bv, bvl hd, rec_mid r1, [.int .i64 x.s, .int .i64 x.o, .int .i64 x.q], rfl, rec_loc r3 (bvl hx) (j := 2) rfl rfl rfl rfl, A, n, c, rec_end r1 (bvl hd) (j := 5) rfl rfl, ?_⟩
  refine (rrow_calls A n c e.l u (sl_fr hs f) (by omega)).mono ?_
  rintro r u4 ⟨g4, A', c', rfl, h4⟩
  refine ⟨_, _, _, rfl, kp_mk g4 hb3 (fun h => h) (kp_mk g4 hb1 (fun h => h) (gd_mk (len1 hd) (gd_mk rfl (gd_mk (by simp [hd]) ?_))))⟩
  refine st_all (r5.fr g4 (fun h => h)) z28 (by simp [hd]) ((delE e x).one A' _ c') (fun u5 f5 r5' => ⟨?_, _, rfl, A', _, c', rfl, ?_, hd⟩)
  · exact fr_own (f.trans1 g4) f5 hb5
  · exact sl_fr1 h4 f5 r5.lt
set_option maxHeartbeats 1000000 in
theorem runt_calls (e : Tn) (x : Wd) (x0 : List Value) (w : World) (h : TnAt w x0 e) (hx : x.d.length = 32) (hn : e.l.length ≤ 4294967296) :
    Calls Try.prog 17 #[ofL x0, ofL x.cs] w fun r w' => Fr (fun _ => False) w w' ∧ ∃ cs, r = .returned (ofL cs) ∧ TnAt w' cs (untE e x) := by
  refine (F17.of x0 x.cs w (Q := fun v w' => Fr (fun _ => False) w w' ∧ ∃ cs, v = ofL cs ∧ TnAt w' cs (untE e x)) ?_).mono (fun e w' ⟨v, he, hf, cs, hv, h⟩ => ⟨hf, cs, by rw [he, hv], h⟩)
  obtain ⟨A, n, c, rfl, hs, hd⟩ := h
  have hl := sl_n hs
  refine nw3 (fun b1 b3 b5 u f r1 r3 r5 hb5 n15 n35 => ?_)
  have f := f.trans1 (Fr.drew _ u)
  have r1 : RecAt u.drew b1 _ ([.string e.nm] ++ (e.d.map bv ++ [.bool e.g, .int .i64 e.s, .int .i64 e.o, .int .i64 e.q, .slice A n c])) := r1
  have r3 : RecAt u.drew b3 _ ([.int .i64 x.k, .int .u64 x.sq] ++ (x.d.map bv ++ [.string x.nm, .int .i64 x.z, .int .i64 x.s, .int .i64 x.o, .int .i64 x.q])) := r3
  have r5 : RecAt u.drew b5 _ _ := r5
  generalize u.drew = u at f r1 r3 r5 ⊢
  have hb1 := r1.lt
  have hb3 := r3.lt
  refine ⟨e.nm, r1.cell rfl, [.int .i64 x.s, .int .i64 x.o, .int .i64 x.q], rfl, rec_loc r3 (bvl hx) (j := 2) rfl rfl rfl rfl, A, n, c, rec_end r1 (bvl hd) (j := 4) rfl rfl, ?_⟩
  refine (rrow_calls A n c e.l u (sl_fr hs f) (by omega)).mono ?_
  rintro r u4 ⟨g4, A', c', rfl, h4⟩
  refine ⟨_, _, _, rfl, kp_mk g4 hb3 (fun h => h) (kp_mk g4 hb1 (fun h => h) (gd_mk rfl (gd_mk rfl ?_)))⟩
  refine st_all (r5.fr g4 (fun h => h)) z35 (rfl) ((untE e x).one A' _ c') (fun u5 f5 r5' => ⟨?_, _, rfl, A', _, c', rfl, ?_, rfl⟩)
  · exact fr_own (f.trans1 g4) f5 hb5
  · exact sl_fr1 h4 f5 r5.lt
end Go.Proofs.Ytiiabhgcmgfgfaa
