/- entries, as they lie; Put, Delete, Keep, Same -/
import Derived.Test.YtnablplljilahaaLWdF
namespace Go.Proofs.Ytnablplljilahaa
open Go.GV Go.RowKit Go.Lib
set_option linter.unusedVariables false
set_option linter.unusedSimpArgs false
structure En where
  d : List UInt8
  k : Int
  z : Int
  s : Int
  o : Int
  q : Int
  l : List Int
def En.cs (e : En) (A : Option Addr) (n c : Nat) : List Value := e.d.map bv ++ [.int .i64 e.k, .int .i64 e.z, .int .i64 e.s, .int .i64 e.o, .int .i64 e.q, .slice A n c]
def EnAt (w : World) (cs : List Value) (e : En) : Prop := ∃ A n c, cs = e.cs A n c ∧ Sl w 1 A n (ivs e.l) ∧ e.d.length = 32
/-- .. whose row of numbers, if any, lies in a block of P -/
def EnP (P : Nat → Prop) (w : World) (cs : List Value) (e : En) : Prop := ∃ A n c, cs = e.cs A n c ∧ Sl w 1 A n (ivs e.l) ∧ e.d.length = 32 ∧ (n ≠ 0 → ∀ k, blkOf A = some k → P k)
theorem EnP.at {P : Nat → Prop} {w : World} {cs : List Value} {e : En} (h : EnP P w cs e) : EnAt w cs e := by
  obtain ⟨A, n, c, h1, h2, h3, _⟩ := h
  exact ⟨A, n, c, h1, h2, h3⟩
theorem EnAt.fr {w w' : World} {cs : List Value} {e : En} (h : EnAt w cs e) (f : Fr (fun _ => False) w w') : EnAt w' cs e := by
  obtain ⟨A, n, c, h1, h2, h3⟩ := h
  exact ⟨A, n, c, h1, f.sl h2 (fun _ _ _ h => h), h3⟩
theorem EnAt.len {w : World} {cs : List Value} {e : En} (h : EnAt w cs e) : cs.length = 38 := by
  obtain ⟨A, n, c, h1, h2, h3⟩ := h
  rw [h1]; simp [En.cs, h3]
theorem En.one (e : En) (A : Option Addr) (n c : Nat) : ∀ v ∈ e.cs A n c, v.oneCell' = true := by
  intro v hv
  rcases List.mem_append.1 hv with h | h
  · exact bvs_one _ v h
  · simp at h; rcases h with rfl | rfl | rfl | rfl | rfl | rfl <;> rfl
theorem EnAt.one {w : World} {cs : List Value} {e : En} (h : EnAt w cs e) : ∀ v ∈ cs, v.oneCell' = true := by
  obtain ⟨A, n, c, rfl, _⟩ := h
  exact e.one A n c
def putE (e : En) (x : Wd) : En := ⟨x.d, x.k, x.z, x.s, x.o, x.q, norm (e.l ++ [x.s])⟩
def delE (e : En) (x : Wd) : En := ⟨e.d, 5, 0, x.s, x.o, x.q, norm e.l⟩
theorem z28 : Z42.length = 38 := rfl
set_option maxHeartbeats 1000000 in
theorem put_calls (e : En) (x : Wd) (x0 : List Value) (w : World) (h : EnAt w x0 e) (hx : x.d.length = 32) (hn : e.l.length ≤ 4294967296) :
    Calls Try.prog 25 #[ofL x0, ofL x.cs] w fun r w' => Fr (fun _ => False) w w' ∧ ∃ cs, r = .returned (ofL cs) ∧ EnP (fun k => w.heap.size ≤ k) w' cs (putE e x) := by
  refine (F25.of x0 x.cs w (Q := fun v w' => Fr (fun _ => False) w w' ∧ ∃ cs, v = ofL cs ∧ EnP (fun k => w.heap.size ≤ k) w' cs (putE e x)) ?_).mono (fun e w' ⟨v, he, hf, cs, hv, h⟩ => ⟨hf, cs, by rw [he, hv], h⟩)
  obtain ⟨A, n, c, rfl, hs, hd⟩ := h
  have hl := sl_n hs
  refine nw3 (fun b1 b3 b5 u f r1 r3 r5 hb5 n15 n35 => ?_)
  have f := f.trans1 (Fr.drew _ u)
  have r1 : RecAt u.drew b1 _ ([] ++ (e.d.map bv ++ [.int .i64 e.k, .int .i64 e.z, .int .i64 e.s, .int .i64 e.o, .int .i64 e.q, .slice A n c])) := r1
  have r3 : RecAt u.drew b3 _ ([.int .i64 x.k, .int .u64 x.sq] ++ (x.d.map bv ++ [.string x.nm, .int .i64 x.z, .int .i64 x.s, .int .i64 x.o, .int .i64 x.q])) := r3
  have r5 : RecAt u.drew b5 _ _ := r5
  generalize u.drew = u at f r1 r3 r5 ⊢
  have hb1 := r1.lt
  have hb3 := r3.lt
  refine ⟨x.d.map bv, bvl hx, rec_mid r3, x.k, r3.cell rfl, x.z, rec_end r3 (bvl hx) (j := 1) rfl rfl, [.int .i64 x.s, .int .i64 x.o, .int .i64 x.q], rfl, rec_loc r3 (bvl hx) (j := 2) rfl rfl rfl rfl, A, n, c, rec_end r1 (bvl hd) (j := 5) rfl rfl, x.s, rec_end r3 (bvl hx) (j := 2) rfl rfl, ?_⟩
  refine nw_mk (cs := [Value.int .i64 x.s]) ?_
  have f2 : Fr (fun _ => False) u (u.alloc (.cells [Value.int .i64 x.s].toArray 3)) := Fr.alloc _ _ _
  have q2 := RecAt.new u [Value.int .i64 x.s] 3
  generalize u.alloc (.cells [Value.int .i64 x.s].toArray 3) = u2 at f2 q2 ⊢
  refine kp_mk f2 hb1 (fun h => h) (kp_mk f2 hb3 (fun h => h) (kp_mk f2 hb3 (fun h => h) (kp_mk f2 hb3 (fun h => h) (kp_mk f2 hb3 (fun h => h) (nw_mk (cs := [Value.slice A n c, .slice (some ⟨u.heap.size, 0, none⟩) 1 1]) ?_)))))
  have f3 : Fr (fun _ => False) u2 (u2.alloc (.cells [Value.slice A n c, .slice (some ⟨u.heap.size, 0, none⟩) 1 1].toArray 34)) := Fr.alloc _ _ _
  have q3 := RecAt.new u2 [Value.slice A n c, .slice (some ⟨u.heap.size, 0, none⟩) 1 1] 34
  generalize u2.alloc (.cells [Value.slice A n c, .slice (some ⟨u.heap.size, 0, none⟩) 1 1].toArray 34) = u3 at f3 q3 ⊢
  have g3 := f2.trans1 f3
  refine kp_mk g3 hb3 (fun h => h) (kp_mk g3 hb3 (fun h => h) (kp_mk g3 hb3 (fun h => h) (kp_mk g3 hb3 (fun h => h) ?_)))
  refine (row2_calls A n c e.l _ x.s _ u3 (sl_fr hs (f.trans1 g3)) (q2.fr f3 (fun h => h)) q3 (by omega)).mono ?_
  rintro r u4 ⟨f4, A', c', rfl, h4⟩
  have g4 := g3.trans1 f4
  refine ⟨_, _, _, rfl, kp_mk g4 hb3 (fun h => h) (kp_mk g4 hb3 (fun h => h) (kp_mk g4 hb3 (fun h => h) (kp_mk g4 hb3 (fun h => h) (gd_mk (len1 hx) (gd_mk rfl (gd_mk (by simp [hx]) ?_))))))⟩
  refine st_all (r5.fr g4 (fun h => h)) z28 (by simp [hx]) ((putE e x).one A' _ c') (fun u5 f5 r5' => ⟨?_, _, rfl, A', _, c', rfl, ?_, hx, fun _ k hk => ?_⟩)
  · exact fr_own (f.trans1 g4) f5 hb5
  · exact sl_fr1 h4 f5 (by have := g3.size; have := r5.lt; omega)
  · have := (h4.blt hk).1; have := f.size; have := g3.size; omega
set_option maxHeartbeats 1000000 in
theorem rput_calls (e : En) (x : Wd) (x0 : List Value) (w : World) (h : EnAt w x0 e) (hx : x.d.length = 32) (hn : e.l.length ≤ 4294967296) :
    Calls Try.prog 27 #[ofL x0, ofL x.cs] w fun r w' => Fr (fun _ => False) w w' ∧ ∃ cs, r = .returned (ofL cs) ∧ EnP (fun k => w.heap.size ≤ k) w' cs (putE e x) := by
  refine (F27.of x0 x.cs w (Q := fun v w' => Fr (fun _ => False) w w' ∧ ∃ cs, v = ofL cs ∧ EnP (fun k => w.heap.size ≤ k) w' cs (putE e x)) ?_).mono (fun e w' ⟨v, he, hf, cs, hv, h⟩ => ⟨hf, cs, by rw [he, hv], h⟩)
  obtain ⟨A, n, c, rfl, hs, hd⟩ := h
  have hl := sl_n hs
  refine nw3 (fun b1 b3 b5 u f r1 r3 r5 hb5 n15 n35 => ?_)
  have f := f.trans1 (Fr.drew _ u)
  have r1 : RecAt u.drew b1 _ ([] ++ (e.d.map bv ++ [.int .i64 e.k, .int .i64 e.z, .int .i64 e.s, .int .i64 e.o, .int .i64 e.q, .slice A n c])) := r1
  have r3 : RecAt u.drew b3 _ ([.int .i64 x.k, .int .u64 x.sq] ++ (x.d.map bv ++ [.string x.nm, .int .i64 x.z, .int .i64 x.s, .int .i64 x.o, .int .i64 x.q])) := r3
  have r5 : RecAt u.drew b5 _ _ := r5
  generalize u.drew = u at f r1 r3 r5 ⊢
  have hb1 := r1.lt
  have hb3 := r3.lt
  refine ⟨x.d.map bv, bvl hx, rec_mid r3, x.k, r3.cell rfl, x.z, rec_end r3 (bvl hx) (j := 1) rfl rfl, [.int .i64 x.s, .int .i64 x.o, .int .i64 x.q], rfl, rec_loc r3 (bvl hx) (j := 2) rfl rfl rfl rfl, A, n, c, rec_end r1 (bvl hd) (j := 5) rfl rfl, x.s, rec_end r3 (bvl hx) (j := 2) rfl rfl, ?_⟩
  refine (rrow_calls A n c e.l u (sl_fr hs f) (by omega)).mono ?_
  rintro r u3 ⟨g3, A3, c3, rfl, h3⟩
  refine ⟨_, _, _, rfl, kp_mk g3 hb3 (fun h => h) (kp_mk g3 hb3 (fun h => h) (kp_mk g3 hb3 (fun h => h) (kp_mk g3 hb3 (fun h => h) (kp_mk g3 hb3 (fun h => h) ?_))))⟩
  have hnl := norm_len e.l
  refine (add_calls A3 _ c3 _ x.s u3 h3.sl (by omega)).mono ?_
  rintro r u4 ⟨f4, A', c', rfl, h4⟩
  rw [← norm_snoc] at h4 ⊢
  have g4 := g3.trans1 f4
  refine ⟨_, _, _, rfl, kp_mk g4 hb3 (fun h => h) (kp_mk g4 hb3 (fun h => h) (kp_mk g4 hb3 (fun h => h) (kp_mk g4 hb3 (fun h => h) (gd_mk (len1 hx) (gd_mk rfl (gd_mk (by simp [hx]) ?_))))))⟩
  refine st_all (r5.fr g4 (fun h => h)) z28 (by simp [hx]) ((putE e x).one A' _ c') (fun u5 f5 r5' => ⟨?_, _, rfl, A', _, c', rfl, ?_, hx, fun _ k hk => ?_⟩)
  · exact fr_own (f.trans1 g4) f5 hb5
  · exact sl_fr1 h4 f5 (by have := g3.size; have := r5.lt; omega)
  · have := (h4.blt hk).1; have := f.size; have := g3.size; omega
set_option maxHeartbeats 1000000 in
theorem del_calls (e : En) (x : Wd) (x0 : List Value) (w : World) (h : EnAt w x0 e) (hx : x.d.length = 32) (hn : e.l.length ≤ 4294967296) :
    Calls Try.prog 26 #[ofL x0, ofL x.cs] w fun r w' => Fr (fun _ => False) w w' ∧ ∃ cs, r = .returned (ofL cs) ∧ EnP (fun k => w.heap.size ≤ k) w' cs (delE e x) := by
  refine (F26.of x0 x.cs w (Q := fun v w' => Fr (fun _ => False) w w' ∧ ∃ cs, v = ofL cs ∧ EnP (fun k => w.heap.size ≤ k) w' cs (delE e x)) ?_).mono (fun e w' ⟨v, he, hf, cs, hv, h⟩ => ⟨hf, cs, by rw [he, hv], h⟩)
  obtain ⟨A, n, c, rfl, hs, hd⟩ := h
  have hl := sl_n hs
  refine nw3 (fun b1 b3 b5 u f r1 r3 r5 hb5 n15 n35 => ?_)
  have f := f.trans1 (Fr.drew _ u)
  have r1 : RecAt u.drew b1 _ ([] ++ (e.d.map bv ++ [.int .i64 e.k, .int .i64 e.z, .int .i64 e.s, .int .i64 e.o, .int .i64 e.q, .slice A n c])) := r1
  have r3 : RecAt u.drew b3 _ ([.int .i64 x.k, .int .u64 x.sq] ++ (x.d.map bv ++ [.string x.nm, .int .i64 x.z, .int .i64 x.s, .int .i64 x.o, .int .i64 x.q])) := r3
  have r5 : RecAt u.drew b5 _ _ := r5
  generalize u.drew = u at f r1 r3 r5 ⊢
  have hb1 := r1.lt
  have hb3 := r3.lt
  refine ⟨e.d.map bv, bvl hd, rec_mid r1, [.int .i64 x.s, .int .i64 x.o, .int .i64 x.q], rfl, rec_loc r3 (bvl hx) (j := 2) rfl rfl rfl rfl, A, n, c, rec_end r1 (bvl hd) (j := 5) rfl rfl, ?_⟩
  refine nw_mk (cs := [Value.slice A n c]) ?_
  have g3 : Fr (fun _ => False) u (u.alloc (.cells [Value.slice A n c].toArray 34)) := Fr.alloc _ _ _
  have q3 := RecAt.new u [Value.slice A n c] 34
  generalize u.alloc (.cells [Value.slice A n c].toArray 34) = u3 at g3 q3 ⊢
  refine kp_mk g3 hb3 (fun h => h) (kp_mk g3 hb1 (fun h => h) (?_))
  refine (row1_calls A n c e.l _ u3 (sl_fr hs (f.trans1 g3)) q3 (by omega)).mono ?_
  rintro r u4 ⟨f4, A', c', rfl, h4⟩
  have g4 := g3.trans1 f4
  refine ⟨_, _, _, rfl, kp_mk g4 hb3 (fun h => h) (kp_mk g4 hb1 (fun h => h) (gd_mk (len1 hd) (gd_mk rfl (gd_mk (by simp [hd]) ?_))))⟩
  refine st_all (r5.fr g4 (fun h => h)) z28 (by simp [hd]) ((delE e x).one A' _ c') (fun u5 f5 r5' => ⟨?_, _, rfl, A', _, c', rfl, ?_, hd, fun _ k hk => ?_⟩)
  · exact fr_own (f.trans1 g4) f5 hb5
  · exact sl_fr1 h4 f5 (by have := g3.size; have := r5.lt; omega)
  · have := (h4.blt hk).1; have := f.size; have := g3.size; omega
set_option maxHeartbeats 1000000 in
theorem rdel_calls (e : En) (x : Wd) (x0 : List Value) (w : World) (h : EnAt w x0 e) (hx : x.d.length = 32) (hn : e.l.length ≤ 4294967296) :
    Calls Try.prog 28 #[ofL x0, ofL x.cs] w fun r w' => Fr (fun _ => False) w w' ∧ ∃ cs, r = .returned (ofL cs) ∧ EnP (fun k => w.heap.size ≤ k) w' cs (delE e x) := by
  refine (F28.of x0 x.cs w (Q := fun v w' => Fr (fun _ => False) w w' ∧ ∃ cs, v = ofL cs ∧ EnP (fun k => w.heap.size ≤ k) w' cs (delE e x)) ?_).mono (fun e w' ⟨v, he, hf, cs, hv, h⟩ => ⟨hf, cs, by rw [he, hv], h⟩)
  obtain ⟨A, n, c, rfl, hs, hd⟩ := h
  have hl := sl_n hs
  refine nw3 (fun b1 b3 b5 u f r1 r3 r5 hb5 n15 n35 => ?_)
  have f := f.trans1 (Fr.drew _ u)
  have r1 : RecAt u.drew b1 _ ([] ++ (e.d.map bv ++ [.int .i64 e.k, .int .i64 e.z, .int .i64 e.s, .int .i64 e.o, .int .i64 e.q, .slice A n c])) := r1
  have r3 : RecAt u.drew b3 _ ([.int .i64 x.k, .int .u64 x.sq] ++ (x.d.map bv ++ [.string x.nm, .int .i64 x.z, .int .i64 x.s, .int .i64 x.o, .int .i64 x.q])) := r3
  have r5 : RecAt u.drew b5 _ _ := r5
  generalize u.drew = u at f r1 r3 r5 ⊢
  have hb1 := r1.lt
  have hb3 := r3.lt
  refine ⟨e.d.map bv, bvl hd, rec_mid r1, [.int .i64 x.s, .int .i64 x.o, .int .i64 x.q], rfl, rec_loc r3 (bvl hx) (j := 2) rfl rfl rfl rfl, A, n, c, rec_end r1 (bvl hd) (j := 5) rfl rfl, ?_⟩
  refine (rrow_calls A n c e.l u (sl_fr hs f) (by omega)).mono ?_
  rintro r u4 ⟨g4, A', c', rfl, h4⟩
  refine ⟨_, _, _, rfl, kp_mk g4 hb3 (fun h => h) (kp_mk g4 hb1 (fun h => h) (gd_mk (len1 hd) (gd_mk rfl (gd_mk (by simp [hd]) ?_))))⟩
  refine st_all (r5.fr g4 (fun h => h)) z28 (by simp [hd]) ((delE e x).one A' _ c') (fun u5 f5 r5' => ⟨?_, _, rfl, A', _, c', rfl, ?_, hd, fun _ k hk => ?_⟩)
  · exact fr_own (f.trans1 g4) f5 hb5
  · exact sl_fr1 h4 f5 r5.lt
  · have := (h4.blt hk).1; have := f.size; omega
def zE : En := ⟨List.replicate 32 0, 0, 0, 0, 0, 0, []⟩
def keepE (e : En) (sg : List Int) : En × Bool :=
  if both e.l sg = [] ∧ (e.s ∉ sg ∨ e.k = 5) then (zE, false)
  else if e.s ∉ sg then (⟨e.d, 5, 0, 0, 0, 0, both e.l sg⟩, true) else (⟨e.d, e.k, e.z, e.s, e.o, e.q, both e.l sg⟩, true)
theorem splice_lastE {p : List Value} {v v' : Value} {k : Nat} (hk : p.length = k) : splice (p ++ [v]) k [v'] = p ++ [v'] := by
  unfold splice
  rw [List.take_left' hk, List.drop_of_length_le (by simp; omega)]
  simp
theorem En.splice_l (e : En) (A A' : Option Addr) (n n' c c' : Nat) (l : List Int) (hd : e.d.length = 32) : splice (e.cs A n c) 37 [.slice A' n' c'] = (⟨e.d, e.k, e.z, e.s, e.o, e.q, l⟩ : En).cs A' n' c' := by
  have h : ∀ (B : Option Addr) (m k : Nat), e.d.map bv ++ [Value.int .i64 e.k, .int .i64 e.z, .int .i64 e.s, .int .i64 e.o, .int .i64 e.q, .slice B m k] = (e.d.map bv ++ [Value.int .i64 e.k, .int .i64 e.z, .int .i64 e.s, .int .i64 e.o, .int .i64 e.q]) ++ [.slice B m k] := fun B m k => by simp
  unfold En.cs
  rw [h, h, splice_lastE (by simp [hd])]
theorem both_lenE (l sg : List Int) : (both l sg).length ≤ l.length := Nat.le_trans (norm_len _) (List.length_filter_le _ _)
set_option maxHeartbeats 1000000 in
theorem keep_calls (e : En) (x0 : List Value) (S : Option Addr) (m k : Nat) (sg : List Int) (w : World) (h : EnAt w x0 e) (hsg : Sl w 1 S m (ivs sg)) (hn : e.l.length ≤ 4294967296) (hm : m ≤ 8589934592) :
    Calls Try.prog 29 #[ofL x0, .slice S m k] w fun r w' => Fr (fun _ => False) w w' ∧ ∃ cs, r = .returned (.tuple #[ofL cs, .bool (keepE e sg).2]) ∧ EnP (fun k => w.heap.size ≤ k) w' cs (keepE e sg).1 := by
  refine (F29.of x0 S m k w (Q := fun v w' => Fr (fun _ => False) w w' ∧ ∃ cs, v = .tuple #[ofL cs, .bool (keepE e sg).2] ∧ EnP (fun k => w.heap.size ≤ k) w' cs (keepE e sg).1) ?_).mono (fun e w' ⟨v, he, hf, cs, hv, h⟩ => ⟨hf, cs, by rw [he, hv], h⟩)
  obtain ⟨A, n, c, rfl, hs, hd⟩ := h
  have hl := sl_n hs
  have hbl := both_lenE e.l sg
  refine nw2 (fun b1 b5 u f r1 r5 hb1w hb5w n15 => ?_)
  have f := f.trans1 (Fr.drew _ u)
  have r1 : RecAt u.drew b1 _ ([] ++ (e.d.map bv ++ [.int .i64 e.k, .int .i64 e.z, .int .i64 e.s, .int .i64 e.o, .int .i64 e.q, .slice A n c])) := r1
  have r5 : RecAt u.drew b5 _ _ := r5
  generalize u.drew = u at f r1 r5 ⊢
  have hb1 := r1.lt
  have hb5 := r5.lt
  -- the three ends
  have e1 : ∀ (v : World), Fr (fun _ => False) u v → (both e.l sg = [] ∧ (e.s ∉ sg ∨ e.k = 5)) → st v b5 0 (zE.cs none 0 0) fun w' => ldA 38 w' b5 0 fun a => Fr (fun _ => False) w w' ∧ ∃ cs, Value.tuple #[ofL a, .bool false] = .tuple #[ofL cs, .bool (keepE e sg).2] ∧ EnP (fun k => w.heap.size ≤ k) w' cs (keepE e sg).1 := by
    intro v g hc
    have hk : keepE e sg = (zE, false) := if_pos hc
    rw [hk]
    exact st_all (r5.fr g (fun h => h)) z28 rfl (zE.one none 0 0) (fun w' f5 r5' => ⟨fr_own (f.trans1 g) f5 hb5w, _, rfl, none, 0, 0, rfl, Sl.nil _ _ _, rfl, fun h => absurd rfl h⟩)
  have e2 : ∀ (v : World) (A' : Option Addr) (c' : Nat), Fr (fun _ => False) u v → Row v u.heap.size 3 1 A' (both e.l sg).length c' (ivs (both e.l sg)) → ¬ (both e.l sg = [] ∧ (e.s ∉ sg ∨ e.k = 5)) → e.s ∉ sg → st v b5 0 ((⟨e.d, 5, 0, 0, 0, 0, both e.l sg⟩ : En).cs A' (both e.l sg).length c') fun w' => ldA 38 w' b5 0 fun a => Fr (fun _ => False) w w' ∧ ∃ cs, Value.tuple #[ofL a, .bool true] = .tuple #[ofL cs, .bool (keepE e sg).2] ∧ EnP (fun k => w.heap.size ≤ k) w' cs (keepE e sg).1 := by
    intro v A' c' g hr hc hn
    have hk : keepE e sg = ((⟨e.d, 5, 0, 0, 0, 0, both e.l sg⟩ : En), true) := by unfold keepE; rw [if_neg hc, if_pos hn]
    rw [hk]
    exact st_all (r5.fr g (fun h => h)) z28 (by simp [En.cs, hd]) ((⟨e.d, 5, 0, 0, 0, 0, both e.l sg⟩ : En).one A' _ c') (fun w' f5 r5' => ⟨fr_own (f.trans1 g) f5 hb5w, _, rfl, A', _, c', rfl, sl_fr1 hr f5 hb5, hd, fun _ k hk => Nat.le_trans f.size (hr.blt hk).1⟩)
  have e3 : ∀ (v : World) (A' : Option Addr) (c' : Nat), Fr (fun _ => False) u v → Row v u.heap.size 3 1 A' (both e.l sg).length c' (ivs (both e.l sg)) → ¬ (both e.l sg = [] ∧ (e.s ∉ sg ∨ e.k = 5)) → e.s ∈ sg →
      st v b1 (0 + 37) [Value.slice A' (both e.l sg).length c'] fun w22 => ldA 38 w22 b1 0 fun a23 => gd (a23.length == 38) <| st w22 b5 0 a23 fun w' => ldA 38 w' b5 0 fun a => Fr (fun _ => False) w w' ∧ ∃ cs, Value.tuple #[ofL a, .bool true] = .tuple #[ofL cs, .bool (keepE e sg).2] ∧ EnP (fun k => w.heap.size ≤ k) w' cs (keepE e sg).1 := by
    intro v A' c' g hr hc hn
    have hk : keepE e sg = ((⟨e.d, e.k, e.z, e.s, e.o, e.q, both e.l sg⟩ : En), true) := by unfold keepE; rw [if_neg hc, if_neg (not_not_intro hn)]
    rw [hk]
    have r1v := r1.fr g (fun h => h)
    refine r1v.st_mk (o := 0 + 37) (by simp [hd]) (fun v hv => by simp at hv; subst hv; rfl) (fun r f1 => ?_)
    have hsp := En.splice_l e A A' n (both e.l sg).length c c' (both e.l sg) hd
    have r : RecAt (stB v b1 (0 + 37) [Value.slice A' (both e.l sg).length c']) b1 42 ((⟨e.d, e.k, e.z, e.s, e.o, e.q, both e.l sg⟩ : En).cs A' (both e.l sg).length c') := by rw [← hsp]; exact r
    generalize stB v b1 (0 + 37) [Value.slice A' (both e.l sg).length c'] = v2 at r f1 ⊢
    refine ⟨_, by simp [En.cs, hd], rec_all r, gd_mk (by simp [En.cs, hd]) ?_⟩
    have r5v := (r5.fr g (fun h => h)).fr f1 (fun h => n15 h.symm)
    have hr2 := f1.row hr (fun k hk h' => by have := (hr.blt hk).1; omega)
    exact st_all r5v z28 (by simp [En.cs, hd]) ((⟨e.d, e.k, e.z, e.s, e.o, e.q, both e.l sg⟩ : En).one A' _ c') (fun w' f5 r5' => ⟨fr_own (fr_own (f.trans1 g) f1 hb1w) f5 hb5w, _, rfl, A', _, c', rfl, sl_fr1 hr2 f5 hb5, hd, fun _ k hk => Nat.le_trans f.size (hr.blt hk).1⟩)
  refine ⟨A, n, c, rec_end r1 (bvl hd) (j := 5) rfl rfl, e.s, rec_end r1 (bvl hd) (j := 2) rfl rfl, (left_calls A n c e.l S m k sg u (sl_fr hs f) (sl_fr hsg f) (by omega) (by omega)).mono ?_⟩
  rintro r u4 ⟨g4, A', c', rfl, h4⟩
  refine ⟨_, _, _, rfl, kp_mk g4 hb1 (fun h => h) ((contains_calls S m k sg e.s u4 (sl_fr hsg (f.trans1 g4)) (by omega)).mono ?_)⟩
  rintro r u5 ⟨rfl, rfl⟩
  refine ⟨_, rfl, ?_⟩
  have fin : ∀ t17 : Bool, t17 = decide (both e.l sg = [] ∧ (e.s ∉ sg ∨ e.k = 5)) → jnC (F29.k3 (fun v w' => Fr (fun _ => False) w w' ∧ ∃ cs, v = .tuple #[ofL cs, .bool (keepE e sg).2] ∧ EnP (fun k => w.heap.size ≤ k) w' cs (keepE e sg).1)) ((b1, 0), (b5, 0), (A', (both e.l sg).length, c'), decide (e.s ∈ sg), t17, ()) u5 := by
    intro t17 ht
    refine jnC_mk (fun _ => vIf_mk (fun h1 => gd_mk rfl ?_) (fun h1 => ?_))
    · have h1 : t17 = true := h1
      rw [h1] at ht
      exact e1 u5 g4 (of_decide_eq_true ht.symm)
    · have h1 : t17 = false := h1
      rw [h1] at ht
      have hc := of_decide_eq_false ht.symm
      refine vIf_mk (fun h2 => ⟨e.d.map bv, bvl hd, rec_mid (r1.fr g4 (fun h => h)), gd_mk (len1 hd) (gd_mk (by simp [hd]) ?_)⟩) (fun h2 => jnC_mk (fun _ => ?_))
      · exact e2 u5 A' c' g4 h4 hc (by simpa using h2)
      · exact e3 u5 A' c' g4 h4 hc (by simpa using h2)
  refine vIf_mk (fun h0 => vIf_mk (fun h1 => fin true ?_) (fun h1 => ?_)) (fun h0 => fin false ?_)
  · have h0 : both e.l sg = [] := List.length_eq_zero_iff.1 (by simpa using h0)
    have h1 : e.s ∉ sg := by simpa using h1
    rw [decide_eq_true ⟨h0, .inl h1⟩]
  · have h0 : both e.l sg = [] := List.length_eq_zero_iff.1 (by simpa using h0)
    have h1 : e.s ∈ sg := by simpa using h1
    refine ⟨e.k, rec_end (r1.fr g4 (fun h => h)) (bvl hd) (j := 0) rfl rfl, fin _ ?_⟩
    rw [Bool.eq_iff_iff]
    simp [h0, h1]
  · have h0 : both e.l sg ≠ [] := fun h => by rw [h] at h0; simp at h0
    rw [decide_eq_false (fun h => h0 h.1)]
set_option maxHeartbeats 1000000 in
theorem rkeep_calls (e : En) (x0 : List Value) (S : Option Addr) (m k : Nat) (sg : List Int) (w : World) (h : EnAt w x0 e) (hsg : Sl w 1 S m (ivs sg)) (hn : e.l.length ≤ 4294967296) (hm : m ≤ 8589934592) :
    Calls Try.prog 31 #[ofL x0, .slice S m k] w fun r w' => Fr (fun _ => False) w w' ∧ ∃ cs, r = .returned (.tuple #[ofL cs, .bool (keepE e sg).2]) ∧ EnP (fun k => w.heap.size ≤ k) w' cs (keepE e sg).1 := by
  refine (F31.of x0 S m k w (Q := fun v w' => Fr (fun _ => False) w w' ∧ ∃ cs, v = .tuple #[ofL cs, .bool (keepE e sg).2] ∧ EnP (fun k => w.heap.size ≤ k) w' cs (keepE e sg).1) ?_).mono (fun e w' ⟨v, he, hf, cs, hv, h⟩ => ⟨hf, cs, by rw [he, hv], h⟩)
  obtain ⟨A, n, c, rfl, hs, hd⟩ := h
  have hl := sl_n hs
  have hbl := both_lenE e.l sg
  refine nw2 (fun b1 b5 u f r1 r5 hb1w hb5w n15 => ?_)
  have r1 : RecAt u b1 _ ([] ++ (e.d.map bv ++ [.int .i64 e.k, .int .i64 e.z, .int .i64 e.s, .int .i64 e.o, .int .i64 e.q, .slice A n c])) := r1
  have hb1 := r1.lt
  have hb5 := r5.lt
  -- the three ends
  have e1 : ∀ (v : World), Fr (fun _ => False) u v → (both e.l sg = [] ∧ (e.s ∉ sg ∨ e.k = 5)) → st v b5 0 (zE.cs none 0 0) fun w' => ldA 38 w' b5 0 fun a => Fr (fun _ => False) w w' ∧ ∃ cs, Value.tuple #[ofL a, .bool false] = .tuple #[ofL cs, .bool (keepE e sg).2] ∧ EnP (fun k => w.heap.size ≤ k) w' cs (keepE e sg).1 := by
    intro v g hc
    have hk : keepE e sg = (zE, false) := if_pos hc
    rw [hk]
    exact st_all (r5.fr g (fun h => h)) z28 rfl (zE.one none 0 0) (fun w' f5 r5' => ⟨fr_own (f.trans1 g) f5 hb5w, _, rfl, none, 0, 0, rfl, Sl.nil _ _ _, rfl, fun h => absurd rfl h⟩)
  have e2 : ∀ (v : World) (A' : Option Addr) (c' : Nat), Fr (fun _ => False) u v → Row v u.heap.size 3 1 A' (both e.l sg).length c' (ivs (both e.l sg)) → ¬ (both e.l sg = [] ∧ (e.s ∉ sg ∨ e.k = 5)) → e.s ∉ sg → st v b5 0 ((⟨e.d, 5, 0, 0, 0, 0, both e.l sg⟩ : En).cs A' (both e.l sg).length c') fun w' => ldA 38 w' b5 0 fun a => Fr (fun _ => False) w w' ∧ ∃ cs, Value.tuple #[ofL a, .bool true] = .tuple #[ofL cs, .bool (keepE e sg).2] ∧ EnP (fun k => w.heap.size ≤ k) w' cs (keepE e sg).1 := by
    intro v A' c' g hr hc hn
    have hk : keepE e sg = ((⟨e.d, 5, 0, 0, 0, 0, both e.l sg⟩ : En), true) := by unfold keepE; rw [if_neg hc, if_pos hn]
    rw [hk]
    exact st_all (r5.fr g (fun h => h)) z28 (by simp [En.cs, hd]) ((⟨e.d, 5, 0, 0, 0, 0, both e.l sg⟩ : En).one A' _ c') (fun w' f5 r5' => ⟨fr_own (f.trans1 g) f5 hb5w, _, rfl, A', _, c', rfl, sl_fr1 hr f5 hb5, hd, fun _ k hk => Nat.le_trans f.size (hr.blt hk).1⟩)
  have e3 : ∀ (v : World) (A' : Option Addr) (c' : Nat), Fr (fun _ => False) u v → Row v u.heap.size 3 1 A' (both e.l sg).length c' (ivs (both e.l sg)) → ¬ (both e.l sg = [] ∧ (e.s ∉ sg ∨ e.k = 5)) → e.s ∈ sg →
      st v b1 (0 + 37) [Value.slice A' (both e.l sg).length c'] fun w22 => ldA 38 w22 b1 0 fun a23 => gd (a23.length == 38) <| st w22 b5 0 a23 fun w' => ldA 38 w' b5 0 fun a => Fr (fun _ => False) w w' ∧ ∃ cs, Value.tuple #[ofL a, .bool true] = .tuple #[ofL cs, .bool (keepE e sg).2] ∧ EnP (fun k => w.heap.size ≤ k) w' cs (keepE e sg).1 := by
    intro v A' c' g hr hc hn
    have hk : keepE e sg = ((⟨e.d, e.k, e.z, e.s, e.o, e.q, both e.l sg⟩ : En), true) := by unfold keepE; rw [if_neg hc, if_neg (not_not_intro hn)]
    rw [hk]
    have r1v := r1.fr g (fun h => h)
    refine r1v.st_mk (o := 0 + 37) (by simp [hd]) (fun v hv => by simp at hv; subst hv; rfl) (fun r f1 => ?_)
    have hsp := En.splice_l e A A' n (both e.l sg).length c c' (both e.l sg) hd
    have r : RecAt (stB v b1 (0 + 37) [Value.slice A' (both e.l sg).length c']) b1 42 ((⟨e.d, e.k, e.z, e.s, e.o, e.q, both e.l sg⟩ : En).cs A' (both e.l sg).length c') := by rw [← hsp]; exact r
    generalize stB v b1 (0 + 37) [Value.slice A' (both e.l sg).length c'] = v2 at r f1 ⊢
    refine ⟨_, by simp [En.cs, hd], rec_all r, gd_mk (by simp [En.cs, hd]) ?_⟩
    have r5v := (r5.fr g (fun h => h)).fr f1 (fun h => n15 h.symm)
    have hr2 := f1.row hr (fun k hk h' => by have := (hr.blt hk).1; omega)
    exact st_all r5v z28 (by simp [En.cs, hd]) ((⟨e.d, e.k, e.z, e.s, e.o, e.q, both e.l sg⟩ : En).one A' _ c') (fun w' f5 r5' => ⟨fr_own (fr_own (f.trans1 g) f1 hb1w) f5 hb5w, _, rfl, A', _, c', rfl, sl_fr1 hr2 f5 hb5, hd, fun _ k hk => Nat.le_trans f.size (hr.blt hk).1⟩)
  refine ⟨A, n, c, rec_end r1 (bvl hd) (j := 5) rfl rfl, (both_calls A n c e.l S m k sg u (sl_fr hs f) (sl_fr hsg f) (by omega) (by omega)).mono ?_⟩
  rintro r u4 ⟨g4, A', c', rfl, h4⟩
  refine ⟨_, _, _, rfl, e.s, rec_end (r1.fr g4 (fun h => h)) (bvl hd) (j := 2) rfl rfl, (in_calls S m k sg e.s u4 (sl_fr hsg (f.trans1 g4)) (by omega)).mono ?_⟩
  rintro r u5 ⟨rfl, rfl⟩
  refine ⟨_, rfl, ?_⟩
  have fin : ∀ t17 : Bool, t17 = decide (e.s ∈ sg ∧ (¬ e.k = 5 ∨ both e.l sg ≠ [])) → jnC (F31.k3 (fun v w' => Fr (fun _ => False) w w' ∧ ∃ cs, v = .tuple #[ofL cs, .bool (keepE e sg).2] ∧ EnP (fun k => w.heap.size ≤ k) w' cs (keepE e sg).1)) ((b1, 0), (b5, 0), (A', (both e.l sg).length, c'), t17, ()) u5 := by
    intro t17 ht
    refine jnC_mk (fun _ => vIf_mk (fun h1 => ?_) (fun h1 => jnC_mk (fun _ => ?_)))
    · have h1 : t17 = true := h1
      rw [h1] at ht
      have hc := of_decide_eq_true ht.symm
      exact e3 u5 A' c' g4 h4 (fun h => h.2.elim (fun h' => h' hc.1) (fun h' => hc.2.elim (fun h'' => h'' h') (fun h'' => h'' h.1))) hc.1
    · have h1 : t17 = false := h1
      rw [h1] at ht
      have hc := of_decide_eq_false ht.symm
      refine vIf_mk (fun h2 => ⟨e.d.map bv, bvl hd, rec_mid (r1.fr g4 (fun h => h)), gd_mk (len1 hd) (gd_mk (by simp [hd]) ?_)⟩) (fun h2 => gd_mk rfl ?_)
      · have h2 : both e.l sg ≠ [] := fun h => by rw [h] at h2; simp at h2
        exact e2 u5 A' c' g4 h4 (fun h => h2 h.1) (fun h => hc ⟨h, .inr h2⟩)
      · have h2 : both e.l sg = [] := List.length_eq_zero_iff.1 (by have h2 := of_decide_eq_false h2; dsimp only at h2; omega)
        refine e1 u5 g4 ⟨h2, ?_⟩
        by_cases hs : e.s ∈ sg
        · by_cases hk : e.k = 5
          · exact .inr hk
          · exact absurd ⟨hs, .inl hk⟩ hc
        · exact .inl hs
  refine vIf_mk (fun h0 => ⟨e.k, rec_end (r1.fr g4 (fun h => h)) (bvl hd) (j := 0) rfl rfl, vIf_mk (fun h1 => fin true ?_) (fun h1 => fin _ ?_)⟩) (fun h0 => fin false ?_)
  · have h0 : e.s ∈ sg := by simpa using h0
    have h1 : ¬ e.k = 5 := by simpa using h1
    rw [decide_eq_true ⟨h0, .inl h1⟩]
  · have h0 : e.s ∈ sg := by simpa using h0
    have h1 : e.k = 5 := by simpa using h1
    rw [Bool.eq_iff_iff, decide_eq_true_iff, decide_eq_true_iff]
    constructor
    · intro h
      exact ⟨h0, .inr (fun h' => by rw [h'] at h; simp at h)⟩
    · rintro ⟨_, h | h⟩
      · exact absurd h1 h
      · have : (both e.l sg).length ≠ 0 := fun h' => h (List.length_eq_zero_iff.1 h')
        omega
  · have h0 : e.s ∉ sg := by simpa using h0
    rw [decide_eq_false (fun h => h0 h.1)]
theorem same_calls (e : En) (x0 x1 : List Value) (w : World) (h0 : EnAt w x0 e) (h1 : EnAt w x1 e) (hn : e.l.length ≤ 8589934592) :
    Calls Try.prog 16 #[ofL x0, ofL x1] w fun r w' => r = .returned (.bool true) ∧ Fr (fun _ => False) w w' := by
  refine (F16.of x0 x1 w (Q := fun v w' => v = .bool true ∧ Fr (fun _ => False) w w') ?_).mono (fun e w' ⟨v, he, hv, h⟩ => ⟨by rw [he, hv], h⟩)
  obtain ⟨A, n, c, rfl, hs, hd⟩ := h0
  obtain ⟨A', n', c', rfl, hs', _⟩ := h1
  have hl := sl_n hs
  refine nw2 (fun b1 b3 u f r1 r3 _ _ _ => ?_)
  have r1 : RecAt u b1 _ ([] ++ (e.d.map bv ++ [.int .i64 e.k, .int .i64 e.z, .int .i64 e.s, .int .i64 e.o, .int .i64 e.q, .slice A n c])) := r1
  have r3 : RecAt u b3 _ ([] ++ (e.d.map bv ++ [.int .i64 e.k, .int .i64 e.z, .int .i64 e.s, .int .i64 e.o, .int .i64 e.q, .slice A' n' c'])) := r3
  refine ⟨_, bvl hd, rec_mid r1, _, bvl hd, rec_mid r3, e.d, e.d, hd, hd, rfl, rfl, vIf_t (by simp) ⟨e.k, rec_end r1 (bvl hd) (j := 0) rfl rfl, e.k, rec_end r3 (bvl hd) (j := 0) rfl rfl, vIf_t (by simp) ⟨e.z, rec_end r1 (bvl hd) (j := 1) rfl rfl, e.z, rec_end r3 (bvl hd) (j := 1) rfl rfl, vIf_t (by simp) ?_⟩⟩⟩
  refine ⟨[.int .i64 e.s, .int .i64 e.o, .int .i64 e.q], rfl, rec_loc r1 (bvl hd) (j := 2) rfl rfl rfl rfl, [.int .i64 e.s, .int .i64 e.o, .int .i64 e.q], rfl, rec_loc r3 (bvl hd) (j := 2) rfl rfl rfl rfl, [e.s, e.o, e.q], [e.s, e.o, e.q], rfl, rfl, rfl, rfl, vIf_t (by simp) ?_⟩
  refine ⟨A, n, c, rec_end r1 (bvl hd) (j := 5) rfl rfl, A', n', c', rec_end r3 (bvl hd) (j := 5) rfl rfl, (ints_calls A n c e.l A' n' c' e.l u (sl_fr hs f) (sl_fr hs' f) (by omega)).mono ?_⟩
  rintro r u2 ⟨rfl, f2⟩
  exact ⟨_, rfl, by rw [decide_eq_true rfl], f.trans1 f2⟩
theorem keepE_len (e : En) (sg : List Int) : (keepE e sg).1.l.length ≤ e.l.length := by
  have := both_lenE e.l sg
  unfold keepE
  split
  · exact Nat.zero_le _
  · split <;> exact this
end Go.Proofs.Ytnablplljilahaa
