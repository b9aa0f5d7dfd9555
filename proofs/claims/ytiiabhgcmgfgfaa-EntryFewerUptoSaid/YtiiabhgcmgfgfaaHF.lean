/- chapter 19: entries and words, as they lie; Put, Delete, Tag, Untag -/
import Derived.Test.YtiiabhgcmgfgfaaHE
namespace Go.Proofs.Ytiiabhgcmgfgfaa
open Go.GV Go.RowKit Go.Lib
set_option linter.unusedVariables false
set_option linter.unusedSimpArgs false
structure En where
  d : List UInt8
  k : Int
  z : Int
  s : Int
  o : Int
  q : Int
  l : List Int
structure Tn where
  nm : ByteArray
  d : List UInt8
  g : Bool
  s : Int
  o : Int
  q : Int
  l : List Int
structure Wd where
  k : Int
  sq : Int
  d : List UInt8
  nm : ByteArray
  z : Int
  s : Int
  o : Int
  q : Int
def En.cs (e : En) (A : Option Addr) (n c : Nat) : List Value := e.d.map bv ++ [.int .i64 e.k, .int .i64 e.z, .int .i64 e.s, .int .i64 e.o, .int .i64 e.q, .slice A n c]
def Tn.cs (e : Tn) (A : Option Addr) (n c : Nat) : List Value := [.string e.nm] ++ (e.d.map bv ++ [.bool e.g, .int .i64 e.s, .int .i64 e.o, .int .i64 e.q, .slice A n c])
def Wd.cs (e : Wd) : List Value := [.int .i64 e.k, .int .u64 e.sq] ++ (e.d.map bv ++ [.string e.nm, .int .i64 e.z, .int .i64 e.s, .int .i64 e.o, .int .i64 e.q])
def EnAt (w : World) (cs : List Value) (e : En) : Prop := ∃ A n c, cs = e.cs A n c ∧ Sl w 1 A n (ivs e.l) ∧ e.d.length = 32
def TnAt (w : World) (cs : List Value) (e : Tn) : Prop := ∃ A n c, cs = e.cs A n c ∧ Sl w 1 A n (ivs e.l) ∧ e.d.length = 32
theorem EnAt.fr {w w' : World} {cs : List Value} {e : En} (h : EnAt w cs e) (f : Fr (fun _ => False) w w') : EnAt w' cs e := by
  obtain ⟨A, n, c, h1, h2, h3⟩ := h
  exact ⟨A, n, c, h1, f.sl h2 (fun _ _ _ h => h), h3⟩
theorem TnAt.fr {w w' : World} {cs : List Value} {e : Tn} (h : TnAt w cs e) (f : Fr (fun _ => False) w w') : TnAt w' cs e := by
  obtain ⟨A, n, c, h1, h2, h3⟩ := h
  exact ⟨A, n, c, h1, f.sl h2 (fun _ _ _ h => h), h3⟩
theorem EnAt.len {w : World} {cs : List Value} {e : En} (h : EnAt w cs e) : cs.length = 38 := by
  obtain ⟨A, n, c, h1, h2, h3⟩ := h
  rw [h1]; simp [En.cs, h3]
theorem TnAt.len {w : World} {cs : List Value} {e : Tn} (h : TnAt w cs e) : cs.length = 38 := by
  obtain ⟨A, n, c, h1, h2, h3⟩ := h
  rw [h1]; simp [Tn.cs, h3]
theorem En.one (e : En) (A : Option Addr) (n c : Nat) : ∀ v ∈ e.cs A n c, v.oneCell' = true := by
  intro v hv
  rcases List.mem_append.1 hv with h | h
  · exact bvs_one _ v h
  · simp at h; rcases h with rfl | rfl | rfl | rfl | rfl | rfl <;> rfl
theorem Tn.one (e : Tn) (A : Option Addr) (n c : Nat) : ∀ v ∈ e.cs A n c, v.oneCell' = true := by
  intro v hv
  rcases List.mem_append.1 hv with h | h
  · simp at h; subst h; rfl
  rcases List.mem_append.1 h with h | h
  · exact bvs_one _ v h
  · simp at h; rcases h with rfl | rfl | rfl | rfl | rfl <;> rfl
theorem EnAt.one {w : World} {cs : List Value} {e : En} (h : EnAt w cs e) : ∀ v ∈ cs, v.oneCell' = true := by
  obtain ⟨A, n, c, rfl, _⟩ := h
  exact e.one A n c
theorem TnAt.one {w : World} {cs : List Value} {e : Tn} (h : TnAt w cs e) : ∀ v ∈ cs, v.oneCell' = true := by
  obtain ⟨A, n, c, rfl, _⟩ := h
  exact e.one A n c
/-! ### reading them -/
theorem rec_mid {w : World} {b : Nat} {t : TypeId} {x m y : List Value} (h : RecAt w b t (x ++ (m ++ y))) : cellsAt w b (0 + x.length) m :=
  h.cells (fun j v hj => by
    have hm := (List.getElem?_eq_some_iff.1 hj).1
    rw [Nat.zero_add, List.getElem?_append_right (by omega), Nat.add_sub_cancel_left, List.getElem?_append_left hm]; exact hj)
theorem rec_end {w : World} {b : Nat} {t : TypeId} {x m y : List Value} (h : RecAt w b t (x ++ (m ++ y))) {k : Nat} (hm : m.length = k) {j : Nat} {v : Value} (hj : y[j]? = some v) {i : Nat} (hi : i = x.length + k + j) : cellAt w b i = some v :=
  h.cell (by
    subst hi
    rw [List.getElem?_append_right (by omega), List.getElem?_append_right (by omega), show x.length + k + j - x.length - m.length = j by omega]; exact hj)
theorem rec_loc {w : World} {b : Nat} {t : TypeId} {x m y : List Value} (h : RecAt w b t (x ++ (m ++ y))) {k : Nat} (hm : m.length = k) {j : Nat} {a c d : Value} (h0 : y[j]? = some a) (h1 : y[j + 1]? = some c) (h2 : y[j + 2]? = some d) {i : Nat} (hi : i = x.length + k + j) : cellsAt w b i [a, c, d] := by
  intro q v hq
  match q, hq with
  | 0, hq => injection hq with hq; subst hq; exact rec_end h hm h0 hi
  | 1, hq => injection hq with hq; subst hq; exact rec_end h hm h1 (by omega)
  | 2, hq => injection hq with hq; subst hq; exact rec_end h hm h2 (by omega)
  | q + 3, hq => simp at hq
theorem rec_all {w : World} {b : Nat} {t : TypeId} {cs : List Value} (h : RecAt w b t cs) : cellsAt w b 0 cs := h.cells (o := 0) (fun q v hq => by rw [Nat.zero_add]; exact hq)
/-- three blocks -/
theorem nw3 {w : World} {c1 c3 c5 : List Value} {t1 t3 t5 : TypeId} {K : Nat → Nat → Nat → World → Prop}
    (hK : ∀ b1 b3 b5 u, Fr (fun _ => False) w u → RecAt u b1 t1 c1 → RecAt u b3 t3 c3 → RecAt u b5 t5 c5 → w.heap.size ≤ b5 → b1 ≠ b5 → b3 ≠ b5 → K b1 b3 b5 u) :
    nw w c1 t1 fun b1 w2 => nw w2 c3 t3 fun b3 w4 => nw w4 c5 t5 fun b5 w6 => K b1 b3 b5 w6 := by
  refine nw_mk (nw_mk (nw_mk ?_))
  have f1 : Fr (fun _ => False) w (w.alloc (.cells c1.toArray t1)) := Fr.alloc _ _ _
  have r1 := RecAt.new w c1 t1
  have s1 : (w.alloc (.cells c1.toArray t1)).heap.size = w.heap.size + 1 := alloc_size _ _
  generalize w.alloc (.cells c1.toArray t1) = w1 at f1 r1 s1 ⊢
  have f2 : Fr (fun _ => False) w1 (w1.alloc (.cells c3.toArray t3)) := Fr.alloc _ _ _
  have r2 := RecAt.new w1 c3 t3
  have s2 : (w1.alloc (.cells c3.toArray t3)).heap.size = w1.heap.size + 1 := alloc_size _ _
  generalize w1.alloc (.cells c3.toArray t3) = w2 at f2 r2 s2 ⊢
  have f3 : Fr (fun _ => False) w2 (w2.alloc (.cells c5.toArray t5)) := Fr.alloc _ _ _
  have r3 := RecAt.new w2 c5 t5
  exact hK _ _ _ _ ((f1.trans1 f2).trans1 f3) ((r1.fr f2 (fun h => h)).fr f3 (fun h => h)) (r2.fr f3 (fun h => h)) r3 (by omega) (by omega) (by omega)
theorem nw2 {w : World} {c1 c5 : List Value} {t1 t5 : TypeId} {K : Nat → Nat → World → Prop}
    (hK : ∀ b1 b5 u, Fr (fun _ => False) w u → RecAt u b1 t1 c1 → RecAt u b5 t5 c5 → w.heap.size ≤ b1 → w.heap.size ≤ b5 → b1 ≠ b5 → K b1 b5 u) :
    nw w c1 t1 fun b1 w2 => nw w2 c5 t5 fun b5 w6 => K b1 b5 w6 := by
  refine nw_mk (nw_mk ?_)
  have f1 : Fr (fun _ => False) w (w.alloc (.cells c1.toArray t1)) := Fr.alloc _ _ _
  have r1 := RecAt.new w c1 t1
  have s1 : (w.alloc (.cells c1.toArray t1)).heap.size = w.heap.size + 1 := alloc_size _ _
  generalize w.alloc (.cells c1.toArray t1) = w1 at f1 r1 s1 ⊢
  have f2 : Fr (fun _ => False) w1 (w1.alloc (.cells c5.toArray t5)) := Fr.alloc _ _ _
  have r2 := RecAt.new w1 c5 t5
  exact hK _ _ _ (f1.trans1 f2) (r1.fr f2 (fun h => h)) r2 (Nat.le_refl _) (by omega) (by omega)
/-- a block is written whole, and read -/
theorem st_all {w : World} {b k : Nat} {t : TypeId} {z vs : List Value} {K : List Value → World → Prop} (h : RecAt w b t z) (hz : z.length = k) (hl : vs.length = k) (h1 : ∀ v ∈ vs, v.oneCell' = true)
    (hK : ∀ w', Fr (fun j => j = b) w w' → RecAt w' b t vs → K vs w') : st w b 0 vs fun w' => ldA k w' b 0 fun a => K a w' := by
  refine h.st_mk (o := 0) (by omega) h1 (fun r f => ?_)
  rw [splice_full (by omega)] at r
  exact ⟨vs, hl, rec_all r, hK _ f r⟩
theorem bvl {d : List UInt8} {k : Nat} (h : d.length = k) : (d.map bv).length = k := by rw [List.length_map]; exact h
theorem len1 {d : List UInt8} {k : Nat} (h : d.length = k) : ((d.map bv).length == k) = true := by rw [bvl h]; simp
/-- the row of two rows, or of one -/
theorem row2_calls (A : Option Addr) (n c : Nat) (l : List Int) (b15 : Nat) (x : Int) (b17 : Nat) (w : World) (hs : Sl w 1 A n (ivs l)) (h15 : RecAt w b15 3 [.int .i64 x]) (h17 : RecAt w b17 26 [.slice A n c, .slice (some ⟨b15, 0, none⟩) 1 1]) (hn : l.length ≤ 8589934592) :
    Calls Try.prog 27 #[.slice (some ⟨b17, 0, none⟩) 2 2] w fun e w' => Fr (fun _ => False) w w' ∧ ∃ A' c', e = .returned (.slice A' (norm (l ++ [x])).length c') ∧ Row w' w.heap.size 3 1 A' (norm (l ++ [x])).length c' (ivs (norm (l ++ [x]))) := by
  have h := row_calls (some ⟨b17, 0, none⟩) 2 2 [.slice A n c, .slice (some ⟨b15, 0, none⟩) 1 1] [l, [x]] w ⟨rfl, fun _ => ⟨b17, 0, rfl, rec_all h17⟩⟩ rfl (fun i y hi => by
    match i, hi with
    | 0, hi => injection hi with hi; subst hi; exact ⟨A, n, c, rfl, hs⟩
    | 1, hi => injection hi with hi; subst hi; exact ⟨_, 1, 1, rfl, rfl, fun _ => ⟨b15, 0, rfl, rec_all h15⟩⟩
    | i + 2, hi => simp at hi) (by simp; omega) (by omega)
  have e : [l, [x]].flatten = l ++ [x] := by simp
  rw [e] at h
  exact h
theorem row1_calls (A : Option Addr) (n c : Nat) (l : List Int) (b17 : Nat) (w : World) (hs : Sl w 1 A n (ivs l)) (h17 : RecAt w b17 26 [.slice A n c]) (hn : l.length ≤ 8589934592) :
    Calls Try.prog 27 #[.slice (some ⟨b17, 0, none⟩) 1 1] w fun e w' => Fr (fun _ => False) w w' ∧ ∃ A' c', e = .returned (.slice A' (norm l).length c') ∧ Row w' w.heap.size 3 1 A' (norm l).length c' (ivs (norm l)) := by
  have h := row_calls (some ⟨b17, 0, none⟩) 1 1 [.slice A n c] [l] w ⟨rfl, fun _ => ⟨b17, 0, rfl, rec_all h17⟩⟩ rfl (fun i y hi => by
    match i, hi with
    | 0, hi => injection hi with hi; subst hi; exact ⟨A, n, c, rfl, hs⟩
    | i + 1, hi => simp at hi) (by simp; omega) (by omega)
  have e : [l].flatten = l := by simp
  rw [e] at h
  exact h
def putE (e : En) (x : Wd) : En := ⟨x.d, x.k, x.z, x.s, x.o, x.q, norm (e.l ++ [x.s])⟩
def delE (e : En) (x : Wd) : En := ⟨e.d, 5, 0, x.s, x.o, x.q, norm e.l⟩
def tagE (e : Tn) (x : Wd) : Tn := ⟨x.nm, x.d, false, x.s, x.o, x.q, norm (e.l ++ [x.s])⟩
def untE (e : Tn) (x : Wd) : Tn := ⟨e.nm, List.replicate 32 0, true, x.s, x.o, x.q, norm e.l⟩
theorem z28 : Z28.length = 38 := rfl
theorem z35 : Z35.length = 38 := rfl
/-- a slice in a new world, behind a frame -/
theorem sl_fr {w w' : World} {A : Option Addr} {n : Nat} {l : List Int} (h : Sl w 1 A n (ivs l)) (f : Fr (fun _ => False) w w') : Sl w' 1 A n (ivs l) := f.sl h (fun _ _ _ h => h)
theorem sl_fr1 {w w' : World} {B b : Nat} {e : TypeId} {A : Option Addr} {n c : Nat} {l : List Int} (h : Row w B e 1 A n c (ivs l)) (f : Fr (fun j => j = b) w w') (hb : b < B) : Sl w' 1 A n (ivs l) := (f.row h (fun k hk h' => by have := (h.blt hk).1; omega)).sl
theorem fr_own {w u v : World} {b : Nat} (f : Fr (fun _ => False) w u) (g : Fr (fun j => j = b) u v) (hb : w.heap.size ≤ b) : Fr (fun _ => False) w v := f.trans g (fun _ _ h => h) (fun k hk h' => by omega)
set_option maxHeartbeats 1000000 in
theorem put_calls (e : En) (x : Wd) (x0 : List Value) (w : World) (h : EnAt w x0 e) (hx : x.d.length = 32) (hn : e.l.length ≤ 4294967296) :
    Calls Try.prog 9 #[ofL x0, ofL x.cs] w fun r w' => Fr (fun _ => False) w w' ∧ ∃ cs, r = .returned (ofL cs) ∧ EnAt w' cs (putE e x) := by
  refine (F9.of x0 x.cs w (Q := fun v w' => Fr (fun _ => False) w w' ∧ ∃ cs, v = ofL cs ∧ EnAt w' cs (putE e x)) ?_).mono (fun e w' ⟨v, he, hf, cs, hv, h⟩ => ⟨hf, cs, by rw [he, hv], h⟩)
  obtain ⟨A, n, c, rfl, hs, hd⟩ := h
  have hl := sl_n hs
  refine nw3 (fun b1 b3 b5 u f r1 r3 r5 hb5 n15 n35 => ?_)
  have f := f.trans1 (Fr.drew _ u)
  have r1 : RecAt u.drew b1 _ ([] ++ (e.d.map bv ++ [.int .i64 e.k, .int .i64 e.z, .int .i64 e.s, .int .i64 e.o, .int .i64 e.q, .slice A n c])) := r1
  have r3 : RecAt u.drew b3 _ ([.int .i64 x.k, .int .u64 x.sq] ++ (x.d.map bv ++ [.string x.nm, .int .i64 x.z, .int .i64 x.s, .int .i64 x.o, .int .i64 x.q])) := r3
  have r5 : RecAt u.drew b5 _ _ := r5
  generalize u.drew = u at f r1 r3 r5 ⊢
  have hb1 := r1.lt
  have hb3 := r3.lt
  refine ⟨x.d.map bv, bvl hx, rec_mid r3, x.k, r3.cell rfl, x.z, rec_end r3 (bvl hx) (j := 1) rfl rfl, [.int .i64 x.s, .int .i64 x.o, .int .i64 x.q], rfl, rec_loc r3 (bvl hx) (j := 2) rfl rfl rfl rfl, A, n, c, rec_end r1 (bvl hd) (j := 5) rfl rfl, x.s, rec_end r3 (bvl hx) (j := 2) rfl rfl, ?_⟩
  refine nw_mk (cs := [Value.int .i64 x.s]) ?_
  have f2 : Fr (fun _ => False) u (u.alloc (.cells [Value.int .i64 x.s].toArray 3)) := Fr.alloc _ _ _
  have q2 := RecAt.new u [Value.int .i64 x.s] 3
  generalize u.alloc (.cells [Value.int .i64 x.s].toArray 3) = u2 at f2 q2 ⊢
  refine kp_mk f2 hb1 (fun h => h) (kp_mk f2 hb3 (fun h => h) (kp_mk f2 hb3 (fun h => h) (kp_mk f2 hb3 (fun h => h) (kp_mk f2 hb3 (fun h => h) (nw_mk (cs := [Value.slice A n c, .slice (some ⟨u.heap.size, 0, none⟩) 1 1]) ?_)))))
  have f3 : Fr (fun _ => False) u2 (u2.alloc (.cells [Value.slice A n c, .slice (some ⟨u.heap.size, 0, none⟩) 1 1].toArray 26)) := Fr.alloc _ _ _
  have q3 := RecAt.new u2 [Value.slice A n c, .slice (some ⟨u.heap.size, 0, none⟩) 1 1] 26
  generalize u2.alloc (.cells [Value.slice A n c, .slice (some ⟨u.heap.size, 0, none⟩) 1 1].toArray 26) = u3 at f3 q3 ⊢
  have g3 := f2.trans1 f3
  refine kp_mk g3 hb3 (fun h => h) (kp_mk g3 hb3 (fun h => h) (kp_mk g3 hb3 (fun h => h) (kp_mk g3 hb3 (fun h => h) ?_)))
  refine (row2_calls A n c e.l _ x.s _ u3 (sl_fr hs (f.trans1 g3)) (q2.fr f3 (fun h => h)) q3 (by omega)).mono ?_
  rintro r u4 ⟨f4, A', c', rfl, h4⟩
  have g4 := g3.trans1 f4
  refine ⟨_, _, _, rfl, kp_mk g4 hb3 (fun h => h) (kp_mk g4 hb3 (fun h => h) (kp_mk g4 hb3 (fun h => h) (kp_mk g4 hb3 (fun h => h) (gd_mk (len1 hx) (gd_mk rfl (gd_mk (by simp [hx]) ?_))))))⟩
  refine st_all (r5.fr g4 (fun h => h)) z28 (by simp [hx]) ((putE e x).one A' _ c') (fun u5 f5 r5' => ⟨?_, _, rfl, A', _, c', rfl, ?_, hx⟩)
  · exact fr_own (f.trans1 g4) f5 hb5
  · exact sl_fr1 h4 f5 (by have := g3.size; have := r5.lt; omega)
set_option maxHeartbeats 1000000 in
theorem rput_calls (e : En) (x : Wd) (x0 : List Value) (w : World) (h : EnAt w x0 e) (hx : x.d.length = 32) (hn : e.l.length ≤ 4294967296) :
    Calls Try.prog 10 #[ofL x0, ofL x.cs] w fun r w' => Fr (fun _ => False) w w' ∧ ∃ cs, r = .returned (ofL cs) ∧ EnAt w' cs (putE e x) := by
  refine (F10.of x0 x.cs w (Q := fun v w' => Fr (fun _ => False) w w' ∧ ∃ cs, v = ofL cs ∧ EnAt w' cs (putE e x)) ?_).mono (fun e w' ⟨v, he, hf, cs, hv, h⟩ => ⟨hf, cs, by rw [he, hv], h⟩)
  obtain ⟨A, n, c, rfl, hs, hd⟩ := h
  have hl := sl_n hs
  refine nw3 (fun b1 b3 b5 u f r1 r3 r5 hb5 n15 n35 => ?_)
  have f := f.trans1 (Fr.drew _ u)
  have r1 : RecAt u.drew b1 _ ([] ++ (e.d.map bv ++ [.int .i64 e.k, .int .i64 e.z, .int .i64 e.s, .int .i64 e.o, .int .i64 e.q, .slice A n c])) := r1
  have r3 : RecAt u.drew b3 _ ([.int .i64 x.k, .int .u64 x.sq] ++ (x.d.map bv ++ [.string x.nm, .int .i64 x.z, .int .i64 x.s, .int .i64 x.o, .int .i64 x.q])) := r3
  have r5 : RecAt u.drew b5 _ _ := r5
  generalize u.drew = u at f r1 r3 r5 ⊢
  have hb1 := r1.lt
  have hb3 := r3.lt
  refine ⟨x.d.map bv, bvl hx, rec_mid r3, x.k, r3.cell rfl, x.z, rec_end r3 (bvl hx) (j := 1) rfl rfl, [.int .i64 x.s, .int .i64 x.o, .int .i64 x.q], rfl, rec_loc r3 (bvl hx) (j := 2) rfl rfl rfl rfl, A, n, c, rec_end r1 (bvl hd) (j := 5) rfl rfl, x.s, rec_end r3 (bvl hx) (j := 2) rfl rfl, ?_⟩
  refine (rrow_calls A n c e.l u (sl_fr hs f) (by omega)).mono ?_
  rintro r u3 ⟨g3, A3, c3, rfl, h3⟩
  refine ⟨_, _, _, rfl, kp_mk g3 hb3 (fun h => h) (kp_mk g3 hb3 (fun h => h) (kp_mk g3 hb3 (fun h => h) (kp_mk g3 hb3 (fun h => h) (kp_mk g3 hb3 (fun h => h) ?_))))⟩
  have hnl := norm_len e.l
  refine (add_calls A3 _ c3 _ x.s u3 h3.sl (by omega)).mono ?_
  rintro r u4 ⟨f4, A', c', rfl, h4⟩
  rw [← norm_snoc] at h4 ⊢
  have g4 := g3.trans1 f4
  refine ⟨_, _, _, rfl, kp_mk g4 hb3 (fun h => h) (kp_mk g4 hb3 (fun h => h) (kp_mk g4 hb3 (fun h => h) (kp_mk g4 hb3 (fun h => h) (gd_mk (len1 hx) (gd_mk rfl (gd_mk (by simp [hx]) ?_))))))⟩
  refine st_all (r5.fr g4 (fun h => h)) z28 (by simp [hx]) ((putE e x).one A' _ c') (fun u5 f5 r5' => ⟨?_, _, rfl, A', _, c', rfl, ?_, hx⟩)
  · exact fr_own (f.trans1 g4) f5 hb5
  · exact sl_fr1 h4 f5 (by have := g3.size; have := r5.lt; omega)
end Go.Proofs.Ytiiabhgcmgfgfaa
