/- words; blocks and how they are read -/
import Derived.Test.YtnablplljilahaaLIntE
namespace Go.Proofs.Ytnablplljilahaa
open Go.GV Go.RowKit Go.Lib
set_option linter.unusedVariables false
set_option linter.unusedSimpArgs false
structure Wd where
  k : Int
  sq : Int
  d : List UInt8
  nm : ByteArray
  z : Int
  s : Int
  o : Int
  q : Int
def Wd.cs (e : Wd) : List Value := [.int .i64 e.k, .int .u64 e.sq] ++ (e.d.map bv ++ [.string e.nm, .int .i64 e.z, .int .i64 e.s, .int .i64 e.o, .int .i64 e.q])
/-! ### reading them -/
theorem rec_mid {w : World} {b : Nat} {t : TypeId} {x m y : List Value} (h : RecAt w b t (x ++ (m ++ y))) : cellsAt w b (0 + x.length) m :=
  h.cells (fun j v hj => by
    have hm := (List.getElem?_eq_some_iff.1 hj).1
    rw [Nat.zero_add, List.getElem?_append_right (by omega), Nat.add_sub_cancel_left, List.getElem?_append_left hm]; exact hj)
theorem rec_end {w : World} {b : Nat} {t : TypeId} {x m y : List Value} (h : RecAt w b t (x ++ (m ++ y))) {k : Nat} (hm : m.length = k) {j : Nat} {v : Value} (hj : y[j]? = some v) {i : Nat} (hi : i = x.length + k + j) : cellAt w b i = some v :=
  h.cell (by
    subst hi
    rw [List.getElem?_append_right (by omega), List.getElem?_append_right (by omega), show x.length + k + j - x.length - m.length = j by omega]; exact hj)
theorem rec_loc {w : World} {b : Nat} {t : TypeId} {x m y : List Value} (h : RecAt w b t (x ++ (m ++ y))) {k : Nat} (hm : m.length = k) {j : Nat} {a c d : Value} (h0 : y[j]? = some a) (h1 : y[j + 1]? = some c) (h2 : y[j + 2]? = some d) {i : Nat} (hi : i = x.length + k + j) : cellsAt w b i [a, c, d] := by
  intro q v hq
  match q, hq with
  | 0, hq => injection hq with hq; subst hq; exact rec_end h hm h0 hi
  | 1, hq => injection hq with hq; subst hq; exact rec_end h hm h1 (by omega)
  | 2, hq => injection hq with hq; subst hq; exact rec_end h hm h2 (by omega)
  | q + 3, hq => simp at hq
theorem rec_all {w : World} {b : Nat} {t : TypeId} {cs : List Value} (h : RecAt w b t cs) : cellsAt w b 0 cs := h.cells (o := 0) (fun q v hq => by rw [Nat.zero_add]; exact hq)
/-- three blocks -/
theorem nw3 {w : World} {c1 c3 c5 : List Value} {t1 t3 t5 : TypeId} {K : Nat → Nat → Nat → World → Prop}
    (hK : ∀ b1 b3 b5 u, Fr (fun _ => False) w u → RecAt u b1 t1 c1 → RecAt u b3 t3 c3 → RecAt u b5 t5 c5 → w.heap.size ≤ b5 → b1 ≠ b5 → b3 ≠ b5 → K b1 b3 b5 u) :
    nw w c1 t1 fun b1 w2 => nw w2 c3 t3 fun b3 w4 => nw w4 c5 t5 fun b5 w6 => K b1 b3 b5 w6 := by
  refine nw_mk (nw_mk (nw_mk ?_))
  have f1 : Fr (fun _ => False) w (w.alloc (.cells c1.toArray t1)) := Fr.alloc _ _ _
  have r1 := RecAt.new w c1 t1
  have s1 : (w.alloc (.cells c1.toArray t1)).heap.size = w.heap.size + 1 := alloc_size _ _
  generalize w.alloc (.cells c1.toArray t1) = w1 at f1 r1 s1 ⊢
  have f2 : Fr (fun _ => False) w1 (w1.alloc (.cells c3.toArray t3)) := Fr.alloc _ _ _
  have r2 := RecAt.new w1 c3 t3
  have s2 : (w1.alloc (.cells c3.toArray t3)).heap.size = w1.heap.size + 1 := alloc_size _ _
  generalize w1.alloc (.cells c3.toArray t3) = w2 at f2 r2 s2 ⊢
  have f3 : Fr (fun _ => False) w2 (w2.alloc (.cells c5.toArray t5)) := Fr.alloc _ _ _
  have r3 := RecAt.new w2 c5 t5
  exact hK _ _ _ _ ((f1.trans1 f2).trans1 f3) ((r1.fr f2 (fun h => h)).fr f3 (fun h => h)) (r2.fr f3 (fun h => h)) r3 (by omega) (by omega) (by omega)
theorem nw2 {w : World} {c1 c5 : List Value} {t1 t5 : TypeId} {K : Nat → Nat → World → Prop}
    (hK : ∀ b1 b5 u, Fr (fun _ => False) w u → RecAt u b1 t1 c1 → RecAt u b5 t5 c5 → w.heap.size ≤ b1 → w.heap.size ≤ b5 → b1 ≠ b5 → K b1 b5 u) :
    nw w c1 t1 fun b1 w2 => nw w2 c5 t5 fun b5 w6 => K b1 b5 w6 := by
  refine nw_mk (nw_mk ?_)
  have f1 : Fr (fun _ => False) w (w.alloc (.cells c1.toArray t1)) := Fr.alloc _ _ _
  have r1 := RecAt.new w c1 t1
  have s1 : (w.alloc (.cells c1.toArray t1)).heap.size = w.heap.size + 1 := alloc_size _ _
  generalize w.alloc (.cells c1.toArray t1) = w1 at f1 r1 s1 ⊢
  have f2 : Fr (fun _ => False) w1 (w1.alloc (.cells c5.toArray t5)) := Fr.alloc _ _ _
  have r2 := RecAt.new w1 c5 t5
  exact hK _ _ _ (f1.trans1 f2) (r1.fr f2 (fun h => h)) r2 (Nat.le_refl _) (by omega) (by omega)
/-- a block is written whole, and read -/
theorem st_all {w : World} {b k : Nat} {t : TypeId} {z vs : List Value} {K : List Value → World → Prop} (h : RecAt w b t z) (hz : z.length = k) (hl : vs.length = k) (h1 : ∀ v ∈ vs, v.oneCell' = true)
    (hK : ∀ w', Fr (fun j => j = b) w w' → RecAt w' b t vs → K vs w') : st w b 0 vs fun w' => ldA k w' b 0 fun a => K a w' := by
  refine h.st_mk (o := 0) (by omega) h1 (fun r f => ?_)
  rw [splice_full (by omega)] at r
  exact ⟨vs, hl, rec_all r, hK _ f r⟩
theorem bvl {d : List UInt8} {k : Nat} (h : d.length = k) : (d.map bv).length = k := by rw [List.length_map]; exact h
theorem len1 {d : List UInt8} {k : Nat} (h : d.length = k) : ((d.map bv).length == k) = true := by rw [bvl h]; simp
/-- the row of two rows, or of one -/
theorem row2_calls (A : Option Addr) (n c : Nat) (l : List Int) (b15 : Nat) (x : Int) (b17 : Nat) (w : World) (hs : Sl w 1 A n (ivs l)) (h15 : RecAt w b15 3 [.int .i64 x]) (h17 : RecAt w b17 34 [.slice A n c, .slice (some ⟨b15, 0, none⟩) 1 1]) (hn : l.length ≤ 8589934592) :
    Calls Try.prog 38 #[.slice (some ⟨b17, 0, none⟩) 2 2] w fun e w' => Fr (fun _ => False) w w' ∧ ∃ A' c', e = .returned (.slice A' (norm (l ++ [x])).length c') ∧ Row w' w.heap.size 3 1 A' (norm (l ++ [x])).length c' (ivs (norm (l ++ [x]))) := by
  have h := row_calls (some ⟨b17, 0, none⟩) 2 2 [.slice A n c, .slice (some ⟨b15, 0, none⟩) 1 1] [l, [x]] w ⟨rfl, fun _ => ⟨b17, 0, rfl, rec_all h17⟩⟩ rfl (fun i y hi => by
    match i, hi with
    | 0, hi => injection hi with hi; subst hi; exact ⟨A, n, c, rfl, hs⟩
    | 1, hi => injection hi with hi; subst hi; exact ⟨_, 1, 1, rfl, rfl, fun _ => ⟨b15, 0, rfl, rec_all h15⟩⟩
    | i + 2, hi => simp at hi) (by simp; omega) (by omega)
  have e : [l, [x]].flatten = l ++ [x] := by simp
  rw [e] at h
  exact h
theorem row1_calls (A : Option Addr) (n c : Nat) (l : List Int) (b17 : Nat) (w : World) (hs : Sl w 1 A n (ivs l)) (h17 : RecAt w b17 34 [.slice A n c]) (hn : l.length ≤ 8589934592) :
    Calls Try.prog 38 #[.slice (some ⟨b17, 0, none⟩) 1 1] w fun e w' => Fr (fun _ => False) w w' ∧ ∃ A' c', e = .returned (.slice A' (norm l).length c') ∧ Row w' w.heap.size 3 1 A' (norm l).length c' (ivs (norm l)) := by
  have h := row_calls (some ⟨b17, 0, none⟩) 1 1 [.slice A n c] [l] w ⟨rfl, fun _ => ⟨b17, 0, rfl, rec_all h17⟩⟩ rfl (fun i y hi => by
    match i, hi with
    | 0, hi => injection hi with hi; subst hi; exact ⟨A, n, c, rfl, hs⟩
    | i + 1, hi => simp at hi) (by simp; omega) (by omega)
  have e : [l].flatten = l := by simp
  rw [e] at h
  exact h
/-- a slice in a new world, behind a frame -/
theorem sl_fr {w w' : World} {A : Option Addr} {n : Nat} {l : List Int} (h : Sl w 1 A n (ivs l)) (f : Fr (fun _ => False) w w') : Sl w' 1 A n (ivs l) := f.sl h (fun _ _ _ h => h)
theorem sl_fr1 {w w' : World} {B b : Nat} {e : TypeId} {A : Option Addr} {n c : Nat} {l : List Int} (h : Row w B e 1 A n c (ivs l)) (f : Fr (fun j => j = b) w w') (hb : b < B) : Sl w' 1 A n (ivs l) := (f.row h (fun k hk h' => by have := (h.blt hk).1; omega)).sl
theorem fr_own {w u v : World} {b : Nat} (f : Fr (fun _ => False) w u) (g : Fr (fun j => j = b) u v) (hb : w.heap.size ≤ b) : Fr (fun _ => False) w v := f.trans g (fun _ _ h => h) (fun k hk h' => by omega)
theorem splice_last {p : List Value} {v v' : Value} {k : Nat} (hk : p.length = k) : splice (p ++ [v]) k [v'] = p ++ [v'] := by
  unfold splice
  rw [List.take_left' hk, List.drop_of_length_le (by simp; omega)]
  simp
theorem both_len (l sg : List Int) : (both l sg).length ≤ l.length := Nat.le_trans (norm_len _) (List.length_filter_le _ _)
/-- a variable that takes what a call handed back -/
theorem var_mk {w : World} {t : TypeId} {z cs : List Value} {K : Nat → World → Prop} (hz : z.length = 38) (hl : cs.length = 38) (h1 : ∀ v ∈ cs, v.oneCell' = true)
    (hK : ∀ b u, Fr (fun _ => False) w u → RecAt u b t cs → K b u) : nw w z t fun b w' => gd (cs.length == 38) (st w' b 0 cs fun w'' => K b w'') := by
  refine nw_mk (gd_mk (by rw [hl]; rfl) ?_)
  have f1 : Fr (fun _ => False) w (w.alloc (.cells z.toArray t)) := Fr.alloc _ _ _
  refine (RecAt.new w z t).st_mk (o := 0) (by omega) h1 (fun r f => ?_)
  rw [splice_full (by omega)] at r
  exact hK _ _ (f1.trans f (fun _ _ h => h) (fun k hk h' => by omega)) r
/-! ### what is behind words -/
theorem norm_one_le (l : List Int) (x : Int) : (norm (l ++ [x])).length ≤ l.length + 1 := Nat.le_trans (norm_len _) (by simp)
end Go.Proofs.Ytnablplljilahaa
