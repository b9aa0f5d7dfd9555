/- chapter 21: the table; put, New, Get -/
import Derived.Test.YtklanoocjlpemaaHC
namespace Go.Proofs.Ytklanoocjlpemaa
open Go.GV Go.RowKit Go.Lib
set_option linter.unusedVariables false
set_option linter.unusedSimpArgs false
/-- append to a slice that is full: a new row -/
theorem app_full {w : World} {e : TypeId} {sz bytes : Nat} {z : List Value} {A : Option Addr} {n : Nat} {x : Value} {old us : List Value} {m : Nat} {K : Option Addr → Nat → Nat → World → Prop}
    (hr : Sl w sz A n old) (hx : srcOf w sz x m us) (h1 : ∀ v ∈ us, v.oneCell' = true) (hz : z.length = sz) (hb : (n + m) * bytes ≤ 140737488355328) (hm : n + m ≤ 9223372036854775807) (hm0 : m ≠ 0)
    (hK : ∀ b c' w', Row w' w.heap.size e sz (some ⟨b, 0, none⟩) (n + m) c' (old ++ us) → Fr (fun _ => False) w w' → K (some ⟨b, 0, none⟩) (n + m) c' w') : app w sz bytes z e A n n x K := by
  have hul : us.length = m * sz := by
    unfold srcOf at hx
    split at hx
    · obtain ⟨rfl, h, _⟩ := hx; exact h
    · obtain ⟨rfl, rfl, rfl⟩ := hx; simp
    · exact hx.elim
  refine ⟨m, us, hx, h1, hb, hm, fun hle => by omega, fun hlt => ⟨old, hr.src, fun cap hc1 hc2 => ?_⟩⟩
  refine hK _ _ _ ⟨by rw [List.length_append, hr.1, hul, Nat.add_mul], hc1, .inr ⟨_, _, rfl, ?_, heap_alloc_at _ _, ?_, ?_⟩⟩ ?_
  · exact Nat.le_refl _
  · simp only [List.size_toArray, List.length_append, zeros_length, hr.1, hul, hz, ← Nat.add_mul]
    congr 1; omega
  · simp only [List.append_assoc]
    rw [← List.append_assoc, List.take_append_of_le_length (by rw [List.length_append, hr.1, hul, ← Nat.add_mul]; exact Nat.le_refl _), List.take_of_length_le (by rw [List.length_append, hr.1, hul, ← Nat.add_mul]; exact Nat.le_refl _)]
  · exact (Fr.drew _ w).trans1 (Fr.alloc _ _ _)
theorem slA_none (m l sz : Nat) : slA none m l sz = none := by unfold slA; split <;> rfl
theorem slA_some (b m l sz : Nat) (h : m ≠ l) : slA (some (⟨b, 0, none⟩ : Addr)) m l sz = some ⟨b, 0 + l * sz, none⟩ := by
  unfold slA
  rw [if_neg h, Option.map_some, add_none]
theorem row_tail {w : World} {B : Nat} {e : TypeId} {sz : Nat} {A : Option Addr} {n c i : Nat} {vs : List Value} (hr : Row w B e sz A n c vs) (hi : i ≤ n) : Sl w sz (slA A c i sz) (n - i) (vs.drop (i * sz)) := by
  refine ⟨by rw [List.length_drop, hr.len, Nat.sub_mul], fun h0 => ?_⟩
  obtain ⟨b, o, hA, hc⟩ := hr.sl.2 (by omega)
  have hle := hr.le
  rcases hr.at_ with ⟨rfl, h1, _⟩ | ⟨b', cs, rfl, _⟩
  · omega
  · injection hA with hA
    injection hA with hb ho
    subst hb; subst ho
    rw [slA_some _ _ _ _ (by omega)]
    refine ⟨b', _, rfl, fun j v hj => ?_⟩
    rw [List.getElem?_drop] at hj
    have := hc _ v hj
    rw [Nat.add_assoc]; exact this
theorem row_head {w : World} {B : Nat} {e : TypeId} {sz : Nat} {A : Option Addr} {n c i : Nat} {vs : List Value} (hr : Row w B e sz A n c vs) (hi : i ≤ n) : Sl w sz (slA A i 0 sz) i (vs.take (i * sz)) := by
  have hmul : i * sz ≤ n * sz := Nat.mul_le_mul_right _ hi
  refine ⟨by rw [List.length_take, hr.len]; omega, fun h0 => ?_⟩
  obtain ⟨b, o, hA, hc⟩ := hr.sl.2 (by omega)
  rcases hr.at_ with ⟨rfl, h1, _⟩ | ⟨b', cs, rfl, _⟩
  · omega
  · injection hA with hA
    injection hA with hb ho
    subst hb; subst ho
    rw [slA_some _ _ _ _ (by omega)]
    refine ⟨b', _, rfl, fun j v hj => ?_⟩
    rw [List.getElem?_take] at hj
    split at hj
    · rw [Nat.zero_mul]; exact hc _ v hj
    · cases hj
/-- the table -/
structure Tab (X : Nat → Prop) (w : World) (base tb : Nat) (R : Option Addr) (n c : Nat) (l : List Tn) : Prop where
  rc : RecAt w tb 63 [.slice R n c]
  ot : OT (fun k => k ≠ tb ∧ X k) w base R n c l
  ne : blkOf R ≠ some tb
  ba : base ≤ tb
/-- the blocks of a table -/
def DT (tb : Nat) (R : Option Addr) : Nat → Prop := fun k => k = tb ∨ blkOf R = some k
theorem Tab.fr {X : Nat → Prop} {w w' : World} {base tb : Nat} {R : Option Addr} {n c : Nat} {l : List Tn} {D : Nat → Prop} (h : Tab X w base tb R n c l) (f : Fr D w w') (hD : ∀ k, base ≤ k → k < w.heap.size → ¬ D k) (hP : ∀ k, ¬ D k) : Tab X w' base tb R n c l :=
  ⟨h.rc.fr f (hP _), h.ot.fr f (fun k _ => hP k) (fun k _ => hP k), h.ne, h.ba⟩
theorem Tab.fr0 {X : Nat → Prop} {w w' : World} {base tb : Nat} {R : Option Addr} {n c : Nat} {l : List Tn} (h : Tab X w base tb R n c l) (f : Fr (fun _ => False) w w') : Tab X w' base tb R n c l :=
  ⟨h.rc.fr f (fun h => h), h.ot.fr0 f, h.ne, h.ba⟩
theorem Tab.monoX {X X' : Nat → Prop} {w : World} {base tb : Nat} {R : Option Addr} {n c : Nat} {l : List Tn} (h : Tab X w base tb R n c l) (hX : ∀ k, k < w.heap.size → X k → X' k) : Tab X' w base tb R n c l :=
  ⟨h.rc, h.ot.mono (Nat.le_refl _) (fun k hk h => ⟨h.1, hX k hk h.2⟩), h.ne, h.ba⟩
/-- off a frame -/
theorem Tab.off {X D : Nat → Prop} {w w' : World} {base tb : Nat} {R : Option Addr} {n c : Nat} {l : List Tn} (h : Tab X w base tb R n c l) (f : Fr D w w') (hD : ∀ k, DT tb R k → ¬ D k) (hX : ∀ k, X k → ¬ D k) : Tab X w' base tb R n c l :=
  ⟨h.rc.fr f (hD _ (.inl rfl)), h.ot.fr f (fun k hk => hX k hk.2) (fun k hk => hD k (.inr hk)), h.ne, h.ba⟩
theorem Tab.cell {X : Nat → Prop} {w : World} {base tb : Nat} {R : Option Addr} {n c : Nat} {l : List Tn} (h : Tab X w base tb R n c l) : cellAt w tb 0 = some (.slice R n c) := h.rc.cell rfl
theorem Tab.len {X : Nat → Prop} {w : World} {base tb : Nat} {R : Option Addr} {n c : Nat} {l : List Tn} (h : Tab X w base tb R n c l) : l.length = n := h.ot.rt.len
theorem Tab.lt {X : Nat → Prop} {w : World} {base tb : Nat} {R : Option Addr} {n c : Nat} {l : List Tn} (h : Tab X w base tb R n c l) {k : Nat} (hk : DT tb R k) : base ≤ k ∧ k < w.heap.size := by
  rcases hk with rfl | hk
  · exact ⟨h.ba, h.rc.lt⟩
  · exact h.ot.blt hk
theorem place_calls {X : Nat → Prop} (base tb : Nat) (R : Option Addr) (n c : Nat) (l : List Tn) (nm : ByteArray) (w : World) (h : Tab X w base tb R n c l) (ha : AscT l) (hn : n ≤ 17179869184) :
    Calls Try.prog 28 #[.pointer (some ⟨tb, 0, none⟩), .string nm] w fun e w' => Fr (fun _ => False) w w' ∧ ∃ i : Nat, e = .returned (.tuple #[.int .i64 i, .bool (isAt nm i l)]) ∧ Pl nm i l := by
  refine (F28.of (some ⟨tb, 0, none⟩) nm w (Q := fun v w' => Fr (fun _ => False) w w' ∧ ∃ i : Nat, v = .tuple #[.int .i64 i, .bool (isAt nm i l)] ∧ Pl nm i l) ?_).mono (fun e w' ⟨v, he, hf, i, hv, h⟩ => ⟨hf, i, by rw [he, hv], h⟩)
  refine dr_mk ⟨R, n, c, h.cell, (bsT_calls R n c l nm w h.ot.rt ha hn).mono ?_⟩
  rintro e w2 ⟨f2, i, rfl, hp⟩
  exact ⟨_, _, rfl, f2, i, rfl, hp⟩
/-- Clone of a row of a table -/
theorem clT_calls (P : Nat → Prop) (A : Option Addr) (n c : Nat) (vs : List Value) (l : List Tn) (w : World) (h : Sl w 38 A n vs) (ht : TRow P w vs l) (hn : n ≤ 1073741824) :
    Calls Try.prog 37 #[.slice A n c] w fun e w' => Fr (fun _ => False) w w' ∧ ∃ A' c', e = .returned (.slice A' n c') ∧ Row w' w.heap.size 34 38 A' n c' vs := by
  refine (F37.of A n c w (Q := fun v w' => Fr (fun _ => False) w w' ∧ ∃ A' c', v = .slice A' n c' ∧ Row w' w.heap.size 34 38 A' n c' vs) ?_).mono (fun e w' ⟨v, he, hf, A', c', hv, h⟩ => ⟨hf, A', c', by rw [he, hv], h⟩)
  refine vIf_mk (fun h0 => ?_) (fun h0 => nw_mk ?_)
  · have : n = 0 := by
      refine Classical.byContradiction fun hn0 => ?_
      obtain ⟨b, o, hA, _⟩ := h.2 hn0
      rw [hA] at h0; cases h0
    subst this
    have : vs = [] := List.length_eq_zero_iff.1 (by have := h.1; omega)
    subst this
    exact ⟨Fr.refl _ _, none, 0, rfl, Row.nil _ _ _ _⟩
  · have f1 : Fr (fun _ => False) w (w.alloc (.cells ([] : List Value).toArray 34)) := Fr.alloc _ _ _
    have r1 : Row (w.alloc (.cells ([] : List Value).toArray 34)) w.heap.size 34 38 (some ⟨w.heap.size, 0, none⟩) 0 0 [] := Row.new (Nat.le_refl _) rfl
    have hs : (w.alloc (.cells ([] : List Value).toArray 34)).heap.size = w.heap.size + 1 := alloc_size _ _
    generalize w.alloc (.cells ([] : List Value).toArray 34) = w1 at f1 r1 hs ⊢
    refine app_row r1 (f1.sl h (fun _ _ _ h => h)).src ht.ones rfl (by omega) (by omega) (by omega) (fun A' c' w' hr' f' => ⟨?_, A', c', ?_, ?_⟩)
    · exact f1.trans f' (fun _ _ h => h) (fun k hk h' => by simp only [blkOf, Option.some.injEq] at h'; omega)
    · rw [Nat.zero_add]
    · rw [Nat.zero_add, List.nil_append] at hr'; exact hr'
theorem pl_len {nm : ByteArray} {i : Nat} {l : List Tn} (h : Pl nm i l) : i ≤ l.length := h.1
theorem isAt_lt {nm : ByteArray} {i : Nat} {l : List Tn} (h : isAt nm i l = true) : i < l.length := by
  unfold isAt at h
  split at h
  · exact (List.getElem?_eq_some_iff.1 (by assumption)).1
  · cases h
set_option maxHeartbeats 1000000 in
set_option maxRecDepth 10000 in
theorem putT_calls {X : Nat → Prop} (base tb : Nat) (R : Option Addr) (n c : Nat) (l : List Tn) (e : Tn) (cs : List Value) (w : World) (h : Tab X w base tb R n c l) (ha : AscT l) (he : TnP (fun k => ¬ DT tb R k ∧ X k) w cs e) (hB : base ≤ w.heap.size) (hn : n ≤ 1000000000) :
    Calls Try.prog 25 #[.pointer (some ⟨tb, 0, none⟩), ofL cs] w fun r w' => r = .returned (.tuple #[]) ∧ Fr (DT tb R) w w' ∧ ∃ R' n' c', Tab X w' base tb R' n' c' (setR e l) ∧ ∀ k, blkOf R' = some k → blkOf R = some k ∨ w.heap.size ≤ k := by
  refine (F25.of (some ⟨tb, 0, none⟩) cs w (Q := fun v w' => v = .tuple #[] ∧ Fr (DT tb R) w w' ∧ ∃ R' n' c', Tab X w' base tb R' n' c' (setR e l) ∧ ∀ k, blkOf R' = some k → blkOf R = some k ∨ w.heap.size ≤ k) ?_).mono (fun e w' ⟨v, he, hv, h⟩ => ⟨by rw [he, hv], h⟩)
  have hl := h.len
  refine nw_mk ?_
  have f1 : Fr (fun _ => False) w (w.alloc (.cells cs.toArray 34)) := Fr.alloc _ _ _
  have r1 := RecAt.new w cs 34
  generalize w.alloc (.cells cs.toArray 34) = w1 at f1 r1 ⊢
  refine ⟨e.nm, c_nm he (rec_all r1), (place_calls base tb R n c l e.nm w1 (h.fr0 f1) ha (by omega)).mono ?_⟩
  rintro r w2 ⟨f2, i, rfl, hp⟩
  have f12 := f1.trans1 f2
  have hil := hp.1
  have hset := pl_set e l i hp
  refine ⟨_, _, rfl, vIf_mk (fun hat => ?_) (fun hat => ?_)⟩
  · rw [if_pos hat] at hset
    have hlt := isAt_lt hat
    have f := f12.trans1 (Fr.drew _ w2)
    have r1 := r1.fr f2 (fun h => h)
    have r1 : RecAt w2.drew _ _ _ := r1
    have hT := h.fr0 f
    have he2 := he.fr0 f
    generalize w2.drew = u at f r1 hT he2 ⊢
    refine dr_mk ⟨R, n, c, hT.cell, cs, he.len, rec_all r1, ?_⟩
    obtain ⟨rc, ⟨vs, hv, ht⟩, hne, hba⟩ := hT
    obtain ⟨b, o, hR, _⟩ := hv.sl.2 (by omega)
    have hR2 : R = some ⟨b, 0, none⟩ := by
      rcases hv.at_ with ⟨h0, _⟩ | ⟨b', _, h0, _⟩
      · rw [h0] at hR; cases hR
      · rw [h0] at hR; injection hR with hR; injection hR with hb ho; rw [h0, hb]
    subst hR2
    refine dr_mk (gd_mk (decide_eq_true (by omega)) (gd_mk (decide_eq_true (by omega)) (gd_mk (by rw [he.len]; rfl) ?_)))
    show st u b (0 + ((i : Int)).toNat * 38) _ _
    rw [Int.toNat_natCast]
    refine row_put (A := some ⟨b, 0, none⟩) (o' := i * 38) hv (by omega) (by have := he.len; omega) he.one (fun u2 hv2 g2 => ⟨rfl, ?_, some ⟨b, 0, none⟩, n, c, ⟨rc.fr g2 (fun h => hne h), ⟨_, hv2, ?_⟩, hne, hba⟩, fun k hk => .inl hk⟩)
    · exact (f.mono (fun _ _ h => h.elim)).trans1 (g2.mono (fun k _ hk => .inr hk))
    · rw [hset]
      refine (TRow.set (ht.fr g2 (fun k hk h => hk.1 h)) ?_ (by omega))
      refine (he2.mono (P' := fun k => blkOf (some (⟨b, 0, none⟩ : Addr)) ≠ some k ∧ k ≠ tb ∧ X k) (fun k _ hk => ⟨fun h => hk.1 (.inr h), fun h => hk.1 (.inl h), hk.2⟩)).fr g2 (fun k hk h => hk.1 h)
  · have hat : isAt e.nm i l = false := hat
    rw [if_neg (by rw [hat]; decide)] at hset
    have hT := h.fr0 f12
    have r1 := r1.fr f2 (fun h => h)
    have he2 := he.fr0 f12
    refine dr_mk ⟨R, n, c, hT.cell, gd_mk (decide_eq_true (by omega)) (gd_mk (decide_eq_true (by omega)) ?_)⟩
    obtain ⟨rc, ⟨vs, hv, ht⟩, hne, hba⟩ := hT
    rw [Int.toNat_natCast]
    have hle := hv.le
    refine (clT_calls _ (slA R c i 38) (n - i) (c - i) (vs.drop (i * 38)) (l.drop i) w2 (row_tail hv (by omega)) (ht.drop i) (by omega)).mono ?_
    rintro r w3 ⟨f3, A4, c4, rfl, h4⟩
    refine ⟨_, _, _, rfl, ?_⟩
    have f3d := f3.trans1 (Fr.drew _ w3)
    have r1 := r1.fr f3 (fun h => h)
    have r1 : RecAt w3.drew _ _ _ := r1
    have rc := rc.fr f3 (fun h => h)
    have rc : RecAt w3.drew _ _ _ := rc
    have hv := f3d.row hv (fun _ _ h => h)
    have ht := ht.fr f3d (fun _ _ h => h)
    have he3 := he2.fr0 f3d
    have h4 : Row w3.drew w2.heap.size _ 38 A4 (n - i) c4 _ := (Fr.drew (fun _ => False) w3).row h4 (fun _ _ h => h)
    have hsz := f3d.size
    generalize w3.drew = u at f3d r1 rc hv ht he3 h4 hsz ⊢
    refine dr_mk ⟨R, n, c, rc.cell rfl, gd_mk (decide_eq_true (by omega)) (gd_mk (decide_eq_true (by omega)) (gd_mk (decide_eq_true (by omega)) (gd_mk (decide_eq_true (by omega)) ⟨cs, he.len, rec_all r1, gd_mk (by rw [he.len]; rfl) (nw_mk ?_)⟩)))⟩
    rw [List.append_nil]
    have g1 : Fr (fun _ => False) u (u.alloc (.cells cs.toArray 34)) := Fr.alloc _ _ _
    have q1 : Row (u.alloc (.cells cs.toArray 34)) 0 34 38 (some ⟨u.heap.size, 0, none⟩) 1 1 cs := Row.new (Nat.zero_le _) (by rw [he.len])
    have hlb := rc.lt
    generalize u.alloc (.cells cs.toArray 34) = u1 at g1 q1 ⊢
    refine kp_mk g1 hlb (fun h => h) ?_
    have hv1 := g1.row hv (fun _ _ h => h)
    refine app_full (row_head hv1 (by omega)) q1.sl.src he.one rfl (by omega) (by omega) (by decide) (fun b' c' u2 p2 k2 => ?_)
    have g2 := g1.trans1 k2
    have h42 := g2.row h4 (fun _ _ h => h)
    have ht2 := ht.fr g2 (fun _ _ h => h)
    have he5 := he3.fr0 g2
    have gs := g1.size
    have hpb := p2.blt (b := b') rfl
    have hk2 := k2.size
    have ones := (ht.drop i).ones
    have hall := ((ht.take i).app ((TRow.one (he3.mono (P' := fun k => blkOf R ≠ some k ∧ k ≠ tb ∧ X k) (fun k _ hk => ⟨fun h => hk.1 (.inr h), fun h => hk.1 (.inl h), hk.2⟩))))).app (ht.drop i)
    rw [← hset] at hall
    have hsz12 := f12.size
    have hall := (hall.mono (P' := fun k => (k ≠ tb ∧ X k) ∧ k < u.heap.size) (fun k hk h => ⟨h.2, hk⟩)).fr g2 (fun _ _ h => h)
    have rc2 := rc.fr g2 (fun h => h)
    refine app_row2 p2 h42.sl.src ones rfl (by omega) (by omega) (by omega) (fun A5 c5 u5 p5 k5 hnew => ?_)
    have rc5 := rc2.fr k5 (fun h => by simp only [blkOf, Option.some.injEq] at h; omega)
    have hall := hall.fr k5 (fun k hk h => by simp only [blkOf, Option.some.injEq] at h; have := hk.2; omega)
    have p5b : ∀ k, blkOf A5 = some k → u1.heap.size ≤ k := fun k hk => (p5.blt hk).1
    refine dr_mk (rc5.st_mk (o := 0) (by simp) (fun v hv => by simp at hv; subst hv; rfl) (fun rc6 k6 => ⟨rfl, ?_, A5, _, c5, ⟨rc6, ⟨_, row_low (by omega) (k6.row p5 (fun k hk h => by have := p5b k hk; omega)), ?_⟩, fun h => by have := p5b _ h; omega, hba⟩, fun k hk => .inr (by have := p5b k hk; omega)⟩))
    · have k25 : Fr (fun _ => False) u1 u5 := k2.trans k5 (fun _ _ h => h) (fun k hk h => by simp only [blkOf, Option.some.injEq] at h; omega)
      exact (((f12.trans1 f3d).trans1 (g1.trans1 k25)).mono (fun _ _ h => h.elim)).trans1 (k6.mono (fun k _ hk => .inl hk))
    · refine (hall.fr k6 (fun k hk h => hk.1.1 h)).mono (fun k hk h => ⟨fun h' => ?_, h.1⟩)
      have := p5b k h'
      have := h.2
      omega
end Go.Proofs.Ytklanoocjlpemaa
