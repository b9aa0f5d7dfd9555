import Derived.Test.YthcclmlbkfadcaaGreatP3
/- chapter 21: place, fresh, Get, Row -/
namespace Go.Proofs.YthcclmlbkfadcaaGreat.Tg
open Go.GV Go.RowKit Go.Lib
set_option linter.unusedVariables false
set_option linter.unusedSimpArgs false
theorem strcmp_calls (a b : ByteArray) (w : World) : Calls Tryz.prog 126 #[.string a, .string b] w fun e w' => e = .returned (.int .i64 (cmpN a b)) ∧ w' = w := by
  refine (F126.of a b w (Q := fun v w' => v = .int .i64 (cmpN a b) ∧ w' = w) ?_).mono (fun e w' ⟨v, he, hv, h⟩ => ⟨by rw [he, hv], h⟩)
  refine (F146.of a b w (Q := fun v w' => v = .int .i64 (cmpN a b) ∧ w' = w) ?_).mono ?_
  · exact ⟨_, Extern.BytealgCompare.compare, _, _, Tryz.func157, by kernel_rfl, by kernel_rfl, by kernel_rfl, Lib.run_compareString a b w, cmpN a b, rfl, rfl, rfl⟩
  · rintro e w' ⟨v, rfl, rfl, rfl⟩
    exact ⟨_, rfl, rfl, rfl⟩
theorem pcl_calls {P : Nat → Prop} (e : Tn) (cs : List Value) (nm : ByteArray) (w : World) (h : TnP P w cs e) :
    Calls Tryz.prog 125 #[ofL cs, .string nm] w fun r w' => r = .returned (.int .i64 (cmpN e.nm nm)) ∧ Fr (fun _ => False) w w' := by
  refine (F125.of cs nm w (Q := fun v w' => v = .int .i64 (cmpN e.nm nm) ∧ Fr (fun _ => False) w w') ?_).mono (fun e w' ⟨v, he, hv, h⟩ => ⟨by rw [he, hv], h⟩)
  refine nw_mk ?_
  have f1 : Fr (fun _ => False) w (w.alloc (.cells cs.toArray 53)) := Fr.alloc _ _ _
  have r1 := RecAt.new w cs 53
  generalize w.alloc (.cells cs.toArray 53) = w1 at f1 r1 ⊢
  refine ⟨e.nm, c_nm h (rec_all r1), (strcmp_calls e.nm nm w1).mono ?_⟩
  rintro r w2 ⟨rfl, rfl⟩
  exact ⟨_, rfl, rfl, f1⟩
theorem mem_take_lt {α : Type} {l : List α} {i : Nat} {x : α} (h : x ∈ l.take i) : ∃ j, j < i ∧ l[j]? = some x := by
  obtain ⟨j, hj⟩ := List.mem_iff_getElem?.1 h
  rw [List.getElem?_take] at hj
  split at hj
  · exact ⟨j, by assumption, hj⟩
  · cases hj
theorem mem_drop_ge {α : Type} {l : List α} {i : Nat} {x : α} (h : x ∈ l.drop i) : ∃ j, i ≤ j ∧ l[j]? = some x := by
  obtain ⟨j, hj⟩ := List.mem_iff_getElem?.1 h
  rw [List.getElem?_drop] at hj
  exact ⟨i + j, by omega, hj⟩
theorem asc_lt {l : List Tn} (h : AscT l) {i j : Nat} {x y : Tn} (hi : l[i]? = some x) (hj : l[j]? = some y) (hij : i < j) : cmpN x.nm y.nm < 0 := by
  obtain ⟨h1, rfl⟩ := List.getElem?_eq_some_iff.1 hi
  obtain ⟨h2, rfl⟩ := List.getElem?_eq_some_iff.1 hj
  exact (List.pairwise_iff_getElem.1 h) i j h1 h2 hij
theorem bsT_calls {P : Nat → Prop} (A : Option Addr) (n c : Nat) (l : List Tn) (nm : ByteArray) (w : World) (h : RT P w A n l) (ha : AscT l) (hn : n ≤ 17179869184) :
    Calls Tryz.prog 124 #[.slice A n c, .string nm, .func (.func 125) #[] #[]] w fun e w' => Fr (fun _ => False) w w' ∧ ∃ i : Nat, e = .returned (.tuple #[.int .i64 i, .bool (isAt nm i l)]) ∧ Pl nm i l := by
  refine (F124s.of A n c nm w (Q := fun v w' => Fr (fun _ => False) w w' ∧ ∃ i : Nat, v = .tuple #[.int .i64 i, .bool (isAt nm i l)] ∧ Pl nm i l) ?_).mono (fun e w' ⟨v, he, hf, i, hv, h⟩ => ⟨hf, i, by rw [he, hv], h⟩)
  have hl := h.len
  refine jnC_mk (loop_rule (fun s u => Fr (fun _ => False) w u ∧ ∃ i j : Nat, i ≤ j ∧ j ≤ n ∧ s = ((A, n, c), nm, (), (n : Int), (i : Int), (j : Int), ()) ∧ (∀ x ∈ l.take i, cmpN x.nm nm < 0) ∧ ∀ x ∈ l.drop j, ¬ cmpN x.nm nm < 0)
    (fun s _ => (s.2.2.2.2.2.1 - s.2.2.2.2.1).toNat) ?_ _ _ ⟨Fr.refl _ _, 0, n, by omega, by omega, rfl, by simp, by rw [List.drop_of_length_le (by omega)]; intro x hx; cases hx⟩)
  rintro s u C ⟨hf, i, j, hij, hjn, rfl, hlo, hhi⟩ hC _
  refine vIf_mk (fun hlt => ?_) (fun hge => ?_)
  · have hlt2 : (i : Int) < (j : Int) := of_decide_eq_true hlt
    have em : IntKind.wrap .i64 (Int.fdiv (IntKind.wrap .u64 (IntKind.wrap .i64 ((i : Int) + (j : Int)))) (2 ^ 1)) = (((i + j) / 2 : Nat) : Int) := by
      rw [i64_id (n := (i : Int) + (j : Int)) (by omega) (by omega), IntKind.wrap_u64, Int.fdiv_eq_ediv_of_nonneg _ (by decide), i64_id (by omega) (by omega)]; omega
    have gi : l[(i + j) / 2]? = some (l[(i + j) / 2]'(by omega)) := List.getElem?_eq_getElem (by omega)
    generalize l[(i + j) / 2]'(by omega) = x at gi
    dsimp only
    rw [em]
    refine t_rd (h.fr0 hf) gi (fun b o cs hA hT hc => ⟨cs, hT.len, hc, (pcl_calls x cs nm u hT).mono ?_⟩)
    rintro r u2 ⟨rfl, f2⟩
    refine ⟨_, rfl, vIf_mk (fun h1 => jnC_mk (hC _ _ ⟨hf.trans1 f2, (i + j) / 2 + 1, j, by omega, hjn, by rw [ei _ (by omega)], fun y hy => ?_, hhi⟩ ?_)) (fun h1 => jnC_mk (hC _ _ ⟨hf.trans1 f2, i, (i + j) / 2, by omega, by omega, rfl, hlo, fun y hy => ?_⟩ ?_))⟩
    · have h1 := of_decide_eq_true h1
      obtain ⟨q, hq, hy⟩ := mem_take_lt hy
      by_cases hqm : q = (i + j) / 2
      · rw [hqm] at hy; rw [gi] at hy; injection hy with hy; subst hy; exact h1
      · exact cmpN_trans (asc_lt ha hy gi (by omega)) h1
    · show ((j : Int) - IntKind.wrap .i64 ((((i + j) / 2 : Nat) : Int) + 1)).toNat < ((j : Int) - (i : Int)).toNat
      rw [ei _ (by omega)]; omega
    · have h1 := of_decide_eq_false h1
      obtain ⟨q, hq, hy⟩ := mem_drop_ge hy
      by_cases hqm : q = (i + j) / 2
      · rw [hqm] at hy; rw [gi] at hy; injection hy with hy; subst hy; exact h1
      · intro h2
        exact h1 (cmpN_trans (asc_lt ha gi hy (by omega)) h2)
    · show ((((i + j) / 2 : Nat) : Int) - (i : Int)).toNat < ((j : Int) - (i : Int)).toNat
      omega
  · have hge2 : ¬ (i : Int) < (j : Int) := of_decide_eq_false hge
    have hij2 : i = j := by omega
    subst hij2
    have hpl : Pl nm i l := ⟨by omega, hlo, hhi⟩
    refine vIf_mk (fun h1 => ?_) (fun h1 => ?_)
    · have h1 : (i : Int) < (n : Int) := of_decide_eq_true h1
      have gi : l[i]? = some (l[i]'(by omega)) := List.getElem?_eq_getElem (by omega)
      generalize l[i]'(by omega) = x at gi
      refine t_rd (h.fr0 hf) gi (fun b o cs hA hT hc => ⟨cs, hT.len, hc, (pcl_calls x cs nm u hT).mono ?_⟩)
      rintro r u2 ⟨rfl, f2⟩
      refine ⟨_, rfl, hf.trans1 f2, i, ?_, hpl⟩
      have : isAt nm i l = (cmpN x.nm nm == 0) := by
        unfold isAt
        rw [gi, Bool.eq_iff_iff, decide_eq_true_iff, beq_iff_eq]
        exact (cmpN_zero _ _).symm
      rw [this]
    · have h1 : ¬ (i : Int) < (n : Int) := of_decide_eq_false h1
      refine ⟨hf, i, ?_, hpl⟩
      have : isAt nm i l = false := by
        unfold isAt
        rw [List.getElem?_eq_none (by omega)]
      rw [this]
/-! ### copies -/
theorem clI_calls (A : Option Addr) (n c : Nat) (l : List Int) (w : World) (h : Sl w 1 A n (ivs l)) (hn : n ≤ 17179869184) :
    Calls Tryz.prog 113 #[.slice A n c] w fun e w' => Fr (fun _ => False) w w' ∧ ∃ A' c', e = .returned (.slice A' n c') ∧ Row w' w.heap.size 3 1 A' n c' (ivs l) := by
  refine (F113.of A n c w (Q := fun v w' => Fr (fun _ => False) w w' ∧ ∃ A' c', v = .slice A' n c' ∧ Row w' w.heap.size 3 1 A' n c' (ivs l)) ?_).mono (fun e w' ⟨v, he, hf, A', c', hv, h⟩ => ⟨hf, A', c', by rw [he, hv], h⟩)
  have hl := sl_n h
  refine vIf_mk (fun h0 => ?_) (fun h0 => nw_mk ?_)
  · have : n = 0 := by
      refine Classical.byContradiction fun hn0 => ?_
      obtain ⟨b, o, hA, _⟩ := h.2 hn0
      rw [hA] at h0; cases h0
    subst this
    have : l = [] := List.length_eq_zero_iff.1 hl
    subst this
    exact ⟨Fr.refl _ _, none, 0, rfl, Row.nil _ _ _ _⟩
  · have f1 : Fr (fun _ => False) w (w.alloc (.cells ([] : List Value).toArray 3)) := Fr.alloc _ _ _
    have r1 : Row (w.alloc (.cells ([] : List Value).toArray 3)) w.heap.size 3 1 (some ⟨w.heap.size, 0, none⟩) 0 0 [] := Row.new (Nat.le_refl _) rfl
    have hs : (w.alloc (.cells ([] : List Value).toArray 3)).heap.size = w.heap.size + 1 := alloc_size _ _
    generalize w.alloc (.cells ([] : List Value).toArray 3) = w1 at f1 r1 hs ⊢
    refine app_row r1 (sl_fr h f1).src (ivs_one l) rfl (by omega) (by omega) (by omega) (fun A' c' w' hr' f' => ⟨?_, A', c', ?_, ?_⟩)
    · exact f1.trans f' (fun _ _ h => h) (fun k hk h' => by simp only [blkOf, Option.some.injEq] at h'; omega)
    · rw [Nat.zero_add]
    · rw [Nat.zero_add, List.nil_append] at hr'; exact hr'
set_option maxRecDepth 10000 in
theorem fresh_calls {P : Nat → Prop} (e : Tn) (x0 : List Value) (w : World) (h : TnP P w x0 e) (hn : e.l.length ≤ 4294967296) :
    Calls Tryz.prog 82 #[ofL x0] w fun r w' => Fr (fun _ => False) w w' ∧ ∃ cs, r = .returned (ofL cs) ∧ TnP (fun k => w.heap.size ≤ k) w' cs e := by
  refine (F82.of x0 w (Q := fun v w' => Fr (fun _ => False) w w' ∧ ∃ cs, v = ofL cs ∧ TnP (fun k => w.heap.size ≤ k) w' cs e) ?_).mono (fun e w' ⟨v, he, hf, cs, hv, h⟩ => ⟨hf, cs, by rw [he, hv], h⟩)
  obtain ⟨A, n, c, rfl, hs, hd, _⟩ := h
  have hl := sl_n hs
  refine nw2 (fun b1 b5 u f r1 r5 hb1w hb5w n15 => ?_)
  have r1' : RecAt u b1 _ ([.string e.nm] ++ (e.d.map bv ++ [.bool e.g, .int .i64 e.s, .int .i64 e.o, .int .i64 e.q, .slice A n c])) := r1
  have hb1 := r1.lt
  have hb5 := r5.lt
  refine ⟨A, n, c, rec_end r1' (bvl hd) (j := 4) rfl rfl, (clI_calls A n c e.l u (sl_fr hs f) (by omega)).mono ?_⟩
  rintro r v ⟨g, A', c', rfl, hr⟩
  refine ⟨_, _, _, rfl, ?_⟩
  have r1v := r1.fr g (fun h => h)
  refine r1v.st_mk (o := 0 + 37) (by simp [Tn.cs, hd]) (fun v hv => by simp at hv; subst hv; rfl) (fun r f1 => ?_)
  have hsp := Tn.splice_l e A A' n n c c' e.l hd
  have r : RecAt (stB v b1 (0 + 37) [Value.slice A' n c']) b1 53 (e.cs A' n c') := by rw [← hsp]; exact r
  generalize stB v b1 (0 + 37) [Value.slice A' n c'] = v2 at r f1 ⊢
  refine ⟨_, by simp [Tn.cs, hd], rec_all r, gd_mk (by simp [Tn.cs, hd]) ?_⟩
  have r5v := (r5.fr g (fun h => h)).fr f1 (fun h => n15 h.symm)
  have hr2 := f1.row hr (fun k hk h' => by have := (hr.blt hk).1; omega)
  exact st_all r5v z35 (by simp [Tn.cs, hd]) (e.one A' _ c') (fun w' f5 r5' => ⟨fr_own (fr_own (f.trans1 g) f1 hb1w) f5 hb5w, _, rfl, A', _, c', rfl, sl_fr1 hr2 f5 hb5, hd, fun _ k hk => Nat.le_trans f.size (hr.blt hk).1⟩)
end Go.Proofs.YthcclmlbkfadcaaGreat.Tg
/- chapter 21: the table; put, New, Get -/
namespace Go.Proofs.YthcclmlbkfadcaaGreat.Tg
open Go.GV Go.RowKit Go.Lib
set_option linter.unusedVariables false
set_option linter.unusedSimpArgs false
/-- append to a slice that is full: a new row -/
theorem app_full {w : World} {e : TypeId} {sz bytes : Nat} {z : List Value} {A : Option Addr} {n : Nat} {x : Value} {old us : List Value} {m : Nat} {K : Option Addr → Nat → Nat → World → Prop}
    (hr : Sl w sz A n old) (hx : srcOf w sz x m us) (h1 : ∀ v ∈ us, v.oneCell' = true) (hz : z.length = sz) (hb : (n + m) * bytes ≤ 140737488355328) (hm : n + m ≤ 9223372036854775807) (hm0 : m ≠ 0)
    (hK : ∀ b c' w', Row w' w.heap.size e sz (some ⟨b, 0, none⟩) (n + m) c' (old ++ us) → Fr (fun _ => False) w w' → K (some ⟨b, 0, none⟩) (n + m) c' w') : app w sz bytes z e A n n x K := by
  have hul : us.length = m * sz := by
    unfold srcOf at hx
    split at hx
    · obtain ⟨rfl, h, _⟩ := hx; exact h
    · obtain ⟨rfl, rfl, rfl⟩ := hx; simp
    · exact hx.elim
  refine ⟨m, us, hx, h1, hb, hm, fun hle => by omega, fun hlt => ⟨old, hr.src, fun cap hc1 hc2 => ?_⟩⟩
  refine hK _ _ _ ⟨by rw [List.length_append, hr.1, hul, Nat.add_mul], hc1, .inr ⟨_, _, rfl, ?_, heap_alloc_at _ _, ?_, ?_⟩⟩ ?_
  · exact Nat.le_refl _
  · simp only [List.size_toArray, List.length_append, zeros_length, hr.1, hul, hz, ← Nat.add_mul]
    congr 1; omega
  · simp only [List.append_assoc]
    rw [← List.append_assoc, List.take_append_of_le_length (by rw [List.length_append, hr.1, hul, ← Nat.add_mul]; exact Nat.le_refl _), List.take_of_length_le (by rw [List.length_append, hr.1, hul, ← Nat.add_mul]; exact Nat.le_refl _)]
  · exact (Fr.drew _ w).trans1 (Fr.alloc _ _ _)
theorem slA_some (b m l sz : Nat) (h : m ≠ l) : slA (some (⟨b, 0, none⟩ : Addr)) m l sz = some ⟨b, 0 + l * sz, none⟩ := by
  unfold slA
  rw [if_neg h, Option.map_some, add_none]
theorem row_tail {w : World} {B : Nat} {e : TypeId} {sz : Nat} {A : Option Addr} {n c i : Nat} {vs : List Value} (hr : Row w B e sz A n c vs) (hi : i ≤ n) : Sl w sz (slA A c i sz) (n - i) (vs.drop (i * sz)) := by
  refine ⟨by rw [List.length_drop, hr.len, Nat.sub_mul], fun h0 => ?_⟩
  obtain ⟨b, o, hA, hc⟩ := hr.sl.2 (by omega)
  have hle := hr.le
  rcases hr.at_ with ⟨rfl, h1, _⟩ | ⟨b', cs, rfl, _⟩
  · omega
  · injection hA with hA
    injection hA with hb ho
    subst hb; subst ho
    rw [slA_some _ _ _ _ (by omega)]
    refine ⟨b', _, rfl, fun j v hj => ?_⟩
    rw [List.getElem?_drop] at hj
    have := hc _ v hj
    rw [Nat.add_assoc]; exact this
theorem row_head {w : World} {B : Nat} {e : TypeId} {sz : Nat} {A : Option Addr} {n c i : Nat} {vs : List Value} (hr : Row w B e sz A n c vs) (hi : i ≤ n) : Sl w sz (slA A i 0 sz) i (vs.take (i * sz)) := by
  have hmul : i * sz ≤ n * sz := Nat.mul_le_mul_right _ hi
  refine ⟨by rw [List.length_take, hr.len]; omega, fun h0 => ?_⟩
  obtain ⟨b, o, hA, hc⟩ := hr.sl.2 (by omega)
  rcases hr.at_ with ⟨rfl, h1, _⟩ | ⟨b', cs, rfl, _⟩
  · omega
  · injection hA with hA
    injection hA with hb ho
    subst hb; subst ho
    rw [slA_some _ _ _ _ (by omega)]
    refine ⟨b', _, rfl, fun j v hj => ?_⟩
    rw [List.getElem?_take] at hj
    split at hj
    · rw [Nat.zero_mul]; exact hc _ v hj
    · cases hj
/-- the table -/
structure Tab (X : Nat → Prop) (w : World) (base tb : Nat) (R : Option Addr) (n c : Nat) (l : List Tn) : Prop where
  rc : RecAt w tb 133 [.slice R n c]
  ot : OT (fun k => k ≠ tb ∧ X k) w base R n c l
  ne : blkOf R ≠ some tb
  ba : base ≤ tb
/-- the blocks of a table -/
def DT (tb : Nat) (R : Option Addr) : Nat → Prop := fun k => k = tb ∨ blkOf R = some k
theorem Tab.fr {X : Nat → Prop} {w w' : World} {base tb : Nat} {R : Option Addr} {n c : Nat} {l : List Tn} {D : Nat → Prop} (h : Tab X w base tb R n c l) (f : Fr D w w') (hD : ∀ k, base ≤ k → k < w.heap.size → ¬ D k) (hP : ∀ k, ¬ D k) : Tab X w' base tb R n c l :=
  ⟨h.rc.fr f (hP _), h.ot.fr f (fun k _ => hP k) (fun k _ => hP k), h.ne, h.ba⟩
theorem Tab.fr0 {X : Nat → Prop} {w w' : World} {base tb : Nat} {R : Option Addr} {n c : Nat} {l : List Tn} (h : Tab X w base tb R n c l) (f : Fr (fun _ => False) w w') : Tab X w' base tb R n c l :=
  ⟨h.rc.fr f (fun h => h), h.ot.fr0 f, h.ne, h.ba⟩
theorem Tab.monoX {X X' : Nat → Prop} {w : World} {base tb : Nat} {R : Option Addr} {n c : Nat} {l : List Tn} (h : Tab X w base tb R n c l) (hX : ∀ k, k < w.heap.size → X k → X' k) : Tab X' w base tb R n c l :=
  ⟨h.rc, h.ot.mono (Nat.le_refl _) (fun k hk h => ⟨h.1, hX k hk h.2⟩), h.ne, h.ba⟩
/-- off a frame -/
theorem Tab.off {X D : Nat → Prop} {w w' : World} {base tb : Nat} {R : Option Addr} {n c : Nat} {l : List Tn} (h : Tab X w base tb R n c l) (f : Fr D w w') (hD : ∀ k, DT tb R k → ¬ D k) (hX : ∀ k, X k → ¬ D k) : Tab X w' base tb R n c l :=
  ⟨h.rc.fr f (hD _ (.inl rfl)), h.ot.fr f (fun k hk => hX k hk.2) (fun k hk => hD k (.inr hk)), h.ne, h.ba⟩
theorem Tab.cell {X : Nat → Prop} {w : World} {base tb : Nat} {R : Option Addr} {n c : Nat} {l : List Tn} (h : Tab X w base tb R n c l) : cellAt w tb 0 = some (.slice R n c) := h.rc.cell rfl
theorem Tab.len {X : Nat → Prop} {w : World} {base tb : Nat} {R : Option Addr} {n c : Nat} {l : List Tn} (h : Tab X w base tb R n c l) : l.length = n := h.ot.rt.len
theorem Tab.lt {X : Nat → Prop} {w : World} {base tb : Nat} {R : Option Addr} {n c : Nat} {l : List Tn} (h : Tab X w base tb R n c l) {k : Nat} (hk : DT tb R k) : base ≤ k ∧ k < w.heap.size := by
  rcases hk with rfl | hk
  · exact ⟨h.ba, h.rc.lt⟩
  · exact h.ot.blt hk
theorem place_calls {X : Nat → Prop} (base tb : Nat) (R : Option Addr) (n c : Nat) (l : List Tn) (nm : ByteArray) (w : World) (h : Tab X w base tb R n c l) (ha : AscT l) (hn : n ≤ 17179869184) :
    Calls Tryz.prog 97 #[.pointer (some ⟨tb, 0, none⟩), .string nm] w fun e w' => Fr (fun _ => False) w w' ∧ ∃ i : Nat, e = .returned (.tuple #[.int .i64 i, .bool (isAt nm i l)]) ∧ Pl nm i l := by
  refine (F97.of (some ⟨tb, 0, none⟩) nm w (Q := fun v w' => Fr (fun _ => False) w w' ∧ ∃ i : Nat, v = .tuple #[.int .i64 i, .bool (isAt nm i l)] ∧ Pl nm i l) ?_).mono (fun e w' ⟨v, he, hf, i, hv, h⟩ => ⟨hf, i, by rw [he, hv], h⟩)
  refine dr_mk ⟨R, n, c, h.cell, (bsT_calls R n c l nm w h.ot.rt ha hn).mono ?_⟩
  rintro e w2 ⟨f2, i, rfl, hp⟩
  exact ⟨_, _, rfl, f2, i, rfl, hp⟩
/-- Clone of a row of a table -/
theorem clT_calls (P : Nat → Prop) (A : Option Addr) (n c : Nat) (vs : List Value) (l : List Tn) (w : World) (h : Sl w 38 A n vs) (ht : TRow P w vs l) (hn : n ≤ 1073741824) :
    Calls Tryz.prog 114 #[.slice A n c] w fun e w' => Fr (fun _ => False) w w' ∧ ∃ A' c', e = .returned (.slice A' n c') ∧ Row w' w.heap.size 53 38 A' n c' vs := by
  refine (F114.of A n c w (Q := fun v w' => Fr (fun _ => False) w w' ∧ ∃ A' c', v = .slice A' n c' ∧ Row w' w.heap.size 53 38 A' n c' vs) ?_).mono (fun e w' ⟨v, he, hf, A', c', hv, h⟩ => ⟨hf, A', c', by rw [he, hv], h⟩)
  refine vIf_mk (fun h0 => ?_) (fun h0 => nw_mk ?_)
  · have : n = 0 := by
      refine Classical.byContradiction fun hn0 => ?_
      obtain ⟨b, o, hA, _⟩ := h.2 hn0
      rw [hA] at h0; cases h0
    subst this
    have : vs = [] := List.length_eq_zero_iff.1 (by have := h.1; omega)
    subst this
    exact ⟨Fr.refl _ _, none, 0, rfl, Row.nil _ _ _ _⟩
  · have f1 : Fr (fun _ => False) w (w.alloc (.cells ([] : List Value).toArray 53)) := Fr.alloc _ _ _
    have r1 : Row (w.alloc (.cells ([] : List Value).toArray 53)) w.heap.size 53 38 (some ⟨w.heap.size, 0, none⟩) 0 0 [] := Row.new (Nat.le_refl _) rfl
    have hs : (w.alloc (.cells ([] : List Value).toArray 53)).heap.size = w.heap.size + 1 := alloc_size _ _
    generalize w.alloc (.cells ([] : List Value).toArray 53) = w1 at f1 r1 hs ⊢
    refine app_row r1 (f1.sl h (fun _ _ _ h => h)).src ht.ones rfl (by omega) (by omega) (by omega) (fun A' c' w' hr' f' => ⟨?_, A', c', ?_, ?_⟩)
    · exact f1.trans f' (fun _ _ h => h) (fun k hk h' => by simp only [blkOf, Option.some.injEq] at h'; omega)
    · rw [Nat.zero_add]
    · rw [Nat.zero_add, List.nil_append] at hr'; exact hr'
theorem isAt_lt {nm : ByteArray} {i : Nat} {l : List Tn} (h : isAt nm i l = true) : i < l.length := by
  unfold isAt at h
  split at h
  · exact (List.getElem?_eq_some_iff.1 (by assumption)).1
  · cases h
set_option maxHeartbeats 1000000 in
set_option maxRecDepth 10000 in
theorem putT_calls {X : Nat → Prop} (base tb : Nat) (R : Option Addr) (n c : Nat) (l : List Tn) (e : Tn) (cs : List Value) (w : World) (h : Tab X w base tb R n c l) (ha : AscT l) (he : TnP (fun k => ¬ DT tb R k ∧ X k) w cs e) (hB : base ≤ w.heap.size) (hn : n ≤ 1000000000) :
    Calls Tryz.prog 81 #[.pointer (some ⟨tb, 0, none⟩), ofL cs] w fun r w' => r = .returned (.tuple #[]) ∧ Fr (DT tb R) w w' ∧ ∃ R' n' c', Tab X w' base tb R' n' c' (setR e l) ∧ ∀ k, blkOf R' = some k → blkOf R = some k ∨ w.heap.size ≤ k := by
  refine (F81.of (some ⟨tb, 0, none⟩) cs w (Q := fun v w' => v = .tuple #[] ∧ Fr (DT tb R) w w' ∧ ∃ R' n' c', Tab X w' base tb R' n' c' (setR e l) ∧ ∀ k, blkOf R' = some k → blkOf R = some k ∨ w.heap.size ≤ k) ?_).mono (fun e w' ⟨v, he, hv, h⟩ => ⟨by rw [he, hv], h⟩)
  have hl := h.len
  refine nw_mk ?_
  have f1 : Fr (fun _ => False) w (w.alloc (.cells cs.toArray 53)) := Fr.alloc _ _ _
  have r1 := RecAt.new w cs 53
  generalize w.alloc (.cells cs.toArray 53) = w1 at f1 r1 ⊢
  refine ⟨e.nm, c_nm he (rec_all r1), (place_calls base tb R n c l e.nm w1 (h.fr0 f1) ha (by omega)).mono ?_⟩
  rintro r w2 ⟨f2, i, rfl, hp⟩
  have f12 := f1.trans1 f2
  have hil := hp.1
  have hset := pl_set e l i hp
  refine ⟨_, _, rfl, vIf_mk (fun hat => ?_) (fun hat => ?_)⟩
  · rw [if_pos hat] at hset
    have hlt := isAt_lt hat
    have f := f12.trans1 (Fr.drew _ w2)
    have r1 := r1.fr f2 (fun h => h)
    have r1 : RecAt w2.drew _ _ _ := r1
    have hT := h.fr0 f
    have he2 := he.fr0 f
    generalize w2.drew = u at f r1 hT he2 ⊢
    refine dr_mk ⟨R, n, c, hT.cell, cs, he.len, rec_all r1, ?_⟩
    obtain ⟨rc, ⟨vs, hv, ht⟩, hne, hba⟩ := hT
    obtain ⟨b, o, hR, _⟩ := hv.sl.2 (by omega)
    have hR2 : R = some ⟨b, 0, none⟩ := by
      rcases hv.at_ with ⟨h0, _⟩ | ⟨b', _, h0, _⟩
      · rw [h0] at hR; cases hR
      · rw [h0] at hR; injection hR with hR; injection hR with hb ho; rw [h0, hb]
    subst hR2
    refine dr_mk (gd_mk (decide_eq_true (by omega)) (gd_mk (decide_eq_true (by omega)) (gd_mk (by rw [he.len]; rfl) ?_)))
    show st u b (0 + ((i : Int)).toNat * 38) _ _
    rw [Int.toNat_natCast]
    refine row_put (A := some ⟨b, 0, none⟩) (o' := i * 38) hv (by omega) (by have := he.len; omega) he.one (fun u2 hv2 g2 => ⟨rfl, ?_, some ⟨b, 0, none⟩, n, c, ⟨rc.fr g2 (fun h => hne h), ⟨_, hv2, ?_⟩, hne, hba⟩, fun k hk => .inl hk⟩)
    · exact (f.mono (fun _ _ h => h.elim)).trans1 (g2.mono (fun k _ hk => .inr hk))
    · rw [hset]
      refine (TRow.set (ht.fr g2 (fun k hk h => hk.1 h)) ?_ (by omega))
      refine (he2.mono (P' := fun k => blkOf (some (⟨b, 0, none⟩ : Addr)) ≠ some k ∧ k ≠ tb ∧ X k) (fun k _ hk => ⟨fun h => hk.1 (.inr h), fun h => hk.1 (.inl h), hk.2⟩)).fr g2 (fun k hk h => hk.1 h)
  · have hat : isAt e.nm i l = false := hat
    rw [if_neg (by rw [hat]; decide)] at hset
    have hT := h.fr0 f12
    have r1 := r1.fr f2 (fun h => h)
    have he2 := he.fr0 f12
    refine dr_mk ⟨R, n, c, hT.cell, gd_mk (decide_eq_true (by omega)) (gd_mk (decide_eq_true (by omega)) ?_)⟩
    obtain ⟨rc, ⟨vs, hv, ht⟩, hne, hba⟩ := hT
    rw [Int.toNat_natCast]
    have hle := hv.le
    refine (clT_calls _ (slA R c i 38) (n - i) (c - i) (vs.drop (i * 38)) (l.drop i) w2 (row_tail hv (by omega)) (ht.drop i) (by omega)).mono ?_
    rintro r w3 ⟨f3, A4, c4, rfl, h4⟩
    refine ⟨_, _, _, rfl, ?_⟩
    have f3d := f3.trans1 (Fr.drew _ w3)
    have r1 := r1.fr f3 (fun h => h)
    have r1 : RecAt w3.drew _ _ _ := r1
    have rc := rc.fr f3 (fun h => h)
    have rc : RecAt w3.drew _ _ _ := rc
    have hv := f3d.row hv (fun _ _ h => h)
    have ht := ht.fr f3d (fun _ _ h => h)
    have he3 := he2.fr0 f3d
    have h4 : Row w3.drew w2.heap.size _ 38 A4 (n - i) c4 _ := (Fr.drew (fun _ => False) w3).row h4 (fun _ _ h => h)
    have hsz := f3d.size
    generalize w3.drew = u at f3d r1 rc hv ht he3 h4 hsz ⊢
    refine dr_mk ⟨R, n, c, rc.cell rfl, gd_mk (decide_eq_true (by omega)) (gd_mk (decide_eq_true (by omega)) (gd_mk (decide_eq_true (by omega)) (gd_mk (decide_eq_true (by omega)) ⟨cs, he.len, rec_all r1, gd_mk (by rw [he.len]; rfl) (nw_mk ?_)⟩)))⟩
    rw [List.append_nil]
    have g1 : Fr (fun _ => False) u (u.alloc (.cells cs.toArray 53)) := Fr.alloc _ _ _
    have q1 : Row (u.alloc (.cells cs.toArray 53)) 0 53 38 (some ⟨u.heap.size, 0, none⟩) 1 1 cs := Row.new (Nat.zero_le _) (by rw [he.len])
    have hlb := rc.lt
    generalize u.alloc (.cells cs.toArray 53) = u1 at g1 q1 ⊢
    refine kp_mk g1 hlb (fun h => h) ?_
    have hv1 := g1.row hv (fun _ _ h => h)
    refine app_full (row_head hv1 (by omega)) q1.sl.src he.one rfl (by omega) (by omega) (by decide) (fun b' c' u2 p2 k2 => ?_)
    have g2 := g1.trans1 k2
    have h42 := g2.row h4 (fun _ _ h => h)
    have ht2 := ht.fr g2 (fun _ _ h => h)
    have he5 := he3.fr0 g2
    have gs := g1.size
    have hpb := p2.blt (b := b') rfl
    have hk2 := k2.size
    have ones := (ht.drop i).ones
    have hall := ((ht.take i).app ((TRow.one (he3.mono (P' := fun k => blkOf R ≠ some k ∧ k ≠ tb ∧ X k) (fun k _ hk => ⟨fun h => hk.1 (.inr h), fun h => hk.1 (.inl h), hk.2⟩))))).app (ht.drop i)
    rw [← hset] at hall
    have hsz12 := f12.size
    have hall := (hall.mono (P' := fun k => (k ≠ tb ∧ X k) ∧ k < u.heap.size) (fun k hk h => ⟨h.2, hk⟩)).fr g2 (fun _ _ h => h)
    have rc2 := rc.fr g2 (fun h => h)
    refine app_row2 p2 h42.sl.src ones rfl (by omega) (by omega) (by omega) (fun A5 c5 u5 p5 k5 hnew => ?_)
    have rc5 := rc2.fr k5 (fun h => by simp only [blkOf, Option.some.injEq] at h; omega)
    have hall := hall.fr k5 (fun k hk h => by simp only [blkOf, Option.some.injEq] at h; have := hk.2; omega)
    have p5b : ∀ k, blkOf A5 = some k → u1.heap.size ≤ k := fun k hk => (p5.blt hk).1
    refine dr_mk (rc5.st_mk (o := 0) (by simp) (fun v hv => by simp at hv; subst hv; rfl) (fun rc6 k6 => ⟨rfl, ?_, A5, _, c5, ⟨rc6, ⟨_, row_low (by omega) (k6.row p5 (fun k hk h => by have := p5b k hk; omega)), ?_⟩, fun h => by have := p5b _ h; omega, hba⟩, fun k hk => .inr (by have := p5b k hk; omega)⟩))
    · have k25 : Fr (fun _ => False) u1 u5 := k2.trans k5 (fun _ _ h => h) (fun k hk h => by simp only [blkOf, Option.some.injEq] at h; omega)
      exact (((f12.trans1 f3d).trans1 (g1.trans1 k25)).mono (fun _ _ h => h.elim)).trans1 (k6.mono (fun k _ hk => .inl hk))
    · refine (hall.fr k6 (fun k hk h => hk.1.1 h)).mono (fun k hk h => ⟨fun h' => ?_, h.1⟩)
      have := p5b k h'
      have := h.2
      omega
end Go.Proofs.YthcclmlbkfadcaaGreat.Tg
/- chapter 21: New, Get, Row, Keep of the program -/
namespace Go.Proofs.YthcclmlbkfadcaaGreat.Tg
open Go.GV Go.RowKit Go.Lib
set_option linter.unusedVariables false
set_option linter.unusedSimpArgs false
def Bd (M : Nat) (l : List Tn) : Prop := ∀ e ∈ l, e.l.length ≤ M
theorem Bd.at {M : Nat} {l : List Tn} (h : Bd M l) {i : Nat} {e : Tn} (hi : l[i]? = some e) : e.l.length ≤ M := h e (List.mem_of_getElem? hi)
theorem Bd.set {M : Nat} {l : List Tn} (h : Bd M l) {e : Tn} (he : e.l.length ≤ M) : Bd M (setR e l) := fun x hx => by
  rcases setR_mem e l x hx with rfl | hx
  · exact he
  · exact h x hx
def newT (l : List Tn) : List Tn := l.foldl (fun t e => setR e t) []
theorem newT_step {l : List Tn} {i : Nat} {e : Tn} (h : l[i]? = some e) : newT (l.take (i + 1)) = setR e (newT (l.take i)) := by
  unfold newT
  rw [List.take_add_one, h, List.foldl_append]
  rfl
theorem newT_asc (l : List Tn) : ∀ i, AscT (newT (l.take i))
  | 0 => by rw [List.take_zero]; exact List.Pairwise.nil
  | i + 1 => by
    cases h : l[i]? with
    | none =>
      rw [List.take_add_one, h, Option.toList_none, List.append_nil]; exact newT_asc l i
    | some e => rw [newT_step h]; exact setR_asc e (newT_asc l i)
theorem newT_len (l : List Tn) : ∀ i, (newT (l.take i)).length ≤ i
  | 0 => by rw [List.take_zero]; exact Nat.le_refl _
  | i + 1 => by
    have := newT_len l i
    cases h : l[i]? with
    | none =>
      rw [List.take_add_one, h, Option.toList_none, List.append_nil]; omega
    | some e => rw [newT_step h]; have := setR_len e (newT (l.take i)); omega
/-- over a table's own blocks -/
theorem tab_fr {X : Nat → Prop} {w u v : World} {tb : Nat} {R : Option Addr} {n c : Nat} {l : List Tn} (f : Fr (fun _ => False) w u) (h : Tab X u w.heap.size tb R n c l) (g : Fr (DT tb R) u v) : Fr (fun _ => False) w v :=
  f.trans g (fun _ _ h => h) (fun k hk h' => by have := (h.lt h').1; omega)
theorem Tab.out {X : Nat → Prop} {w w' : World} {base tb : Nat} {R : Option Addr} {n c : Nat} {l : List Tn} {D : Nat → Prop} (h : Tab X w base tb R n c l) (f : Fr D w w') (hD : ∀ k, k < w.heap.size → ¬ D k) : Tab X w' base tb R n c l := by
  obtain ⟨rc, ⟨vs, hv, ht⟩, hne, hba⟩ := h
  refine ⟨rc.fr f (hD _ rc.lt), ⟨vs, f.row hv (fun k hk => hD k (hv.blt hk).2), ?_⟩, hne, hba⟩
  refine ((ht.mono (P' := fun k => (blkOf R ≠ some k ∧ k ≠ tb ∧ X k) ∧ k < w.heap.size) (fun k hk h => ⟨h, hk⟩)).fr f (fun k hk => hD k hk.2)).mono (fun k _ h => h.1)
set_option maxRecDepth 10000 in
theorem newT_calls {X P : Nat → Prop} (A : Option Addr) (n c : Nat) (l : List Tn) (w : World) (h : RT P w A n l) (hn : n ≤ 1000000000) (hb : Bd 4294967296 l) (hX : ∀ k, w.heap.size ≤ k → X k) :
    Calls Tryz.prog 41 #[.slice A n c] w fun e w' => Fr (fun _ => False) w w' ∧ ∃ tb R n' c', e = .returned (.pointer (some ⟨tb, 0, none⟩)) ∧ Tab X w' w.heap.size tb R n' c' (newT l) := by
  refine (F41.of A n c w (Q := fun v w' => Fr (fun _ => False) w w' ∧ ∃ tb R n' c', v = .pointer (some ⟨tb, 0, none⟩) ∧ Tab X w' w.heap.size tb R n' c' (newT l)) ?_).mono (fun e w' ⟨v, he, hf, a, b, c, d, hv, h⟩ => ⟨hf, a, b, c, d, by rw [he, hv], h⟩)
  have hl := h.len
  refine nw_mk ?_
  rw [List.append_nil]
  have f1 : Fr (fun _ => False) w (w.alloc (.cells [Value.slice none 0 0].toArray 133)) := Fr.alloc _ _ _
  have r1 := RecAt.new w [Value.slice none 0 0] 133
  generalize w.alloc (.cells [Value.slice none 0 0].toArray 133) = w1 at f1 r1 ⊢
  refine jnC_mk (loop_rule (fun s u => Fr (fun _ => False) w u ∧ ∃ (i : Nat) (R : Option Addr) (n' c' : Nat), i ≤ n ∧ s = ((w.heap.size, 0), (A, n, c), (n : Int), (i : Int), ()) ∧ Tab X u w.heap.size w.heap.size R n' c' (newT (l.take i)))
    (fun s _ => (n - s.2.2.2.1).toNat) ?_ _ _ ⟨f1, 0, none, 0, 0, by omega, rfl, ⟨r1, OT.nil _ _ _, by simp [blkOf], Nat.le_refl _⟩⟩)
  rintro s u C ⟨hf, i, R, n', c', hi, rfl, hT⟩ hC _
  refine vIf_mk (fun hlt => ?_) (fun hge => ?_)
  · have hlt2 : (i : Int) < (n : Int) := of_decide_eq_true hlt
    have gi : l[i]? = some (l[i]'(by omega)) := List.getElem?_eq_getElem (by omega)
    generalize l[i]'(by omega) = x at gi
    refine t_rd (h.fr0 hf) gi (fun b o cs hA hTn hc => ⟨cs, hTn.len, hc, var_mk z35 hTn.len hTn.one (fun b6 u1 g1 r6 => ⟨cs, hTn.len, rec_all r6, (fresh_calls x cs u1 (hTn.fr0 g1) (hb.at gi)).mono ?_⟩)⟩)
    rintro r u2 ⟨g2, cs2, rfl, hT2⟩
    have g12 := g1.trans1 g2
    have hTu := hT.fr0 g12
    have hlen := newT_len l i
    have htl := hTu.len
    have hTs := hT.fr0 g1
    have hsx := (hf.trans1 g1).size
    refine ⟨_, rfl, (putT_calls w.heap.size w.heap.size R n' c' (newT (l.take i)) x cs2 u2 hTu (newT_asc l i) (hT2.mono (fun k _ hk => ⟨fun h' => by have := (hTs.lt h').2; omega, hX k (by omega)⟩)) (hf.trans1 g12).size (by omega)).mono ?_⟩
    rintro r u3 ⟨rfl, g3, R3, n3, c3, h3, _⟩
    rw [← newT_step gi] at h3
    refine ⟨rfl, jnC_mk (hC _ _ ⟨tab_fr (hf.trans1 g12) hTu g3, i + 1, R3, n3, c3, by omega, by rw [ei i (by omega)], h3⟩ ?_)⟩
    show ((n : Int) - IntKind.wrap .i64 ((i : Int) + 1)).toNat < ((n : Int) - (i : Int)).toNat
    rw [ei i (by omega)]; omega
  · have hge2 : ¬ (i : Int) < (n : Int) := of_decide_eq_false hge
    rw [List.take_of_length_le (by omega)] at hT
    exact ⟨hf, _, R, n', c', rfl, hT⟩
theorem zTp {P : Nat → Prop} (w : World) : TnP P w (zT.cs none 0 0) zT := ⟨none, 0, 0, rfl, Sl.nil _ _ _, rfl, fun h => absurd rfl h⟩
set_option maxRecDepth 10000 in
theorem getT_calls {X : Nat → Prop} (base tb : Nat) (R : Option Addr) (n c : Nat) (l : List Tn) (nm : ByteArray) (w : World) (h : Tab X w base tb R n c l) (ha : AscT l) (hn : n ≤ 1000000000) (hb : Bd 4294967296 l) :
    Calls Tryz.prog 59 #[.pointer (some ⟨tb, 0, none⟩), .string nm] w fun e w' => Fr (fun _ => False) w w' ∧ ∃ cs, e = .returned (.tuple #[ofL cs, .bool (getR nm l).2]) ∧ TnP (fun k => w.heap.size ≤ k) w' cs (getR nm l).1 := by
  refine (F59.of (some ⟨tb, 0, none⟩) nm w (Q := fun v w' => Fr (fun _ => False) w w' ∧ ∃ cs, v = .tuple #[ofL cs, .bool (getR nm l).2] ∧ TnP (fun k => w.heap.size ≤ k) w' cs (getR nm l).1) ?_).mono (fun e w' ⟨v, he, hf, cs, hv, h⟩ => ⟨hf, cs, by rw [he, hv], h⟩)
  refine nw_mk ?_
  have f1 : Fr (fun _ => False) w (w.alloc (.cells Z53.toArray 53)) := Fr.alloc _ _ _
  have r1 := RecAt.new w Z53 53
  generalize w.alloc (.cells Z53.toArray 53) = w1 at f1 r1 ⊢
  have hl := h.len
  refine vIf_f rfl ((place_calls base tb R n c l nm w1 (h.fr0 f1) ha (by omega)).mono ?_)
  rintro r w2 ⟨f2, i, rfl, hp⟩
  have f12 := f1.trans1 f2
  have hT := h.fr0 f12
  have r1 := r1.fr f2 (fun h => h)
  refine ⟨_, _, rfl, ?_⟩
  rcases pl_get ha hp with ⟨e, he, hat, hg⟩ | ⟨hat, hg⟩
  · rw [hat, hg]
    refine vIf_f rfl (dr_mk ⟨R, n, c, hT.cell, t_rd hT.ot.rt he (fun b o cs hA hTn hc => ⟨cs, hTn.len, hc, (fresh_calls e cs w2 hTn (hb.at he)).mono ?_⟩)⟩)
    rintro r w3 ⟨f3, cs3, rfl, h3⟩
    refine ⟨_, rfl, gd_mk (by rw [h3.len]; rfl) (st_all (r1.fr f3 (fun h => h)) z35 h3.len h3.one (fun w4 f4 r4 => ⟨fr_own (f12.trans1 f3) f4 (Nat.le_refl _), _, rfl, ?_⟩))⟩
    have hsz := f12.size
    refine (h3.fr f4 (fun k hk h' => ?_)).mono (fun k _ hk => by omega)
    have := r1.lt
    subst h'
    omega
  · rw [hat, hg]
    exact vIf_t rfl (gd_mk rfl (st_all r1 z35 rfl (zT.one none 0 0) (fun w4 f4 r4 => ⟨fr_own f12 f4 (Nat.le_refl _), _, rfl, zTp _⟩)))
set_option maxRecDepth 10000 in
theorem rowT_calls {X : Nat → Prop} (base tb : Nat) (R : Option Addr) (n c : Nat) (l : List Tn) (w : World) (h : Tab X w base tb R n c l) (hn : n ≤ 1000000000) (hb : Bd 4294967296 l) :
    Calls Tryz.prog 47 #[.pointer (some ⟨tb, 0, none⟩)] w fun e w' => Fr (fun _ => False) w w' ∧ ∃ A' c', e = .returned (.slice A' n c') ∧ OT (fun k => w.heap.size ≤ k) w' w.heap.size A' n c' l := by
  refine (F47.of (some ⟨tb, 0, none⟩) w (Q := fun v w' => Fr (fun _ => False) w w' ∧ ∃ A' c', v = .slice A' n c' ∧ OT (fun k => w.heap.size ≤ k) w' w.heap.size A' n c' l) ?_).mono (fun e w' ⟨v, he, hf, a, b, hv, h⟩ => ⟨hf, a, b, by rw [he, hv], h⟩)
  have hl := h.len
  refine vIf_f rfl (dr_mk ⟨R, n, c, h.cell, jnC_mk (loop_rule (fun s u => Fr (fun _ => False) w u ∧ ∃ (i : Nat) (A5 : Option Addr) (c5 : Nat), i ≤ n ∧ s = ((A5, i, c5), (R, n, c), (n : Int), (i : Int), ()) ∧ OT (fun k => w.heap.size ≤ k) u w.heap.size A5 i c5 (l.take i))
    (fun s _ => (n - s.2.2.2.1).toNat) ?_ _ _ ⟨Fr.refl _ _, 0, none, 0, by omega, rfl, OT.nil _ _ _⟩)⟩)
  rintro s u C ⟨hf, i, A5, c5, hi, rfl, hO⟩ hC _
  refine vIf_mk (fun hlt => ?_) (fun hge => ?_)
  · have hlt2 : (i : Int) < (n : Int) := of_decide_eq_true hlt
    have gi : l[i]? = some (l[i]'(by omega)) := List.getElem?_eq_getElem (by omega)
    generalize l[i]'(by omega) = x at gi
    refine t_rd (h.fr0 hf).ot.rt gi (fun b o cs hA hTn hc => ⟨cs, hTn.len, hc, var_mk z35 hTn.len hTn.one (fun b6 u1 g1 r6 => ⟨cs, hTn.len, rec_all r6, (fresh_calls x cs u1 (hTn.fr0 g1) (hb.at gi)).mono ?_⟩)⟩)
    rintro r u2 ⟨g2, cs2, rfl, hT2⟩
    have g12 := g1.trans1 g2
    have hO1 := hO.fr0 g1
    have hs := (hf.trans1 g1).size
    refine ⟨_, rfl, pushT (hO.fr0 g12) (hT2.mono (fun k _ hk => ⟨fun h' => by have := (hO1.blt h').2; omega, by omega⟩)) (hf.trans1 g12).size (by show i ≤ 1073741824; omega) (fun A' c' w' hO' f' hnew => ?_)⟩
    have hsn : l.take (i + 1) = l.take i ++ [x] := by rw [List.take_add_one, gi]; rfl
    refine jnC_mk (hC _ _ ⟨(hf.trans1 g12).trans f' (fun _ _ h => h) (fun k hk h' => by have := (hO.blt h').1; omega), i + 1, A', c', by omega, by rw [ei i (by omega)], by rw [hsn]; exact hO'⟩ ?_)
    show ((n : Int) - IntKind.wrap .i64 ((i : Int) + 1)).toNat < ((n : Int) - (i : Int)).toNat
    rw [ei i (by omega)]; omega
  · have hge2 : ¬ (i : Int) < (n : Int) := of_decide_eq_false hge
    rw [List.take_of_length_le (by omega)] at hO
    have : i = n := by omega
    subst this
    exact ⟨hf, A5, c5, rfl, hO⟩
set_option maxRecDepth 10000 in
theorem keepTab_calls {X : Nat → Prop} (base tb : Nat) (R : Option Addr) (n c : Nat) (l : List Tn) (S : Option Addr) (m k : Nat) (sg : List Int) (w : World) (h : Tab X w base tb R n c l) (hn : n ≤ 1000000000) (hb : Bd 4294967296 l) (hsg : Sl w 1 S m (ivs sg)) (hm : m ≤ 8589934592) (hbase : base ≤ w.heap.size) (hX : ∀ k, w.heap.size ≤ k → X k) :
    Calls Tryz.prog 68 #[.pointer (some ⟨tb, 0, none⟩), .slice S m k] w fun e w' => e = .returned (.tuple #[]) ∧ Fr (DT tb R) w w' ∧ ∃ R' n' c', Tab X w' base tb R' n' c' (keepL sg l) ∧ ∀ k, blkOf R' = some k → w.heap.size ≤ k := by
  refine (F68.of (some ⟨tb, 0, none⟩) S m k w (Q := fun v w' => v = .tuple #[] ∧ Fr (DT tb R) w w' ∧ ∃ R' n' c', Tab X w' base tb R' n' c' (keepL sg l) ∧ ∀ k, blkOf R' = some k → w.heap.size ≤ k) ?_).mono (fun e w' ⟨v, he, hv, h⟩ => ⟨by rw [he, hv], h⟩)
  have hl := h.len
  have htb := h.rc.lt
  refine vIf_f rfl (dr_mk ⟨R, n, c, h.cell, jnC_mk (loop_rule (fun s u => Fr (fun _ => False) w u ∧ ∃ (i : Nat) (A5 : Option Addr) (c5 : Nat), i ≤ n ∧ s = (some ⟨tb, 0, none⟩, (S, m, k), (A5, (keepL sg (l.take i)).length, c5), (R, n, c), (n : Int), (i : Int), ()) ∧ OT (fun k => w.heap.size ≤ k) u w.heap.size A5 (keepL sg (l.take i)).length c5 (keepL sg (l.take i)))
    (fun s _ => (n - s.2.2.2.2.2.1).toNat) ?_ _ _ ⟨Fr.refl _ _, 0, none, 0, by omega, rfl, OT.nil _ _ _⟩)⟩)
  rintro s u C ⟨hf, i, A5, c5, hi, rfl, hO⟩ hC _
  refine vIf_mk (fun hlt => ?_) (fun hge => ?_)
  · have hlt2 : (i : Int) < (n : Int) := of_decide_eq_true hlt
    have gi : l[i]? = some (l[i]'(by omega)) := List.getElem?_eq_getElem (by omega)
    generalize l[i]'(by omega) = x at gi
    have hstep := keepL_step (sg := sg) gi
    have hkl := keepL_len sg (l.take i)
    rw [List.length_take] at hkl
    have hmeas : ((n : Int) - IntKind.wrap .i64 ((i : Int) + 1)).toNat < ((n : Int) - (i : Int)).toNat := by rw [ei i (by omega)]; omega
    refine t_rd (h.fr0 hf).ot.rt gi (fun b o cs hA hTn hc => ⟨cs, hTn.len, hc, var_mk z35 hTn.len hTn.one (fun b6 u1 g1 r6 => ⟨cs, hTn.len, rec_all r6, (keepT_calls x cs S m k sg u1 (hTn.fr0 g1).at (sl_fr hsg (hf.trans1 g1)) (hb.at gi) hm).mono ?_⟩)⟩)
    rintro r u2 ⟨g2, cs2, rfl, hT2⟩
    refine ⟨_, _, rfl, var_mk z35 hT2.len hT2.one (fun b17 u3 g3 r17 => ?_)⟩
    have g13 := (g1.trans1 g2).trans1 g3
    have hO1 := hO.fr0 g1
    have hs := (hf.trans1 g1).size
    refine vIf_mk (fun hk => ⟨cs2, hT2.len, rec_all r17, pushT (hO.fr0 g13) ((hT2.fr0 g3).mono (fun k _ hk => ⟨fun h' => by have := (hO1.blt h').2; omega, by omega⟩)) (hf.trans1 g13).size (by show (keepL sg (l.take i)).length ≤ 1073741824; omega) (fun A' c' w' hO' f' hnew => ?_)⟩) (fun hk => ?_)
    · rw [if_pos hk] at hstep
      have hlen : (keepL sg (l.take i)).length + 1 = (keepL sg (l.take (i + 1))).length := by rw [hstep]; simp
      refine jnC_mk (hC _ _ ⟨(hf.trans1 g13).trans f' (fun _ _ h => h) (fun k hk h' => by have := (hO.blt h').1; omega), i + 1, A', c', by omega, by rw [ei i (by omega), hlen], by rw [← hlen, hstep]; exact hO'⟩ hmeas)
    · rw [if_neg (by rw [hk]; decide)] at hstep
      exact jnC_mk (hC _ _ ⟨hf.trans1 g13, i + 1, A5, c5, by omega, by rw [ei i (by omega), hstep], by rw [hstep]; exact hO.fr0 g13⟩ hmeas)
  · have hge2 : ¬ (i : Int) < (n : Int) := of_decide_eq_false hge
    rw [List.take_of_length_le (by omega)] at hO ⊢
    have rc := h.rc.fr hf (fun h => h)
    refine dr_mk (rc.st_mk (o := 0) (by simp) (fun v hv => by simp at hv; subst hv; rfl) (fun rc6 k6 => ⟨rfl, ?_, A5, _, c5, ⟨rc6, ?_, fun h' => by have := (hO.blt h').1; omega, h.ba⟩, fun k hk => (hO.blt hk).1⟩))
    · exact (hf.mono (fun _ _ h => h.elim)).trans1 (k6.mono (fun k _ hk => .inl hk))
    · exact (hO.fr k6 (fun k hk h' => by omega) (fun k hk h' => by have := (hO.blt hk).1; omega)).mono hbase (fun k _ hk => ⟨by omega, hX k hk⟩)
end Go.Proofs.YthcclmlbkfadcaaGreat.Tg
/- chapter 21: DeleteFunc on a table; there, Count, List, Names -/
namespace Go.Proofs.YthcclmlbkfadcaaGreat.Tg
open Go.GV Go.RowKit Go.Lib
set_option linter.unusedVariables false
set_option linter.unusedSimpArgs false
/-! ### rows of texts -/
def svs (l : List ByteArray) : List Value := l.map Value.string
def listF (after : ByteArray) (n : Int) (l : List Tn) : List ByteArray := (namesB after l).take n.toNat
end Go.Proofs.YthcclmlbkfadcaaGreat.Tg
/- chapter 21: Apply; the document's Set, New, Get, Apply, Keep -/
namespace Go.Proofs.YthcclmlbkfadcaaGreat.Tg
open Go.GV Go.RowKit Go.Lib
set_option linter.unusedVariables false
set_option linter.unusedSimpArgs false
def applyL (x : Wd) (l : List Tn) : List Tn :=
  if x.k = 3 then setR (tagE (getR x.nm l).1 x) l else if x.k = 4 ∧ (getR x.nm l).2 = true then setR (untE (getR x.nm l).1 x) l else l
theorem applyL_asc (x : Wd) {l : List Tn} (h : AscT l) : AscT (applyL x l) := by
  unfold applyL
  split
  · exact setR_asc _ h
  · split
    · exact setR_asc _ h
    · exact h
theorem applyL_len (x : Wd) (l : List Tn) : (applyL x l).length ≤ l.length + 1 := by
  unfold applyL
  split
  · exact setR_len _ _
  · split
    · exact setR_len _ _
    · omega
theorem getR_bd {M : Nat} {l : List Tn} (h : Bd M l) (nm : ByteArray) : (getR nm l).1.l.length ≤ M := by
  unfold getR
  split
  · exact h _ (List.mem_of_find?_eq_some (by assumption))
  · exact Nat.zero_le _
theorem applyL_bd {M : Nat} {l : List Tn} (h : Bd M l) (x : Wd) : Bd (M + 1) (applyL x l) := by
  have h1 : Bd (M + 1) l := fun e he => by have := h e he; omega
  have hg := getR_bd h x.nm
  unfold applyL
  split
  · refine h1.set ?_
    show (norm ((getR x.nm l).1.l ++ [x.s])).length ≤ _
    have := norm_one_le (getR x.nm l).1.l x.s
    omega
  · split
    · refine h1.set ?_
      show (norm (getR x.nm l).1.l).length ≤ _
      have := norm_len (getR x.nm l).1.l
      omega
    · exact h1
theorem keepL_bd {M : Nat} {l : List Tn} (h : Bd M l) (sg : List Int) : Bd M (keepL sg l) := fun e he => by
  unfold keepL at he
  obtain ⟨x, hx, hx2⟩ := List.mem_filterMap.1 he
  split at hx2
  · injection hx2 with hx2
    subst hx2
    exact Nat.le_trans (keepT_len x sg) (h x hx)
  · cases hx2
theorem wd_len {x : Wd} (hx : x.d.length = 32) : x.cs.length = 39 := by simp [Wd.cs, hx]
set_option maxRecDepth 10000 in
theorem applyT_calls {X : Nat → Prop} (base tb : Nat) (R : Option Addr) (n c : Nat) (l : List Tn) (x : Wd) (w : World) (h : Tab X w base tb R n c l) (ha : AscT l) (hn : n ≤ 1000000000) (hb : Bd 4294967295 l) (hx : x.d.length = 32) (hB : base ≤ w.heap.size) (hX : ∀ k, w.heap.size ≤ k → X k) :
    Calls Tryz.prog 44 #[.pointer (some ⟨tb, 0, none⟩), ofL x.cs] w fun e w' => e = .returned (.tuple #[]) ∧ Fr (DT tb R) w w' ∧ ∃ R' n' c', Tab X w' base tb R' n' c' (applyL x l) ∧ ∀ k, blkOf R' = some k → blkOf R = some k ∨ w.heap.size ≤ k := by
  refine (F44.of (some ⟨tb, 0, none⟩) x.cs w (Q := fun v w' => v = .tuple #[] ∧ Fr (DT tb R) w w' ∧ ∃ R' n' c', Tab X w' base tb R' n' c' (applyL x l) ∧ ∀ k, blkOf R' = some k → blkOf R = some k ∨ w.heap.size ≤ k) ?_).mono (fun e w' ⟨v, he, hv, h⟩ => ⟨by rw [he, hv], h⟩)
  have hxl := wd_len hx
  have hb2 : Bd 4294967296 l := fun e he => by have := hb e he; omega
  refine nw_mk ?_
  have f1 : Fr (fun _ => False) w (w.alloc (.cells x.cs.toArray 37)) := Fr.alloc _ _ _
  have r1 : RecAt (w.alloc (.cells x.cs.toArray 37)) w.heap.size 37 ([.int .i64 x.k, .int .u64 x.sq] ++ (x.d.map bv ++ [.string x.nm, .int .i64 x.z, .int .i64 x.s, .int .i64 x.o, .int .i64 x.q])) := RecAt.new _ _ _
  generalize w.alloc (.cells x.cs.toArray 37) = w1 at f1 r1 ⊢
  refine vIf_f rfl ⟨x.nm, rec_end r1 (bvl hx) (j := 0) rfl rfl, (getT_calls base tb R n c l x.nm w1 (h.fr0 f1) ha hn hb2).mono ?_⟩
  rintro r w2 ⟨f2, cs2, rfl, h2⟩
  refine ⟨_, _, rfl, var_mk z35 h2.len h2.one (fun b8 u f3 r8 => ?_)⟩
  have f123 := (f1.trans1 f2).trans1 f3
  have r1 := r1.fr (f2.trans1 f3) (fun h => h)
  have hT := h.fr0 f123
  have h2u := h2.fr0 f3
  have hs := f123.size
  have hgb := getR_bd hb x.nm
  -- the put of what a deed gives
  have put : ∀ (y : Tn) (cs : List Value) (v : World), Fr (fun _ => False) u v → TnP (fun k => u.heap.size ≤ k) v cs y → setR y l = applyL x l → Calls Tryz.prog 81 #[.pointer (some ⟨tb, 0, none⟩), ofL cs] v fun e w' => e = .returned (.tuple #[]) ∧ (Value.tuple #[] = Value.tuple #[] ∧ Fr (DT tb R) w w' ∧ ∃ R' n' c', Tab X w' base tb R' n' c' (applyL x l) ∧ ∀ k, blkOf R' = some k → blkOf R = some k ∨ w.heap.size ≤ k) := by
    intro y cs v fv hy hset
    have g := f123.trans1 fv
    have hsz := fv.size
    refine (putT_calls base tb R n c l y cs v (hT.fr0 fv) ha (hy.mono (fun k _ hk => ⟨fun h' => by have := (hT.lt h').2; omega, hX k (by omega)⟩)) (by omega) hn).mono ?_
    rintro r w' ⟨rfl, g2, R', n', c', h3, hnew⟩
    refine ⟨rfl, rfl, (g.mono (fun _ _ h => h.elim)).trans1 g2, R', n', c', by rw [← hset]; exact h3, fun k hk => ?_⟩
    rcases hnew k hk with h' | h'
    · exact .inl h'
    · exact .inr (by omega)
  have same : applyL x l = l → Value.tuple #[] = Value.tuple #[] ∧ Fr (DT tb R) w u ∧ ∃ R' n' c', Tab X u base tb R' n' c' (applyL x l) ∧ ∀ k, blkOf R' = some k → blkOf R = some k ∨ w.heap.size ≤ k := fun he => ⟨rfl, f123.mono (fun _ _ h => h.elim), R, n, c, by rw [he]; exact hT, fun k hk => .inl hk⟩
  refine ⟨x.k, r1.cell rfl, vIf_mk (fun h3 => ?_) (fun h3 => vIf_mk (fun h4 => vIf_mk (fun h5 => ?_) (fun h5 => ?_)) (fun h4 => ?_))⟩
  · have h3 : x.k = 3 := by simpa using h3
    refine ⟨cs2, h2.len, rec_all r8, x.cs, hxl, rec_all r1, (tag_calls _ x cs2 u h2u.at hx (by omega)).mono ?_⟩
    rintro r v ⟨fv, cs3, rfl, h6⟩
    exact ⟨_, rfl, put _ cs3 v fv h6 (by unfold applyL; rw [if_pos h3])⟩
  · have h3 : ¬ x.k = 3 := by simpa using h3
    have h4 : x.k = 4 := by simpa using h4
    refine ⟨cs2, h2.len, rec_all r8, x.cs, hxl, rec_all r1, (unt_calls _ x cs2 u h2u.at hx (by omega)).mono ?_⟩
    rintro r v ⟨fv, cs3, rfl, h6⟩
    exact ⟨_, rfl, put _ cs3 v fv h6 (by unfold applyL; rw [if_neg h3, if_pos ⟨h4, h5⟩])⟩
  · have h3 : ¬ x.k = 3 := by simpa using h3
    exact same (by unfold applyL; rw [if_neg h3, if_neg (fun h => by rw [h.2] at h5; cases h5)])
  · have h3 : ¬ x.k = 3 := by simpa using h3
    have h4 : ¬ x.k = 4 := by simpa using h4
    exact same (by unfold applyL; rw [if_neg h3, if_neg (fun h => h4 h.1)])
/-! ### the document -/
def SetSt (P : Nat → Prop) (w : World) (cs : List Value) (v : World) (B5 : Option Addr) (k5 : Nat) (o : List Tn) : Prop := Fr (fun _ => False) w v ∧ RecAt v w.heap.size 53 cs ∧ OT (fun k => P k ∧ k < w.heap.size) v (w.heap.size + 1) B5 o.length k5 o
theorem SetSt.drew {P : Nat → Prop} {w : World} {cs : List Value} {v : World} {B5 : Option Addr} {k5 : Nat} {o : List Tn} (h : SetSt P w cs v B5 k5 o) : SetSt P w cs v.drew B5 k5 o :=
  ⟨h.1.trans1 (Fr.drew _ _), h.2.1, h.2.2.fr0 (Fr.drew _ _)⟩
end Go.Proofs.YthcclmlbkfadcaaGreat.Tg
/- chapter 21: the document's New, Get, Apply, Keep, List, Names, Same, Texts -/
namespace Go.Proofs.YthcclmlbkfadcaaGreat.Tg
open Go.GV Go.RowKit Go.Lib
set_option linter.unusedVariables false
set_option linter.unusedSimpArgs false
/-- the document's table: off the blocks D -/
def RD (D : Nat → Prop) (w : World) (A : Option Addr) (n : Nat) (l : List Tn) : Prop := RT (fun k => ¬ D k) w A n l ∧ (n ≠ 0 → ∀ k, blkOf A = some k → ¬ D k)
theorem RD.fr0 {D : Nat → Prop} {w w' : World} {A : Option Addr} {n : Nat} {l : List Tn} (h : RD D w A n l) (f : Fr (fun _ => False) w w') : RD D w' A n l := ⟨h.1.fr0 f, h.2⟩
theorem RT.blt {P : Nat → Prop} {w : World} {A : Option Addr} {n : Nat} {l : List Tn} (h : RT P w A n l) (h0 : n ≠ 0) {k : Nat} (hk : blkOf A = some k) : k < w.heap.size := by
  obtain ⟨vs, h1, _⟩ := h
  exact h1.blt (by decide) h0 hk
theorem RD.step {D D' : Nat → Prop} {w w' : World} {A : Option Addr} {n : Nat} {l : List Tn} (h : RD D w A n l) (f : Fr D w w') (hD : ∀ k, D' k → D k ∨ w.heap.size ≤ k) : RD D' w' A n l := by
  have h1 := (h.1.mono (P' := fun k => ¬ D k ∧ k < w.heap.size) (fun k hk h => ⟨h, hk⟩)).fr f (fun k hk => hk.1) h.2
  refine ⟨h1.mono (fun k _ hk h' => ?_), fun h0 k hk h' => ?_⟩
  · rcases hD k h' with h'' | h''
    · exact hk.1 h''
    · have := hk.2; omega
  · have hb := h.1.blt h0 hk
    rcases hD k h' with h'' | h''
    · exact h.2 h0 k hk h''
    · omega
theorem RD.of {D : Nat → Prop} {w : World} {B : Nat} {A : Option Addr} {n c : Nat} {l : List Tn} (h : OT (fun k => ¬ D k) w B A n c l) (hD : ∀ k, D k → k < B) : RD D w A n l :=
  ⟨h.rt, fun _ k hk h' => by have := (h.blt hk).1; have := hD k h'; omega⟩
/-! ### the same -/
theorem sameL_calls {P P' : Nat → Prop} (A : Option Addr) (n c : Nat) (A' : Option Addr) (n' c' : Nat) (l : List Tn) (w : World) (h : RT P w A n l) (h' : RT P' w A' n' l) (hn : n ≤ 1000000000) (hb : Bd 4294967296 l) :
    Calls Tryz.prog 39 #[.slice A n c, .slice A' n' c'] w fun r w' => r = .returned (.bool true) ∧ Fr (fun _ => False) w w' := by
  refine (F39.of A n c A' n' c' w (Q := fun v w' => v = .bool true ∧ Fr (fun _ => False) w w') ?_).mono (fun e w' ⟨v, he, hv, h⟩ => ⟨by rw [he, hv], h⟩)
  have hl := h.len
  have hl' := h'.len
  have : n = n' := by omega
  subst this
  refine vIf_f (by simp) (jnC_mk (loop_rule (fun s u => Fr (fun _ => False) w u ∧ ∃ i : Nat, i ≤ n ∧ s = ((A, n, c), (A', n, c'), (i : Int), ())) (fun s _ => (n - s.2.2.1).toNat) ?_ _ _ ⟨Fr.refl _ _, 0, by omega, rfl⟩))
  rintro s u C ⟨hf, i, hi, rfl⟩ hC _
  refine vIf_mk (fun hlt => ?_) (fun hge => ?_)
  · have hlt2 : (i : Int) < (n : Int) := of_decide_eq_true hlt
    have gi : l[i]? = some (l[i]'(by omega)) := List.getElem?_eq_getElem (by omega)
    generalize l[i]'(by omega) = x at gi
    have fd := hf.trans1 (Fr.drew _ u)
    refine t_rd (h.fr0 fd) gi (fun b o cs hA hT hc => ⟨cs, hT.len, hc, t_rd (h'.fr0 fd) gi (fun b' o' cs' hA' hT' hc' => ⟨cs', hT'.len, hc', (sameT_calls x cs cs' u.drew hT.at hT'.at (by have := hb.at gi; omega)).mono ?_⟩)⟩)
    rintro r u2 ⟨rfl, f2⟩
    refine ⟨_, rfl, vIf_f rfl (jnC_mk (hC _ _ ⟨fd.trans1 f2, i + 1, by omega, by rw [ei i (by omega)]⟩ ?_))⟩
    show ((n : Int) - IntKind.wrap .i64 ((i : Int) + 1)).toNat < ((n : Int) - (i : Int)).toNat
    rw [ei i (by omega)]; omega
  · exact ⟨rfl, hf⟩
end Go.Proofs.YthcclmlbkfadcaaGreat.Tg
/- stable sorting, plainly: tagged elements, chunks, rotations. No program in sight. -/
namespace Go.Stb
set_option linter.unusedVariables false
variable {α β : Type}
/-! ### lists -/
theorem get_mid {P R : List α} {x : α} {i : Nat} (hi : i = P.length) : (P ++ x :: R)[i]? = some x := by subst hi; simp
theorem set_mid {P R : List α} {x y : α} {i : Nat} (hi : i = P.length) : (P ++ x :: R).set i y = P ++ y :: R := by subst hi; simp
/-! ### the order -/
structure OrdC (cmp : β → β → Int) : Prop where
  anti : ∀ a b, cmp a b = - cmp b a
  trans : ∀ a b c, cmp a b ≤ 0 → cmp b c ≤ 0 → cmp a c ≤ 0
section
variable {cmp : β → β → Int}
/-- ahead of: by the order, else by the tag -/
def lt (cmp : β → β → Int) (x y : β × Nat) : Prop := cmp x.1 y.1 < 0 ∨ (cmp x.1 y.1 = 0 ∧ x.2 < y.2)
def Sorted (cmp : β → β → Int) (l : List (β × Nat)) : Prop := l.Pairwise (lt cmp)
/-- what stood ahead -/
def bef (x y : β × Nat) : Prop := x.2 < y.2
theorem OrdC.lt_le (h : OrdC cmp) {a b c : β} (h1 : cmp a b < 0) (h2 : cmp b c ≤ 0) : cmp a c < 0 := by
  have h3 := h.trans a b c (by omega) h2
  by_cases h0 : cmp a c = 0
  · have h4 := h.anti c a
    have h5 := h.trans b c a h2 (by omega)
    have h6 := h.anti a b
    omega
  · omega
theorem OrdC.le_lt (h : OrdC cmp) {a b c : β} (h1 : cmp a b ≤ 0) (h2 : cmp b c < 0) : cmp a c < 0 := by
  have h3 := h.trans a b c h1 (by omega)
  by_cases h0 : cmp a c = 0
  · have h4 := h.anti c a
    have h5 := h.trans c a b (by omega) h1
    have h6 := h.anti b c
    omega
  · omega
theorem lt_trans (h : OrdC cmp) {x y z : β × Nat} (h1 : lt cmp x y) (h2 : lt cmp y z) : lt cmp x z := by
  rcases h1 with h1 | ⟨h1, h1'⟩ <;> rcases h2 with h2 | ⟨h2, h2'⟩
  · exact .inl (h.lt_le h1 (by omega))
  · exact .inl (h.lt_le h1 (by omega))
  · exact .inl (h.le_lt (by omega) h2)
  · have h3 := h.trans x.1 y.1 z.1 (by omega) (by omega)
    have h4 := h.trans z.1 y.1 x.1 (by have := h.anti z.1 y.1; omega) (by have := h.anti y.1 x.1; omega)
    have h5 := h.anti x.1 z.1
    exact .inr ⟨by omega, by omega⟩
theorem lt_asymm (h : OrdC cmp) {x y : β × Nat} (h1 : lt cmp x y) (h2 : lt cmp y x) : False := by
  have h3 := h.anti x.1 y.1
  rcases h1 with h1 | ⟨h1, h1'⟩ <;> rcases h2 with h2 | ⟨h2, h2'⟩ <;> omega
/-- what the comparison of a later with an earlier one tells -/
theorem bef_yes (h : OrdC cmp) {x y : β × Nat} (hb : bef x y) (hc : cmp y.1 x.1 < 0) : lt cmp y x := .inl hc
theorem bef_no (h : OrdC cmp) {x y : β × Nat} (hb : bef x y) (hc : ¬ cmp y.1 x.1 < 0) : lt cmp x y := by
  have h3 := h.anti x.1 y.1
  have hb : x.2 < y.2 := hb
  by_cases h0 : cmp x.1 y.1 = 0
  · exact .inr ⟨h0, hb⟩
  · exact .inl (by omega)
theorem sorted_get (h : OrdC cmp) {l : List (β × Nat)} (hs : Sorted cmp l) {i j : Nat} {x y : β × Nat} (hi : l[i]? = some x) (hj : l[j]? = some y) (hij : i < j) : lt cmp x y := by
  obtain ⟨h1, rfl⟩ := List.getElem?_eq_some_iff.1 hi
  obtain ⟨h2, rfl⟩ := List.getElem?_eq_some_iff.1 hj
  exact (List.pairwise_iff_getElem.1 hs) i j h1 h2 hij
theorem sorted_app {A B : List (β × Nat)} (hA : Sorted cmp A) (hB : Sorted cmp B) (hAB : ∀ x ∈ A, ∀ y ∈ B, lt cmp x y) : Sorted cmp (A ++ B) := List.pairwise_append.2 ⟨hA, hB, hAB⟩
theorem sorted_of_app {A B : List (β × Nat)} (h : Sorted cmp (A ++ B)) : Sorted cmp A ∧ Sorted cmp B ∧ ∀ x ∈ A, ∀ y ∈ B, lt cmp x y := List.pairwise_append.1 h
/-- sorted rows of the same members are one -/
theorem sorted_unique (h : OrdC cmp) : ∀ {a b : List (β × Nat)}, Sorted cmp a → Sorted cmp b → a.Perm b → a = b
  | [], b, _, _, hp => by rw [List.nil_perm.1 hp]
  | x :: a, [], _, _, hp => by have := hp.length_eq; simp at this
  | x :: a, y :: b, ha, hb, hp => by
    have hca := List.pairwise_cons.1 ha
    have hcb := List.pairwise_cons.1 hb
    have hxy : x = y := by
      rcases List.mem_cons.1 (hp.mem_iff.1 (List.mem_cons_self (a := x) (l := a))) with h1 | h1
      · exact h1
      · rcases List.mem_cons.1 (hp.mem_iff.2 (List.mem_cons_self (a := y) (l := b))) with h2 | h2
        · exact h2.symm
        · exact (lt_asymm h (hcb.1 x h1) (hca.1 y h2)).elim
    subst hxy
    rw [sorted_unique h hca.2 hcb.2 ((List.perm_cons x).1 hp)]
/-! ### the row in its order -/
/-- an element behind all that aren't above it -/
def ins (cmp : β → β → Int) (x : β) : List β → List β
  | [] => [x]
  | y :: r => if cmp x y < 0 then x :: y :: r else y :: ins cmp x r
def stab (cmp : β → β → Int) (l : List β) : List β := l.foldl (fun a x => ins cmp x a) []
theorem stab_snoc (l : List β) (x : β) : stab cmp (l ++ [x]) = ins cmp x (stab cmp l) := by unfold stab; rw [List.foldl_append]; rfl
def insT (cmp : β → β → Int) (x : β × Nat) : List (β × Nat) → List (β × Nat)
  | [] => [x]
  | y :: r => if cmp x.1 y.1 < 0 then x :: y :: r else y :: insT cmp x r
theorem insT_fst (x : β × Nat) : ∀ l : List (β × Nat), (insT cmp x l).map (·.1) = ins cmp x.1 (l.map (·.1))
  | [] => rfl
  | y :: r => by
    unfold insT ins
    rw [List.map_cons]
    show _ = (if cmp x.1 y.1 < 0 then _ else _)
    split
    · rfl
    · rw [List.map_cons, insT_fst x r]
theorem insT_perm (x : β × Nat) : ∀ l : List (β × Nat), (insT cmp x l).Perm (x :: l)
  | [] => List.Perm.refl _
  | y :: r => by
    unfold insT
    split
    · exact List.Perm.refl _
    · exact ((insT_perm x r).cons y).trans (List.Perm.swap x y r)
theorem insT_sorted (h : OrdC cmp) (x : β × Nat) : ∀ l : List (β × Nat), Sorted cmp l → (∀ y ∈ l, bef y x) → Sorted cmp (insT cmp x l)
  | [], _, _ => List.pairwise_singleton _ _
  | y :: r, hs, hb => by
    have hc := List.pairwise_cons.1 hs
    unfold insT
    by_cases h1 : cmp x.1 y.1 < 0
    · rw [if_pos h1]
      refine List.pairwise_cons.2 ⟨fun z hz => ?_, hs⟩
      rcases List.mem_cons.1 hz with rfl | hz
      · exact .inl h1
      · exact lt_trans h (.inl h1) (hc.1 z hz)
    · rw [if_neg h1]
      refine List.pairwise_cons.2 ⟨fun z hz => ?_, insT_sorted h x r hc.2 (fun z hz => hb z (List.mem_cons_of_mem _ hz))⟩
      rcases List.mem_cons.1 ((insT_perm x r).mem_iff.1 hz) with rfl | hz
      · exact bef_no h (hb y (List.mem_cons_self ..)) h1
      · exact hc.1 z hz
/-- the row with its tags -/
def tagL (l : List β) : List (β × Nat) := l.zipIdx
theorem tagL_fst (l : List β) : (tagL l).map (·.1) = l := by simp [tagL]
theorem tagL_snoc (l : List β) (x : β) : tagL (l ++ [x]) = tagL l ++ [(x, l.length)] := by simp [tagL, List.zipIdx_append]
theorem tagL_lt {l : List β} {x : β × Nat} (h : x ∈ tagL l) : x.2 < l.length := by
  have := List.snd_lt_of_mem_zipIdx h
  simpa using this
theorem snoc_ind {P : List β → Prop} (h0 : P []) (h1 : ∀ l x, P l → P (l ++ [x])) (l : List β) : P l := by
  have : ∀ n (l : List β), l.length = n → P l := by
    intro n
    induction n with
    | zero => intro l hl; rw [List.length_eq_zero_iff.1 hl]; exact h0
    | succ n ih =>
      intro l hl
      have hne : l ≠ [] := by intro h; rw [h] at hl; cases hl
      rw [← List.dropLast_concat_getLast hne]
      exact h1 _ _ (ih _ (by simp [hl]))
  exact this _ l rfl
theorem stab_spec (h : OrdC cmp) (l : List β) : ∃ m, Sorted cmp m ∧ m.Perm (tagL l) ∧ m.map (·.1) = stab cmp l := by
  refine snoc_ind (P := fun l => ∃ m, Sorted cmp m ∧ m.Perm (tagL l) ∧ m.map (·.1) = stab cmp l) ⟨[], List.Pairwise.nil, List.Perm.refl _, rfl⟩ (fun l x ⟨m, h1, h2, h3⟩ => ?_) l
  refine ⟨insT cmp (x, l.length) m, insT_sorted h _ m h1 (fun y hy => tagL_lt (h2.mem_iff.1 hy)), ?_, ?_⟩
  · rw [tagL_snoc]
    exact (insT_perm _ m).trans ((h2.cons _).trans (List.perm_append_singleton _ _).symm)
  · rw [insT_fst, h3, stab_snoc]
/-- a sorted row of what a row has, tagged, is that row in order -/
theorem stab_of (h : OrdC cmp) {l : List β} {m : List (β × Nat)} (hs : Sorted cmp m) (hp : m.Perm (tagL l)) : m.map (·.1) = stab cmp l := by
  obtain ⟨m', h1, h2, h3⟩ := stab_spec h l
  rw [sorted_unique h hs h1 (hp.trans h2.symm), h3]
theorem ins_perm (x : β) : ∀ l : List β, (ins cmp x l).Perm (x :: l)
  | [] => List.Perm.refl _
  | y :: r => by
    unfold ins
    split
    · exact List.Perm.refl _
    · exact ((ins_perm x r).cons y).trans (List.Perm.swap x y r)
theorem stab_perm (l : List β) : (stab cmp l).Perm l :=
  snoc_ind (P := fun l => (stab cmp l).Perm l) (List.Perm.refl _) (fun l x ih => by rw [stab_snoc]; exact (ins_perm x _).trans ((ih.cons x).trans (List.perm_append_singleton _ _).symm)) l
theorem stab_len (l : List β) : (stab cmp l).length = l.length := (stab_perm l).length_eq
/-! ### chunks -/
/-- every one of a chunk stood ahead of every one of a later chunk -/
def befC (c d : List (β × Nat)) : Prop := ∀ x ∈ c, ∀ y ∈ d, bef x y
theorem befC_merge {Ds R : List (List (β × Nat))} {c d m : List (β × Nat)} (h : (Ds ++ c :: d :: R).Pairwise befC) (hm : m.Perm (c ++ d)) : (Ds ++ m :: R).Pairwise befC := by
  have h := List.pairwise_append.1 h
  have hc := List.pairwise_cons.1 h.2.1
  have hd := List.pairwise_cons.1 hc.2
  refine List.pairwise_append.2 ⟨h.1, List.pairwise_cons.2 ⟨fun r hr x hx y hy => ?_, hd.2⟩, fun e he r hr x hx y hy => ?_⟩
  · rcases List.mem_append.1 (hm.mem_iff.1 hx) with hx | hx
    · exact hc.1 r (List.mem_cons_of_mem _ hr) x hx y hy
    · exact hd.1 r hr x hx y hy
  · rcases List.mem_cons.1 hr with rfl | hr
    · rcases List.mem_append.1 (hm.mem_iff.1 hy) with hy | hy
      · exact h.2.2 e he c (List.mem_cons_self ..) x hx y hy
      · exact h.2.2 e he d (List.mem_cons_of_mem _ (List.mem_cons_self ..)) x hx y hy
    · exact h.2.2 e he r (List.mem_cons_of_mem _ (List.mem_cons_of_mem _ hr)) x hx y hy
theorem befC_two {Ds R : List (List (β × Nat))} {c d : List (β × Nat)} (h : (Ds ++ c :: d :: R).Pairwise befC) : befC c d := by
  have h := List.pairwise_append.1 h
  exact (List.pairwise_cons.1 h.2.1).1 d (List.mem_cons_self ..)
theorem flat_len {k : Nat} : ∀ {Fs : List (List (β × Nat))}, (∀ f ∈ Fs, f.length = k) → Fs.flatten.length = Fs.length * k
  | [], _ => by simp
  | f :: r, h => by
    rw [List.flatten_cons, List.length_append, h f (List.mem_cons_self ..), flat_len (fun g hg => h g (List.mem_cons_of_mem _ hg)), List.length_cons, Nat.add_mul]; omega
end
end Go.Stb
/- stable sorting, walked: rows of api.Word -/
namespace Go.Proofs.YthcclmlbkfadcaaGreat.StbWd
open Go.GV Go.RowKit Go.Stb
set_option linter.unusedVariables false
set_option linter.unusedSimpArgs false
/-- what is asked of the elements and their comparison -/
structure Srt (β : Type) (enc : β → List Value) (cmp : β → β → Int) : Prop where
  len : ∀ x, (enc x).length = 39
  one : ∀ x, ∀ v ∈ enc x, v.oneCell' = true
  ord : OrdC cmp
  call : ∀ x y w, Calls Tryz.prog 52 #[ofL (enc x), ofL (enc y)] w fun e w' => e = .returned (.int .i64 (cmp x y)) ∧ Fr (fun _ => False) w w'
def cf : Value := .func (.func 52) #[] #[]
section
variable {β : Type} {enc : β → List Value} {cmp : β → β → Int}
abbrev encT (enc : β → List Value) : β × Nat → List Value := fun x => enc x.1
theorem Srt.lenT (h : Srt β enc cmp) {l : List (β × Nat)} : ∀ x ∈ l, (encT enc x).length = 39 := fun x _ => h.len x.1
/-- the row holds these -/
def RS (enc : β → List Value) (w : World) (B : Nat) (A : Option Addr) (n c : Nat) (l : List (β × Nat)) : Prop := Row w B 37 39 A n c (flt (encT enc) l) ∧ l.length = n
theorem RS.fr0 {w w' : World} {B : Nat} {A : Option Addr} {n c : Nat} {l : List (β × Nat)} (h : RS enc w B A n c l) (f : Fr (fun _ => False) w w') : RS enc w' B A n c l := ⟨f.row h.1 (fun _ _ h => h), h.2⟩
theorem RS.drew {w : World} {B : Nat} {A : Option Addr} {n c : Nat} {l : List (β × Nat)} (h : RS enc w B A n c l) : RS enc w.drew B A n c l := h.fr0 (Fr.drew _ _)
theorem rs_rd (h0 : Srt β enc cmp) {w : World} {B : Nat} {A : Option Addr} {n c : Nat} {l : List (β × Nat)} (h : RS enc w B A n c l) {i : Nat} {x : β × Nat} (hi : l[i]? = some x) {ii : Int} (hii : ii = (i : Int)) {K : List Value → Prop} (hK : K (enc x.1)) :
    dr A fun b o => gd (decide (0 ≤ ii)) (gd (decide (ii < ((n : Nat) : Int))) (ldA 39 w b (o + ii.toNat * 39) K)) :=
  el_rd h.1.sl h0.lenT hi hii h.2 (fun b o hA hc => ⟨enc x.1, h0.len x.1, hc, hK⟩)
/-- two elements change their places -/
theorem rs_swap (h0 : Srt β enc cmp) {w : World} {B : Nat} {A : Option Addr} {n c : Nat} {l : List (β × Nat)} (h : RS enc w B A n c l) {i j : Nat} {x y : β × Nat} (hi : i < n) (hj : j < n) {ii jj : Int} (hii : ii = (i : Int)) (hjj : jj = (j : Int)) {K : World → Prop}
    (hK : ∀ w', RS enc w' B A n c ((l.set i y).set j x) → Fr (fun k => blkOf A = some k) w w' → K w') :
    dr A fun b o => gd (decide (0 ≤ ii)) (gd (decide (ii < ((n : Nat) : Int))) (gd ((enc y.1).length == 39) (st w b (o + ii.toNat * 39) (enc y.1) fun w1 =>
      dr A fun b o => gd (decide (0 ≤ jj)) (gd (decide (jj < ((n : Nat) : Int))) (gd ((enc x.1).length == 39) (st w1 b (o + jj.toNat * 39) (enc x.1) K)))))) :=
  el_put (enc := encT enc) h.1 h0.lenT h.2 hi hii (h0.len y.1) (h0.one y.1) (fun w1 hr1 f1 =>
    el_put (enc := encT enc) hr1 h0.lenT (by rw [List.length_set]; exact h.2) hj hjj (h0.len x.1) (h0.one x.1) (fun w2 hr2 f2 => hK w2 ⟨hr2, by rw [List.length_set, List.length_set]; exact h.2⟩ (f1.trans1 f2)))
theorem em (i j : Nat) (h1 : i < 1099511627776) (h2 : j < 1099511627776) : IntKind.wrap .i64 (Int.fdiv (IntKind.wrap .u64 (IntKind.wrap .i64 ((i : Int) + (j : Int)))) (2 ^ 1)) = (((i + j) / 2 : Nat) : Int) := by
  rw [i64_id (n := (i : Int) + (j : Int)) (by omega) (by omega), IntKind.wrap_u64, Int.fdiv_eq_ediv_of_nonneg _ (by decide), i64_id (by omega) (by omega)]; omega
theorem ep (i : Nat) (h : i < 1099511627776) : IntKind.wrap .i64 ((i : Int) + 1) = ((i + 1 : Nat) : Int) := by rw [i64_id (by omega) (by omega)]; rfl
theorem ea (i j : Nat) (h1 : i < 1099511627776) (h2 : j < 1099511627776) : IntKind.wrap .i64 ((i : Int) + (j : Int)) = ((i + j : Nat) : Int) := by rw [i64_id (by omega) (by omega)]; rfl
theorem es (i j : Nat) (h1 : i < 1099511627776) (h2 : j ≤ i) : IntKind.wrap .i64 ((i : Int) - (j : Int)) = ((i - j : Nat) : Int) := by rw [i64_id (by omega) (by omega)]; omega
theorem e1 (i : Nat) (h1 : i < 1099511627776) (h2 : 1 ≤ i) : IntKind.wrap .i64 ((i : Int) - 1) = ((i - 1 : Nat) : Int) := by rw [i64_id (by omega) (by omega)]; omega
/-! ### two ranges change their places -/
theorem swapRange_calls (h0 : Srt β enc cmp) (B : Nat) (A : Option Addr) (n c : Nat) (P X Y Z S : List (β × Nat)) (w : World) (h : RS enc w B A n c (P ++ X ++ Y ++ Z ++ S)) (hXZ : X.length = Z.length) (hn : n < 549755813888) {a b m : Int} (ha : a = ((P.length : Nat) : Int)) (hb : b = ((P.length + X.length + Y.length : Nat) : Int)) (hm : m = ((X.length : Nat) : Int)) :
    Calls Tryz.prog 156 #[.slice A n c, .int .i64 a, .int .i64 b, .int .i64 m, cf] w fun e w' => e = .returned (.tuple #[]) ∧ Fr (fun k => blkOf A = some k) w w' ∧ RS enc w' B A n c (P ++ Z ++ Y ++ X ++ S) := by
  subst ha; subst hb; subst hm
  refine (F156s.of A n c _ _ _ w (Q := fun v w' => v = .tuple #[] ∧ Fr (fun k => blkOf A = some k) w w' ∧ RS enc w' B A n c (P ++ Z ++ Y ++ X ++ S)) ?_).mono (fun e w' ⟨v, he, hv, h⟩ => ⟨by rw [he, hv], h⟩)
  have hlen := h.2
  simp only [List.length_append] at hlen
  refine jnC_mk (loop_rule (fun s u => Fr (fun k => blkOf A = some k) w u ∧ ∃ (k : Nat) (X1 X2 Z1 Z2 : List (β × Nat)), X = X1 ++ X2 ∧ Z = Z1 ++ Z2 ∧ X1.length = k ∧ Z1.length = k ∧ s = ((A, n, c), ((P.length : Nat) : Int), ((P.length + X.length + Y.length : Nat) : Int), ((X.length : Nat) : Int), (k : Int), ()) ∧ RS enc u B A n c (P ++ Z1 ++ X2 ++ Y ++ X1 ++ Z2 ++ S))
    (fun s _ => (X.length - s.2.2.2.2.1).toNat) ?_ _ _ ⟨Fr.refl _ _, 0, [], X, [], Z, rfl, rfl, rfl, rfl, rfl, by simpa using h⟩)
  rintro s u C ⟨hf, k, X1, X2, Z1, Z2, hX, hZ, hx1, hz1, rfl, hr⟩ hC _
  have hXl : X.length = X1.length + X2.length := by rw [hX, List.length_append]
  have hZl : Z.length = Z1.length + Z2.length := by rw [hZ, List.length_append]
  refine vIf_mk (fun hlt => ?_) (fun hge => ?_)
  · have hlt2 : (k : Int) < (X.length : Int) := of_decide_eq_true hlt
    obtain ⟨x, X2', rfl⟩ : ∃ x X2', X2 = x :: X2' := by
      cases X2 with
      | nil => simp at hXl; omega
      | cons x r => exact ⟨x, r, rfl⟩
    obtain ⟨z, Z2', rfl⟩ : ∃ z Z2', Z2 = z :: Z2' := by
      cases Z2 with
      | nil => simp at hZl; omega
      | cons x r => exact ⟨x, r, rfl⟩
    simp only [List.length_cons] at hXl hZl
    have ea1 : IntKind.wrap .i64 (((P.length : Nat) : Int) + (k : Int)) = ((P.length + k : Nat) : Int) := ea _ _ (by omega) (by omega)
    have eb1 : IntKind.wrap .i64 (((P.length + X.length + Y.length : Nat) : Int) + (k : Int)) = ((P.length + X.length + Y.length + k : Nat) : Int) := ea _ _ (by omega) (by omega)
    have hr := hr.drew
    have fd : Fr (fun k => blkOf A = some k) w u.drew := hf.trans1 (Fr.drew _ _)
    have hl1 : P ++ Z1 ++ (x :: X2') ++ Y ++ X1 ++ (z :: Z2') ++ S = (P ++ Z1) ++ x :: (X2' ++ Y ++ X1 ++ (z :: Z2') ++ S) := by simp
    have hl2 : P ++ Z1 ++ (x :: X2') ++ Y ++ X1 ++ (z :: Z2') ++ S = (P ++ Z1 ++ (x :: X2') ++ Y ++ X1) ++ z :: (Z2' ++ S) := by simp
    dsimp only
    refine rs_rd h0 hr (i := P.length + X.length + Y.length + k) (x := z) (by rw [hl2]; exact get_mid (by simp; omega)) eb1 ?_
    refine rs_rd h0 hr (i := P.length + k) (x := x) (by rw [hl1]; exact get_mid (by simp; omega)) ea1 ?_
    refine rs_swap h0 hr (i := P.length + k) (j := P.length + X.length + Y.length + k) (x := x) (y := z) (by omega) (by omega) ea1 eb1 (fun w' hr' f' => jnC_mk (hC _ _ ⟨fd.trans1 f', k + 1, X1 ++ [x], X2', Z1 ++ [z], Z2', by rw [hX]; simp, by rw [hZ]; simp, by simp [hx1], by simp [hz1], by rw [ep k (by omega)], ?_⟩ ?_))
    · rw [hl1, set_mid (by simp; omega)] at hr'
      have hl3 : (P ++ Z1) ++ z :: (X2' ++ Y ++ X1 ++ (z :: Z2') ++ S) = (P ++ Z1 ++ z :: (X2' ++ Y ++ X1)) ++ z :: (Z2' ++ S) := by simp
      rw [hl3, set_mid (by simp; omega)] at hr'
      have hl4 : (P ++ Z1 ++ z :: (X2' ++ Y ++ X1)) ++ x :: (Z2' ++ S) = P ++ (Z1 ++ [z]) ++ X2' ++ Y ++ (X1 ++ [x]) ++ Z2' ++ S := by simp
      rw [hl4] at hr'
      exact hr'
    · show ((X.length : Int) - IntKind.wrap .i64 ((k : Int) + 1)).toNat < ((X.length : Int) - (k : Int)).toNat
      rw [ep k (by omega)]; omega
  · have hge2 : ¬ (k : Int) < (X.length : Int) := of_decide_eq_false hge
    have hx2 : X2 = [] := List.length_eq_zero_iff.1 (by omega)
    have hz2 : Z2 = [] := List.length_eq_zero_iff.1 (by omega)
    subst hx2; subst hz2
    simp only [List.append_nil] at hX hZ hr
    subst hX; subst hZ
    exact ⟨rfl, hf, hr⟩
/-! ### rotation -/
theorem rotate_calls (h0 : Srt β enc cmp) (B : Nat) (A : Option Addr) (n c : Nat) (P X Y S : List (β × Nat)) (w : World) (h : RS enc w B A n c (P ++ X ++ Y ++ S)) (hX : X ≠ []) (hY : Y ≠ []) (hn : n < 549755813888) {a m b : Int} (ha : a = ((P.length : Nat) : Int)) (hm : m = ((P.length + X.length : Nat) : Int)) (hb : b = ((P.length + X.length + Y.length : Nat) : Int)) :
    Calls Tryz.prog 145 #[.slice A n c, .int .i64 a, .int .i64 m, .int .i64 b, cf] w fun e w' => e = .returned (.tuple #[]) ∧ Fr (fun k => blkOf A = some k) w w' ∧ RS enc w' B A n c (P ++ Y ++ X ++ S) := by
  subst ha; subst hm; subst hb
  refine (F145s.of A n c _ _ _ w (Q := fun v w' => v = .tuple #[] ∧ Fr (fun k => blkOf A = some k) w w' ∧ RS enc w' B A n c (P ++ Y ++ X ++ S)) ?_).mono (fun e w' ⟨v, he, hv, h⟩ => ⟨by rw [he, hv], h⟩)
  have hlen := h.2
  simp only [List.length_append] at hlen
  have hX0 : X.length ≠ 0 := fun h => hX (List.length_eq_zero_iff.1 h)
  have hY0 : Y.length ≠ 0 := fun h => hY (List.length_eq_zero_iff.1 h)
  have eX : IntKind.wrap .i64 (((P.length + X.length : Nat) : Int) - ((P.length : Nat) : Int)) = ((X.length : Nat) : Int) := by rw [es _ _ (by omega) (by omega), Nat.add_sub_cancel_left]
  have eY : IntKind.wrap .i64 (((P.length + X.length + Y.length : Nat) : Int) - ((P.length + X.length : Nat) : Int)) = ((Y.length : Nat) : Int) := by rw [es _ _ (by omega) (by omega), Nat.add_sub_cancel_left]
  refine jnC_mk (loop_rule (fun s u => Fr (fun k => blkOf A = some k) w u ∧ ∃ (P' X' Y' S' : List (β × Nat)), X' ≠ [] ∧ Y' ≠ [] ∧ P'.length + X'.length = P.length + X.length ∧ P' ++ Y' ++ X' ++ S' = P ++ Y ++ X ++ S ∧ s = ((A, n, c), ((P.length + X.length : Nat) : Int), (), ((X'.length : Nat) : Int), ((Y'.length : Nat) : Int), ()) ∧ RS enc u B A n c (P' ++ X' ++ Y' ++ S'))
    (fun s _ => (s.2.2.2.1 + s.2.2.2.2.1).toNat) ?_ _ _ ⟨Fr.refl _ _, P, X, Y, S, hX, hY, rfl, rfl, by rw [eX, eY], h⟩)
  rintro s u C ⟨hf, P', X', Y', S', hX', hY', hpx, htot, rfl, hr⟩ hC _
  have hX1 : X'.length ≠ 0 := fun h => hX' (List.length_eq_zero_iff.1 h)
  have hY1 : Y'.length ≠ 0 := fun h => hY' (List.length_eq_zero_iff.1 h)
  have hl := hr.2
  simp only [List.length_append] at hl
  have em1 : IntKind.wrap .i64 (((P.length + X.length : Nat) : Int) - ((X'.length : Nat) : Int)) = ((P'.length : Nat) : Int) := by rw [es _ _ (by omega) (by omega)]; congr 1; omega
  refine vIf_mk (fun hne => vIf_mk (fun hgt => ?_) (fun hle => ?_)) (fun heq => ?_)
  · have hgt2 : (X'.length : Int) > (Y'.length : Int) := of_decide_eq_true hgt
    -- X' = U V, U as long as Y'
    obtain ⟨U, V, hUV, hU⟩ : ∃ U V, X' = U ++ V ∧ U.length = Y'.length := ⟨X'.take Y'.length, X'.drop Y'.length, (List.take_append_drop _ _).symm, by rw [List.length_take]; omega⟩
    have hVl : X'.length = U.length + V.length := by rw [hUV, List.length_append]
    have hr2 : RS enc u B A n c (P' ++ U ++ V ++ Y' ++ S') := by
      rw [hUV] at hr
      simpa using hr
    refine (swapRange_calls h0 B A n c P' U V Y' S' u hr2 hU hn em1 (by rw [Nat.add_assoc P'.length, ← hVl]; exact congrArg _ hpx.symm) (by rw [hU])).mono ?_
    rintro r u2 ⟨rfl, f2, hr3⟩
    refine ⟨rfl, jnC_mk (hC _ _ ⟨hf.trans1 f2, P' ++ Y', V, U, S', ?_, ?_, ?_, ?_, ?_, ?_⟩ ?_)⟩
    · intro h; rw [h] at hVl; simp at hVl; omega
    · intro h; rw [h] at hU; simp at hU; omega
    · simp only [List.length_append]; omega
    · rw [← htot, hUV]; simp
    · show (_, _, _, IntKind.wrap .i64 ((X'.length : Int) - (Y'.length : Int)), _, ()) = _
      rw [es _ _ (by omega) (by omega), hU, show X'.length - Y'.length = V.length by omega]
    · exact hr3
    · show (IntKind.wrap .i64 ((X'.length : Int) - (Y'.length : Int)) + (Y'.length : Int)).toNat < ((X'.length : Int) + (Y'.length : Int)).toNat
      rw [es _ _ (by omega) (by omega)]; omega
  · have hle2 : ¬ (X'.length : Int) > (Y'.length : Int) := of_decide_eq_false hle
    have hne2 : X'.length ≠ Y'.length := by
      have hne : ((X'.length : Int) != (Y'.length : Int)) = true := hne
      intro h; rw [h] at hne; simp at hne
    -- Y' = U V, V as long as X'
    obtain ⟨U, V, hUV, hV⟩ : ∃ U V, Y' = U ++ V ∧ V.length = X'.length := ⟨Y'.take (Y'.length - X'.length), Y'.drop (Y'.length - X'.length), (List.take_append_drop _ _).symm, by rw [List.length_drop]; omega⟩
    have hUl : Y'.length = U.length + V.length := by rw [hUV, List.length_append]
    have hr2 : RS enc u B A n c (P' ++ X' ++ U ++ V ++ S') := by
      rw [hUV] at hr
      simpa using hr
    have eb2 : IntKind.wrap .i64 (IntKind.wrap .i64 (((P.length + X.length : Nat) : Int) + ((Y'.length : Nat) : Int)) - ((X'.length : Nat) : Int)) = ((P'.length + X'.length + U.length : Nat) : Int) := by
      rw [ea _ _ (by omega) (by omega), es _ _ (by omega) (by omega)]; congr 1; omega
    refine (swapRange_calls h0 B A n c P' X' U V S' u hr2 hV.symm hn em1 eb2 rfl).mono ?_
    rintro r u2 ⟨rfl, f2, hr3⟩
    refine ⟨rfl, jnC_mk (hC _ _ ⟨hf.trans1 f2, P', V, U, X' ++ S', ?_, ?_, ?_, ?_, ?_, ?_⟩ ?_)⟩
    · intro h; rw [h] at hV; simp at hV; omega
    · intro h; rw [h] at hUl; simp at hUl; omega
    · omega
    · rw [← htot, hUV]; simp
    · show (_, _, _, _, IntKind.wrap .i64 ((Y'.length : Int) - (X'.length : Int)), ()) = _
      rw [es _ _ (by omega) (by omega), hV, show Y'.length - X'.length = U.length by omega]
    · simpa using hr3
    · show ((X'.length : Int) + IntKind.wrap .i64 ((Y'.length : Int) - (X'.length : Int))).toNat < ((X'.length : Int) + (Y'.length : Int)).toNat
      rw [es _ _ (by omega) (by omega)]; omega
  · have heq2 : X'.length = Y'.length := by
      have heq : ((X'.length : Int) != (Y'.length : Int)) = false := heq
      have : (X'.length : Int) = (Y'.length : Int) := by simpa using heq
      omega
    refine (swapRange_calls h0 B A n c P' X' [] Y' S' u (by simpa using hr) heq2 hn em1 (by simp; omega) rfl).mono ?_
    rintro r u2 ⟨rfl, f2, hr3⟩
    rw [List.append_nil, htot] at hr3
    exact ⟨rfl, rfl, hf.trans1 f2, hr3⟩
end
end Go.Proofs.YthcclmlbkfadcaaGreat.StbWd
/- stable sorting, walked: merging, the sort: rows of api.Word -/
namespace Go.Proofs.YthcclmlbkfadcaaGreat.StbWd
open Go.GV Go.RowKit Go.Stb
set_option linter.unusedVariables false
set_option linter.unusedSimpArgs false
section
variable {β : Type} {enc : β → List Value} {cmp : β → β → Int}
/-- what a merge leaves -/
def Mrg (enc : β → List Value) (cmp : β → β → Int) (w w' : World) (B : Nat) (A : Option Addr) (n c : Nat) (P X Y S : List (β × Nat)) : Prop :=
  Fr (fun k => blkOf A = some k) w w' ∧ ∃ M, M.Perm (X ++ Y) ∧ Sorted cmp M ∧ RS enc w' B A n c (P ++ M ++ S)
theorem le_lt_le (h : OrdC cmp) {X Y : List (β × Nat)} (hX : Sorted cmp X) (hY : Sorted cmp Y) {k k' l l' : Nat} {u u' v v' : β × Nat} (hu : X[k]? = some u) (hu' : X[k']? = some u') (hk : k ≤ k') (hv : Y[l]? = some v) (hv' : Y[l']? = some v') (hl : l' ≤ l) (hlt : lt cmp u' v') : lt cmp u v := by
  have h1 : lt cmp u v' := by
    rcases Nat.lt_or_ge k k' with h' | h'
    · exact lt_trans h (sorted_get h hX hu hu' h') hlt
    · have : k = k' := by omega
      subst this
      rw [hu] at hu'; injection hu' with hu'; subst hu'; exact hlt
  rcases Nat.lt_or_ge l' l with h' | h'
  · exact lt_trans h h1 (sorted_get h hY hv' hv h')
  · have : l = l' := by omega
    subst this
    rw [hv] at hv'; injection hv' with hv'; subst hv'; exact h1
theorem mem_take_at {l : List (β × Nat)} {i : Nat} {x : β × Nat} (h : x ∈ l.take i) : ∃ j, j < i ∧ l[j]? = some x := by
  obtain ⟨j, hj⟩ := List.mem_iff_getElem?.1 h
  rw [List.getElem?_take] at hj
  split at hj
  · exact ⟨j, by assumption, hj⟩
  · cases hj
theorem mem_drop_at {l : List (β × Nat)} {i : Nat} {x : β × Nat} (h : x ∈ l.drop i) : ∃ j, i ≤ j ∧ l[j]? = some x := by
  obtain ⟨j, hj⟩ := List.mem_iff_getElem?.1 h
  rw [List.getElem?_drop] at hj
  exact ⟨i + j, by omega, hj⟩
/-- one element goes up into a row -/
theorem merge_one (h0 : Srt β enc cmp) (B : Nat) (A : Option Addr) (n c : Nat) (P Y S : List (β × Nat)) (x : β × Nat) (w : World) (h : RS enc w B A n c (P ++ x :: Y ++ S)) (hY : Sorted cmp Y) (hb : ∀ y ∈ Y, bef x y) (hn : n < 549755813888) :
    F122s.l3 (fun v w' => v = .tuple #[] ∧ Mrg enc cmp w w' B A n c P [x] Y S) ((A, n, c), ((P.length : Nat) : Int), (), ((P.length + 1 : Nat) : Int), ((P.length + 1 + Y.length : Nat) : Int), ()) w := by
  have hlen := h.2
  simp only [List.length_append, List.length_cons] at hlen
  have gx : (P ++ x :: Y ++ S)[P.length]? = some x := by rw [List.append_assoc]; exact get_mid rfl
  refine loop_rule (fun s u => Fr (fun k => blkOf A = some k) w u ∧ RS enc u B A n c (P ++ x :: Y ++ S) ∧ ∃ p q : Nat, p ≤ q ∧ q ≤ Y.length ∧ (∀ y ∈ Y.take p, lt cmp y x) ∧ (∀ y ∈ Y.drop q, lt cmp x y) ∧ s = ((A, n, c), ((P.length : Nat) : Int), (), ((P.length + 1 + p : Nat) : Int), ((P.length + 1 + q : Nat) : Int), ()))
    (fun s _ => (s.2.2.2.2.1 - s.2.2.2.1).toNat) ?_ _ _ ⟨Fr.refl _ _, h, 0, Y.length, by omega, by omega, by simp, by simp, rfl⟩
  rintro s u C ⟨hf, hr, p, q, hpq, hqY, hlo, hhi, rfl⟩ hC _
  refine vIf_mk (fun hlt => ?_) (fun hge => ?_)
  · have hlt2 : ((P.length + 1 + p : Nat) : Int) < ((P.length + 1 + q : Nat) : Int) := of_decide_eq_true hlt
    have emm := em (P.length + 1 + p) (P.length + 1 + q) (by omega) (by omega)
    have hh : (P.length + 1 + p + (P.length + 1 + q)) / 2 = P.length + 1 + (p + q) / 2 := by omega
    rw [hh] at emm
    have gi : Y[(p + q) / 2]? = some (Y[(p + q) / 2]'(by omega)) := List.getElem?_eq_getElem (by omega)
    generalize Y[(p + q) / 2]'(by omega) = y at gi
    have gy : (P ++ x :: Y ++ S)[P.length + 1 + (p + q) / 2]? = some y := by
      have : P ++ x :: Y ++ S = (P ++ [x]) ++ (Y ++ S) := by simp
      rw [this, List.getElem?_append_right (by simp), List.getElem?_append_left (by simp; omega)]
      rw [show P.length + 1 + (p + q) / 2 - (P ++ [x]).length = (p + q) / 2 by simp]; exact gi
    have hym : y ∈ Y := List.mem_of_getElem? gi
    dsimp only
    rw [emm]
    refine rs_rd h0 hr.drew gy rfl (rs_rd h0 hr.drew gx rfl ((h0.call y.1 x.1 u.drew).mono ?_))
    rintro r u2 ⟨rfl, f2⟩
    have hf2 : Fr (fun k => blkOf A = some k) w u2 := (hf.trans1 (Fr.drew _ _)).trans1 (f2.mono (fun _ _ h => h.elim))
    refine ⟨_, rfl, vIf_mk (fun h1 => jnC_mk (hC _ _ ⟨hf2, hr.drew.fr0 f2, (p + q) / 2 + 1, q, by omega, hqY, fun z hz => ?_, hhi, by rw [ep _ (by omega)]; rfl⟩ ?_)) (fun h1 => jnC_mk (hC _ _ ⟨hf2, hr.drew.fr0 f2, p, (p + q) / 2, by omega, by omega, hlo, fun z hz => ?_, rfl⟩ ?_))⟩
    · have h1 := bef_yes h0.ord (hb y hym) (of_decide_eq_true h1)
      obtain ⟨j, hj, hz⟩ := mem_take_at hz
      by_cases hjm : j = (p + q) / 2
      · subst hjm; rw [gi] at hz; injection hz with hz; subst hz; exact h1
      · exact lt_trans h0.ord (sorted_get h0.ord hY hz gi (by omega)) h1
    · show (((P.length + 1 + q : Nat) : Int) - IntKind.wrap .i64 (((P.length + 1 + (p + q) / 2 : Nat) : Int) + 1)).toNat < (((P.length + 1 + q : Nat) : Int) - ((P.length + 1 + p : Nat) : Int)).toNat
      rw [ep _ (by omega)]; omega
    · have h1 := bef_no h0.ord (hb y hym) (of_decide_eq_false h1)
      obtain ⟨j, hj, hz⟩ := mem_drop_at hz
      by_cases hjm : j = (p + q) / 2
      · subst hjm; rw [gi] at hz; injection hz with hz; subst hz; exact h1
      · exact lt_trans h0.ord h1 (sorted_get h0.ord hY gi hz (by omega))
    · show (((P.length + 1 + (p + q) / 2 : Nat) : Int) - ((P.length + 1 + p : Nat) : Int)).toNat < (((P.length + 1 + q : Nat) : Int) - ((P.length + 1 + p : Nat) : Int)).toNat
      omega
  · have hge2 : ¬ ((P.length + 1 + p : Nat) : Int) < ((P.length + 1 + q : Nat) : Int) := of_decide_eq_false hge
    have hpq2 : q = p := by omega
    subst hpq2
    clear hC
    have hYs := List.take_append_drop q Y
    have hs2 := hY
    rw [← hYs] at hs2
    obtain ⟨hs21, hs22, hs23⟩ := sorted_of_app hs2
    have htl : (Y.take q).length = q := by rw [List.length_take]; omega
    refine jnC_mk (loop_rule (fun s v => Fr (fun k => blkOf A = some k) w v ∧ ∃ U V : List (β × Nat), U ++ V = Y.take q ∧ s = ((A, n, c), ((P.length + 1 + q : Nat) : Int), ((P.length + U.length : Nat) : Int), ()) ∧ RS enc v B A n c (P ++ U ++ x :: V ++ Y.drop q ++ S))
      (fun s _ => (P.length + 1 + q - s.2.2.1).toNat) ?_ _ _ ⟨hf, [], Y.take q, rfl, rfl, by
        have : P ++ [] ++ x :: Y.take q ++ Y.drop q ++ S = P ++ x :: Y ++ S := by
          conv => rhs; rw [← hYs]
          simp
        rw [this]; exact hr⟩)
    rintro s v C ⟨hfv, U, V, hUV, rfl, hrv⟩ hC _
    have hUVl : U.length + V.length = q := by rw [← htl, ← hUV, List.length_append]
    have e0 : IntKind.wrap .i64 (((P.length + 1 + q : Nat) : Int) - 1) = ((P.length + q : Nat) : Int) := by rw [e1 _ (by omega) (by omega)]; congr 1; omega
    refine vIf_mk (fun hlt => ?_) (fun hge => ?_)
    · have hlt2 : ((P.length + U.length : Nat) : Int) < IntKind.wrap .i64 (((P.length + 1 + q : Nat) : Int) - 1) := of_decide_eq_true hlt
      rw [e0] at hlt2
      obtain ⟨y, V', rfl⟩ : ∃ y V', V = y :: V' := by
        cases V with
        | nil => simp at hUVl; omega
        | cons y r => exact ⟨y, r, rfl⟩
      have l1 : P ++ U ++ x :: (y :: V') ++ Y.drop q ++ S = (P ++ U) ++ x :: (y :: V' ++ Y.drop q ++ S) := by simp
      have l2 : P ++ U ++ x :: (y :: V') ++ Y.drop q ++ S = (P ++ U ++ [x]) ++ y :: (V' ++ Y.drop q ++ S) := by simp
      have ek : IntKind.wrap .i64 (((P.length + U.length : Nat) : Int) + 1) = ((P.length + U.length + 1 : Nat) : Int) := ep _ (by omega)
      refine rs_rd h0 hrv.drew (i := P.length + U.length + 1) (x := y) (by rw [l2]; exact get_mid (by simp; omega)) ek (rs_rd h0 hrv.drew (i := P.length + U.length) (x := x) (by rw [l1]; exact get_mid (by simp)) rfl ?_)
      refine rs_swap h0 hrv.drew (i := P.length + U.length) (j := P.length + U.length + 1) (by omega) (by omega) rfl ek (fun w' hr' f' => jnC_mk (hC _ _ ⟨(hfv.trans1 (Fr.drew _ _)).trans1 f', U ++ [y], V', by rw [← hUV]; simp, ?_, ?_⟩ ?_))
      · show (_, _, IntKind.wrap .i64 (((P.length + U.length : Nat) : Int) + 1), ()) = _
        rw [ek]; simp; omega
      · rw [l1, set_mid (by simp)] at hr'
        have l3 : (P ++ U) ++ y :: (y :: V' ++ Y.drop q ++ S) = (P ++ U ++ [y]) ++ y :: (V' ++ Y.drop q ++ S) := by simp
        rw [l3, set_mid (by simp; omega)] at hr'
        have l4 : (P ++ U ++ [y]) ++ x :: (V' ++ Y.drop q ++ S) = P ++ (U ++ [y]) ++ x :: V' ++ Y.drop q ++ S := by simp
        rw [l4] at hr'; exact hr'
      · show (((P.length : Nat) : Int) + 1 + ((q : Nat) : Int) - IntKind.wrap .i64 (((P.length + U.length : Nat) : Int) + 1)).toNat < (((P.length : Nat) : Int) + 1 + ((q : Nat) : Int) - ((P.length + U.length : Nat) : Int)).toNat
        rw [ek]; omega
    · have hge2 : ¬ ((P.length + U.length : Nat) : Int) < IntKind.wrap .i64 (((P.length + 1 + q : Nat) : Int) - 1) := of_decide_eq_false hge
      rw [e0] at hge2
      have hV : V = [] := List.length_eq_zero_iff.1 (by omega)
      subst hV
      rw [List.append_nil] at hUV
      subst hUV
      refine ⟨rfl, hfv, Y.take q ++ ([x] ++ Y.drop q), ?_, sorted_app hs21 (sorted_app (List.pairwise_singleton _ _) hs22 (fun u hu v hv => by simp at hu; subst hu; exact hhi v hv)) (fun u hu v hv => ?_), by simpa using hrv⟩
      · conv => rhs; rw [← hYs]
        exact List.perm_append_comm_assoc _ _ _
      · rcases List.mem_append.1 hv with hv | hv
        · simp at hv; subst hv; exact hlo u hu
        · exact hs23 u hu v hv
/-- one element goes down into a row -/
theorem merge_last (h0 : Srt β enc cmp) (B : Nat) (A : Option Addr) (n c : Nat) (P X S : List (β × Nat)) (y : β × Nat) (w : World) (h : RS enc w B A n c (P ++ X ++ y :: S)) (hX : Sorted cmp X) (hb : ∀ x ∈ X, bef x y) (hn : n < 549755813888) :
    F122s.l15 (fun v w' => v = .tuple #[] ∧ Mrg enc cmp w w' B A n c P X [y] S) ((A, n, c), ((P.length + X.length : Nat) : Int), (), ((P.length : Nat) : Int), ((P.length + X.length : Nat) : Int), ()) w := by
  have hlen := h.2
  simp only [List.length_append, List.length_cons] at hlen
  have gy : (P ++ X ++ y :: S)[P.length + X.length]? = some y := get_mid (by simp)
  refine loop_rule (fun s u => Fr (fun k => blkOf A = some k) w u ∧ RS enc u B A n c (P ++ X ++ y :: S) ∧ ∃ p q : Nat, p ≤ q ∧ q ≤ X.length ∧ (∀ x ∈ X.take p, lt cmp x y) ∧ (∀ x ∈ X.drop q, lt cmp y x) ∧ s = ((A, n, c), ((P.length + X.length : Nat) : Int), (), ((P.length + p : Nat) : Int), ((P.length + q : Nat) : Int), ()))
    (fun s _ => (s.2.2.2.2.1 - s.2.2.2.1).toNat) ?_ _ _ ⟨Fr.refl _ _, h, 0, X.length, by omega, by omega, by simp, by simp, rfl⟩
  rintro s u C ⟨hf, hr, p, q, hpq, hqX, hlo, hhi, rfl⟩ hC _
  refine vIf_mk (fun hlt => ?_) (fun hge => ?_)
  · have hlt2 : ((P.length + p : Nat) : Int) < ((P.length + q : Nat) : Int) := of_decide_eq_true hlt
    have emm := em (P.length + p) (P.length + q) (by omega) (by omega)
    have hh : (P.length + p + (P.length + q)) / 2 = P.length + (p + q) / 2 := by omega
    rw [hh] at emm
    have gi : X[(p + q) / 2]? = some (X[(p + q) / 2]'(by omega)) := List.getElem?_eq_getElem (by omega)
    generalize X[(p + q) / 2]'(by omega) = x at gi
    have gx : (P ++ X ++ y :: S)[P.length + (p + q) / 2]? = some x := by
      rw [List.append_assoc, List.getElem?_append_right (by omega), List.getElem?_append_left (by omega), Nat.add_sub_cancel_left]; exact gi
    have hxm : x ∈ X := List.mem_of_getElem? gi
    dsimp only
    rw [emm]
    refine rs_rd h0 hr.drew gy rfl (rs_rd h0 hr.drew gx rfl ((h0.call y.1 x.1 u.drew).mono ?_))
    rintro r u2 ⟨rfl, f2⟩
    have hf2 : Fr (fun k => blkOf A = some k) w u2 := (hf.trans1 (Fr.drew _ _)).trans1 (f2.mono (fun _ _ h => h.elim))
    refine ⟨_, rfl, vIf_mk (fun h1 => jnC_mk (hC _ _ ⟨hf2, hr.drew.fr0 f2, (p + q) / 2 + 1, q, by omega, hqX, fun z hz => ?_, hhi, by rw [ep _ (by omega)]; rfl⟩ ?_)) (fun h1 => jnC_mk (hC _ _ ⟨hf2, hr.drew.fr0 f2, p, (p + q) / 2, by omega, by omega, hlo, fun z hz => ?_, rfl⟩ ?_))⟩
    · have h1 : ¬ cmp y.1 x.1 < 0 := by simpa using h1
      have h1 := bef_no h0.ord (hb x hxm) h1
      obtain ⟨j, hj, hz⟩ := mem_take_at hz
      by_cases hjm : j = (p + q) / 2
      · subst hjm; rw [gi] at hz; injection hz with hz; subst hz; exact h1
      · exact lt_trans h0.ord (sorted_get h0.ord hX hz gi (by omega)) h1
    · show (((P.length + q : Nat) : Int) - IntKind.wrap .i64 (((P.length + (p + q) / 2 : Nat) : Int) + 1)).toNat < (((P.length + q : Nat) : Int) - ((P.length + p : Nat) : Int)).toNat
      rw [ep _ (by omega)]; omega
    · have h1 : cmp y.1 x.1 < 0 := by simpa using h1
      have h1 := bef_yes h0.ord (hb x hxm) h1
      obtain ⟨j, hj, hz⟩ := mem_drop_at hz
      by_cases hjm : j = (p + q) / 2
      · subst hjm; rw [gi] at hz; injection hz with hz; subst hz; exact h1
      · exact lt_trans h0.ord h1 (sorted_get h0.ord hX gi hz (by omega))
    · show (((P.length + (p + q) / 2 : Nat) : Int) - ((P.length + p : Nat) : Int)).toNat < (((P.length + q : Nat) : Int) - ((P.length + p : Nat) : Int)).toNat
      omega
  · have hge2 : ¬ ((P.length + p : Nat) : Int) < ((P.length + q : Nat) : Int) := of_decide_eq_false hge
    have hpq2 : q = p := by omega
    subst hpq2
    clear hC
    have hXs := List.take_append_drop q X
    have hs2 := hX
    rw [← hXs] at hs2
    obtain ⟨hs21, hs22, hs23⟩ := sorted_of_app hs2
    have htl : (X.take q).length = q := by rw [List.length_take]; omega
    have hdl : (X.drop q).length = X.length - q := List.length_drop
    refine jnC_mk (loop_rule (fun s v => Fr (fun k => blkOf A = some k) w v ∧ ∃ U V : List (β × Nat), U ++ V = X.drop q ∧ s = ((A, n, c), ((P.length + q : Nat) : Int), ((P.length + q + U.length : Nat) : Int), ()) ∧ RS enc v B A n c (P ++ X.take q ++ U ++ y :: V ++ S))
      (fun s _ => s.2.2.1.toNat) ?_ _ _ ⟨hf, X.drop q, [], by simp, by rw [hdl]; simp; omega, by
        have : P ++ X.take q ++ X.drop q ++ [y] ++ S = P ++ X ++ y :: S := by
          conv => rhs; rw [← hXs]
          simp
        rw [this]; exact hr⟩)
    rintro s v C ⟨hfv, U, V, hUV, rfl, hrv⟩ hC _
    have hUVl : U.length + V.length = X.length - q := by rw [← hdl, ← hUV, List.length_append]
    refine vIf_mk (fun hlt => ?_) (fun hge => ?_)
    · have hlt2 : ((P.length + q + U.length : Nat) : Int) > ((P.length + q : Nat) : Int) := of_decide_eq_true hlt
      obtain ⟨U', z, rfl⟩ : ∃ U' z, U = U' ++ [z] := by
        have hne : U ≠ [] := by intro h; subst h; simp at hlt2
        exact ⟨U.dropLast, U.getLast hne, (List.dropLast_concat_getLast hne).symm⟩
      simp only [List.length_append, List.length_cons, List.length_nil] at hUVl hlt2
      have l1 : P ++ X.take q ++ (U' ++ [z]) ++ y :: V ++ S = (P ++ X.take q ++ U') ++ z :: (y :: V ++ S) := by simp
      have l2 : P ++ X.take q ++ (U' ++ [z]) ++ y :: V ++ S = (P ++ X.take q ++ (U' ++ [z])) ++ y :: (V ++ S) := by simp
      have ek : IntKind.wrap .i64 (((P.length + q + (U' ++ [z]).length : Nat) : Int) - 1) = ((P.length + q + U'.length : Nat) : Int) := by rw [e1 _ (by simp; omega) (by simp; omega)]; simp only [List.length_append, List.length_cons, List.length_nil]; omega
      refine rs_rd h0 hrv.drew (i := P.length + q + U'.length) (x := z) (by rw [l1]; exact get_mid (by simp; omega)) ek (rs_rd h0 hrv.drew (i := P.length + q + (U' ++ [z]).length) (x := y) (by rw [l2]; exact get_mid (by simp; omega)) rfl ?_)
      refine rs_swap h0 hrv.drew (i := P.length + q + (U' ++ [z]).length) (j := P.length + q + U'.length) (x := y) (y := z) (by simp; omega) (by omega) rfl ek (fun w' hr' f' => jnC_mk (hC _ _ ⟨(hfv.trans1 (Fr.drew _ _)).trans1 f', U', z :: V, by rw [← hUV]; simp, ?_, ?_⟩ ?_))
      · show (_, _, IntKind.wrap .i64 (((P.length + q + (U' ++ [z]).length : Nat) : Int) - 1), ()) = _
        rw [ek]
      · rw [l2, set_mid (by simp; omega)] at hr'
        have l3 : (P ++ X.take q ++ (U' ++ [z])) ++ z :: (V ++ S) = (P ++ X.take q ++ U') ++ z :: (z :: (V ++ S)) := by simp
        rw [l3, set_mid (by simp; omega)] at hr'
        have l4 : (P ++ X.take q ++ U') ++ y :: (z :: (V ++ S)) = P ++ X.take q ++ U' ++ y :: (z :: V) ++ S := by simp
        rw [l4] at hr'; exact hr'
      · show (IntKind.wrap .i64 (((P.length + q + (U' ++ [z]).length : Nat) : Int) - 1)).toNat < (((P.length + q + (U' ++ [z]).length : Nat) : Int)).toNat
        rw [ek]; simp only [List.length_append, List.length_cons, List.length_nil]; omega
    · have hge2 : ¬ ((P.length + q + U.length : Nat) : Int) > ((P.length + q : Nat) : Int) := of_decide_eq_false hge
      have hU : U = [] := List.length_eq_zero_iff.1 (by omega)
      subst hU
      rw [List.nil_append] at hUV
      subst hUV
      refine ⟨rfl, hfv, X.take q ++ ([y] ++ X.drop q), ?_, sorted_app hs21 (sorted_app (List.pairwise_singleton _ _) hs22 (fun u hu v hv => by simp at hu; subst hu; exact hhi v hv)) (fun u hu v hv => ?_), by simpa using hrv⟩
      · conv => rhs; rw [← hXs, List.append_assoc]
        exact (List.perm_append_comm).append_left _
      · rcases List.mem_append.1 hv with hv | hv
        · simp at hv; subst hv; exact hlo u hu
        · exact hs23 u hu v hv
end
end Go.Proofs.YthcclmlbkfadcaaGreat.StbWd
/- stable sorting, walked: symMerge, insertionSort, the sort: rows of api.Word -/
namespace Go.Proofs.YthcclmlbkfadcaaGreat.StbWd
open Go.GV Go.RowKit Go.Stb
set_option linter.unusedVariables false
set_option linter.unusedSimpArgs false
section
variable {β : Type} {enc : β → List Value} {cmp : β → β → Int}
theorem take_len {l : List (β × Nat)} {k : Nat} (h : k ≤ l.length) : (l.take k).length = k := by rw [List.length_take]; omega
theorem get_in {P X R : List (β × Nat)} {i j : Nat} {x : β × Nat} (hi : i = P.length + j) (hx : X[j]? = some x) : (P ++ X ++ R)[i]? = some x := by
  have hj := (List.getElem?_eq_some_iff.1 hx).1
  subst hi
  rw [List.append_assoc, List.getElem?_append_right (by omega), List.getElem?_append_left (by omega), Nat.add_sub_cancel_left]; exact hx
set_option maxHeartbeats 1000000 in
/-- two sorted rows, the one ahead of the other, are merged -/
theorem symMerge_calls (h0 : Srt β enc cmp) (B : Nat) (A : Option Addr) (n c : Nat) (hn : n < 549755813888) : ∀ (K : Nat) (P X Y S : List (β × Nat)) (w : World), X.length + Y.length ≤ K → RS enc w B A n c (P ++ X ++ Y ++ S) → Sorted cmp X → Sorted cmp Y → befC X Y → X ≠ [] → Y ≠ [] → ∀ (a m b : Int), a = ((P.length : Nat) : Int) → m = ((P.length + X.length : Nat) : Int) → b = ((P.length + X.length + Y.length : Nat) : Int) →
    Calls Tryz.prog 122 #[.slice A n c, .int .i64 a, .int .i64 m, .int .i64 b, cf] w fun e w' => e = .returned (.tuple #[]) ∧ Mrg enc cmp w w' B A n c P X Y S
  | 0, P, X, Y, S, w, hK, _, _, _, _, hX, _, _, _, _, _, _, _ => absurd (List.length_eq_zero_iff.1 (by omega)) hX
  | K + 1, P, X, Y, S, w, hK, h, sX, sY, hb, hX, hY, a, m, b, ha, hm, hbb => by
    subst ha; subst hm; subst hbb
    have ih := symMerge_calls h0 B A n c hn K
    refine (F122s.of A n c _ _ _ w (Q := fun v w' => v = .tuple #[] ∧ Mrg enc cmp w w' B A n c P X Y S) ?_).mono (fun e w' ⟨v, he, hv, h⟩ => ⟨by rw [he, hv], h⟩)
    have hlen := h.2
    simp only [List.length_append] at hlen
    have hX0 : X.length ≠ 0 := fun h => hX (List.length_eq_zero_iff.1 h)
    have hY0 : Y.length ≠ 0 := fun h => hY (List.length_eq_zero_iff.1 h)
    have eX : IntKind.wrap .i64 (((P.length + X.length : Nat) : Int) - ((P.length : Nat) : Int)) = ((X.length : Nat) : Int) := by rw [es _ _ (by omega) (by omega), Nat.add_sub_cancel_left]
    have eY : IntKind.wrap .i64 (((P.length + X.length + Y.length : Nat) : Int) - ((P.length + X.length : Nat) : Int)) = ((Y.length : Nat) : Int) := by rw [es _ _ (by omega) (by omega), Nat.add_sub_cancel_left]
    have eM := em P.length (P.length + X.length + Y.length) (by omega) (by omega)
    unfold F122s.vc
    rw [eX, eY, eM]
    generalize hmid : (P.length + (P.length + X.length + Y.length)) / 2 = mid at eM ⊢
    have eN : IntKind.wrap .i64 ((mid : Int) + ((P.length + X.length : Nat) : Int)) = ((mid + (P.length + X.length) : Nat) : Int) := ea _ _ (by omega) (by omega)
    rw [eN]
    generalize hN : mid + (P.length + X.length) = N at eN ⊢
    refine vIf_mk (fun h1 => ?_) (fun h1 => vIf_mk (fun h2 => ?_) (fun h2 => ?_))
    · have h1 : X.length = 1 := by
        have : ((X.length : Nat) : Int) = 1 := by simpa using h1
        omega
      obtain ⟨x, rfl⟩ := List.length_eq_one_iff.1 h1
      refine jnC_mk ?_
      have := merge_one h0 B A n c P Y S x w (by simpa using h) sY (fun y hy => hb x (by simp) y hy) hn
      simpa using this
    · have h2 : Y.length = 1 := by
        have : ((Y.length : Nat) : Int) = 1 := by simpa using h2
        omega
      obtain ⟨y, rfl⟩ := List.length_eq_one_iff.1 h2
      refine jnC_mk ?_
      exact merge_last h0 B A n c P X S y w (by simpa using h) sX (fun x hx => hb x hx y (by simp)) hn
    · have h1 : X.length ≠ 1 := fun h => by rw [h] at h1; simp at h1
      have h2 : Y.length ≠ 1 := fun h => by rw [h] at h2; simp at h2
      -- from any bounds of the search
      have fin : ∀ s0 r0 : Nat, P.length ≤ s0 → s0 ≤ r0 → r0 ≤ P.length + X.length → r0 ≤ mid → N ≤ s0 + (P.length + X.length + Y.length) → (s0 = P.length ∨ N = s0 + (P.length + X.length + Y.length)) → (r0 = P.length + X.length ∨ r0 = mid) →
          jnC (F122s.k32 (fun v w' => v = .tuple #[] ∧ Mrg enc cmp w w' B A n c P X Y S)) ((A, n, c), ((P.length : Nat) : Int), ((P.length + X.length : Nat) : Int), ((P.length + X.length + Y.length : Nat) : Int), (), (mid : Int), (N : Int), (s0 : Int), (r0 : Int), ()) w := by
        intro s0 r0 q1 q2 q3 q4 q5 q6 q7
        refine jnC_mk (fun _ => jnC_mk ?_)
        have eP : IntKind.wrap .i64 ((N : Int) - 1) = ((N - 1 : Nat) : Int) := e1 _ (by omega) (by omega)
        dsimp only
        rw [eP]
        refine loop_rule (fun s u => Fr (fun _ => False) w u ∧ ∃ st r : Nat, s0 ≤ st ∧ st ≤ r ∧ r ≤ r0 ∧ (∀ c, s0 ≤ c → c < st → ∀ u v, X[c - P.length]? = some u → Y[N - 1 - c - (P.length + X.length)]? = some v → lt cmp u v) ∧ (∀ c, r ≤ c → c < r0 → ∀ u v, X[c - P.length]? = some u → Y[N - 1 - c - (P.length + X.length)]? = some v → lt cmp v u) ∧
            s = ((A, n, c), ((P.length : Nat) : Int), ((P.length + X.length : Nat) : Int), ((P.length + X.length + Y.length : Nat) : Int), (), (mid : Int), (N : Int), (st : Int), (r : Int), ((N - 1 : Nat) : Int), ()))
          (fun s _ => (s.2.2.2.2.2.2.2.2.1 - s.2.2.2.2.2.2.2.1).toNat) ?_ _ _ ⟨Fr.refl _ _, s0, r0, by omega, q2, by omega, fun c h1 h2 => by omega, fun c h1 h2 => by omega, rfl⟩
        rintro s u C ⟨hf, st, r, p1, p2, p3, hlo, hhi, rfl⟩ hC _
        have hru := h.fr0 hf
        refine vIf_mk (fun hlt => ?_) (fun hge => ?_)
        · have hlt2 : (st : Int) < (r : Int) := of_decide_eq_true hlt
          have emm := em st r (by omega) (by omega)
          generalize hcc : (st + r) / 2 = cc at emm
          have epc : IntKind.wrap .i64 (((N - 1 : Nat) : Int) - (cc : Int)) = ((N - 1 - cc : Nat) : Int) := es _ _ (by omega) (by omega)
          have gu : X[cc - P.length]? = some (X[cc - P.length]'(by omega)) := List.getElem?_eq_getElem (by omega)
          have gv : Y[N - 1 - cc - (P.length + X.length)]? = some (Y[N - 1 - cc - (P.length + X.length)]'(by omega)) := List.getElem?_eq_getElem (by omega)
          generalize X[cc - P.length]'(by omega) = x at gu
          generalize Y[N - 1 - cc - (P.length + X.length)]'(by omega) = y at gv
          have hbxy := hb x (List.mem_of_getElem? gu) y (List.mem_of_getElem? gv)
          dsimp only
          rw [emm, epc]
          refine rs_rd h0 hru.drew (i := N - 1 - cc) (x := y) (get_in (P := P ++ X) (X := Y) (R := S) (j := N - 1 - cc - (P.length + X.length)) (by simp; omega) gv) rfl (rs_rd h0 hru.drew (i := cc) (x := x) (by
            have : P ++ X ++ Y ++ S = P ++ X ++ (Y ++ S) := by simp
            rw [this]; exact get_in (j := cc - P.length) (by omega) gu) rfl ((h0.call y.1 x.1 u.drew).mono ?_))
          rintro q u2 ⟨rfl, f2⟩
          have hf2 : Fr (fun _ => False) w u2 := (hf.trans1 (Fr.drew _ _)).trans1 f2
          refine ⟨_, rfl, vIf_mk (fun hc => jnC_mk (hC _ _ ⟨hf2, cc + 1, r, by omega, by omega, p3, fun d d1 d2 u v hu hv => ?_, hhi, by rw [ep _ (by omega)]⟩ ?_)) (fun hc => jnC_mk (hC _ _ ⟨hf2, st, cc, p1, by omega, by omega, hlo, fun d d1 d2 u v hu hv => ?_, rfl⟩ ?_))⟩
          · have hc : ¬ cmp y.1 x.1 < 0 := by simpa using hc
            exact le_lt_le h0.ord sX sY hu gu (by omega) hv gv (by omega) (bef_no h0.ord hbxy hc)
          · show ((r : Int) - IntKind.wrap .i64 ((cc : Int) + 1)).toNat < ((r : Int) - (st : Int)).toNat
            rw [ep _ (by omega)]; omega
          · have hc : cmp y.1 x.1 < 0 := by simpa using hc
            exact le_lt_le h0.ord sY sX hv gv (by omega) hu gu (by omega) (bef_yes h0.ord hbxy hc)
          · show ((cc : Int) - (st : Int)).toNat < ((r : Int) - (st : Int)).toNat
            omega
        · have hge2 : ¬ (st : Int) < (r : Int) := of_decide_eq_false hge
          have hst : r = st := by omega
          subst hst
          clear hC
          have eE : IntKind.wrap .i64 ((N : Int) - (r : Int)) = ((N - r : Nat) : Int) := es _ _ (by omega) (by omega)
          dsimp only
          rw [eE]
          -- the four parts
          have hXs := List.take_append_drop (r - P.length) X
          have hYs := List.take_append_drop (N - r - (P.length + X.length)) Y
          have lX1 : (X.take (r - P.length)).length = r - P.length := take_len (by omega)
          have lX2 : (X.drop (r - P.length)).length = P.length + X.length - r := by rw [List.length_drop]; omega
          have lY1 : (Y.take (N - r - (P.length + X.length))).length = N - r - (P.length + X.length) := take_len (by omega)
          have lY2 : (Y.drop (N - r - (P.length + X.length))).length = P.length + X.length + Y.length - (N - r) := by rw [List.length_drop]; omega
          have D1 : ∀ x ∈ X.take (r - P.length), ∀ y ∈ Y.drop (N - r - (P.length + X.length)), lt cmp x y := fun x hx y hy => by
            obtain ⟨k, hk, hx⟩ := mem_take_at hx
            obtain ⟨l, hl, hy⟩ := mem_drop_at hy
            have hl2 := (List.getElem?_eq_some_iff.1 hy).1
            have hr0 : s0 < r := by
              rcases q6 with q6 | q6 <;> omega
            have gu : X[r - 1 - P.length]? = some (X[r - 1 - P.length]'(by omega)) := List.getElem?_eq_getElem (by omega)
            have gv : Y[N - 1 - (r - 1) - (P.length + X.length)]? = some (Y[N - 1 - (r - 1) - (P.length + X.length)]'(by omega)) := List.getElem?_eq_getElem (by omega)
            exact le_lt_le h0.ord sX sY hx gu (by omega) hy gv (by omega) (hlo (r - 1) (by omega) (by omega) _ _ gu gv)
          have D2 : ∀ y ∈ Y.take (N - r - (P.length + X.length)), ∀ x ∈ X.drop (r - P.length), lt cmp y x := fun y hy x hx => by
            obtain ⟨k, hk, hx⟩ := mem_drop_at hx
            obtain ⟨l, hl, hy⟩ := mem_take_at hy
            have hk2 := (List.getElem?_eq_some_iff.1 hx).1
            have hr0 : r < r0 := by
              rcases q7 with q7 | q7 <;> omega
            have gu : X[r - P.length]? = some (X[r - P.length]'(by omega)) := List.getElem?_eq_getElem (by omega)
            have gv : Y[N - 1 - r - (P.length + X.length)]? = some (Y[N - 1 - r - (P.length + X.length)]'(by omega)) := List.getElem?_eq_getElem (by omega)
            exact le_lt_le h0.ord sY sX hy gv (by omega) hx gu (by omega) (hhi r (by omega) (by omega) _ _ gu gv)
          have sX2 := sX
          have sY2 := sY
          rw [← hXs] at sX2
          rw [← hYs] at sY2
          obtain ⟨sA1, sA2, sA⟩ := sorted_of_app sX2
          obtain ⟨sB1, sB2, sB⟩ := sorted_of_app sY2
          have hb11 : befC (X.take (r - P.length)) (Y.take (N - r - (P.length + X.length))) := fun x hx y hy => hb x (List.mem_of_mem_take hx) y (List.mem_of_mem_take hy)
          have hb22 : befC (X.drop (r - P.length)) (Y.drop (N - r - (P.length + X.length))) := fun x hx y hy => hb x (List.mem_of_mem_drop hx) y (List.mem_of_mem_drop hy)
          have hru2 : RS enc u B A n c (P ++ X.take (r - P.length) ++ X.drop (r - P.length) ++ Y.take (N - r - (P.length + X.length)) ++ (Y.drop (N - r - (P.length + X.length)) ++ S)) := by
            have : P ++ X.take (r - P.length) ++ X.drop (r - P.length) ++ Y.take (N - r - (P.length + X.length)) ++ (Y.drop (N - r - (P.length + X.length)) ++ S) = P ++ X ++ Y ++ S := by
              simp only [List.append_assoc]
              rw [← List.append_assoc (X.take (r - P.length)), hXs, ← List.append_assoc (Y.take (N - r - (P.length + X.length))), hYs]
            rw [this]; exact hru
          have hperm : (X.take (r - P.length) ++ Y.take (N - r - (P.length + X.length)) ++ (X.drop (r - P.length) ++ Y.drop (N - r - (P.length + X.length)))).Perm (X ++ Y) := by
            conv => rhs; rw [← hXs, ← hYs]
            simp only [List.append_assoc]
            exact (List.perm_append_comm_assoc _ _ _).append_left _
          generalize X.take (r - P.length) = A1 at lX1 D1 sA1 sA hb11 hru2 hperm hXs
          generalize X.drop (r - P.length) = A2 at lX2 D2 sA2 sA hb22 hru2 hperm hXs
          generalize Y.take (N - r - (P.length + X.length)) = B1 at lY1 D2 sB1 sB hb11 hru2 hperm hYs
          generalize Y.drop (N - r - (P.length + X.length)) = B2 at lY2 D1 sB2 sB hb22 hru2 hperm hYs
          -- behind the merges of both halves
          have last : ∀ (v : World) (M1 M2 : List (β × Nat)), Fr (fun k => blkOf A = some k) w v → M1.Perm (A1 ++ B1) → Sorted cmp M1 → M2.Perm (A2 ++ B2) → Sorted cmp M2 → RS enc v B A n c (P ++ M1 ++ M2 ++ S) → Value.tuple #[] = Value.tuple #[] ∧ Mrg enc cmp w v B A n c P X Y S := by
            intro v M1 M2 fv m1 s1 m2 s2 hv
            refine ⟨rfl, fv, M1 ++ M2, (m1.append m2).trans hperm, sorted_app s1 s2 (fun x hx y hy => ?_), by simpa using hv⟩
            rcases List.mem_append.1 (m1.mem_iff.1 hx) with hx | hx <;> rcases List.mem_append.1 (m2.mem_iff.1 hy) with hy | hy
            · exact sA x hx y hy
            · exact D1 x hx y hy
            · exact D2 x hx y hy
            · exact sB x hx y hy
          -- the right half
          have right : ∀ (v : World) (M1 : List (β × Nat)), Fr (fun k => blkOf A = some k) w v → M1.Perm (A1 ++ B1) → Sorted cmp M1 → RS enc v B A n c (P ++ M1 ++ (A2 ++ B2) ++ S) →
              jnC (F122s.k43 (fun v w' => v = .tuple #[] ∧ Mrg enc cmp w w' B A n c P X Y S)) ((A, n, c), ((P.length + X.length + Y.length : Nat) : Int), (), (mid : Int), ((N - r : Nat) : Int), ()) v := by
            intro v M1 fv m1 s1 hv
            have lM1 : M1.length = mid - P.length := by rw [m1.length_eq, List.length_append]; omega
            have k44 : ∀ bb : Bool, bb = decide (mid < N - r ∧ N - r < P.length + X.length + Y.length) → jnC (F122s.k44 (fun v w' => v = .tuple #[] ∧ Mrg enc cmp w w' B A n c P X Y S)) ((A, n, c), ((P.length + X.length + Y.length : Nat) : Int), (), (mid : Int), ((N - r : Nat) : Int), bb, ()) v := by
              intro bb hbb
              refine jnC_mk (fun _ => vIf_mk (fun h1 => ?_) (fun h1 => ?_))
              · have h1 : bb = true := h1
                rw [h1] at hbb
                have hh := of_decide_eq_true hbb.symm
                refine (ih (P ++ M1) A2 B2 S v (by omega) (by simpa using hv) sA2 sB2 hb22 (fun h => by rw [h] at lX2; simp at lX2; omega) (fun h => by rw [h] at lY2; simp at lY2; omega) (mid : Int) ((N - r : Nat) : Int) ((P.length + X.length + Y.length : Nat) : Int) (by rw [List.length_append]; omega) (by rw [List.length_append]; omega) (by rw [List.length_append]; omega)).mono ?_
                rintro q v2 ⟨rfl, f2, M2, m2, s2, hv2⟩
                exact ⟨rfl, last v2 M1 M2 (fv.trans1 f2) m1 s1 m2 s2 (by simpa using hv2)⟩
              · have h1 : bb = false := h1
                rw [h1] at hbb
                have hh := of_decide_eq_false hbb.symm
                refine last v M1 (A2 ++ B2) fv m1 s1 (List.Perm.refl _) ?_ (by simpa using hv)
                rcases Nat.lt_or_ge mid (N - r) with hh2 | hh2
                · have : B2 = [] := List.length_eq_zero_iff.1 (by omega)
                  rw [this, List.append_nil]; exact sA2
                · have : A2 = [] := List.length_eq_zero_iff.1 (by omega)
                  rw [this, List.nil_append]; exact sB2
            refine jnC_mk (fun _ => vIf_mk (fun h1 => k44 _ ?_) (fun h1 => k44 _ ?_))
            · have h1 : (mid : Int) < ((N - r : Nat) : Int) := of_decide_eq_true h1
              apply decide_eq_decide.2
              show ((N - r : Nat) : Int) < ((P.length + X.length + Y.length : Nat) : Int) ↔ _
              omega
            · have h1 : ¬ (mid : Int) < ((N - r : Nat) : Int) := of_decide_eq_false h1
              rw [decide_eq_false (fun h => h1 (by omega))]
          -- the left half
          have left : ∀ (v : World), Fr (fun k => blkOf A = some k) w v → RS enc v B A n c (P ++ (A1 ++ B1) ++ (A2 ++ B2) ++ S) →
              jnC (F122s.k41 (fun v w' => v = .tuple #[] ∧ Mrg enc cmp w w' B A n c P X Y S)) ((A, n, c), ((P.length : Nat) : Int), ((P.length + X.length + Y.length : Nat) : Int), (), (mid : Int), (r : Int), ((N - r : Nat) : Int), ()) v := by
            intro v fv hv
            have k42 : ∀ bb : Bool, bb = decide (P.length < r ∧ r < mid) → jnC (F122s.k42 (fun v w' => v = .tuple #[] ∧ Mrg enc cmp w w' B A n c P X Y S)) ((A, n, c), ((P.length : Nat) : Int), ((P.length + X.length + Y.length : Nat) : Int), (), (mid : Int), (r : Int), ((N - r : Nat) : Int), bb, ()) v := by
              intro bb hbb
              refine jnC_mk (fun _ => vIf_mk (fun h1 => ?_) (fun h1 => ?_))
              · have h1 : bb = true := h1
                rw [h1] at hbb
                have hh := of_decide_eq_true hbb.symm
                refine (ih P A1 B1 (A2 ++ B2 ++ S) v (by omega) (by simpa using hv) sA1 sB1 hb11 (fun h => by rw [h] at lX1; simp at lX1; omega) (fun h => by rw [h] at lY1; simp at lY1; omega) ((P.length : Nat) : Int) (r : Int) (mid : Int) rfl (by omega) (by omega)).mono ?_
                rintro q v2 ⟨rfl, f2, M1, m1, s1, hv2⟩
                exact ⟨rfl, right v2 M1 (fv.trans1 f2) m1 s1 (by simpa using hv2)⟩
              · have h1 : bb = false := h1
                rw [h1] at hbb
                have hh := of_decide_eq_false hbb.symm
                refine right v (A1 ++ B1) fv (List.Perm.refl _) ?_ hv
                rcases Nat.lt_or_ge P.length r with hh2 | hh2
                · have : B1 = [] := List.length_eq_zero_iff.1 (by omega)
                  rw [this, List.append_nil]; exact sA1
                · have : A1 = [] := List.length_eq_zero_iff.1 (by omega)
                  rw [this, List.nil_append]; exact sB1
            refine jnC_mk (fun _ => vIf_mk (fun h1 => k42 _ ?_) (fun h1 => k42 _ ?_))
            · have h1 : ((P.length : Nat) : Int) < (r : Int) := of_decide_eq_true h1
              apply decide_eq_decide.2
              show (r : Int) < (mid : Int) ↔ _
              omega
            · have h1 : ¬ ((P.length : Nat) : Int) < (r : Int) := of_decide_eq_false h1
              rw [decide_eq_false (fun h => h1 (by omega))]
          have k40 : ∀ bb : Bool, bb = decide (r < P.length + X.length ∧ P.length + X.length < N - r) → jnC (F122s.k40 (fun v w' => v = .tuple #[] ∧ Mrg enc cmp w w' B A n c P X Y S)) ((A, n, c), ((P.length : Nat) : Int), ((P.length + X.length : Nat) : Int), ((P.length + X.length + Y.length : Nat) : Int), (), (mid : Int), (r : Int), ((N - r : Nat) : Int), bb, ()) u := by
            intro bb hbb
            have fu : Fr (fun k => blkOf A = some k) w u := hf.mono (fun _ _ h => h.elim)
            refine jnC_mk (fun _ => vIf_mk (fun h1 => ?_) (fun h1 => ?_))
            · have h1 : bb = true := h1
              rw [h1] at hbb
              have hh := of_decide_eq_true hbb.symm
              refine (rotate_calls (a := (r : Int)) (m := ((P.length + X.length : Nat) : Int)) (b := ((N - r : Nat) : Int)) h0 B A n c (P ++ A1) A2 B1 (B2 ++ S) u hru2 (fun h => by rw [h] at lX2; simp at lX2; omega) (fun h => by rw [h] at lY1; simp at lY1; omega) hn (by rw [List.length_append]; omega) (by rw [List.length_append]; omega) (by rw [List.length_append]; omega)).mono ?_
              rintro q v ⟨rfl, f2, hv⟩
              exact ⟨rfl, left v (fu.trans1 f2) (by simpa using hv)⟩
            · have h1 : bb = false := h1
              rw [h1] at hbb
              have hh := of_decide_eq_false hbb.symm
              refine left u fu ?_
              rcases Nat.lt_or_ge r (P.length + X.length) with hh2 | hh2
              · have : B1 = [] := List.length_eq_zero_iff.1 (by omega)
                rw [this] at hru2 ⊢
                simpa using hru2
              · have : A2 = [] := List.length_eq_zero_iff.1 (by omega)
                rw [this] at hru2 ⊢
                simpa using hru2
          refine vIf_mk (fun h1 => k40 _ ?_) (fun h1 => k40 _ ?_)
          · have h1 : (r : Int) < ((P.length + X.length : Nat) : Int) := of_decide_eq_true h1
            apply decide_eq_decide.2
            omega
          · have h1 : ¬ (r : Int) < ((P.length + X.length : Nat) : Int) := of_decide_eq_false h1
            rw [decide_eq_false (fun h => h1 (by omega))]
      refine vIf_mk (fun h3 => ?_) (fun h3 => ?_)
      · have h3 : ((P.length + X.length : Nat) : Int) > (mid : Int) := of_decide_eq_true h3
        have eS : IntKind.wrap .i64 ((N : Int) - ((P.length + X.length + Y.length : Nat) : Int)) = ((N - (P.length + X.length + Y.length) : Nat) : Int) := es _ _ (by omega) (by omega)
        rw [eS]
        exact fin _ _ (by omega) (by omega) (by omega) (by omega) (by omega) (.inr (by omega)) (.inr rfl)
      · have h3 : ¬ ((P.length + X.length : Nat) : Int) > (mid : Int) := of_decide_eq_false h3
        exact fin _ _ (by omega) (by omega) (by omega) (by omega) (by omega) (.inl rfl) (.inl rfl)
end
end Go.Proofs.YthcclmlbkfadcaaGreat.StbWd
/- stable sorting, walked: insertionSort, the sort: rows of api.Word -/
namespace Go.Proofs.YthcclmlbkfadcaaGreat.StbWd
open Go.GV Go.RowKit Go.Stb
set_option linter.unusedVariables false
set_option linter.unusedSimpArgs false
section
variable {β : Type} {enc : β → List Value} {cmp : β → β → Int}
/-- what a sort of a part leaves -/
def Srted (enc : β → List Value) (cmp : β → β → Int) (w w' : World) (B : Nat) (A : Option Addr) (n c : Nat) (P X S : List (β × Nat)) : Prop :=
  Fr (fun k => blkOf A = some k) w w' ∧ ∃ M, M.Perm X ∧ Sorted cmp M ∧ RS enc w' B A n c (P ++ M ++ S)
set_option maxHeartbeats 1000000 in
theorem insSort_calls (h0 : Srt β enc cmp) (B : Nat) (A : Option Addr) (n c : Nat) (P X S : List (β × Nat)) (w : World) (h : RS enc w B A n c (P ++ X ++ S)) (hb : X.Pairwise bef) (hn : n < 549755813888) {a b : Int} (ha : a = ((P.length : Nat) : Int)) (hbb : b = ((P.length + X.length : Nat) : Int)) :
    Calls Tryz.prog 121 #[.slice A n c, .int .i64 a, .int .i64 b, cf] w fun e w' => e = .returned (.tuple #[]) ∧ Srted enc cmp w w' B A n c P X S := by
  subst ha; subst hbb
  refine (F121s.of A n c _ _ w (Q := fun v w' => v = .tuple #[] ∧ Srted enc cmp w w' B A n c P X S) ?_).mono (fun e w' ⟨v, he, hv, h⟩ => ⟨by rw [he, hv], h⟩)
  have hlen := h.2
  simp only [List.length_append] at hlen
  by_cases hX0 : X = []
  · subst hX0
    refine jnC_mk (loop_rule (fun s u => u = w ∧ s = ((A, n, c), ((P.length : Nat) : Int), ((P.length + ([] : List (β × Nat)).length : Nat) : Int), (), ((P.length + 1 : Nat) : Int), ())) (fun _ _ => 0) ?_ _ _ ⟨rfl, by rw [ep _ (by omega)]⟩)
    rintro s u C ⟨rfl, rfl⟩ hC _
    refine vIf_f (decide_eq_false ?_) ⟨rfl, Fr.refl _ _, [], List.Perm.refl _, List.Pairwise.nil, h⟩
    show ¬ ((P.length + 1 : Nat) : Int) < ((P.length + ([] : List (β × Nat)).length : Nat) : Int)
    simp only [List.length_nil]
    omega
  obtain ⟨x0, X0, rfl⟩ : ∃ x r, X = x :: r := by
    cases X with
    | nil => exact absurd rfl hX0
    | cons x r => exact ⟨x, r, rfl⟩
  refine jnC_mk (loop_rule (fun s u => Fr (fun k => blkOf A = some k) w u ∧ ∃ X1 M X2 : List (β × Nat), X1 ++ X2 = x0 :: X0 ∧ M.Perm X1 ∧ Sorted cmp M ∧ M ≠ [] ∧ s = ((A, n, c), ((P.length : Nat) : Int), ((P.length + (x0 :: X0).length : Nat) : Int), (), ((P.length + M.length : Nat) : Int), ()) ∧ RS enc u B A n c (P ++ M ++ X2 ++ S))
    (fun s _ => (P.length + (x0 :: X0).length - s.2.2.2.2.1).toNat) ?_ _ _ ⟨Fr.refl _ _, [x0], [x0], X0, rfl, List.Perm.refl _, List.pairwise_singleton _ _, by simp, by rw [ep _ (by omega)]; rfl, by simpa using h⟩)
  rintro s u C1 ⟨hf, X1, M, X2, hX, hM, sM, hM0, rfl, hr⟩ hC1 _
  have hXl : X1.length + X2.length = (x0 :: X0).length := by rw [← hX, List.length_append]
  have hMl := hM.length_eq
  refine vIf_mk (fun hlt => ?_) (fun hge => ?_)
  · have hlt2 : ((P.length + M.length : Nat) : Int) < ((P.length + (x0 :: X0).length : Nat) : Int) := of_decide_eq_true hlt
    obtain ⟨x, X2', rfl⟩ : ∃ x r, X2 = x :: r := by
      cases X2 with
      | nil => simp at hXl hlt2; omega
      | cons x r => exact ⟨x, r, rfl⟩
    simp only [List.length_cons] at hXl hlt2 hlen
    have hbx : ∀ y ∈ M, bef y x := fun y hy => by
      rw [← hX] at hb
      exact (List.pairwise_append.1 hb).2.2 y (hM.mem_iff.1 hy) x (List.mem_cons_self ..)
    have hM1 : M.length ≠ 0 := fun h => hM0 (List.length_eq_zero_iff.1 h)
    -- x goes down
    refine jnC_mk (loop_rule (fun s v => Fr (fun k => blkOf A = some k) w v ∧ ∃ U V : List (β × Nat), U ++ V = M ∧ (∀ y ∈ V, lt cmp x y) ∧ s = ((A, n, c), ((P.length : Nat) : Int), ((P.length + (x0 :: X0).length : Nat) : Int), (), ((P.length + M.length : Nat) : Int), ((P.length + U.length : Nat) : Int), ()) ∧ RS enc v B A n c (P ++ U ++ x :: V ++ X2' ++ S))
      (fun s _ => s.2.2.2.2.2.1.toNat) ?_ _ _ ⟨hf, M, [], by simp, by simp, rfl, by simpa using hr⟩)
    rintro s v C ⟨hfv, U, V, hUV, hVx, rfl, hrv⟩ hC _
    have hUVl : U.length + V.length = M.length := by rw [← hUV, List.length_append]
    have sUV := sM
    rw [← hUV] at sUV
    obtain ⟨sU, sV, sUV2⟩ := sorted_of_app sUV
    have next : ∀ u2 : World, Fr (fun k => blkOf A = some k) w u2 → RS enc u2 B A n c (P ++ U ++ x :: V ++ X2' ++ S) → (∀ y ∈ U, lt cmp y x) → C1 ((A, n, c), ((P.length : Nat) : Int), ((P.length + (x0 :: X0).length : Nat) : Int), (), IntKind.wrap .i64 (((P.length + M.length : Nat) : Int) + 1), ()) u2 := by
      intro u2 f2 h2 hUx
      refine hC1 _ _ ⟨f2, X1 ++ [x], U ++ x :: V, X2', by rw [← hX]; simp, ?_, ?_, by simp, ?_, by simpa using h2⟩ ?_
      · refine List.perm_middle.trans ?_
        rw [hUV]
        exact (hM.cons x).trans (List.perm_append_singleton _ _).symm
      · refine sorted_app sU (List.pairwise_cons.2 ⟨hVx, sV⟩) (fun y hy z hz => ?_)
        rcases List.mem_cons.1 hz with rfl | hz
        · exact hUx y hy
        · exact sUV2 y hy z hz
      · have : (U ++ x :: V).length = M.length + 1 := by simp; omega
        rw [ep _ (by omega), this]; rfl
      · show (((P.length : Nat) : Int) + (((x0 :: X0).length : Nat) : Int) - IntKind.wrap .i64 (((P.length + M.length : Nat) : Int) + 1)).toNat < (((P.length : Nat) : Int) + (((x0 :: X0).length : Nat) : Int) - ((P.length + M.length : Nat) : Int)).toNat
        rw [ep _ (by omega), List.length_cons]; omega
    have hvd := hrv.drew
    have fvd : Fr (fun k => blkOf A = some k) w v.drew := hfv.trans1 (Fr.drew _ _)
    refine vIf_mk (fun hj => ?_) (fun hj => ?_)
    · have hj2 : ((P.length + U.length : Nat) : Int) > ((P.length : Nat) : Int) := of_decide_eq_true hj
      obtain ⟨U', z, rfl⟩ : ∃ U' z, U = U' ++ [z] := by
        have hne : U ≠ [] := by intro h; subst h; simp at hj2
        exact ⟨U.dropLast, U.getLast hne, (List.dropLast_concat_getLast hne).symm⟩
      simp only [List.length_append, List.length_cons, List.length_nil] at hUVl hj2
      have l1 : P ++ (U' ++ [z]) ++ x :: V ++ X2' ++ S = (P ++ U') ++ z :: (x :: V ++ X2' ++ S) := by simp
      have l2 : P ++ (U' ++ [z]) ++ x :: V ++ X2' ++ S = (P ++ (U' ++ [z])) ++ x :: (V ++ X2' ++ S) := by simp
      have ek : IntKind.wrap .i64 (((P.length + (U' ++ [z]).length : Nat) : Int) - 1) = ((P.length + U'.length : Nat) : Int) := by rw [e1 _ (by simp; omega) (by simp; omega)]; simp only [List.length_append, List.length_cons, List.length_nil]; omega
      have gx := fun (t : World) (ht : RS enc t B A n c (P ++ (U' ++ [z]) ++ x :: V ++ X2' ++ S)) {K : List Value → Prop} (hK : K (enc x.1)) => rs_rd h0 ht (i := P.length + (U' ++ [z]).length) (x := x) (by rw [l2]; exact get_mid (by simp)) rfl hK
      have gz := fun (t : World) (ht : RS enc t B A n c (P ++ (U' ++ [z]) ++ x :: V ++ X2' ++ S)) {K : List Value → Prop} (hK : K (enc z.1)) => rs_rd h0 ht (i := P.length + U'.length) (x := z) (by rw [l1]; exact get_mid (by simp)) ek hK
      refine gx _ hvd (gz _ hvd ((h0.call x.1 z.1 v.drew).mono ?_))
      rintro r v2 ⟨rfl, f2⟩
      have fv2 := fvd.trans1 (f2.mono (T := fun k => blkOf A = some k) (fun _ _ h => h.elim))
      have hv2 := hvd.fr0 f2
      have hzM : z ∈ M := by rw [← hUV]; simp
      have hbz := hbx z hzM
      refine ⟨_, rfl, vIf_mk (fun hc => jnC_mk (fun _ => ?_)) (fun hc => jnC_mk (next v2 fv2 hv2 (fun y hy => ?_)))⟩
      · have hxz := bef_yes h0.ord hbz (of_decide_eq_true hc)
        have hv3 := hv2.drew
        refine gz _ hv3 (gx _ hv3 ?_)
        refine rs_swap h0 hv3 (i := P.length + (U' ++ [z]).length) (j := P.length + U'.length) (x := x) (y := z) (by simp; omega) (by omega) rfl ek (fun w' hr' f' => jnC_mk (hC _ _ ⟨(fv2.trans1 (Fr.drew _ _)).trans1 f', U', z :: V, by rw [← hUV]; simp, fun y hy => ?_, ?_, ?_⟩ ?_))
        · rcases List.mem_cons.1 hy with rfl | hy
          · exact hxz
          · exact hVx y hy
        · show (_, _, _, _, _, IntKind.wrap .i64 (((P.length + (U' ++ [z]).length : Nat) : Int) - 1), ()) = _
          rw [ek]
        · rw [l2, set_mid (by simp)] at hr'
          have l3 : (P ++ (U' ++ [z])) ++ z :: (V ++ X2' ++ S) = (P ++ U') ++ z :: (z :: (V ++ X2' ++ S)) := by simp
          rw [l3, set_mid (by simp)] at hr'
          have l4 : (P ++ U') ++ x :: (z :: (V ++ X2' ++ S)) = P ++ U' ++ x :: (z :: V) ++ X2' ++ S := by simp
          rw [l4] at hr'; exact hr'
        · show (IntKind.wrap .i64 (((P.length + (U' ++ [z]).length : Nat) : Int) - 1)).toNat < (((P.length + (U' ++ [z]).length : Nat) : Int)).toNat
          rw [ek]; simp only [List.length_append, List.length_cons, List.length_nil]; omega
      · have hzx := bef_no h0.ord hbz (of_decide_eq_false hc)
        rcases List.mem_append.1 hy with hy | hy
        · refine lt_trans h0.ord ?_ hzx
          exact (sorted_of_app sU).2.2 y hy z (by simp)
        · simp at hy; subst hy; exact hzx
    · have hj2 : ¬ ((P.length + U.length : Nat) : Int) > ((P.length : Nat) : Int) := of_decide_eq_false hj
      have hU : U = [] := List.length_eq_zero_iff.1 (by omega)
      exact jnC_mk (next v.drew fvd hvd (fun y hy => by rw [hU] at hy; cases hy))
  · have hge2 : ¬ ((P.length + M.length : Nat) : Int) < ((P.length + (x0 :: X0).length : Nat) : Int) := of_decide_eq_false hge
    have hX2 : X2 = [] := List.length_eq_zero_iff.1 (by omega)
    subst hX2
    rw [List.append_nil] at hX hr
    subst hX
    exact ⟨rfl, hf, M, hM, sM, hr⟩
/-! ### the sort -/
/-- sorted blocks of k, and less than k behind them -/
structure Blk (cmp : β → β → Int) (k : Nat) (Fs : List (List (β × Nat))) (t : List (β × Nat)) : Prop where
  len : ∀ f ∈ Fs, f.length = k
  srt : ∀ f ∈ Fs, Sorted cmp f
  tl : t.length < k
  ts : Sorted cmp t
  bf : (Fs ++ [t]).Pairwise befC
set_option maxHeartbeats 2000000 in
theorem stable_calls (h0 : Srt β enc cmp) (B : Nat) (A : Option Addr) (n c : Nat) (X : List (β × Nat)) (w : World) (h : RS enc w B A n c X) (hb : X.Pairwise bef) (hn : n < 68719476736) :
    Calls Tryz.prog 93 #[.slice A n c, .int .i64 (n : Nat), cf] w fun e w' => e = .returned (.tuple #[]) ∧ Srted enc cmp w w' B A n c [] X [] := by
  refine (F93s.of A n c _ w (Q := fun v w' => v = .tuple #[] ∧ Srted enc cmp w w' B A n c [] X []) ?_).mono (fun e w' ⟨v, he, hv, h⟩ => ⟨by rw [he, hv], h⟩)
  have hXl := h.2
  -- the merges
  have merges : ∀ (u : World) (Fs : List (List (β × Nat))) (t : List (β × Nat)), Fr (fun k => blkOf A = some k) w u → (Fs.flatten ++ t).Perm X → Blk cmp 20 Fs t → RS enc u B A n c (Fs.flatten ++ t) →
      jnC (F93s.l7 (fun v w' => v = .tuple #[] ∧ Srted enc cmp w w' B A n c [] X [])) ((A, n, c), (n : Int), (), 20, ()) u := by
    intro u Fs t hf hp hB hr
    refine jnC_mk (loop_rule (fun s u => Fr (fun k => blkOf A = some k) w u ∧ ∃ (k : Nat) (Fs : List (List (β × Nat))) (t : List (β × Nat)), 20 ≤ k ∧ k ≤ 2 * n + 20 ∧ s = ((A, n, c), (n : Int), (), (k : Int), ()) ∧ (Fs.flatten ++ t).Perm X ∧ Blk cmp k Fs t ∧ RS enc u B A n c (Fs.flatten ++ t))
      (fun s _ => (2 * (n : Int) + 20 - s.2.2.2.1).toNat) ?_ _ _ ⟨hf, 20, Fs, t, by omega, by omega, rfl, hp, hB, hr⟩)
    clear hr hB hp hf
    rintro s u C7 ⟨hf, k, Fs, t, hk1, hk2, rfl, hp, hB, hr⟩ hC7 _
    refine vIf_mk (fun hlt => ?_) (fun hge => ?_)
    · have hlt2 : (k : Int) < (n : Int) := of_decide_eq_true hlt
      have e2k : IntKind.wrap .i64 (2 * (k : Int)) = ((2 * k : Nat) : Int) := by rw [i64_id (by omega) (by omega)]; omega
      have ek2 : IntKind.wrap .i64 ((k : Int) * 2) = ((2 * k : Nat) : Int) := by rw [i64_id (by omega) (by omega)]; omega
      dsimp only
      rw [e2k]
      -- behind the last merge of a round
      have done : ∀ (v : World) (Ds : List (List (β × Nat))) (t' : List (β × Nat)), Fr (fun k => blkOf A = some k) w v → (Ds.flatten ++ t').Perm X → Blk cmp (2 * k) Ds t' → RS enc v B A n c (Ds.flatten ++ t') → C7 ((A, n, c), (n : Int), (), IntKind.wrap .i64 ((k : Int) * 2), ()) v := by
        intro v Ds t' fv hp' hB' hr'
        refine hC7 _ _ ⟨fv, 2 * k, Ds, t', by omega, by omega, by rw [ek2], hp', hB', hr'⟩ ?_
        show (2 * (n : Int) + 20 - IntKind.wrap .i64 ((k : Int) * 2)).toNat < (2 * (n : Int) + 20 - (k : Int)).toNat
        rw [ek2]; omega
      refine jnC_mk (loop_rule (fun s v => Fr (fun k => blkOf A = some k) w v ∧ ∃ (Ds Fs : List (List (β × Nat))), (Ds.flatten ++ (Fs.flatten ++ t)).Perm X ∧ (∀ d ∈ Ds, d.length = 2 * k ∧ Sorted cmp d) ∧ (∀ f ∈ Fs, f.length = k ∧ Sorted cmp f) ∧ (Ds ++ (Fs ++ [t])).Pairwise befC ∧ s = ((A, n, c), (n : Int), (), (k : Int), ((Ds.flatten.length : Nat) : Int), ((Ds.flatten.length + 2 * k : Nat) : Int), ()) ∧ RS enc v B A n c (Ds.flatten ++ (Fs.flatten ++ t)))
        (fun s _ => ((n : Int) - s.2.2.2.2.1).toNat) ?_ _ _ ⟨hf, [], Fs, by simpa using hp, by simp, fun f hf => ⟨hB.len f hf, hB.srt f hf⟩, hB.bf, by simp, by simpa using hr⟩)
      have ht := hB.tl
      have hts := hB.ts
      clear hr hB hp hf
      rintro s v C9 ⟨hf, Ds, Fs, hp, hD, hF, hbf, rfl, hr⟩ hC9 _
      have hl := hr.2
      simp only [List.length_append] at hl
      have hFl := flat_len (fun f hf => (hF f hf).1)
      have eAk : IntKind.wrap .i64 (((Ds.flatten.length : Nat) : Int) + (k : Int)) = ((Ds.flatten.length + k : Nat) : Int) := ea _ _ (by omega) (by omega)
      refine vIf_mk (fun hlt => ?_) (fun hge => ?_)
      · have hlt2 : ((Ds.flatten.length + 2 * k : Nat) : Int) ≤ (n : Int) := of_decide_eq_true hlt
        obtain ⟨f1, f2, Fs', rfl⟩ : ∃ f1 f2 r, Fs = f1 :: f2 :: r := by
          match Fs, hFl with
          | [], hFl => simp only [List.flatten_nil, List.length_nil] at hFl hl; omega
          | [f], hFl => simp only [List.length_cons, List.length_nil] at hFl; omega
          | f1 :: f2 :: r, _ => exact ⟨f1, f2, r, rfl⟩
        have q1 := hF f1 (List.mem_cons_self ..)
        have q2 := hF f2 (List.mem_cons_of_mem _ (List.mem_cons_self ..))
        have hfl : Ds.flatten ++ ((f1 :: f2 :: Fs').flatten ++ t) = Ds.flatten ++ f1 ++ f2 ++ (Fs'.flatten ++ t) := by simp
        rw [hfl] at hr hp
        dsimp only
        rw [eAk]
        refine (symMerge_calls h0 B A n c (by omega) _ Ds.flatten f1 f2 (Fs'.flatten ++ t) v (Nat.le_refl _) hr q1.2 q2.2 (befC_two (Ds := Ds) (R := Fs' ++ [t]) (by simpa using hbf)) (fun h => by rw [h] at q1; have := q1.1; simp only [List.length_nil] at this; omega) (fun h => by rw [h] at q2; have := q2.1; simp only [List.length_nil] at this; omega) ((Ds.flatten.length : Nat) : Int) ((Ds.flatten.length + k : Nat) : Int) ((Ds.flatten.length + 2 * k : Nat) : Int) rfl (by rw [q1.1]) (by rw [q1.1, q2.1]; omega)).mono ?_
        rintro r v2 ⟨rfl, f', M, mM, sM, hr'⟩
        have lM : M.length = 2 * k := by rw [mM.length_eq, List.length_append, q1.1, q2.1]; omega
        have hfl2 : Ds.flatten ++ M ++ (Fs'.flatten ++ t) = (Ds ++ [M]).flatten ++ (Fs'.flatten ++ t) := by simp
        rw [hfl2] at hr'
        have lD2 : (Ds ++ [M]).flatten.length = Ds.flatten.length + 2 * k := by rw [List.flatten_append, List.flatten_cons, List.flatten_nil, List.append_nil, List.length_append, lM]
        refine ⟨rfl, jnC_mk (hC9 _ _ ⟨hf.trans1 f', Ds ++ [M], Fs', ?_, fun d hd => ?_, fun f hf => hF f (List.mem_cons_of_mem _ (List.mem_cons_of_mem _ hf)), ?_, ?_, hr'⟩ ?_)⟩
        · rw [← hfl2]
          refine List.Perm.trans ?_ hp
          simp only [List.append_assoc]
          exact (((mM.append_right _).trans (by simp)).append_left _)
        · rcases List.mem_append.1 hd with hd | hd
          · exact hD d hd
          · simp at hd; subst hd; exact ⟨lM, sM⟩
        · have := befC_merge (Ds := Ds) (R := Fs' ++ [t]) (by simpa using hbf) mM
          simpa using this
        · show (_, _, _, _, ((Ds.flatten.length + 2 * k : Nat) : Int), IntKind.wrap .i64 (((Ds.flatten.length + 2 * k : Nat) : Int) + IntKind.wrap .i64 (2 * (k : Int))), ()) = _
          rw [e2k, ea _ _ (by omega) (by omega), lD2]
        · show ((n : Int) - ((Ds.flatten.length + 2 * k : Nat) : Int)).toNat < ((n : Int) - ((Ds.flatten.length : Nat) : Int)).toNat
          omega
      · have hge2 : ¬ ((Ds.flatten.length + 2 * k : Nat) : Int) ≤ (n : Int) := of_decide_eq_false hge
        clear hC9
        dsimp only
        rw [eAk]
        have hFs : Fs.length ≤ 1 := by
          rcases Nat.lt_or_ge Fs.length 2 with h' | h'
          · omega
          · have : 2 * k ≤ Fs.length * k := Nat.mul_le_mul_right _ h'
            omega
        match Fs, hFs with
        | [], _ =>
          simp only [List.flatten_nil, List.nil_append, List.length_nil] at hr hp hl hbf
          refine vIf_f (decide_eq_false (by omega)) (jnC_mk (done v Ds t hf hp ⟨fun d hd => (hD d hd).1, fun d hd => (hD d hd).2, by omega, hts, hbf⟩ hr))
        | [f], _ =>
          have q1 := hF f (List.mem_cons_self ..)
          simp only [List.flatten_cons, List.flatten_nil, List.append_nil] at hr hp hl
          have hbf2 : (Ds ++ f :: t :: []).Pairwise befC := by simpa using hbf
          refine vIf_mk (fun hm => ?_) (fun hm => ?_)
          · have hm2 : ((Ds.flatten.length + k : Nat) : Int) < (n : Int) := of_decide_eq_true hm
            have hr2 : RS enc v B A n c (Ds.flatten ++ f ++ t ++ []) := by simpa using hr
            refine (symMerge_calls h0 B A n c (by omega) _ Ds.flatten f t [] v (Nat.le_refl _) hr2 q1.2 hts (befC_two hbf2) (fun h => by rw [h] at q1; have := q1.1; simp only [List.length_nil] at this; omega) (fun h => by rw [h] at hl; simp only [List.length_nil] at hl; omega) ((Ds.flatten.length : Nat) : Int) ((Ds.flatten.length + k : Nat) : Int) (n : Int) rfl (by rw [q1.1]) (by omega)).mono ?_
            rintro r v2 ⟨rfl, f', M, mM, sM, hr'⟩
            have lM : M.length = k + t.length := by rw [mM.length_eq, List.length_append, q1.1]
            refine ⟨rfl, jnC_mk (done v2 Ds M (hf.trans1 f') ((mM.append_left _).trans hp) ⟨fun d hd => (hD d hd).1, fun d hd => (hD d hd).2, by omega, sM, ?_⟩ (by simpa using hr'))⟩
            exact befC_merge hbf2 mM
          · have hm2 : ¬ ((Ds.flatten.length + k : Nat) : Int) < (n : Int) := of_decide_eq_false hm
            have ht0 : t = [] := List.length_eq_zero_iff.1 (by omega)
            rw [ht0, List.append_nil] at hr hp
            refine jnC_mk (done v Ds f hf hp ⟨fun d hd => (hD d hd).1, fun d hd => (hD d hd).2, by omega, q1.2, ?_⟩ hr)
            exact befC_merge hbf2 (by rw [ht0, List.append_nil])
    · have hge2 : ¬ (k : Int) < (n : Int) := of_decide_eq_false hge
      have hl := hr.2
      simp only [List.length_append] at hl
      have hFl := flat_len hB.len
      have hFs : Fs.length ≤ 1 := by
        rcases Nat.lt_or_ge Fs.length 2 with h' | h'
        · omega
        · have : 2 * k ≤ Fs.length * k := Nat.mul_le_mul_right _ h'
          omega
      match Fs, hFs with
      | [], _ =>
        simp only [List.flatten_nil, List.nil_append] at hr hp
        exact ⟨rfl, hf, t, hp, hB.ts, by simpa using hr⟩
      | [f], _ =>
        have q1 := hB.len f (List.mem_cons_self ..)
        have q2 := hB.srt f (List.mem_cons_self ..)
        simp only [List.flatten_cons, List.flatten_nil, List.append_nil] at hr hp hl
        have ht0 : t = [] := List.length_eq_zero_iff.1 (by omega)
        rw [ht0, List.append_nil] at hr hp
        exact ⟨rfl, hf, f, hp, q2, by simpa using hr⟩
  -- the blocks
  refine jnC_mk (loop_rule (fun s u => Fr (fun k => blkOf A = some k) w u ∧ ∃ (X1 X2 : List (β × Nat)) (Fs : List (List (β × Nat))), X1 ++ X2 = X ∧ Fs.flatten.Perm X1 ∧ (∀ f ∈ Fs, f.length = 20 ∧ Sorted cmp f) ∧ Fs.Pairwise befC ∧ s = ((A, n, c), (n : Int), (), 20, ((Fs.flatten.length : Nat) : Int), ((Fs.flatten.length + 20 : Nat) : Int), ()) ∧ RS enc u B A n c (Fs.flatten ++ X2))
    (fun s _ => ((n : Int) - s.2.2.2.2.1).toNat) ?_ _ _ ⟨Fr.refl _ _, [], X, [], rfl, List.Perm.refl _, by simp, List.Pairwise.nil, rfl, by simpa using h⟩)
  rintro s u C ⟨hf, X1, X2, Fs, hX, hp, hF, hbf, rfl, hr⟩ hC _
  have hl := hr.2
  simp only [List.length_append] at hl
  rw [← hX] at hb
  obtain ⟨b1, b2, b3⟩ := List.pairwise_append.1 hb
  refine vIf_mk (fun hlt => ?_) (fun hge => ?_)
  · have hlt2 : ((Fs.flatten.length + 20 : Nat) : Int) ≤ (n : Int) := of_decide_eq_true hlt
    have hX2 := List.take_append_drop 20 X2
    have lY : (X2.take 20).length = 20 := take_len (by omega)
    have b4 := b2
    rw [← hX2] at b4
    obtain ⟨b5, b6, b7⟩ := List.pairwise_append.1 b4
    have hr2 : RS enc u B A n c (Fs.flatten ++ X2.take 20 ++ X2.drop 20) := by
      rw [List.append_assoc, hX2]; exact hr
    refine (insSort_calls h0 B A n c Fs.flatten (X2.take 20) (X2.drop 20) u hr2 b5 (by omega) rfl (by rw [lY])).mono ?_
    rintro r u2 ⟨rfl, f2, M, mM, sM, hr3⟩
    have lM : M.length = 20 := by rw [mM.length_eq, lY]
    have lF : (Fs ++ [M]).flatten.length = Fs.flatten.length + 20 := by rw [List.flatten_append, List.flatten_cons, List.flatten_nil, List.append_nil, List.length_append, lM]
    refine ⟨rfl, jnC_mk (hC _ _ ⟨hf.trans1 f2, X1 ++ X2.take 20, X2.drop 20, Fs ++ [M], by rw [List.append_assoc, hX2, hX], ?_, fun f hf => ?_, ?_, ?_, by simpa using hr3⟩ ?_)⟩
    · rw [List.flatten_append, List.flatten_cons, List.flatten_nil, List.append_nil]
      exact hp.append mM
    · rcases List.mem_append.1 hf with hf | hf
      · exact hF f hf
      · simp at hf; subst hf; exact ⟨lM, sM⟩
    · refine List.pairwise_append.2 ⟨hbf, List.pairwise_singleton _ _, fun f hf m hm x hx y hy => ?_⟩
      simp at hm; subst hm
      exact b3 x (hp.mem_iff.1 (List.mem_flatten.2 ⟨f, hf, hx⟩)) y (List.mem_of_mem_take (mM.mem_iff.1 hy))
    · show (_, _, _, _, ((Fs.flatten.length + 20 : Nat) : Int), IntKind.wrap .i64 (((Fs.flatten.length + 20 : Nat) : Int) + 20), ()) = _
      rw [lF, i64_id (by omega) (by omega)]; congr 6
    · show ((n : Int) - ((Fs.flatten.length + 20 : Nat) : Int)).toNat < ((n : Int) - ((Fs.flatten.length : Nat) : Int)).toNat
      omega
  · have hge2 : ¬ ((Fs.flatten.length + 20 : Nat) : Int) ≤ (n : Int) := of_decide_eq_false hge
    refine (insSort_calls h0 B A n c Fs.flatten X2 [] u (by simpa using hr) b2 (by omega) rfl (by show (n : Int) = _; omega)).mono ?_
    rintro r u2 ⟨rfl, f2, M, mM, sM, hr3⟩
    refine ⟨rfl, merges u2 Fs M (hf.trans1 f2) ?_ ⟨fun f hf => (hF f hf).1, fun f hf => (hF f hf).2, by rw [mM.length_eq]; omega, sM, ?_⟩ (by simpa using hr3)⟩
    · rw [← hX]; exact hp.append mM
    · refine List.pairwise_append.2 ⟨hbf, List.pairwise_singleton _ _, fun f hf m hm x hx y hy => ?_⟩
      simp at hm; subst hm
      exact b3 x (hp.mem_iff.1 (List.mem_flatten.2 ⟨f, hf, hx⟩)) y (mM.mem_iff.1 hy)
/-- SortStableFunc: the row in its stable order -/
theorem sortStable_calls (h0 : Srt β enc cmp) (B : Nat) (A : Option Addr) (n c : Nat) (X : List β) (w : World) (h : Row w B 37 39 A n c (flt enc X)) (hl : X.length = n) (hn : n < 68719476736) :
    Calls Tryz.prog 51 #[.slice A n c, cf] w fun e w' => e = .returned (.tuple #[]) ∧ Fr (fun k => blkOf A = some k) w w' ∧ Row w' B 37 39 A n c (flt enc (stab cmp X)) := by
  refine (F51s.of A n c w (Q := fun v w' => v = .tuple #[] ∧ Fr (fun k => blkOf A = some k) w w' ∧ Row w' B 37 39 A n c (flt enc (stab cmp X))) ?_).mono (fun e w' ⟨v, he, hv, h⟩ => ⟨by rw [he, hv], h⟩)
  have hflt : ∀ l : List (β × Nat), flt (encT enc) l = flt enc (l.map (·.1)) := fun l => by
    unfold flt
    rw [List.map_map]
    rfl
  have hR : RS enc w B A n c (tagL X) := ⟨by rw [hflt, tagL_fst]; exact h, by simp [tagL, hl]⟩
  have hb : (tagL X).Pairwise bef := by
    unfold tagL bef
    rw [List.pairwise_iff_getElem]
    intro i j hi hj hij
    simp
    omega
  refine (stable_calls h0 B A n c (tagL X) w hR hb hn).mono ?_
  rintro r w2 ⟨rfl, f, M, mM, sM, hr⟩
  refine ⟨rfl, rfl, f, ?_⟩
  have h1 := hr.1
  rw [List.nil_append, List.append_nil, hflt, stab_of h0.ord sM mM] at h1
  exact h1
end
end Go.Proofs.YthcclmlbkfadcaaGreat.StbWd
/- slices.Insert of one: rows of api.Load -/
namespace Go.Proofs.YthcclmlbkfadcaaGreat.InsLd
open Go.GV Go.RowKit
set_option linter.unusedVariables false
set_option linter.unusedSimpArgs false
section
variable {β : Type} {enc : β → List Value}
theorem src_rec {w : World} {b : Nat} {e : TypeId} {cs : List Value} {sz : Nat} (h : RecAt w b e cs) (hl : cs.length = sz) : srcOf w sz (.slice (some ⟨b, 0, none⟩) 1 1) 1 cs :=
  ⟨rfl, by omega, fun _ => dr_mk (h.cells (o := 0) (fun j v hj => by simpa using hj))⟩
set_option maxHeartbeats 1000000 in
theorem insert_calls (h0 : EncO β enc 3) (B : Nat) (A : Option Addr) (n c i : Nat) (l : List β) (x : β) (bv : Nat) (w : World) (h : Row w B 98 3 A n c (flt enc l)) (hl : l.length = n) (hi : i ≤ n) (hv : RecAt w bv 98 (enc x)) (hA : blkOf A ≠ some bv) (hB : B ≤ w.heap.size) (hn : n ≤ 1073741824) :
    Calls Tryz.prog 83 #[.slice A n c, .int .i64 (i : Nat), .slice (some ⟨bv, 0, none⟩) 1 1] w fun e w' => ∃ A' c', e = .returned (.slice A' (n + 1) c') ∧ Fr (fun k => blkOf A = some k) w w' ∧ Row w' B 98 3 A' (n + 1) c' (flt enc (l.take i ++ x :: l.drop i)) ∧ ∀ k, blkOf A' = some k → blkOf A = some k ∨ w.heap.size ≤ k := by
  refine (F83.of A n c _ (some ⟨bv, 0, none⟩) 1 1 w (Q := fun v w' => ∃ A' c', v = .slice A' (n + 1) c' ∧ Fr (fun k => blkOf A = some k) w w' ∧ Row w' B 98 3 A' (n + 1) c' (flt enc (l.take i ++ x :: l.drop i)) ∧ ∀ k, blkOf A' = some k → blkOf A = some k ∨ w.heap.size ≤ k) ?_).mono (fun e w' ⟨v, he, A', c', hv, h⟩ => ⟨A', c', by rw [he, hv], h⟩)
  have hle := h.le
  have hx := h0.len x
  have hfl := h0.fl l
  have hsx := src_rec hv hx
  have ox := h0.one x
  have htx : (enc x).take 3 = enc x := by rw [← hx, List.take_length]
  have hlT : (flt enc (l.take i)).length = i * 3 := by rw [h0.fl, List.length_take, hl, Nat.min_eq_left hi]
  have hlD : (flt enc (l.drop i)).length = (n - i) * 3 := by rw [h0.fl, List.length_drop, hl]
  have fin : flt enc (l.take i ++ x :: l.drop i) = flt enc (l.take i) ++ enc x ++ flt enc (l.drop i) := by rw [flt_app, flt_cons, List.append_assoc]
  rw [fin]
  clear fin
  refine gd_mk (decide_eq_true (by omega)) (gd_mk (decide_eq_true (by omega)) (vIf_f rfl (vIf_mk (fun he => ?_) (fun hne => ?_))))
  · have he : (i : Int) = (n : Int) := by simpa using he
    have he : i = n := by omega
    subst he
    have ht : l.take i = l := List.take_of_length_le (by omega)
    have hd : l.drop i = [] := List.drop_of_length_le (by omega)
    refine app_row2 (us := enc x) (m := 1) h hsx ox rfl (by omega) (by omega) hB (fun A' c' w' hr' f' hb' => ⟨A', c', rfl, f', ?_, hb'⟩)
    rw [ht, hd, flt_nil, List.append_nil]
    exact hr'
  have hne : i ≠ n := fun h => by subst h; simp at hne
  obtain ⟨b, hb⟩ : ∃ b, A = some ⟨b, 0, none⟩ := by
    rcases h.at_ with ⟨_, h0, _⟩ | ⟨b, _, hA, _⟩
    · omega
    · exact ⟨b, hA⟩
  subst hb
  have hbb : b ≠ bv := fun h => hA (by rw [h]; rfl)
  have en : IntKind.wrap .i64 ((n : Int) + ((1 : Nat) : Int)) = ((n + 1 : Nat) : Int) := by rw [i64_id (by omega) (by omega)]; rfl
  have ei : IntKind.wrap .i64 ((i : Int) + ((1 : Nat) : Int)) = ((i + 1 : Nat) : Int) := by rw [i64_id (by omega) (by omega)]; rfl
  have ed : IntKind.wrap .i64 (((n + 1 : Nat) : Int) - (i : Int)) = ((n + 1 - i : Nat) : Int) := by rw [i64_id (by omega) (by omega)]; omega
  have h00 : slA (some (⟨b, 0, none⟩ : Addr)) c 0 3 = some ⟨b, 0, none⟩ := sl0 _ _ _
  simp only [en, ei, ed, h00, Int.toNat_natCast]
  refine vIf_mk (fun hgt => ?_) (fun hng => ?_)
  · have hgt : c < n + 1 := by have := of_decide_eq_true hgt; omega
    refine gd_mk (decide_eq_true (by omega)) (gd_mk (decide_eq_true (by omega)) ?_)
    have hnm : i + (n + 1 - i) = n + 1 := by omega
    refine appZ_new (m := n + 1 - i) (old := flt enc (l.take i)) (B := B) (by rw [← h0.ft l (by omega)]; exact h.sl.headS (by omega)) (by rw [i64_id (by omega) (by omega)]) (by omega) (by intro v hv; repeat (first | (cases hv; done) | (rcases List.mem_cons.1 hv with rfl | hv; · rfl))) rfl (by omega) (by omega) (by omega) hB (fun b5 c5 w5 hb5 hr5 f5 => ?_)
    rw [hnm] at hr5 ⊢
    have hzl : (zeros (n + 1 - i) ([.int .i64 0, .int .i64 0, .int .i64 0] : List Value)).length = (n + 1 - i) * 3 := by rw [zeros_length]; rfl
    refine gd_mk (decide_eq_true (by omega)) (gd_mk (decide_eq_true (by omega)) ?_)
    refine cpy_row hr5 (src_rec (hv.fr f5 (fun h => h)) hx) (by omega) (by omega) (by rw [Nat.min_eq_left (by omega), Nat.one_mul, htx]; exact ox) (fun w6 hr6 f6 => ?_)
    rw [Nat.min_eq_left (by omega), Nat.one_mul, htx, splice_at hlT] at hr6
    refine gd_mk (decide_eq_true (by omega)) (gd_mk (decide_eq_true (by omega)) (gd_mk (decide_eq_true (by omega)) (gd_mk (decide_eq_true (by omega)) ?_)))
    have hsD := h.tailS (k := i) (by omega)
    rw [h0.fd l (by omega)] at hsD
    have hbl := (h.blt (b := b) rfl).2
    have f56 : Fr (fun k => b5 = k) w w6 := (f5.mono (fun _ _ h => h.elim)).trans1 (f6.mono (fun k _ h => by simpa [blkOf] using h))
    have f7 := f56.trans1 (Fr.drew _ _)
    have hsD7 := f7.sl hsD (fun _ k hk h => by rw [sl_blk] at hk; injection hk with hk; omega)
    refine cpy_row ((Fr.drew (fun _ => False) w6).row hr6 (fun _ _ h => h)) hsD7.src (by rw [hlD]) (by omega) (by intro v hv; exact h0.fo _ v (List.mem_of_mem_take hv)) (fun w8 hr8 f8 => ⟨_, _, rfl, ?_, ?_, fun k hk => .inr (by simp [blkOf] at hk; omega)⟩)
    · exact (f7.trans1 (f8.mono (fun k _ h => by simpa [blkOf] using h))).mono (fun k hk h => by omega)
    · have hD : (flt enc (l.drop i)).take (min (n - i) (n + 1 - (i + 1)) * 3) = flt enc (l.drop i) := List.take_of_length_le (by rw [hlD, show min (n - i) (n + 1 - (i + 1)) = n - i by omega]; exact Nat.le_refl _)
      have hd0 : ((zeros (n + 1 - i) ([.int .i64 0, .int .i64 0, .int .i64 0] : List Value)).drop (enc x).length).drop (flt enc (l.drop i)).length = [] := List.drop_of_length_le (by rw [List.length_drop, hzl, hx, hlD]; omega)
      rw [hD, splice_at (by rw [List.length_append, hlT, hx]; omega), hd0, List.append_nil] at hr8
      exact hr8
  · have hng : n + 1 ≤ c := by have := of_decide_eq_false hng; omega
    have hs1 : slA (some (⟨b, 0, none⟩ : Addr)) c (i + 1) 3 = some ⟨b, (i + 1) * 3, none⟩ := slS (by omega)
    refine gd_mk (decide_eq_true (by omega)) (gd_mk (decide_eq_true (by omega)) (gd_mk (decide_eq_true (by omega)) (gd_mk (decide_eq_true (by omega)) ?_)))
    obtain ⟨cs, hcs, hcl⟩ : ∃ cs, w.heap[b]? = some (.cells cs 98 (0, 0)) ∧ cs.size = c * 3 := by
      rcases h.at_ with ⟨h1, _⟩ | ⟨b', cs, hA', _, hh, hs, _⟩
      · cases h1
      · cases hA'; exact ⟨cs, hh, hs⟩
    have hov : ∀ K : Value → World → Prop, K (.bool false) w → extC Tryz.prog 115 #[Value.slice (some ⟨bv, 0, none⟩) 1 1, Value.slice (slA (some (⟨b, 0, none⟩ : Addr)) c (i + 1) 3) (n + 1 - (i + 1)) (c - (i + 1))] w K := by
      intro K hK
      rw [hs1]
      exact overlaps_ext (tS := 28) (tR := 4) (e := 98) Tryz.func115 (by kernel_rfl) (by kernel_rfl) (by kernel_rfl) (by kernel_rfl) (size := 3) (by decide) (by kernel_rfl) hv hcs (fun h => hbb h.symm) (by omega) hK
    refine hov _ ⟨false, rfl, vIf_t rfl ?_⟩
    refine gd_mk (decide_eq_true (by omega)) (gd_mk (decide_eq_true (by omega)) (gd_mk (decide_eq_true (by omega)) (gd_mk (decide_eq_true (by omega)) ?_)))
    have hwd := (Fr.drew (fun _ => False) w).row h (fun _ _ h => h)
    obtain ⟨us, hul, hE⟩ := row_ext hwd (k := 1) (by omega)
    have hsE := hE.tailS (k := i) (by omega)
    have hEl : (flt enc l ++ us).length = (n + 1) * 3 := hE.len
    have hmin : min (n + 1 - i) (n + 1 - (i + 1)) = n - i := by omega
    have hdi : (flt enc l ++ us).drop (i * 3) = flt enc (l.drop i) ++ us := by rw [List.drop_append_of_le_length (by rw [hfl]; omega), h0.fd l (by omega)]
    rw [hdi] at hsE
    have htk : (flt enc (l.drop i) ++ us).take ((n - i) * 3) = flt enc (l.drop i) := by rw [← hlD, List.take_left]
    refine cpy_row hE hsE.src (by rw [List.length_append, hlD, hul]; omega) (by omega) (by rw [hmin, htk]; exact h0.fo _) (fun w5 hr5 f5 => ?_)
    rw [hmin, htk] at hr5
    have hsp : splice (flt enc l ++ us) ((i + 1) * 3) (flt enc (l.drop i)) = flt enc (l.take (i + 1)) ++ flt enc (l.drop i) := by
      have e1 : flt enc l ++ us = flt enc (l.take (i + 1)) ++ (flt enc (l.drop (i + 1)) ++ us) := by rw [← List.append_assoc, ← flt_app, List.take_append_drop]
      have hd0 : (flt enc (l.drop (i + 1)) ++ us).drop (flt enc (l.drop i)).length = [] := List.drop_of_length_le (by rw [List.length_append, h0.fl, List.length_drop, hl, hul, hlD]; omega)
      rw [e1, splice_at (by rw [h0.fl, List.length_take, hl, Nat.min_eq_left (by omega)]), hd0, List.append_nil]
    rw [hsp] at hr5
    have f5 : Fr (fun k => b = k) w w5 := ((Fr.drew (fun k => b = k) w).trans1 (f5.mono (fun k _ h => by simpa [blkOf] using h)))
    refine gd_mk (decide_eq_true (by omega)) (gd_mk (decide_eq_true (by omega)) ?_)
    refine cpy_row hr5 (src_rec (hv.fr f5 (fun h => hbb h)) hx) (by omega) (by omega) (by rw [Nat.min_eq_left (by omega), Nat.one_mul, htx]; exact ox) (fun w6 hr6 f6 => ⟨_, _, rfl, ?_, ?_, fun k hk => .inl hk⟩)
    · exact (f5.trans1 (f6.mono (fun k _ h => by simpa [blkOf] using h))).mono (fun k _ h => by rw [h]; rfl)
    · rw [Nat.min_eq_left (by omega), Nat.one_mul, htx] at hr6
      have e2 : l.take (i + 1) = l.take i ++ [l[i]'(by omega)] := by rw [List.take_add_one, List.getElem?_eq_getElem (by omega)]; rfl
      rw [e2, flt_app, flt_one, List.append_assoc, splice_at hlT, hx, List.drop_left' (h0.len _)] at hr6
      exact hr6
end
end Go.Proofs.YthcclmlbkfadcaaGreat.InsLd
/- slices.Clone: rows of api.Load -/
namespace Go.Proofs.YthcclmlbkfadcaaGreat.ClnLd
open Go.GV Go.RowKit
set_option linter.unusedVariables false
theorem clone_calls (A : Option Addr) (n c : Nat) (vs : List Value) (w : World) (h : Sl w 3 A n vs) (ho : ∀ v ∈ vs, v.oneCell' = true) (hn : n ≤ 1073741824) :
    Calls Tryz.prog 77 #[.slice A n c] w fun e w' => Fr (fun _ => False) w w' ∧ ∃ A' c', e = .returned (.slice A' n c') ∧ Row w' w.heap.size 98 3 A' n c' vs := by
  refine (F77.of A n c w (Q := fun v w' => Fr (fun _ => False) w w' ∧ ∃ A' c', v = .slice A' n c' ∧ Row w' w.heap.size 98 3 A' n c' vs) ?_).mono (fun e w' ⟨v, he, hf, A', c', hv, h⟩ => ⟨hf, A', c', by rw [he, hv], h⟩)
  refine vIf_mk (fun h0 => ?_) (fun h0 => nw_mk ?_)
  · have : n = 0 := by
      refine Classical.byContradiction fun hn0 => ?_
      obtain ⟨b, o, hA, _⟩ := h.2 hn0
      rw [hA] at h0; cases h0
    subst this
    have : vs = [] := List.length_eq_zero_iff.1 (by have := h.1; omega)
    subst this
    exact ⟨Fr.refl _ _, none, 0, rfl, Row.nil _ _ _ _⟩
  · have f1 : Fr (fun _ => False) w (w.alloc (.cells ([] : List Value).toArray 98)) := Fr.alloc _ _ _
    have r1 : Row (w.alloc (.cells ([] : List Value).toArray 98)) w.heap.size 98 3 (some ⟨w.heap.size, 0, none⟩) 0 0 [] := Row.new (Nat.le_refl _) rfl
    have hs : (w.alloc (.cells ([] : List Value).toArray 98)).heap.size = w.heap.size + 1 := alloc_size _ _
    generalize w.alloc (.cells ([] : List Value).toArray 98) = w1 at f1 r1 hs ⊢
    refine app_row r1 (f1.sl h (fun _ _ _ h => h)).src ho rfl (by omega) (by omega) (by omega) (fun A' c' w' hr' f' => ⟨?_, A', c', ?_, ?_⟩)
    · exact f1.trans f' (fun _ _ h => h) (fun k hk h' => by simp only [blkOf, Option.some.injEq] at h'; omega)
    · rw [Nat.zero_add]
    · rw [Nat.zero_add, List.nil_append] at hr'; exact hr'
end Go.Proofs.YthcclmlbkfadcaaGreat.ClnLd
/- ints: other, Others, Alive -/
namespace Go.Proofs.YthcclmlbkfadcaaGreat
open Go.GV Go.RowKit Go.Lib
set_option linter.unusedVariables false
set_option linter.unusedSimpArgs false
/-! ### other -/
def others (l : List Int) (x : Int) : Nat := (l.filter (fun y => decide (y ≠ x))).length
theorem oclos_calls (y x : Int) (b : Nat) (w : World) (h : RecAt w b 3 [.int .i64 x]) :
    Calls Tryz.prog 120 #[.int .i64 y, .pointer (some ⟨b, 0, none⟩)] w fun e w' => e = .returned (.bool (y != x)) ∧ w' = w :=
  (F120.of y (b, 0) w (Q := fun v w' => v = .bool (y != x) ∧ w' = w) ⟨x, h.cell rfl, rfl, rfl⟩).mono (fun e w' ⟨v, he, hv, h⟩ => ⟨by rw [he, hv], h⟩)
theorem oindex_calls (A : Option Addr) (n c : Nat) (l : List Int) (b : Nat) (x : Int) (w : World) (hs : Sl w 1 A n (ivs l)) (h : RecAt w b 3 [.int .i64 x]) (hn : n ≤ 17179869184) :
    Calls Tryz.prog 144 #[.slice A n c, .func (.func 120) #[] #[.pointer (some ⟨b, 0, none⟩)]] w fun e w' => ∃ k : Int, e = .returned (.int .i64 k) ∧ decide (k ≥ 0) = decide (others l x ≠ 0) ∧ w' = w := by
  refine (F144s.of A n c (b, 0) w (Q := fun v w' => ∃ k : Int, v = .int .i64 k ∧ decide (k ≥ 0) = decide (others l x ≠ 0) ∧ w' = w) ?_).mono (fun e w' ⟨v, he, k, hv, h⟩ => ⟨k, by rw [he, hv], h⟩)
  have hl := sl_n hs
  refine jnC_mk (loop_rule (fun s u => u = w ∧ ∃ i : Nat, i ≤ n ∧ s = ((A, n, c), (b, 0), (n : Int), (i : Int), ()) ∧ others (l.take i) x = 0) (fun s _ => (n - s.2.2.2.1).toNat) ?_ _ _ ⟨rfl, 0, by omega, rfl, rfl⟩)
  rintro s u C ⟨rfl, i, hi, rfl, hno⟩ hC _
  refine vIf_mk (fun hlt => ?_) (fun hge => ?_)
  · have hlt2 : (i : Int) < (n : Int) := of_decide_eq_true hlt
    have gi := at_lt (l := l) (i := i) (by omega)
    refine sl_rd hs (by omega) gi ((oclos_calls _ x b u h).mono ?_)
    rintro e u2 ⟨rfl, rfl⟩
    refine ⟨_, rfl, vIf_mk (fun he => ?_) (fun he => jnC_mk (hC _ _ ⟨rfl, i + 1, by omega, by rw [ei i (by omega)], ?_⟩ ?_))⟩
    · have he : l[i]'(by omega) ≠ x := by simpa using he
      refine ⟨_, rfl, ?_, rfl⟩
      rw [decide_eq_true (p := others l x ≠ 0)]
      · exact decide_eq_true (by show (i : Int) ≥ 0; omega)
      · intro h0
        have h1 := List.length_eq_zero_iff.1 h0
        have h2 : l[i]'(by omega) ∈ l.filter (fun y => decide (y ≠ x)) := List.mem_filter.2 ⟨mem_of_at gi, by simpa using he⟩
        rw [h1] at h2
        cases h2
    · have he : l[i]'(by omega) = x := by simpa using he
      rw [take_succ_at gi]
      unfold others at hno ⊢
      rw [List.filter_append, List.length_append, hno, List.filter_cons_of_neg (by simpa using he)]
      rfl
    · show ((n : Int) - IntKind.wrap .i64 ((i : Int) + 1)).toNat < ((n : Int) - (i : Int)).toNat
      rw [ei i (by omega)]; omega
  · have hge2 : ¬ (i : Int) < (n : Int) := of_decide_eq_false hge
    rw [List.take_of_length_le (by omega)] at hno
    exact ⟨-1, rfl, by rw [hno]; rfl, rfl⟩
theorem other_calls (A : Option Addr) (n c : Nat) (l : List Int) (x : Int) (w : World) (hs : Sl w 1 A n (ivs l)) (hn : n ≤ 17179869184) :
    Calls Tryz.prog 92 #[.slice A n c, .int .i64 x] w fun e w' => e = .returned (.bool (decide (others l x ≠ 0))) ∧ Fr (fun _ => False) w w' := by
  refine (F92.of A n c x w (Q := fun v w' => v = .bool (decide (others l x ≠ 0)) ∧ Fr (fun _ => False) w w') ?_).mono (fun e w' ⟨v, he, hv, h⟩ => ⟨by rw [he, hv], h⟩)
  refine nw_mk ?_
  have f1 : Fr (fun _ => False) w (w.alloc (.cells [Value.int .i64 x].toArray 3)) := Fr.alloc _ _ _
  have r1 := RecAt.new w [Value.int .i64 x] 3
  generalize w.alloc (.cells [Value.int .i64 x].toArray 3) = w1 at f1 r1 ⊢
  refine (F119s.of A n c (w.heap.size, 0) w1 (Q := fun v w' => v = .bool (decide (others l x ≠ 0)) ∧ Fr (fun _ => False) w w') ?_).mono ?_
  · refine (oindex_calls A n c l w.heap.size x w1 (f1.sl hs (fun _ _ _ h => h)) r1 hn).mono ?_
    rintro e w2 ⟨k, rfl, hk, rfl⟩
    exact ⟨_, rfl, by rw [hk], f1⟩
  · rintro e w2 ⟨v, rfl, rfl, f2⟩
    exact ⟨_, rfl, rfl, f2⟩
/-! ### left -/
end Go.Proofs.YthcclmlbkfadcaaGreat
/- entries: Alive -/
namespace Go.Proofs.YthcclmlbkfadcaaGreat
open Go.GV Go.RowKit Go.Lib
set_option linter.unusedVariables false
set_option linter.unusedSimpArgs false
def liveE (e : En) : Bool := !(e.k == 5) || decide (others e.l e.s ≠ 0)
theorem alive_calls (e : En) (x0 : List Value) (w : World) (h : EnAt w x0 e) (hn : e.l.length ≤ 8589934592) :
    Calls Tryz.prog 48 #[ofL x0] w fun r w' => r = .returned (.bool (liveE e)) ∧ Fr (fun _ => False) w w' := by
  refine (F48.of x0 w (Q := fun v w' => v = .bool (liveE e) ∧ Fr (fun _ => False) w w') ?_).mono (fun e w' ⟨v, he, hv, h⟩ => ⟨by rw [he, hv], h⟩)
  obtain ⟨A, n, c, rfl, hs, hd⟩ := h
  have hl := sl_n hs
  refine nw_mk ?_
  have f : Fr (fun _ => False) w (w.alloc (.cells (e.cs A n c).toArray 48)) := Fr.alloc _ _ _
  have r1 : RecAt (w.alloc (.cells (e.cs A n c).toArray 48)) w.heap.size 48 ([] ++ (e.d.map bv ++ [.int .i64 e.k, .int .i64 e.z, .int .i64 e.s, .int .i64 e.o, .int .i64 e.q, .slice A n c])) := RecAt.new _ _ _
  generalize w.alloc (.cells (e.cs A n c).toArray 48) = u at f r1 ⊢
  refine ⟨e.k, rec_end r1 (bvl hd) (j := 0) rfl rfl, vIf_mk (fun h1 => ⟨?_, f⟩) (fun h1 => ?_)⟩
  · have : liveE e = true := by unfold liveE; rw [show (!(e.k == 5)) = true from h1]; rfl
    rw [this]
  · refine ⟨A, n, c, rec_end r1 (bvl hd) (j := 5) rfl rfl, e.s, rec_end r1 (bvl hd) (j := 2) rfl rfl, (other_calls A n c e.l e.s u (sl_fr hs f) (by omega)).mono ?_⟩
    rintro r u2 ⟨rfl, f2⟩
    have : liveE e = decide (others e.l e.s ≠ 0) := by unfold liveE; rw [show (!(e.k == 5)) = false from h1]; rfl
    exact ⟨_, rfl, by rw [this], f.trans1 f2⟩
end Go.Proofs.YthcclmlbkfadcaaGreat
/- names entries: Alive -/
namespace Go.Proofs.YthcclmlbkfadcaaGreat.Tg
open Go.GV Go.RowKit Go.Lib
set_option linter.unusedVariables false
set_option linter.unusedSimpArgs false
def liveT (e : Tn) : Bool := !e.g || decide (others e.l e.s ≠ 0)
theorem aliveT_calls (e : Tn) (x0 : List Value) (w : World) (h : TnAt w x0 e) (hn : e.l.length ≤ 8589934592) :
    Calls Tryz.prog 49 #[ofL x0] w fun r w' => r = .returned (.bool (liveT e)) ∧ Fr (fun _ => False) w w' := by
  refine (F49.of x0 w (Q := fun v w' => v = .bool (liveT e) ∧ Fr (fun _ => False) w w') ?_).mono (fun e w' ⟨v, he, hv, h⟩ => ⟨by rw [he, hv], h⟩)
  obtain ⟨A, n, c, rfl, hs, hd⟩ := h
  have hl := sl_n hs
  refine nw_mk ?_
  have f : Fr (fun _ => False) w (w.alloc (.cells (e.cs A n c).toArray 53)) := Fr.alloc _ _ _
  have r1 : RecAt (w.alloc (.cells (e.cs A n c).toArray 53)) w.heap.size 53 ([.string e.nm] ++ (e.d.map bv ++ [.bool e.g, .int .i64 e.s, .int .i64 e.o, .int .i64 e.q, .slice A n c])) := RecAt.new _ _ _
  generalize w.alloc (.cells (e.cs A n c).toArray 53) = u at f r1 ⊢
  refine ⟨e.g, rec_end r1 (bvl hd) (j := 0) rfl rfl, vIf_mk (fun h1 => ⟨?_, f⟩) (fun h1 => ?_)⟩
  · have : liveT e = true := by unfold liveT; rw [h1]; rfl
    rw [this]
  · refine ⟨A, n, c, rec_end r1 (bvl hd) (j := 4) rfl rfl, e.s, rec_end r1 (bvl hd) (j := 1) rfl rfl, (other_calls A n c e.l e.s u (sl_fr hs f) (by omega)).mono ?_⟩
    rintro r u2 ⟨rfl, f2⟩
    have : liveT e = decide (others e.l e.s ≠ 0) := by unfold liveT; rw [h1]; rfl
    exact ⟨_, rfl, by rw [this], f.trans1 f2⟩
end Go.Proofs.YthcclmlbkfadcaaGreat.Tg
/- chapter 22, plainly: loads; words that live in a segment -/
namespace Go.Proofs.YthcclmlbkfadcaaGreat
open Go.GV Go.RowKit Go.Lib Go.Stb
open Tg (Tn liveT)
set_option linter.unusedVariables false
set_option linter.unusedSimpArgs false
/-! ### loads -/
structure Lo where
  s : Int
  a : Int
  v : Int
def encL (x : Lo) : List Value := [.int .i64 x.s, .int .i64 x.a, .int .i64 x.v]
theorem encL_o : EncO Lo encL 3 := ⟨fun _ => rfl, fun x v hv => by simp [encL] at hv; rcases hv with rfl | rfl | rfl <;> rfl⟩
def AscL (l : List Lo) : Prop := l.Pairwise (fun a b => a.s < b.s)
def setL (s n : Int) : List Lo → List Lo
  | [] => [⟨s, n, 0⟩]
  | y :: r => if s < y.s then ⟨s, n, 0⟩ :: y :: r else if s = y.s then ⟨s, n, y.v⟩ :: r else y :: setL s n r
def oldL (s : Int) : List Lo → Int
  | [] => 0
  | y :: r => if y.s = s then y.a else oldL s r
theorem setL_mem {s n : Int} {z : Lo} : ∀ {l}, z ∈ setL s n l → z.s = s ∨ z ∈ l
  | [], h => by simp [setL] at h; subst h; exact .inl rfl
  | y :: r, h => by
    rw [setL] at h
    split at h
    · rcases List.mem_cons.1 h with rfl | h
      · exact .inl rfl
      · exact .inr h
    · split at h
      · rcases List.mem_cons.1 h with rfl | h
        · exact .inl rfl
        · exact .inr (List.mem_cons_of_mem _ h)
      · rcases List.mem_cons.1 h with rfl | h
        · exact .inr (List.mem_cons_self ..)
        · exact (setL_mem h).imp id (List.mem_cons_of_mem _)
theorem setL_asc (s n : Int) : ∀ {l}, AscL l → AscL (setL s n l)
  | [], _ => List.pairwise_singleton _ _
  | y :: r, h => by
    have c := List.pairwise_cons.1 h
    rw [setL]
    split
    · rename_i h1
      refine List.pairwise_cons.2 ⟨fun z hz => ?_, h⟩
      rcases List.mem_cons.1 hz with rfl | hz
      · exact h1
      · have := c.1 z hz; show s < z.s; omega
    · split
      · rename_i h1 h2
        exact List.pairwise_cons.2 ⟨fun z hz => by have := c.1 z hz; show s < z.s; omega, c.2⟩
      · rename_i h1 h2
        refine List.pairwise_cons.2 ⟨fun z hz => ?_, setL_asc s n c.2⟩
        rcases setL_mem hz with h3 | hz
        · rw [h3]; omega
        · exact c.1 z hz
theorem setL_len (s n : Int) : ∀ l, (setL s n l).length ≤ l.length + 1
  | [] => by simp [setL]
  | y :: r => by
    have := setL_len s n r
    rw [setL]
    split
    · simp
    · split <;> simp <;> omega
theorem setL_app {s n : Int} : ∀ {U : List Lo} (V : List Lo), (∀ z ∈ U, z.s < s) → setL s n (U ++ V) = U ++ setL s n V
  | [], V, _ => rfl
  | y :: r, V, h => by
    have h1 := h y (List.mem_cons_self ..)
    rw [List.cons_append, setL, if_neg (by omega), if_neg (by omega), setL_app V (fun z hz => h z (List.mem_cons_of_mem _ hz))]
    rfl
theorem setL_lt {s n : Int} : ∀ {l : List Lo}, (∀ z ∈ l, s < z.s) → setL s n l = ⟨s, n, 0⟩ :: l
  | [], _ => rfl
  | y :: r, h => by rw [setL, if_pos (h y (List.mem_cons_self ..))]
theorem oldL_none {s : Int} : ∀ {l : List Lo}, (∀ z ∈ l, z.s ≠ s) → oldL s l = 0
  | [], _ => rfl
  | y :: r, h => by rw [oldL, if_neg (h y (List.mem_cons_self ..)), oldL_none (fun z hz => h z (List.mem_cons_of_mem _ hz))]
theorem oldL_app {s : Int} : ∀ {U : List Lo} (V : List Lo), (∀ z ∈ U, z.s ≠ s) → oldL s (U ++ V) = oldL s V
  | [], V, _ => rfl
  | y :: r, V, h => by
    rw [List.cons_append, oldL, if_neg (h y (List.mem_cons_self ..)), oldL_app V (fun z hz => h z (List.mem_cons_of_mem _ hz))]
/-- what is laid has no live bytes of its own -/
def ZL (l : List Lo) : Prop := ∀ x ∈ l, x.v = 0
theorem setL_z {s n : Int} : ∀ {l}, ZL l → ZL (setL s n l)
  | [], _ => fun x hx => by simp [setL] at hx; subst hx; rfl
  | y :: r, h => by
    have h1 := h y (List.mem_cons_self ..)
    have ih := setL_z (s := s) (n := n) (l := r) (fun x hx => h x (List.mem_cons_of_mem _ hx))
    intro x hx
    rw [setL] at hx
    split at hx
    · rcases List.mem_cons.1 hx with rfl | hx
      · rfl
      · exact h x hx
    · split at hx
      · rcases List.mem_cons.1 hx with rfl | hx
        · exact h1
        · exact h x (List.mem_cons_of_mem _ hx)
      · rcases List.mem_cons.1 hx with rfl | hx
        · exact h1
        · exact ih x hx
/-! where a segment lies -/
def PlL (s : Int) (i : Nat) (l : List Lo) : Prop := i ≤ l.length ∧ (∀ x ∈ l.take i, x.s < s) ∧ ∀ x ∈ l.drop i, ¬ x.s < s
def isL (s : Int) (i : Nat) (l : List Lo) : Bool := match l[i]? with | some x => decide (x.s = s) | none => false
theorem isL_at {s : Int} {i : Nat} {l : List Lo} (h : isL s i l = true) : ∃ x, l[i]? = some x ∧ x.s = s := by
  unfold isL at h
  split at h
  · rename_i x hx; exact ⟨x, hx, of_decide_eq_true h⟩
  · cases h
theorem drop_at {α : Type} {l : List α} {i : Nat} {x : α} (h : l[i]? = some x) : l.drop i = x :: l.drop (i + 1) := by
  obtain ⟨h1, rfl⟩ := List.getElem?_eq_some_iff.1 h
  exact List.drop_eq_getElem_cons h1
theorem plL_gt {s : Int} {i : Nat} {l : List Lo} (hp : PlL s i l) (ha : AscL l) (hi : isL s i l = false) : ∀ x ∈ l.drop i, s < x.s := by
  intro x hx
  cases hd : l.drop i with
  | nil => rw [hd] at hx; cases hx
  | cons y r =>
    have hy : l[i]? = some y := by
      have := congrArg (·[0]?) hd
      simpa using this
    have hne : y.s ≠ s := by
      unfold isL at hi
      rw [hy] at hi
      exact of_decide_eq_false hi
    have hyl := hp.2.2 y (by rw [hd]; exact List.mem_cons_self ..)
    rw [hd] at hx
    rcases List.mem_cons.1 hx with rfl | hx
    · omega
    · have hsub : AscL (y :: r) := by rw [← hd]; exact ha.sublist (List.drop_sublist _ _)
      have := (List.pairwise_cons.1 hsub).1 x hx
      omega
theorem setL_in {s n : Int} {i : Nat} {l : List Lo} {x : Lo} (hp : PlL s i l) (hx : l[i]? = some x) (hs : x.s = s) : setL s n l = l.set i ⟨s, n, x.v⟩ ∧ (AscL l → oldL s l = x.a) := by
  have hi := (List.getElem?_eq_some_iff.1 hx).1
  constructor
  · conv => lhs; rw [← List.take_append_drop i l]
    rw [setL_app _ hp.2.1, drop_at hx, setL, if_neg (by omega), if_pos hs.symm, List.set_eq_take_append_cons_drop, if_pos hi]
  · intro _
    conv => lhs; rw [← List.take_append_drop i l]
    rw [oldL_app _ (fun z hz => by have := hp.2.1 z hz; omega), drop_at hx, oldL, if_pos hs]
theorem setL_out {s n : Int} {i : Nat} {l : List Lo} (hp : PlL s i l) (ha : AscL l) (hi : isL s i l = false) : setL s n l = l.take i ++ ⟨s, n, 0⟩ :: l.drop i ∧ oldL s l = 0 := by
  constructor
  · conv => lhs; rw [← List.take_append_drop i l]
    rw [setL_app _ hp.2.1, setL_lt (plL_gt hp ha hi)]
  · conv => lhs; rw [← List.take_append_drop i l]
    rw [oldL_app _ (fun z hz => by have := hp.2.1 z hz; omega), oldL_none (fun z hz => by have := plL_gt hp ha hi z hz; omega)]
/-! the document's load -/
def loS (s n : Int) (p : Bool) (st : List Lo × Bool) (x : Lo) : List Lo × Bool :=
  if x.s = s then ((if st.2 = false ∧ s < x.s then (st.1 ++ [⟨s, n, 0⟩], true) else st).1 ++ [⟨x.s, wr ((if p then 0 else x.a) + n), x.v⟩], true)
  else ((if st.2 = false ∧ s < x.s then (st.1 ++ [⟨s, n, 0⟩], true) else st).1 ++ [x], (if st.2 = false ∧ s < x.s then (st.1 ++ [⟨s, n, 0⟩], true) else st).2)
def loE (s n : Int) (st : List Lo × Bool) : List Lo := if st.2 = true then st.1 else st.1 ++ [⟨s, n, 0⟩]
/-- the load behind: just so many bytes, or so many more -/
def newA (s n : Int) (p : Bool) (l : List Lo) : Int := wr ((if p then 0 else oldL s l) + n)
/-! ### words -/
def wdE (e : En) : Wd := ⟨e.k, 0, e.d, ⟨#[]⟩, e.z, e.s, e.o, e.q⟩
def wdT (e : Tn) : Wd := ⟨if e.g then 4 else 3, 0, e.d, e.nm, 0, e.s, e.o, e.q⟩
def herE (s : Int) (l : List En) : List Wd := (l.filter (fun e => decide (e.s = s) && liveE e)).map wdE
def herT (s : Int) (l : List Tn) : List Wd := (l.filter (fun e => decide (e.s = s) && liveT e)).map wdT
def cmpO (a b : Wd) : Int := if a.o < b.o then -1 else if a.o > b.o then 1 else 0
theorem cmpO_le (a b : Wd) : cmpO a b ≤ 0 ↔ a.o ≤ b.o := by
  unfold cmpO
  (repeat' split) <;> omega
theorem cmpO_ord : OrdC cmpO := ⟨fun a b => by unfold cmpO; (repeat' split) <;> omega, fun a b c h1 h2 => by
  rw [cmpO_le] at h1 h2 ⊢
  omega⟩
def herL (s : Int) (lE : List En) (lT : List Tn) : List Wd := stab cmpO (herE s lE ++ herT s lT)
theorem herE_step {s : Int} {l : List En} {i : Nat} {e : En} (h : l[i]? = some e) : herE s (l.take (i + 1)) = if e.s = s ∧ liveE e = true then herE s (l.take i) ++ [wdE e] else herE s (l.take i) := by
  unfold herE
  rw [List.take_add_one, h, Option.toList_some, List.filter_append, List.map_append]
  split
  · rename_i h1; rw [List.filter_cons_of_pos (by simpa using h1)]; rfl
  · rename_i h1; rw [List.filter_cons_of_neg (by simpa using h1)]; simp
theorem herT_step {s : Int} {l : List Tn} {i : Nat} {e : Tn} (h : l[i]? = some e) : herT s (l.take (i + 1)) = if e.s = s ∧ liveT e = true then herT s (l.take i) ++ [wdT e] else herT s (l.take i) := by
  unfold herT
  rw [List.take_add_one, h, Option.toList_some, List.filter_append, List.map_append]
  split
  · rename_i h1; rw [List.filter_cons_of_pos (by simpa using h1)]; rfl
  · rename_i h1; rw [List.filter_cons_of_neg (by simpa using h1)]; simp
theorem herE_len (s : Int) (l : List En) : (herE s l).length ≤ l.length := by
  unfold herE
  rw [List.length_map]; exact List.length_filter_le _ _
theorem herT_len (s : Int) (l : List Tn) : (herT s l).length ≤ l.length := by
  unfold herT
  rw [List.length_map]; exact List.length_filter_le _ _
def sumQ (l : List Wd) : Int := l.foldl (fun a x => wr (a + x.q)) 0
theorem sumQ_step {l : List Wd} {i : Nat} {x : Wd} (h : l[i]? = some x) : sumQ (l.take (i + 1)) = wr (sumQ (l.take i) + x.q) := by
  unfold sumQ
  rw [List.take_add_one, h, Option.toList_some, List.foldl_append]; rfl
def loadsL (lE : List En) (lT : List Tn) (lL : List Lo) : List Lo := lL.map (fun x => ⟨x.s, x.a, sumQ (herL x.s lE lT)⟩)
end Go.Proofs.YthcclmlbkfadcaaGreat
/- chapter 22: a state, as it lies; where a segment's load stands; set -/
namespace Go.Proofs.YthcclmlbkfadcaaGreat
open Go.GV Go.RowKit Go.Lib Go.Stb
open Tg (Tn liveT)
set_option linter.unusedVariables false
set_option linter.unusedSimpArgs false
theorem l_rd {w : World} {A : Option Addr} {n : Nat} {l : List Lo} (h : Sl w 3 A n (flt encL l)) (hl : l.length = n) {i : Nat} {x : Lo} (hi : l[i]? = some x) {ii : Int} (hii : ii = (i : Int)) {K : List Value → Prop} (hK : K (encL x)) :
    dr A fun b o => gd (decide (0 ≤ ii)) (gd (decide (ii < ((n : Nat) : Int))) (ldA 3 w b (o + ii.toNat * 3) K)) :=
  el_rd h (fun x _ => rfl) hi hii hl (fun b o hA hc => ⟨encL x, rfl, hc, hK⟩)
theorem l_rdS {w : World} {A : Option Addr} {n : Nat} {l : List Lo} (h : Sl w 3 A n (flt encL l)) (hl : l.length = n) {i : Nat} {x : Lo} (hi : l[i]? = some x) {ii : Int} (hii : ii = (i : Int)) {K : Int → Prop} (hK : K x.s) :
    dr A fun b o => gd (decide (0 ≤ ii)) (gd (decide (ii < ((n : Nat) : Int))) (ldI .i64 w b (o + ii.toNat * 3) K)) :=
  el_rd h (fun x _ => rfl) hi hii hl (fun b o hA hc => ⟨x.s, hc 0 _ rfl, hK⟩)
theorem l_rdA {w : World} {A : Option Addr} {n : Nat} {l : List Lo} (h : Sl w 3 A n (flt encL l)) (hl : l.length = n) {i : Nat} {x : Lo} (hi : l[i]? = some x) {ii : Int} (hii : ii = (i : Int)) {K : Int → Prop} (hK : K x.a) :
    dr A fun b o => gd (decide (0 ≤ ii)) (gd (decide (ii < ((n : Nat) : Int))) (ldI .i64 w b ((o + ii.toNat * 3) + 1) K)) :=
  el_rd h (fun x _ => rfl) hi hii hl (fun b o hA hc => ⟨x.a, hc 1 _ rfl, hK⟩)
def cmpI (a b : Int) : Int := if a < b then -1 else if a > b then 1 else 0
theorem cmpI_calls (a b : Int) (w : World) : Calls Tryz.prog 53 #[.int .i64 a, .int .i64 b] w fun e w' => e = .returned (.int .i64 (cmpI a b)) ∧ w' = w := by
  have nan : ∀ (x : Int) (w : World), Calls Tryz.prog 94 #[.int .i64 x] w fun e w' => e = .returned (.bool false) ∧ w' = w := fun x w =>
    (F94.of x w (Q := fun v w' => v = .bool false ∧ w' = w) ⟨by simp, rfl⟩).mono (fun e w' ⟨v, he, hv, h⟩ => ⟨by rw [he, hv], h⟩)
  refine (F53.of a b w (Q := fun v w' => v = .int .i64 (cmpI a b) ∧ w' = w) ?_).mono (fun e w' ⟨v, he, hv, h⟩ => ⟨by rw [he, hv], h⟩)
  refine (nan a w).mono ?_
  rintro e w1 ⟨rfl, rfl⟩
  refine ⟨_, rfl, (nan b _).mono ?_⟩
  rintro e w2 ⟨rfl, rfl⟩
  refine ⟨_, rfl, vIf_f rfl (vIf_f rfl (vIf_mk (fun h => ⟨?_, rfl⟩) (fun h => vIf_mk (fun h2 => ⟨?_, rfl⟩) (fun h2 => ⟨?_, rfl⟩))))⟩
  · unfold cmpI; rw [if_pos (of_decide_eq_true h)]
  · unfold cmpI; rw [if_neg (of_decide_eq_false h), if_pos (of_decide_eq_true h2)]
  · unfold cmpI; rw [if_neg (of_decide_eq_false h), if_neg (of_decide_eq_false h2)]
theorem pl1_calls (x : Lo) (s : Int) (w : World) :
    Calls Tryz.prog 90 #[ofL (encL x), .int .i64 s] w fun e w' => e = .returned (.int .i64 (cmpI x.s s)) ∧ Fr (fun _ => False) w w' := by
  refine (F90.of _ s w (Q := fun v w' => v = .int .i64 (cmpI x.s s) ∧ Fr (fun _ => False) w w') ?_).mono (fun e w' ⟨v, he, hv, h⟩ => ⟨by rw [he, hv], h⟩)
  refine nw_mk ?_
  have f1 : Fr (fun _ => False) w (w.alloc (.cells (encL x).toArray 98)) := Fr.alloc _ _ _
  have r1 := RecAt.new w (encL x) 98
  generalize w.alloc (.cells (encL x).toArray 98) = w1 at f1 r1 ⊢
  refine ⟨x.s, r1.cell rfl, (cmpI_calls x.s s w1).mono ?_⟩
  rintro r w2 ⟨rfl, rfl⟩
  exact ⟨_, rfl, rfl, f1⟩
theorem mem_take_ltL {α : Type} {l : List α} {i : Nat} {x : α} (h : x ∈ l.take i) : ∃ j, j < i ∧ l[j]? = some x := by
  obtain ⟨j, hj⟩ := List.mem_iff_getElem?.1 h
  rw [List.getElem?_take] at hj
  split at hj
  · exact ⟨j, by assumption, hj⟩
  · cases hj
theorem mem_drop_geL {α : Type} {l : List α} {i : Nat} {x : α} (h : x ∈ l.drop i) : ∃ j, i ≤ j ∧ l[j]? = some x := by
  obtain ⟨j, hj⟩ := List.mem_iff_getElem?.1 h
  rw [List.getElem?_drop] at hj
  exact ⟨i + j, by omega, hj⟩
theorem ascL_lt {l : List Lo} (h : AscL l) {i j : Nat} {x y : Lo} (hi : l[i]? = some x) (hj : l[j]? = some y) (hij : i < j) : x.s < y.s := by
  obtain ⟨h1, rfl⟩ := List.getElem?_eq_some_iff.1 hi
  obtain ⟨h2, rfl⟩ := List.getElem?_eq_some_iff.1 hj
  exact (List.pairwise_iff_getElem.1 h) i j h1 h2 hij
theorem bsL_calls (A : Option Addr) (n c : Nat) (l : List Lo) (s : Int) (w : World) (h : Sl w 3 A n (flt encL l)) (hl : l.length = n) (ha : AscL l) (hn : n ≤ 17179869184) :
    Calls Tryz.prog 89 #[.slice A n c, .int .i64 s, .func (.func 90) #[] #[]] w fun e w' => Fr (fun _ => False) w w' ∧ ∃ i : Nat, e = .returned (.tuple #[.int .i64 i, .bool (isL s i l)]) ∧ PlL s i l := by
  refine (F89s.of A n c s w (Q := fun v w' => Fr (fun _ => False) w w' ∧ ∃ i : Nat, v = .tuple #[.int .i64 i, .bool (isL s i l)] ∧ PlL s i l) ?_).mono (fun e w' ⟨v, he, hf, i, hv, h⟩ => ⟨hf, i, by rw [he, hv], h⟩)
  refine jnC_mk (loop_rule (fun t u => Fr (fun _ => False) w u ∧ ∃ i j : Nat, i ≤ j ∧ j ≤ n ∧ t = ((A, n, c), s, (), (n : Int), (i : Int), (j : Int), ()) ∧ (∀ x ∈ l.take i, x.s < s) ∧ ∀ x ∈ l.drop j, ¬ x.s < s)
    (fun t _ => (t.2.2.2.2.2.1 - t.2.2.2.2.1).toNat) ?_ _ _ ⟨Fr.refl _ _, 0, n, by omega, by omega, rfl, by simp, by rw [List.drop_of_length_le (by omega)]; intro x hx; cases hx⟩)
  rintro t u C ⟨hf, i, j, hij, hjn, rfl, hlo, hhi⟩ hC _
  have hsl := fun (v : World) (f : Fr (fun _ => False) w v) => f.sl h (fun _ _ _ h => h)
  refine vIf_mk (fun hlt => ?_) (fun hge => ?_)
  · have hlt2 : (i : Int) < (j : Int) := of_decide_eq_true hlt
    have em : IntKind.wrap .i64 (Int.fdiv (IntKind.wrap .u64 (IntKind.wrap .i64 ((i : Int) + (j : Int)))) (2 ^ 1)) = (((i + j) / 2 : Nat) : Int) := by
      rw [i64_id (n := (i : Int) + (j : Int)) (by omega) (by omega), IntKind.wrap_u64, Int.fdiv_eq_ediv_of_nonneg _ (by decide), i64_id (by omega) (by omega)]; omega
    have gi : l[(i + j) / 2]? = some (l[(i + j) / 2]'(by omega)) := List.getElem?_eq_getElem (by omega)
    generalize l[(i + j) / 2]'(by omega) = x at gi
    dsimp only
    rw [em]
    refine l_rd (hsl u hf) hl gi rfl ((pl1_calls x s u).mono ?_)
    rintro r u2 ⟨rfl, f2⟩
    have hcm : (cmpI x.s s < 0) ↔ x.s < s := by unfold cmpI; (repeat' split) <;> omega
    refine ⟨_, rfl, vIf_mk (fun h1 => jnC_mk (hC _ _ ⟨hf.trans1 f2, (i + j) / 2 + 1, j, by omega, hjn, by rw [ei _ (by omega)], fun y hy => ?_, hhi⟩ ?_)) (fun h1 => jnC_mk (hC _ _ ⟨hf.trans1 f2, i, (i + j) / 2, by omega, by omega, rfl, hlo, fun y hy => ?_⟩ ?_))⟩
    · have h1 := hcm.1 (of_decide_eq_true h1)
      obtain ⟨q, hq, hy⟩ := mem_take_ltL hy
      by_cases hqm : q = (i + j) / 2
      · rw [hqm] at hy; rw [gi] at hy; injection hy with hy; subst hy; exact h1
      · have := ascL_lt ha hy gi (by omega); omega
    · show ((j : Int) - IntKind.wrap .i64 ((((i + j) / 2 : Nat) : Int) + 1)).toNat < ((j : Int) - (i : Int)).toNat
      rw [ei _ (by omega)]; omega
    · have h1 : ¬ x.s < s := fun h => (of_decide_eq_false h1) (hcm.2 h)
      obtain ⟨q, hq, hy⟩ := mem_drop_geL hy
      by_cases hqm : q = (i + j) / 2
      · rw [hqm] at hy; rw [gi] at hy; injection hy with hy; subst hy; exact h1
      · have := ascL_lt ha gi hy (by omega); omega
    · show ((((i + j) / 2 : Nat) : Int) - (i : Int)).toNat < ((j : Int) - (i : Int)).toNat
      omega
  · have hge2 : ¬ (i : Int) < (j : Int) := of_decide_eq_false hge
    have hij2 : i = j := by omega
    subst hij2
    have hpl : PlL s i l := ⟨by omega, hlo, hhi⟩
    refine vIf_mk (fun h1 => ?_) (fun h1 => ?_)
    · have h1 : (i : Int) < (n : Int) := of_decide_eq_true h1
      have gi : l[i]? = some (l[i]'(by omega)) := List.getElem?_eq_getElem (by omega)
      generalize l[i]'(by omega) = x at gi
      refine l_rd (hsl u hf) hl gi rfl ((pl1_calls x s u).mono ?_)
      rintro r u2 ⟨rfl, f2⟩
      refine ⟨_, rfl, hf.trans1 f2, i, ?_, hpl⟩
      have : isL s i l = (cmpI x.s s == 0) := by
        unfold isL cmpI
        rw [gi, Bool.eq_iff_iff, decide_eq_true_iff, beq_iff_eq]
        (repeat' split) <;> omega
      rw [this]
    · have h1 : ¬ (i : Int) < (n : Int) := of_decide_eq_false h1
      refine ⟨hf, i, ?_, hpl⟩
      have : isL s i l = false := by
        unfold isL
        rw [List.getElem?_eq_none (by omega)]
      rw [this]
/-! ### a state -/
structure SD where
  ib : Nat
  bt : Nat
  bs : Nat
  N : Nat
  p : Nat
  S : Slo.SRow
  lE : List En
  tb : Nat
  R : Option Addr
  nT : Nat
  cT : Nat
  lT : List Tn
  L : Option Addr
  nL : Nat
  cL : Nat
  lL : List Lo
  Z : Nat → Prop
def SD.I (d : SD) : Nat → Prop := DI d.ib d.bt d.bs
def SD.T (d : SD) : Nat → Prop := Tg.DT d.tb d.R
def SD.XI (d : SD) (sb : Nat) : Nat → Prop := fun k => k ≠ sb ∧ ¬ d.T k ∧ blkOf d.L ≠ some k ∧ ¬ d.Z k
def SD.XT (d : SD) (sb : Nat) : Nat → Prop := fun k => k ≠ sb ∧ ¬ d.I k ∧ blkOf d.L ≠ some k ∧ ¬ d.Z k
/-- the blocks of a state -/
def SD.D (d : SD) (sb : Nat) : Nat → Prop := fun k => k = sb ∨ d.I k ∨ d.T k ∨ blkOf d.L = some k
structure Sta (w : World) (base sb : Nat) (d : SD) : Prop where
  rs : RecAt w sb 96 [.pointer (some ⟨d.ib, 0, none⟩), .slice d.L d.nL d.cL, .pointer (some ⟨d.tb, 0, none⟩)]
  ba : base ≤ sb
  ix : Ix (d.XI sb) w base d.ib d.bt d.bs d.N d.p d.S d.lE
  tg : Tg.Tab (d.XT sb) w base d.tb d.R d.nT d.cT d.lT
  ta : Tg.AscT d.lT
  ld : Row w base 98 3 d.L d.nL d.cL (flt encL d.lL)
  ll : d.lL.length = d.nL
  la : AscL d.lL
  lz : ZL d.lL
  s1 : ¬ d.I sb
  s2 : ¬ d.T sb
  s3 : blkOf d.L ≠ some sb
  it : ∀ k, d.I k → ¬ d.T k
  il : ∀ k, d.I k → blkOf d.L ≠ some k
  tl : ∀ k, d.T k → blkOf d.L ≠ some k
  zb : ∀ k, d.Z k → k < w.heap.size
theorem Sta.lt {w : World} {base sb : Nat} {d : SD} (h : Sta w base sb d) {k : Nat} (hk : d.D sb k) : base ≤ k ∧ k < w.heap.size := by
  rcases hk with rfl | hk | hk | hk
  · exact ⟨h.ba, h.rs.lt⟩
  · exact h.ix.lt hk
  · exact h.tg.lt hk
  · exact h.ld.blt hk
theorem Sta.fr0 {w w' : World} {base sb : Nat} {d : SD} (h : Sta w base sb d) (f : Fr (fun _ => False) w w') : Sta w' base sb d :=
  ⟨h.rs.fr f (fun h => h), h.ba, h.ix.fr0 f, h.tg.fr0 f, h.ta, f.row h.ld (fun _ _ h => h), h.ll, h.la, h.lz, h.s1, h.s2, h.s3, h.it, h.il, h.tl, (fun k hk => Nat.lt_of_lt_of_le (h.zb k hk) f.size)⟩
/-- behind a deed of the index -/
theorem Sta.ix' {u u' : World} {base sb : Nat} {d : SD} (h : Sta u base sb d) {bs' N' p' : Nat} {S' : Slo.SRow} {l' : List En} (f : Fr d.I u u') (hi : Ix (d.XI sb) u' base d.ib d.bt bs' N' p' S' l') (hb : bs' = d.bs ∨ u.heap.size ≤ bs') :
    Sta u' base sb { d with bs := bs', N := N', p := p', S := S', lE := l' } := by
  have hI : ∀ k, DI d.ib d.bt bs' k → d.I k ∨ u.heap.size ≤ k := fun k hk => by
    rcases hk with hk | hk | hk
    · exact .inl (.inl hk)
    · exact .inl (.inr (.inl hk))
    · rcases hb with hb | hb
      · exact .inl (.inr (.inr (hk.trans hb)))
      · exact .inr (by omega)
  have hout : ∀ k, k < u.heap.size → ¬ d.I k → ¬ DI d.ib d.bt bs' k := fun k hk hn h' => (hI k h').elim hn (fun h => by omega)
  refine ⟨h.rs.fr f h.s1, h.ba, hi, ?_, h.ta, f.row h.ld (fun k hk h' => h.il k h' hk), h.ll, h.la, h.lz, hout sb h.rs.lt h.s1, h.s2, h.s3, fun k hk ht => ?_, fun k hk hl => ?_, h.tl, (fun k hk => Nat.lt_of_lt_of_le (h.zb k hk) f.size)⟩
  · have h1 := h.tg.monoX (X' := fun k => d.XT sb k ∧ k < u.heap.size) (fun k hk hx => ⟨hx, hk⟩)
    have h2 := h1.off f (fun k hk h' => h.it k h' hk) (fun k hk => hk.1.2.1)
    exact h2.monoX (fun k _ hk => ⟨hk.1.1, hout k hk.2 hk.1.2.1, hk.1.2.2⟩)
  · exact hout k (h.tg.lt ht).2 (fun h' => h.it k h' ht) hk
  · exact hout k (h.ld.blt hl).2 (fun h' => h.il k h' hl) hk
/-- behind a deed of the tags -/
theorem Sta.tg' {u u' : World} {base sb : Nat} {d : SD} (h : Sta u base sb d) {R' : Option Addr} {n' c' : Nat} {l' : List Tn} (f : Fr d.T u u') (ht : Tg.Tab (d.XT sb) u' base d.tb R' n' c' l') (ha : Tg.AscT l') (hb : ∀ k, blkOf R' = some k → blkOf d.R = some k ∨ u.heap.size ≤ k) :
    Sta u' base sb { d with R := R', nT := n', cT := c', lT := l' } := by
  have hT : ∀ k, Tg.DT d.tb R' k → d.T k ∨ u.heap.size ≤ k := fun k hk => by
    rcases hk with hk | hk
    · exact .inl (.inl hk)
    · exact (hb k hk).imp (fun h => .inr h) id
  have hout : ∀ k, k < u.heap.size → ¬ d.T k → ¬ Tg.DT d.tb R' k := fun k hk hn h' => (hT k h').elim hn (fun h => by omega)
  refine ⟨h.rs.fr f h.s2, h.ba, ?_, ht, ha, f.row h.ld (fun k hk h' => h.tl k h' hk), h.ll, h.la, h.lz, h.s1, hout sb h.rs.lt h.s2, h.s3, fun k hk => hout k (h.ix.lt hk).2 (h.it k hk), h.il, fun k hk hl => ?_, (fun k hk => Nat.lt_of_lt_of_le (h.zb k hk) f.size)⟩
  · have h1 := h.ix.monoX (X' := fun k => d.XI sb k ∧ k < u.heap.size) (fun k hk hx => ⟨hx, hk⟩)
    have h2 := h1.off f (fun k hk => h.it k hk) (fun k hk => hk.1.2.1)
    exact h2.monoX (fun k _ hk => ⟨hk.1.1, hout k hk.2 hk.1.2.1, hk.1.2.2⟩)
  · exact hout k (h.ld.blt hl).2 (fun h' => h.tl k h' hl) hk
/-- behind a deed of the loads -/
theorem Sta.ld' {u u' : World} {base sb : Nat} {d : SD} (h : Sta u base sb d) {L' : Option Addr} {n' c' : Nat} {l' : List Lo} (f : Fr (fun k => k = sb ∨ blkOf d.L = some k) u u') (hr : RecAt u' sb 96 [.pointer (some ⟨d.ib, 0, none⟩), .slice L' n' c', .pointer (some ⟨d.tb, 0, none⟩)])
    (hl : Row u' base 98 3 L' n' c' (flt encL l')) (hll : l'.length = n') (ha : AscL l') (hz : ZL l') (hb : ∀ k, blkOf L' = some k → blkOf d.L = some k ∨ u.heap.size ≤ k) :
    Sta u' base sb { d with L := L', nL := n', cL := c', lL := l' } := by
  have hout : ∀ k, k < u.heap.size → blkOf d.L ≠ some k → blkOf L' ≠ some k := fun k hk hn h' => (hb k h').elim hn (fun h => by omega)
  refine ⟨hr, h.ba, ?_, ?_, h.ta, hl, hll, ha, hz, h.s1, h.s2, hout sb h.rs.lt h.s3, h.it, fun k hk => hout k (h.ix.lt hk).2 (h.il k hk), fun k hk => hout k (h.tg.lt hk).2 (h.tl k hk), (fun k hk => Nat.lt_of_lt_of_le (h.zb k hk) f.size)⟩
  · have h1 := h.ix.monoX (X' := fun k => d.XI sb k ∧ k < u.heap.size) (fun k hk hx => ⟨hx, hk⟩)
    have h2 := h1.off f (fun k hk h' => h'.elim (fun e => h.s1 (e ▸ hk)) (fun e => h.il k hk e)) (fun k hk h' => h'.elim hk.1.1 hk.1.2.2.1)
    exact h2.monoX (fun k _ hk => ⟨hk.1.1, hk.1.2.1, hout k hk.2 hk.1.2.2.1, hk.1.2.2.2⟩)
  · have h1 := h.tg.monoX (X' := fun k => d.XT sb k ∧ k < u.heap.size) (fun k hk hx => ⟨hx, hk⟩)
    have h2 := h1.off f (fun k hk h' => h'.elim (fun e => h.s2 (e ▸ hk)) (fun e => h.tl k hk e)) (fun k hk h' => h'.elim hk.1.1 hk.1.2.2.1)
    exact h2.monoX (fun k _ hk => ⟨hk.1.1, hk.1.2.1, hout k hk.2 hk.1.2.2.1, hk.1.2.2.2⟩)
theorem place_calls {w : World} {base sb : Nat} {d : SD} (h : Sta w base sb d) (s : Int) (hn : d.nL ≤ 17179869184) :
    Calls Tryz.prog 45 #[.pointer (some ⟨sb, 0, none⟩), .int .i64 s] w fun e w' => Fr (fun _ => False) w w' ∧ ∃ i : Nat, e = .returned (.tuple #[.int .i64 i, .bool (isL s i d.lL)]) ∧ PlL s i d.lL := by
  refine (F45.of (some ⟨sb, 0, none⟩) s w (Q := fun v w' => Fr (fun _ => False) w w' ∧ ∃ i : Nat, v = .tuple #[.int .i64 i, .bool (isL s i d.lL)] ∧ PlL s i d.lL) ?_).mono (fun e w' ⟨v, he, hf, i, hv, h⟩ => ⟨hf, i, by rw [he, hv], h⟩)
  refine dr_mk ⟨d.L, d.nL, d.cL, h.rs.cell rfl, (bsL_calls _ _ _ _ s w h.ld.sl h.ll h.la hn).mono ?_⟩
  rintro e w2 ⟨f2, i, rfl, hp⟩
  exact ⟨_, _, rfl, f2, i, rfl, hp⟩
theorem set_calls {w : World} {base sb : Nat} {d : SD} (h : Sta w base sb d) (s n : Int) (hn : d.nL ≤ 1000000000) (hB : base ≤ w.heap.size) :
    Calls Tryz.prog 42 #[.pointer (some ⟨sb, 0, none⟩), .int .i64 s, .int .i64 n] w fun e w' => e = .returned (.tuple #[]) ∧ Fr (fun k => k = sb ∨ blkOf d.L = some k) w w' ∧ ∃ L' c', Sta w' base sb { d with L := L', nL := (setL s n d.lL).length, cL := c', lL := setL s n d.lL } ∧ ∀ k, blkOf L' = some k → blkOf d.L = some k ∨ w.heap.size ≤ k := by
  refine (F42.of (some ⟨sb, 0, none⟩) s n w (Q := fun v w' => v = .tuple #[] ∧ Fr (fun k => k = sb ∨ blkOf d.L = some k) w w' ∧ ∃ L' c', Sta w' base sb { d with L := L', nL := (setL s n d.lL).length, cL := c', lL := setL s n d.lL } ∧ ∀ k, blkOf L' = some k → blkOf d.L = some k ∨ w.heap.size ≤ k) ?_).mono (fun e w' ⟨v, he, hv, h⟩ => ⟨by rw [he, hv], h⟩)
  refine (place_calls h s (by omega)).mono ?_
  rintro r w1 ⟨f1, i, rfl, hp⟩
  have h1 := h.fr0 f1
  have hin := hp.1
  have hl := h.ll
  have f1' : Fr (fun k => k = sb ∨ blkOf d.L = some k) w w1 := f1.mono (fun _ _ h => h.elim)
  -- the number is laid
  have lay : ∀ (u : World) (L' : Option Addr) (n' c' : Nat) (l1 : List Lo) (x : Lo), Fr (fun k => k = sb ∨ blkOf d.L = some k) w u → RecAt u sb 96 [.pointer (some ⟨d.ib, 0, none⟩), .slice L' n' c', .pointer (some ⟨d.tb, 0, none⟩)] → Row u base 98 3 L' n' c' (flt encL l1) → l1.length = n' → l1[i]? = some x →
      setL s n d.lL = l1.set i ⟨x.s, n, x.v⟩ → blkOf L' ≠ some sb → (∀ k, blkOf L' = some k → blkOf d.L = some k ∨ w.heap.size ≤ k) →
      F42.k3 (fun v w' => v = .tuple #[] ∧ Fr (fun k => k = sb ∨ blkOf d.L = some k) w w' ∧ ∃ L' c', Sta w' base sb { d with L := L', nL := (setL s n d.lL).length, cL := c', lL := setL s n d.lL } ∧ ∀ k, blkOf L' = some k → blkOf d.L = some k ∨ w.heap.size ≤ k) (some ⟨sb, 0, none⟩, n, (i : Int), ()) u := by
    intro u L' n' c' l1 x fu hr hrow hl1 hx heq hne hb _
    have hil := (List.getElem?_eq_some_iff.1 hx).1
    refine dr_mk ⟨L', n', c', hr.cell rfl, ?_⟩
    have hpt := row_putG (o' := i * 3 + 1) (us := [Value.int .i64 n]) (K := fun w' => Value.tuple #[] = .tuple #[] ∧ Fr (fun k => k = sb ∨ blkOf d.L = some k) w w' ∧ ∃ L' c', Sta w' base sb { d with L := L', nL := (setL s n d.lL).length, cL := c', lL := setL s n d.lL } ∧ ∀ k, blkOf L' = some k → blkOf d.L = some k ∨ w.heap.size ≤ k) hrow (by omega) (by simp; omega) (by simp; rfl) (fun w6 hr6 f6 => ?_)
    · rw [dr_iff] at hpt
      obtain ⟨b, o, hA, hpt⟩ := hpt
      rw [hA]
      refine dr_mk (gd_mk (decide_eq_true (by show (0 : Int) ≤ (i : Int); omega)) (gd_mk (decide_eq_true (by show (i : Int) < (n' : Int); omega)) ?_))
      dsimp only
      rw [Int.toNat_natCast]
      exact hpt
    · have e : splice (flt encL l1) (i * 3 + 1) [Value.int .i64 n] = flt encL (l1.set i ⟨x.s, n, x.v⟩) := by
        rw [← flt_set (enc := encL) (sz := 3) (fun _ _ => rfl) (by omega) rfl]
        apply List.ext_getElem?
        intro j
        have hfl := encL_o.fl l1
        rw [splice_get (by simp; omega), splice_get (by show i * 3 + 3 ≤ _; omega)]
        have g0 : (flt encL l1)[i * 3]? = some (.int .i64 x.s) := by
          have := flt_get (enc := encL) (sz := 3) (fun _ _ => rfl) hx 0 (by omega)
          rw [Nat.add_zero] at this
          rw [this]; rfl
        have g2 : (flt encL l1)[i * 3 + 2]? = some (.int .i64 x.v) := by
          have := flt_get (enc := encL) (sz := 3) (fun _ _ => rfl) hx 2 (by omega)
          rw [this]; rfl
        by_cases h1 : j < i * 3
        · rw [if_pos (by omega), if_pos h1]
        · by_cases h2 : j = i * 3
          · subst h2
            rw [if_pos (by omega), if_neg (by omega), if_pos (by show i * 3 < i * 3 + 3; omega), g0, Nat.sub_self]; rfl
          · rw [if_neg (by omega), if_neg h1]
            by_cases h3 : j = i * 3 + 1
            · subst h3
              rw [if_pos (by simp), if_pos (by show i * 3 + 1 < i * 3 + 3; omega), Nat.sub_self, show i * 3 + 1 - i * 3 = 1 by omega]; rfl
            · by_cases h4 : j = i * 3 + 2
              · subst h4
                rw [if_neg (by simp), if_pos (by show i * 3 + 2 < i * 3 + 3; omega), show i * 3 + 2 - i * 3 = 2 by omega, g2]; rfl
              · rw [if_neg (by simp; omega), if_neg (by show ¬ j < i * 3 + 3; omega)]
      rw [e, ← heq] at hr6
      have hsl : (setL s n d.lL).length = n' := by rw [heq, List.length_set, hl1]
      refine ⟨rfl, fu.trans f6 (fun _ _ h => h) (fun k hk h' => ?_), L', c', ?_, hb⟩
      · rcases hb k h' with h'' | h''
        · exact .inr h''
        · omega
      · rw [hsl]
        refine h.ld' (fu.trans f6 (fun _ _ h => h) (fun k hk h' => ?_)) (hr.fr f6 hne) hr6 hsl (setL_asc s n h.la) (setL_z h.lz) hb
        rcases hb k h' with h'' | h''
        · exact .inr h''
        · omega
  refine ⟨_, _, rfl, vIf_mk (fun hi => ?_) (fun hi => jnC_mk ?_)⟩
  · have hi : isL s i d.lL = false := by simpa using hi
    obtain ⟨e1, e2⟩ := setL_out (n := n) hp h.la hi
    refine dr_mk ⟨d.L, d.nL, d.cL, h1.rs.cell rfl, gd_mk rfl (nw_mk ?_)⟩
    have f3 : Fr (fun _ => False) w1 (w1.alloc (.cells (encL ⟨s, 0, 0⟩).toArray 98)) := Fr.alloc _ _ _
    have r3 := RecAt.new w1 (encL ⟨s, 0, 0⟩) 98
    show Calls _ _ _ (w1.alloc (.cells (encL ⟨s, 0, 0⟩).toArray 98)) _
    have hA2 : blkOf d.L ≠ some w1.heap.size := fun e => by have := (h1.ld.blt e).2; omega
    generalize hb3 : w1.heap.size = b3 at r3 hA2 ⊢
    generalize w1.alloc (.cells (encL ⟨s, 0, 0⟩).toArray 98) = w3 at f3 r3 ⊢
    have h3 := h1.fr0 f3
    have g3 := f1.trans1 f3
    refine (InsLd.insert_calls encL_o base d.L d.nL d.cL i d.lL ⟨s, 0, 0⟩ b3 w3 h3.ld hl (by omega) r3 hA2 (by have := g3.size; omega) (by omega)).mono ?_
    rintro r w4 ⟨A4, c4, rfl, f4, h4, hb4⟩
    have hb4' : ∀ k, blkOf A4 = some k → blkOf d.L = some k ∨ w.heap.size ≤ k := fun k hk => (hb4 k hk).imp id (fun h => by have := g3.size; omega)
    have hnsb : blkOf A4 ≠ some sb := fun e => by
      rcases hb4 sb e with h' | h'
      · exact h.s3 h'
      · have := h3.rs.lt; omega
    have g4 : Fr (fun k => k = sb ∨ blkOf d.L = some k) w w4 := (g3.mono (fun _ _ h => h.elim)).trans1 (f4.mono (fun _ _ h => .inr h))
    refine ⟨_, _, _, rfl, dr_mk ((h3.rs.fr f4 h.s3).st_mk (o := 0 + 1) (by show 0 + 1 + 1 ≤ 3; omega) (fun v hv => by simp at hv; subst hv; rfl) (fun r5 f5 => jnC_mk ?_))⟩
    have r5 : RecAt _ sb 96 [.pointer (some ⟨d.ib, 0, none⟩), .slice A4 (d.nL + 1) c4, .pointer (some ⟨d.tb, 0, none⟩)] := r5
    generalize stB w4 sb (0 + 1) [Value.slice A4 (d.nL + 1) c4] = w5 at r5 f5 ⊢
    have hli : (d.lL.take i ++ ⟨s, 0, 0⟩ :: d.lL.drop i)[i]? = some ⟨s, 0, 0⟩ := get_mid (by rw [List.length_take]; omega)
    refine lay w5 A4 (d.nL + 1) c4 _ ⟨s, 0, 0⟩ (g4.trans1 (f5.mono (fun _ _ h => .inl h))) r5 (f5.row h4 (fun k hk h' => hnsb (by rw [hk, h']))) (by simp; omega) hli ?_ hnsb hb4'
    rw [e1, set_mid (by rw [List.length_take]; omega)]
  · have hi : isL s i d.lL = true := by simpa using hi
    obtain ⟨x, hx, hs⟩ := isL_at hi
    refine lay w1 d.L d.nL d.cL d.lL x f1' h1.rs h1.ld hl hx ?_ h.s3 (fun k hk => .inl hk)
    rw [(setL_in hp hx hs).1, hs]
end Go.Proofs.YthcclmlbkfadcaaGreat
/- chapter 22: New, Apply, Keep -/
namespace Go.Proofs.YthcclmlbkfadcaaGreat
open Go.GV Go.RowKit Go.Lib Go.Stb
open Tg (Tn liveT)
set_option linter.unusedVariables false
set_option linter.unusedSimpArgs false
theorem Ix.low {X : Nat → Prop} {w : World} {B B' ib bt bs N p : Nat} {S : Slo.SRow} {l : List En} (h : Ix X w B ib bt bs N p S l) (hB : B' ≤ B) : Ix X w B' ib bt bs N p S l :=
  ⟨h.ri, ⟨h.tb.at_, h.tb.inv, h.tb.n8, h.tb.load, h.tb.big, Nat.le_trans hB h.tb.bt_, Nat.le_trans hB h.tb.bs_⟩, Nat.le_trans hB h.ba, h.nt, h.ns, h.has, h.all, h.asc, h.cn, h.nb⟩
theorem Tab.low {X : Nat → Prop} {w : World} {B B' tb : Nat} {R : Option Addr} {n c : Nat} {l : List Tn} (h : Tg.Tab X w B tb R n c l) (hB : B' ≤ B) : Tg.Tab X w B' tb R n c l :=
  ⟨h.rc, by obtain ⟨vs, h1, h2⟩ := h.ot; exact ⟨vs, row_low hB h1, h2⟩, h.ne, Nat.le_trans hB h.ba⟩
/-- a snapshot, as it lies -/
def SnAt (w : World) (cs : List Value) (E : List En) (T : List Tn) (Ls : List Lo) : Prop := ∃ (i j k q : Int) (A : Option Addr) (n c : Nat) (A' : Option Addr) (n' c' : Nat) (A'' : Option Addr) (n'' c'' : Nat),
  cs = [.int .i64 i, .int .i64 j, .int .i64 k, .int .u64 q, .slice A n c, .slice A' n' c', .slice A'' n'' c''] ∧ RE (fun _ => True) w A n E ∧ Tg.RT (fun _ => True) w A' n' T ∧ Sl w 3 A'' n'' (flt encL Ls) ∧ Ls.length = n''
theorem SnAt.fr0 {w w' : World} {cs : List Value} {E : List En} {T : List Tn} {Ls : List Lo} (h : SnAt w cs E T Ls) (f : Fr (fun _ => False) w w') : SnAt w' cs E T Ls := by
  obtain ⟨i, j, k, q, A, n, c, A', n', c', A'', n'', c'', e, h1, h2, h3, h4⟩ := h
  exact ⟨i, j, k, q, A, n, c, A', n', c', A'', n'', c'', e, h1.fr0 f, h2.fr0 f, f.sl h3 (fun _ _ _ h => h), h4⟩
theorem SnAt.len {w : World} {cs : List Value} {E : List En} {T : List Tn} {Ls : List Lo} (h : SnAt w cs E T Ls) : cs.length = 7 := by
  obtain ⟨i, j, k, q, A, n, c, A', n', c', A'', n'', c'', e, _⟩ := h
  rw [e]; rfl
def newLo (l : List Lo) : List Lo := l.foldl (fun t x => setL x.s x.a t) []
theorem newLo_step {l : List Lo} {i : Nat} {x : Lo} (h : l[i]? = some x) : newLo (l.take (i + 1)) = setL x.s x.a (newLo (l.take i)) := by
  unfold newLo
  rw [List.take_add_one, h, Option.toList_some, List.foldl_append]; rfl
theorem newLo_len (l : List Lo) : (newLo l).length ≤ l.length :=
  snoc_ind (P := fun l => (newLo l).length ≤ l.length) (Nat.le_refl _) (fun l x ih => by
    have h := setL_len x.s x.a (newLo l)
    have : newLo (l ++ [x]) = setL x.s x.a (newLo l) := by unfold newLo; rw [List.foldl_append]; rfl
    rw [this, List.length_append, List.length_singleton]; omega) l
/-- what a state's deed comes to -/
structure Stp (w w' : World) (base sb : Nat) (d d' : SD) : Prop where
  st : Sta w' base sb d'
  fr : Fr (d.D sb) w w'
  zz : d'.Z = d.Z
  up : ∀ k, d'.D sb k → d.D sb k ∨ w.heap.size ≤ k
theorem Stp.trans {a b c : World} {base sb : Nat} {d d' d'' : SD} (h : Stp a b base sb d d') (k : Stp b c base sb d' d'') : Stp a c base sb d d'' :=
  ⟨k.st, h.fr.trans k.fr (fun _ _ h => h) (fun j hj hk => (h.up j hk).elim id (fun h => by omega)), k.zz.trans h.zz, fun j hj => by
    rcases k.up j hj with h1 | h1
    · exact h.up j h1
    · exact .inr (Nat.le_trans h.fr.size h1)⟩
theorem Stp.fr0 {a b c : World} {base sb : Nat} {d d' : SD} (h : Stp a b base sb d d') (f : Fr (fun _ => False) b c) : Stp a c base sb d d' :=
  ⟨h.st.fr0 f, h.fr.trans f (fun _ _ h => h) (fun _ _ h => h.elim), h.zz, h.up⟩
theorem Stp.of0 {a b : World} {base sb : Nat} {d : SD} (h : Sta a base sb d) (f : Fr (fun _ => False) a b) : Stp a b base sb d d :=
  ⟨h.fr0 f, f.mono (fun _ _ h => h.elim), rfl, fun _ h => .inl h⟩
theorem set_stp {w : World} {base sb : Nat} {d : SD} (h : Sta w base sb d) (s n : Int) (hn : d.nL ≤ 1000000000) (hB : base ≤ w.heap.size) :
    Calls Tryz.prog 42 #[.pointer (some ⟨sb, 0, none⟩), .int .i64 s, .int .i64 n] w fun e w' => e = .returned (.tuple #[]) ∧ ∃ d', Stp w w' base sb d d' ∧ d'.lE = d.lE ∧ d'.lT = d.lT ∧ d'.lL = setL s n d.lL ∧ d'.p = d.p := by
  refine (set_calls h s n hn hB).mono ?_
  rintro e w' ⟨rfl, f, L', c', h', hb⟩
  refine ⟨rfl, _, ⟨h', f.mono (fun k _ hk => hk.elim (fun e => .inl e) (fun e => .inr (.inr (.inr e)))), rfl, fun k hk => ?_⟩, rfl, rfl, rfl, rfl⟩
  rcases hk with hk | hk | hk | hk
  · exact .inl (.inl hk)
  · exact .inl (.inr (.inl hk))
  · exact .inl (.inr (.inr (.inl hk)))
  · exact (hb k hk).imp (fun h => .inr (.inr (.inr h))) id
theorem Stp.ix {u u' : World} {base sb : Nat} {d : SD} (h : Sta u base sb d) {bs' N' p' : Nat} {S' : Slo.SRow} {l' : List En} (f : Fr d.I u u') (hi : Ix (d.XI sb) u' base d.ib d.bt bs' N' p' S' l') (hb : bs' = d.bs ∨ u.heap.size ≤ bs') :
    Stp u u' base sb d { d with bs := bs', N := N', p := p', S := S', lE := l' } :=
  ⟨h.ix' f hi hb, f.mono (fun k _ hk => .inr (.inl hk)), rfl, fun k hk => by
    rcases hk with hk | hk | hk | hk
    · exact .inl (.inl hk)
    · rcases hk with hk | hk | hk
      · exact .inl (.inr (.inl (.inl hk)))
      · exact .inl (.inr (.inl (.inr (.inl hk))))
      · have hk : k = bs' := hk
        rcases hb with e | e
        · exact .inl (.inr (.inl (.inr (.inr (hk.trans e)))))
        · exact .inr (by omega)
    · exact .inl (.inr (.inr (.inl hk)))
    · exact .inl (.inr (.inr (.inr hk)))⟩
theorem Stp.tg {u u' : World} {base sb : Nat} {d : SD} (h : Sta u base sb d) {R' : Option Addr} {n' c' : Nat} {l' : List Tn} (f : Fr d.T u u') (ht : Tg.Tab (d.XT sb) u' base d.tb R' n' c' l') (ha : Tg.AscT l') (hb : ∀ k, blkOf R' = some k → blkOf d.R = some k ∨ u.heap.size ≤ k) :
    Stp u u' base sb d { d with R := R', nT := n', cT := c', lT := l' } :=
  ⟨h.tg' f ht ha hb, f.mono (fun k _ hk => .inr (.inr (.inl hk))), rfl, fun k hk => by
    rcases hk with hk | hk | hk | hk
    · exact .inl (.inl hk)
    · exact .inl (.inr (.inl hk))
    · rcases hk with hk | hk
      · exact .inl (.inr (.inr (.inl (.inl hk))))
      · exact (hb k hk).imp (fun e => .inr (.inr (.inl (.inr e)))) id
    · exact .inl (.inr (.inr (.inr hk)))⟩
/-- a variable that takes a load -/
theorem lo_var {w : World} {x : Lo} {K : Nat → World → Prop} (hK : ∀ b w', Fr (fun _ => False) w w' → w.heap.size ≤ b → RecAt w' b 98 (encL x) → K b w') :
    nw w [Value.int .i64 0, Value.int .i64 0, Value.int .i64 0] 98 fun b w1 => gd ((encL x).length == 3) (st w1 b 0 (encL x) fun w2 => K b w2) := by
  refine nw_mk (gd_mk rfl ?_)
  have f1 : Fr (fun _ => False) w (w.alloc (.cells [Value.int .i64 0, Value.int .i64 0, Value.int .i64 0].toArray 98)) := Fr.alloc _ _ _
  refine (RecAt.new w [Value.int .i64 0, Value.int .i64 0, Value.int .i64 0] 98).st_mk (o := 0) (by show 0 + 3 ≤ 3; omega) (encL_o.one x) (fun r2 f2 => hK _ _ (f1.trans f2 (fun _ _ h => h) (fun k hk h => by omega)) (Nat.le_refl _) ?_)
  have e : splice [Value.int .i64 0, Value.int .i64 0, Value.int .i64 0] 0 (encL x) = encL x := splice_full rfl
  rw [e] at r2
  exact r2
set_option maxHeartbeats 1000000 in
theorem newSZ_calls (Z : Nat → Prop) (cs : List Value) (E : List En) (T : List Tn) (Ls : List Lo) (w : World) (hZ : ∀ k, Z k → k < w.heap.size) (h : SnAt w cs E T Ls) (hE : E.length ≤ 50000000) (hT : T.length ≤ 50000000) (hL : Ls.length ≤ 50000000) (bE : BdE 4294967295 E) (bT : Tg.Bd 4294967295 T) :
    Calls Tryz.prog 8 #[ofL cs] w fun e w' => Fr (fun _ => False) w w' ∧ ∃ sb d, e = .returned (.pointer (some ⟨sb, 0, none⟩)) ∧ Sta w' w.heap.size sb d ∧ d.lE = newE E ∧ d.lT = Tg.newT T ∧ d.lL = newLo Ls ∧ d.p ≤ E.length ∧ d.Z = Z := by
  refine (F8.of cs w (Q := fun v w' => Fr (fun _ => False) w w' ∧ ∃ sb d, v = .pointer (some ⟨sb, 0, none⟩) ∧ Sta w' w.heap.size sb d ∧ d.lE = newE E ∧ d.lT = Tg.newT T ∧ d.lL = newLo Ls ∧ d.p ≤ E.length ∧ d.Z = Z) ?_).mono (fun e w' ⟨v, he, hf, sb, d, hv, h⟩ => ⟨hf, sb, d, by rw [he, hv], h⟩)
  obtain ⟨i, j, k, q, A, n, c, A', n', c', A'', n'', c'', rfl, h1, h2, h3, h4⟩ := h
  have hEl := h1.len
  have hTl := h2.len
  refine nw_mk ?_
  have f1 : Fr (fun _ => False) w (w.alloc (.cells [Value.int .i64 i, .int .i64 j, .int .i64 k, .int .u64 q, .slice A n c, .slice A' n' c', .slice A'' n'' c''].toArray 30)) := Fr.alloc _ _ _
  have r1 := RecAt.new w [Value.int .i64 i, .int .i64 j, .int .i64 k, .int .u64 q, .slice A n c, .slice A' n' c', .slice A'' n'' c''] 30
  generalize hsb1 : w.heap.size = b1 at r1 ⊢
  generalize w.alloc (.cells [Value.int .i64 i, .int .i64 j, .int .i64 k, .int .u64 q, .slice A n c, .slice A' n' c', .slice A'' n'' c''].toArray 30) = w1 at f1 r1 ⊢
  have fd := f1.trans1 (Fr.drew _ w1)
  have rd := r1.fr (Fr.drew (fun _ => False) w1) (fun h => h)
  refine ⟨A, n, c, rd.cell rfl, A', n', c', rd.cell rfl, (newX_calls (X := fun k => ¬ Z k) A n c E w1.drew (h1.fr0 fd) (by omega) (bE.mono (by omega)) (fun k hk hz => by have := hZ k hz; have := fd.size; omega)).mono ?_⟩
  rintro r w2 ⟨f2, ib, bt, bs, N, p, S, rfl, hI, hp⟩
  have r2 := rd.fr f2 (fun h => h)
  have fd2 := fd.trans1 f2
  refine ⟨_, rfl, kp_mk f2 rd.lt (fun h => h) ((Tg.newT_calls (X := fun k => w2.heap.size ≤ k) A' n' c' T w2 (h2.fr0 fd2) (by omega) (fun e he => by have := bT e he; omega) (fun _ h => h)).mono ?_)⟩
  rintro r w3 ⟨f3, tb, R, nT, cT, rfl, hTb⟩
  have r3 := r2.fr f3 (fun h => h)
  have fd3 := fd2.trans1 f3
  have hs1 := fd.size
  have hs2 := f2.size
  have hs3 := f3.size
  refine ⟨_, rfl, gd_mk rfl (nw_mk (cs := [Value.pointer (some ⟨ib, 0, none⟩), .slice none 0 0, .pointer (some ⟨tb, 0, none⟩)]) ?_)⟩
  have f4 : Fr (fun _ => False) w3 (w3.alloc (.cells [Value.pointer (some ⟨ib, 0, none⟩), .slice none 0 0, .pointer (some ⟨tb, 0, none⟩)].toArray 96)) := Fr.alloc _ _ _
  have r4 := RecAt.new w3 [Value.pointer (some ⟨ib, 0, none⟩), .slice none 0 0, .pointer (some ⟨tb, 0, none⟩)] 96
  have hIlt : ∀ k, DI ib bt bs k → w1.drew.heap.size ≤ k ∧ k < w2.heap.size := fun k hk => hI.lt hk
  have hTlt : ∀ k, Tg.DT tb R k → w2.heap.size ≤ k ∧ k < w3.heap.size := fun k hk => hTb.lt hk
  generalize hsb : w3.heap.size = sb at r4 hTlt ⊢
  generalize w3.alloc (.cells [Value.pointer (some ⟨ib, 0, none⟩), .slice none 0 0, .pointer (some ⟨tb, 0, none⟩)].toArray 96) = w4 at f4 r4 ⊢
  have fd4 := fd3.trans1 f4
  have hasc : Tg.AscT (Tg.newT T) := by
    have := Tg.newT_asc T T.length
    rwa [List.take_of_length_le (Nat.le_refl _)] at this
  have hSta : Sta w4 b1 sb ⟨ib, bt, bs, N, p, S, newE E, tb, R, nT, cT, Tg.newT T, none, 0, 0, [], Z⟩ := by
    refine ⟨r4, by omega, ?_, ?_, hasc, Row.nil _ _ _ _, rfl, List.Pairwise.nil, (fun x hx => by cases hx), ?_, ?_, (fun h => by cases h), ?_, (fun k _ h => by cases h), (fun k _ h => by cases h), (fun k hk => Nat.lt_of_lt_of_le (hZ k hk) fd4.size)⟩
    · have h5 := hI.monoX (X' := fun k => k < w2.heap.size ∧ ¬ Z k) (fun k hk hz => ⟨hk, hz⟩)
      exact ((h5.fr0 (f3.trans1 f4)).low (by omega)).monoX (fun k _ hk => ⟨by have := hk.1; omega, fun ht => by have := (hTlt k ht).1; have := hk.1; omega, (fun h => by cases h), hk.2⟩)
    · have h5 := hTb.monoX (X' := fun k => k < sb ∧ w2.heap.size ≤ k) (fun k hk hx => ⟨by omega, hx⟩)
      exact (Tab.low (h5.fr0 f4) (by omega)).monoX (fun k _ hk => ⟨by omega, fun h => by have := (hIlt k h).2; omega, (fun h => by cases h), fun hz => by have := hZ k hz; omega⟩)
    · intro h; have := (hIlt sb h).2; omega
    · intro h; have := (hTlt sb h).2; omega
    · intro k h1 h2; have := (hIlt k h1).2; have := (hTlt k h2).1; omega
  have r14 := r3.fr f4 (fun h => h)
  have hs4 := f4.size
  refine ⟨A'', n'', c'', r14.cell rfl, jnC_mk (loop_rule (fun s u => Fr (fun _ => False) w u ∧ ∃ (i : Nat) (d : SD), i ≤ n'' ∧ s = ((sb, 0), (A'', n'', c''), (n'' : Int), (i : Int), ()) ∧ Sta u b1 sb d ∧ d.lE = newE E ∧ d.lT = Tg.newT T ∧ d.lL = newLo (Ls.take i) ∧ d.p ≤ E.length ∧ d.Z = Z)
    (fun s _ => (n'' - s.2.2.2.1).toNat) ?_ _ _ ⟨fd4, 0, _, by omega, rfl, hSta, rfl, rfl, rfl, (by show p ≤ E.length; omega), rfl⟩)⟩
  rintro s u C ⟨hf, i, d, hi, rfl, hst, eE, eT, eL, hpd, eZ⟩ hC _
  refine vIf_mk (fun hlt => ?_) (fun hge => ?_)
  · have hlt2 : (i : Int) < (n'' : Int) := of_decide_eq_true hlt
    have gi : Ls[i]? = some (Ls[i]'(by omega)) := List.getElem?_eq_getElem (by omega)
    generalize Ls[i]'(by omega) = x at gi
    have hst' := newLo_step gi
    have hnl := newLo_len (Ls.take i)
    rw [List.length_take] at hnl
    refine l_rd (hf.sl h3 (fun _ _ _ h => h)) h4 gi rfl (lo_var (fun b u1 g1 hb q1 => ⟨x.s, q1.cell rfl, x.a, q1.cell rfl, ?_⟩))
    have hst1 := hst.fr0 g1
    have hdl : d.nL ≤ 50000000 := by rw [← hst.ll, eL]; omega
    refine (set_stp hst1 x.s x.a (by omega) (by have := hf.size; have := g1.size; omega)).mono ?_
    rintro r u2 ⟨rfl, d2, h2, q1, q2, q3, q4⟩
    refine ⟨rfl, jnC_mk (hC _ _ ⟨(hf.trans1 g1).trans h2.fr (fun _ _ h => h) (fun k hk h => by have := (hst1.lt h).1; omega), i + 1, d2, by omega, by rw [ei i (by omega)], h2.st, by rw [q1, eE], by rw [q2, eT], by rw [q3, eL, hst'], by rw [q4]; exact hpd, h2.zz.trans eZ⟩ ?_)⟩
    show ((n'' : Int) - IntKind.wrap .i64 ((i : Int) + 1)).toNat < ((n'' : Int) - (i : Int)).toNat
    rw [ei i (by omega)]; omega
  · have hge2 : ¬ (i : Int) < (n'' : Int) := of_decide_eq_false hge
    rw [List.take_of_length_le (by omega)] at eL
    exact ⟨hf, sb, d, rfl, hst, eE, eT, eL, hpd, eZ⟩
theorem newS_calls (cs : List Value) (E : List En) (T : List Tn) (Ls : List Lo) (w : World) (h : SnAt w cs E T Ls) (hE : E.length ≤ 50000000) (hT : T.length ≤ 50000000) (hL : Ls.length ≤ 50000000) (bE : BdE 4294967295 E) (bT : Tg.Bd 4294967295 T) :
    Calls Tryz.prog 8 #[ofL cs] w fun e w' => Fr (fun _ => False) w w' ∧ ∃ sb d, e = .returned (.pointer (some ⟨sb, 0, none⟩)) ∧ Sta w' w.heap.size sb d ∧ d.lE = newE E ∧ d.lT = Tg.newT T ∧ d.lL = newLo Ls ∧ d.p ≤ E.length :=
  (newSZ_calls (fun _ => False) cs E T Ls w (fun _ h => h.elim) h hE hT hL bE bT).mono (fun e w' ⟨f, sb, d, e1, e2, e3, e4, e5, e6, _⟩ => ⟨f, sb, d, e1, e2, e3, e4, e5, e6⟩)
/-! ### Apply -/
structure SB (m : Nat) (d : SD) : Prop where
  e : BdE m d.lE
  t : Tg.Bd m d.lT
  p : d.p ≤ m
  tl : d.lT.length ≤ m
  ll : d.lL.length ≤ m
  el : d.lE.length ≤ m
def applyS (x : Wd) (l : List Lo) : List Lo := if 1 ≤ x.k ∧ x.k ≤ 5 then setL x.s (wr (oldL x.s l + x.q)) l else l
theorem applyS_asc (x : Wd) {l : List Lo} (h : AscL l) : AscL (applyS x l) := by
  unfold applyS
  split
  · exact setL_asc _ _ h
  · exact h
theorem applyS_len (x : Wd) (l : List Lo) : (applyS x l).length ≤ l.length + 1 := by
  unfold applyS
  split
  · exact setL_len _ _ l
  · omega
set_option maxHeartbeats 1000000 in
theorem applyS_calls {w : World} {base sb : Nat} {d : SD} (h : Sta w base sb d) (x : Wd) (hx : x.d.length = 32) (hb : SB 50000000 d) (hB : base ≤ w.heap.size) :
    Calls Tryz.prog 9 #[.pointer (some ⟨sb, 0, none⟩), ofL x.cs] w fun e w' => e = .returned (.tuple #[]) ∧ ∃ d', Stp w w' base sb d d' ∧ d'.lE = applyE d.lE x ∧ d'.lT = Tg.applyL x d.lT ∧ d'.lL = applyS x d.lL ∧ d'.p = d.p + 1 := by
  refine (F9.of (some ⟨sb, 0, none⟩) x.cs w (Q := fun v w' => v = .tuple #[] ∧ ∃ d', Stp w w' base sb d d' ∧ d'.lE = applyE d.lE x ∧ d'.lT = Tg.applyL x d.lT ∧ d'.lL = applyS x d.lL ∧ d'.p = d.p + 1) ?_).mono (fun e w' ⟨v, he, hv, h⟩ => ⟨by rw [he, hv], h⟩)
  have hxl := wd_len hx
  have hnT := h.tg.len
  have bt := hb.tl
  have bl := hb.ll
  have bp := hb.p
  refine nw_mk ?_
  have f1 : Fr (fun _ => False) w (w.alloc (.cells x.cs.toArray 37)) := Fr.alloc _ _ _
  have r1 : RecAt (w.alloc (.cells x.cs.toArray 37)) w.heap.size 37 ([.int .i64 x.k, .int .u64 x.sq] ++ (x.d.map bv ++ [.string x.nm, .int .i64 x.z, .int .i64 x.s, .int .i64 x.o, .int .i64 x.q])) := RecAt.new _ _ _
  have hb1D : ¬ d.D sb w.heap.size := fun hk => by have := (h.lt hk).2; omega
  have hb1 : w.heap.size ≤ w.heap.size := Nat.le_refl _
  generalize hwb : w.heap.size = b1 at r1 hb1D ⊢
  generalize w.alloc (.cells x.cs.toArray 37) = w1 at f1 r1 ⊢
  have fd := f1.trans1 (Fr.drew _ w1)
  have rd := r1.fr (Fr.drew (fun _ => False) w1) (fun h => h)
  have hd := h.fr0 fd
  have s1 := fd.size
  have lt1 : b1 < w1.drew.heap.size := rd.lt
  refine vIf_f rfl (dr_mk ⟨_, hd.rs.cell rfl, x.cs, hxl, rec_all rd, (applyX_calls base d.ib d.bt d.bs d.N d.p d.S d.lE x w1.drew hd.ix hx (hb.e.mono (by omega)) (by omega) (by omega) (fun k hk => ⟨fun e => by have := hd.rs.lt; omega, fun ht => by have := (hd.tg.lt ht).2; omega, fun hl => by have := (hd.ld.blt hl).2; omega, fun hz => by have := hd.zb k hz; omega⟩)).mono ?_⟩)
  rintro r w2 ⟨rfl, f2, bs2, N2, S2, hI2, hbs2⟩
  have st2 := Stp.ix hd f2 hI2 hbs2
  have h2 := st2.st
  have r2 := rd.fr f2 (fun hk => hb1D (.inr (.inl hk)))
  have fd2 := Fr.drew (fun _ => False) w2
  have h2d := h2.fr0 fd2
  have r2d := r2.fr fd2 (fun h => h)
  have s2 := f2.size
  have s2d : w2.drew.heap.size = w2.heap.size := rfl
  refine ⟨rfl, dr_mk ⟨_, h2d.rs.cell rfl, x.cs, hxl, rec_all r2d, (Tg.applyT_calls base d.tb d.R d.nT d.cT d.lT x w2.drew h2d.tg h2d.ta (by omega) (fun e he => by have := hb.t e he; omega) hx (by omega) (fun k hk => ⟨fun e => by have := h2d.rs.lt; omega, fun hi => by have := (h2d.ix.lt hi).2; omega, fun hl => by have := (h2d.ld.blt hl).2; omega, fun hz => by have := h2d.zb k hz; omega⟩)).mono ?_⟩⟩
  rintro r w3 ⟨rfl, f3, R3, n3, c3, hT3, hR3⟩
  have st3 := Stp.tg h2d f3 hT3 (Tg.applyL_asc x h.ta) hR3
  have h3 := st3.st
  have r3 := r2d.fr f3 (fun hk => hb1D (.inr (.inr (.inl hk))))
  have st13 := (((Stp.of0 h fd).trans st2).fr0 fd2).trans st3
  refine ⟨rfl, ?_⟩
  have s3 := f3.size
  -- the loads
  have k5 : ∀ t : Bool, (t = true ↔ 1 ≤ x.k ∧ x.k ≤ 5) → jnC (F9.k5 (fun v w' => v = .tuple #[] ∧ ∃ d', Stp w w' base sb d d' ∧ d'.lE = applyE d.lE x ∧ d'.lT = Tg.applyL x d.lT ∧ d'.lL = applyS x d.lL ∧ d'.p = d.p + 1)) (some ⟨sb, 0, none⟩, (b1, 0), t, ()) w3 := by
    intro t ht
    refine jnC_mk (fun _ => vIf_mk (fun h0 => ?_) (fun h0 => ⟨rfl, _, st13, rfl, rfl, ?_, rfl⟩))
    · have h0 := ht.1 h0
      have eS : applyS x d.lL = setL x.s (wr (oldL x.s d.lL + x.q)) d.lL := if_pos h0
      have hlast : ∀ (o : Int) (v : World), Fr (fun _ => False) w3 v → o = oldL x.s d.lL → F9.k9 (fun v w' => v = .tuple #[] ∧ ∃ d', Stp w w' base sb d d' ∧ d'.lE = applyE d.lE x ∧ d'.lT = Tg.applyL x d.lT ∧ d'.lL = applyS x d.lL ∧ d'.p = d.p + 1) (some ⟨sb, 0, none⟩, (b1, 0), o, ()) v := by
        intro o v fv ho _
        have rv := r3.fr fv (fun h => h)
        have hv := h3.fr0 fv
        refine ⟨x.s, rec_end rv (bvl hx) (j := 2) rfl rfl, x.q, rec_end rv (bvl hx) (j := 4) rfl rfl, ?_⟩
        refine (set_stp hv x.s _ (by have := hv.ll; dsimp only at this ⊢; omega) (by have := fv.size; omega)).mono ?_
        rintro r v2 ⟨rfl, d2, q0, q1, q2, q3, q4⟩
        refine ⟨rfl, rfl, d2, ((st13.fr0 fv).trans q0), q1, q2, ?_, q4⟩
        rw [q3, eS, ← ho]; rfl
      refine ⟨x.s, rec_end r3 (bvl hx) (j := 2) rfl rfl, (place_calls h3 x.s (by have := h3.ll; dsimp only at this ⊢; omega)).mono ?_⟩
      rintro r w4 ⟨f4, i, rfl, hp⟩
      have h4 := h3.fr0 f4
      refine ⟨_, _, rfl, vIf_mk (fun hi => ?_) (fun hi => jnC_mk (hlast 0 w4 f4 ?_))⟩
      · obtain ⟨y, hy, hs⟩ := isL_at hi
        refine dr_mk ⟨_, _, _, h4.rs.cell rfl, l_rdA h4.ld.sl h4.ll hy rfl (jnC_mk (hlast y.a w4 f4 ?_))⟩
        exact ((setL_in (n := 0) hp hy hs).2 h.la).symm
      · exact ((setL_out (n := 0) hp h.la hi).2).symm
    · unfold applyS
      rw [if_neg (fun h => by rw [ht.2 h] at h0; cases h0)]
  refine ⟨x.k, r3.cell rfl, vIf_mk (fun h0 => ⟨x.k, r3.cell rfl, k5 _ ?_⟩) (fun h0 => k5 false ?_)⟩
  · have h0 := of_decide_eq_true h0
    rw [decide_eq_true_iff]
    exact ⟨fun h => ⟨h0, h⟩, fun h => h.2⟩
  · have h0 := of_decide_eq_false h0
    exact ⟨fun h => (by cases h), fun h => absurd h.1 h0⟩
end Go.Proofs.YthcclmlbkfadcaaGreat
/- chapter 22: Keep, Digest, Tag, Count, Names, List -/
namespace Go.Proofs.YthcclmlbkfadcaaGreat
open Go.GV Go.RowKit Go.Lib Go.Stb
open Tg (Tn liveT)
set_option linter.unusedVariables false
set_option linter.unusedSimpArgs false
def keptL (sg : List Int) (l : List Lo) : List Lo := l.filter (fun x => decide (x.s ∈ sg))
theorem keptL_step {sg : List Int} {l : List Lo} {i : Nat} {x : Lo} (h : l[i]? = some x) : keptL sg (l.take (i + 1)) = if x.s ∈ sg then keptL sg (l.take i) ++ [x] else keptL sg (l.take i) := by
  unfold keptL
  rw [List.take_add_one, h, Option.toList_some, List.filter_append]
  split
  · rename_i h1; rw [List.filter_cons_of_pos (by simpa using h1)]; rfl
  · rename_i h1; rw [List.filter_cons_of_neg (by simpa using h1)]; simp
theorem keptL_len (sg : List Int) (l : List Lo) : (keptL sg l).length ≤ l.length := List.length_filter_le _ _
/-- the closure's captured row of segments -/
structure Cap (w : World) (b : Nat) (S : Option Addr) (m k : Nat) (sg : List Int) : Prop where
  rc : RecAt w b 46 [.slice S m k]
  sl : Sl w 1 S m (ivs sg)
  hm : m ≤ 17179869184
theorem Cap.fr {D : Nat → Prop} {w w' : World} {b : Nat} {S : Option Addr} {m k : Nat} {sg : List Int} (h : Cap w b S m k sg) (f : Fr D w w') (h1 : ¬ D b) (h2 : m ≠ 0 → ∀ k, blkOf S = some k → ¬ D k) : Cap w' b S m k sg :=
  ⟨h.rc.fr f h1, f.sl h.sl h2, h.hm⟩
theorem kcl_calls (x : Lo) (b : Nat) (S : Option Addr) (m k : Nat) (sg : List Int) (w : World) (h : Cap w b S m k sg) :
    Calls Tryz.prog 70 #[ofL (encL x), .pointer (some ⟨b, 0, none⟩)] w fun e w' => e = .returned (.bool (!decide (x.s ∈ sg))) ∧ Fr (fun _ => False) w w' := by
  refine (F70.of _ (b, 0) w (Q := fun v w' => v = .bool (!decide (x.s ∈ sg)) ∧ Fr (fun _ => False) w w') ?_).mono (fun e w' ⟨v, he, hv, h⟩ => ⟨by rw [he, hv], h⟩)
  refine nw_mk ?_
  have f1 : Fr (fun _ => False) w (w.alloc (.cells (encL x).toArray 98)) := Fr.alloc _ _ _
  have r1 := RecAt.new w (encL x) 98
  generalize w.alloc (.cells (encL x).toArray 98) = w1 at f1 r1 ⊢
  have h1 := h.fr f1 (fun h => h) (fun _ _ _ h => h)
  refine ⟨S, m, k, h1.rc.cell rfl, x.s, r1.cell rfl, (contains_calls S m k sg x.s w1 h1.sl h1.hm).mono ?_⟩
  rintro r w2 ⟨rfl, rfl⟩
  exact ⟨_, rfl, rfl, f1⟩
theorem kix_calls (A : Option Addr) (n c : Nat) (l : List Lo) (b : Nat) (S : Option Addr) (m k : Nat) (sg : List Int) (w : World) (hs : Sl w 3 A n (flt encL l)) (hl : l.length = n) (h : Cap w b S m k sg) (hn : n ≤ 17179869184) :
    Calls Tryz.prog 106 #[.slice A n c, .func (.func 70) #[] #[.pointer (some ⟨b, 0, none⟩)]] w fun e w' => Fr (fun _ => False) w w' ∧ ((∃ i : Nat, i < n ∧ e = .returned (.int .i64 i) ∧ keptL sg (l.take i) = l.take i ∧ ∃ y, l[i]? = some y ∧ y.s ∉ sg) ∨ (e = .returned (.int .i64 (-1)) ∧ keptL sg l = l)) := by
  refine (F106s.of A n c (b, 0) w (Q := fun v w' => Fr (fun _ => False) w w' ∧ ((∃ i : Nat, i < n ∧ v = .int .i64 i ∧ keptL sg (l.take i) = l.take i ∧ ∃ y, l[i]? = some y ∧ y.s ∉ sg) ∨ (v = .int .i64 (-1) ∧ keptL sg l = l))) ?_).mono (fun e w' ⟨v, he, hf, hv⟩ => ⟨hf, by
    rcases hv with ⟨i, h1, h2, h3⟩ | ⟨h1, h2⟩
    · exact .inl ⟨i, h1, by rw [he, h2], h3⟩
    · exact .inr ⟨by rw [he, h1], h2⟩⟩)
  refine jnC_mk (loop_rule (fun s u => Fr (fun _ => False) w u ∧ ∃ i : Nat, i ≤ n ∧ s = ((A, n, c), (b, 0), (n : Int), (i : Int), ()) ∧ keptL sg (l.take i) = l.take i) (fun s _ => (n - s.2.2.2.1).toNat) ?_ _ _ ⟨Fr.refl _ _, 0, by omega, rfl, rfl⟩)
  rintro s u C ⟨hf, i, hi, rfl, hk⟩ hC _
  refine vIf_mk (fun hlt => ?_) (fun hge => ?_)
  · have hlt2 : (i : Int) < (n : Int) := of_decide_eq_true hlt
    have gi : l[i]? = some (l[i]'(by omega)) := List.getElem?_eq_getElem (by omega)
    generalize l[i]'(by omega) = x at gi
    have hsn := keptL_step (sg := sg) gi
    refine l_rd (hf.sl hs (fun _ _ _ h => h)) hl gi rfl ((kcl_calls x b S m k sg u (h.fr hf (fun h => h) (fun _ _ _ h => h))).mono ?_)
    rintro r u2 ⟨rfl, f2⟩
    refine ⟨_, rfl, vIf_mk (fun hg => ⟨hf.trans1 f2, .inl ⟨i, by omega, rfl, hk, x, gi, by simpa using hg⟩⟩) (fun hg => ?_)⟩
    have hg : x.s ∈ sg := by simpa using hg
    rw [if_pos hg, hk] at hsn
    refine jnC_mk (hC _ _ ⟨hf.trans1 f2, i + 1, by omega, by rw [ei i (by omega)], ?_⟩ ?_)
    · rw [hsn, List.take_add_one, gi]; rfl
    · show ((n : Int) - IntKind.wrap .i64 ((i : Int) + 1)).toNat < ((n : Int) - (i : Int)).toNat
      rw [ei i (by omega)]; omega
  · have hge2 : ¬ (i : Int) < (n : Int) := of_decide_eq_false hge
    rw [List.take_of_length_le (by omega)] at hk
    exact ⟨hf, .inr ⟨rfl, hk⟩⟩
set_option maxHeartbeats 1000000 in
theorem kdel_calls (B : Nat) (A : Option Addr) (n c : Nat) (l : List Lo) (b : Nat) (S : Option Addr) (m k : Nat) (sg : List Int) (w : World) (hr : Row w B 98 3 A n c (flt encL l)) (hrl : l.length = n) (h : Cap w b S m k sg) (hA : blkOf A ≠ some b) (hG : m ≠ 0 → ∀ q, blkOf S = some q → blkOf A ≠ some q) (hn : n ≤ 1000000000) :
    Calls Tryz.prog 69 #[.slice A n c, .func (.func 70) #[] #[.pointer (some ⟨b, 0, none⟩)]] w fun e' w' => e' = .returned (.slice A (keptL sg l).length c) ∧ Fr (fun k => blkOf A = some k) w w' ∧ Row w' B 98 3 A (keptL sg l).length c (flt encL (keptL sg l)) := by
  refine (F69s.of A n c (b, 0) w (Q := fun v w' => v = .slice A (keptL sg l).length c ∧ Fr (fun k => blkOf A = some k) w w' ∧ Row w' B 98 3 A (keptL sg l).length c (flt encL (keptL sg l))) ?_).mono (fun e w' ⟨v, he, hv, h⟩ => ⟨by rw [he, hv], h⟩)
  refine (kix_calls A n c l b S m k sg w hr.sl hrl h (by omega)).mono ?_
  rintro e1 w1 ⟨f1, h1⟩
  have hr1 := f1.row hr (fun _ _ h => h)
  have f1' : Fr (fun k => blkOf A = some k) w w1 := f1.mono (fun _ _ h => h.elim)
  have hc1 := h.fr f1 (fun h => h) (fun _ _ _ h => h)
  rcases h1 with ⟨i0, hi0, rfl, hk0, d0, g0, hd0⟩ | ⟨rfl, hk⟩
  rotate_left
  · refine ⟨_, rfl, vIf_t rfl ⟨by rw [hk, hrl], f1', ?_⟩⟩
    rw [hk, hrl]
    exact hr1
  refine ⟨_, rfl, vIf_f (by simp) (jnC_mk ?_)⟩
  obtain ⟨ba, hAe⟩ : ∃ ba, A = some ⟨ba, 0, none⟩ := by
    rcases hr.at_ with ⟨_, h0, _⟩ | ⟨ba, _, hA, _⟩
    · omega
    · exact ⟨ba, hA⟩
  subst hAe
  have hlec := hr.le
  have hi1 : keptL sg (l.take (i0 + 1)) = l.take i0 := by rw [keptL_step g0, if_neg hd0, hk0]
  refine loop_rule (fun s u => Fr (fun k => blkOf (some (⟨ba, 0, none⟩ : Addr)) = some k) w u ∧ ∃ (j : Nat) (Q : List Lo), i0 + 1 ≤ j ∧ j ≤ n ∧ Q.length = n ∧ Row u B 98 3 (some ⟨ba, 0, none⟩) n c (flt encL Q) ∧ (keptL sg (l.take j)).length < j ∧ Q.take (keptL sg (l.take j)).length = keptL sg (l.take j) ∧ (∀ q, j ≤ q → Q[q]? = l[q]?) ∧
      s = ((some ⟨ba, 0, none⟩, n, c), (b, 0), (((keptL sg (l.take j)).length : Nat) : Int), (j : Int), ()))
    (fun s _ => (n - s.2.2.2.1).toNat) ?_ _ _ ⟨f1', i0 + 1, l, by omega, by omega, hrl, hr1, ?_, ?_, fun q _ => rfl, ?_⟩
  rotate_left
  · rw [hi1, List.length_take]; omega
  · rw [hi1, List.length_take, Nat.min_eq_left (by omega)]
  · rw [hi1, List.length_take, Nat.min_eq_left (by omega), ei i0 (by omega)]
  rintro s u C ⟨hf, j, Q, hj1, hjn, hQl, hO, hk, htk, hdp, rfl⟩ hC _
  generalize hkk : (keptL sg (l.take j)).length = q0 at hk htk
  have hcu := h.fr hf hA (fun h0 q hq => hG h0 q hq)
  refine vIf_mk (fun hlt => ?_) (fun hge => ?_)
  · have hlt2 : (j : Int) < (n : Int) := of_decide_eq_true hlt
    have gj : l[j]? = some (l[j]'(by omega)) := List.getElem?_eq_getElem (by omega)
    have hsn := keptL_step (sg := sg) gj
    generalize l[j]'(by omega) = x at gj hsn
    have hmeas : ((n : Int) - IntKind.wrap .i64 ((j : Int) + 1)).toNat < ((n : Int) - (j : Int)).toNat := by rw [ei j (by omega)]; omega
    have gQ := (hdp j (Nat.le_refl _)).trans gj
    refine l_rd hO.sl hQl gQ rfl (lo_var (fun b7 u1 g1 hb7 r7 => ⟨encL x, rfl, rec_all r7, (kcl_calls x b S m k sg u1 (hcu.fr g1 (fun h => h) (fun _ _ _ h => h))).mono ?_⟩))
    rintro r u2 ⟨rfl, g2⟩
    have g12 := g1.trans1 g2
    have hf2 : Fr (fun k => blkOf (some (⟨ba, 0, none⟩ : Addr)) = some k) w u2 := hf.trans1 (g12.mono (fun _ _ h => h.elim))
    have hO2 := g12.row hO (fun _ _ h => h)
    refine ⟨_, rfl, vIf_mk (fun hg => ?_) (fun hg => ?_)⟩
    · have hg : x.s ∈ sg := by simpa using hg
      rw [if_pos hg] at hsn
      refine ⟨encL x, rfl, rec_all (r7.fr g2 (fun h => h)), ?_⟩
      refine el_put (enc := encL) hO2 (fun _ _ => rfl) hQl (i := q0) (by omega) rfl (y := x) rfl (encL_o.one x) (fun u5 hr5 f5 => jnC_mk (hC _ _ ⟨hf2.trans1 f5, j + 1, Q.set q0 x, by omega, by omega, by simpa using hQl, hr5, ?_, ?_, ?_, ?_⟩ hmeas))
      · rw [hsn, List.length_append, hkk]; simp; omega
      · rw [hsn, List.length_append, hkk]
        show (Q.set q0 x).take (q0 + 1) = _
        rw [List.take_add_one, List.getElem?_set_self (by omega), Option.toList_some, List.take_set_of_le (Nat.le_refl q0), htk]
      · intro q hq
        rw [List.getElem?_set_ne (by omega)]
        exact hdp q (by omega)
      · rw [hsn, List.length_append, hkk, ei j (by omega)]
        show (_, _, IntKind.wrap .i64 ((q0 : Int) + 1), _, ()) = _
        rw [ei q0 (by omega)]; rfl
    · have hg : x.s ∉ sg := by simpa using hg
      rw [if_neg hg] at hsn
      exact jnC_mk (hC _ _ ⟨hf2, j + 1, Q, by omega, by omega, hQl, hO2, by rw [hsn, hkk]; omega, by rw [hsn, hkk]; exact htk, fun q hq => hdp q (by omega), by rw [hsn, hkk, ei j (by omega)]⟩ hmeas)
  · have hge2 : ¬ (j : Int) < (n : Int) := of_decide_eq_false hge
    have hjn2 : j = n := by omega
    subst hjn2
    have hta : l.take j = l := List.take_of_length_le (by omega)
    rw [hta] at hkk htk
    dsimp only
    simp only [Int.toNat_natCast]
    refine gd_mk (decide_eq_true (by omega)) (gd_mk (decide_eq_true (by omega)) (vIf_f (by simp; omega) ?_))
    have hzl : (zeros (j - q0) [Value.int .i64 0, Value.int .i64 0, Value.int .i64 0]).length = (j - q0) * 3 := by rw [zeros_length]; rfl
    have hpt := row_putG (o' := q0 * 3) (us := zeros (j - q0) [Value.int .i64 0, Value.int .i64 0, Value.int .i64 0]) (K := fun w' => jnC (F69s.k12 (fun v w' => v = .slice (some ⟨ba, 0, none⟩) (keptL sg l).length c ∧ Fr (fun k => blkOf (some (⟨ba, 0, none⟩ : Addr)) = some k) w w' ∧ Row w' B 98 3 (some ⟨ba, 0, none⟩) (keptL sg l).length c (flt encL (keptL sg l)))) ((some ⟨ba, 0, none⟩, j, c), (q0 : Int), ()) w') hO (by omega) (by rw [hzl]; omega) (zeros_one (by simp; rfl)) (fun w6 hr6 f6 => jnC_mk (fun _ => ?_))
    · rw [slS (by omega), ← Nat.zero_add (q0 * 3)]
      exact hpt
    · refine gd_mk (decide_eq_true (by show (0 : Int) ≤ (q0 : Int); omega)) (gd_mk (decide_eq_true (by show (q0 : Int) ≤ (c : Int); omega)) ⟨?_, hf.trans1 f6, ?_⟩)
      · show Value.slice (slA (some ⟨ba, 0, none⟩) c 0 3) ((q0 : Int).toNat) c = _
        rw [Int.toNat_natCast, hkk, sl0]
      · rw [hkk, ← htk]
        have h7 := row_cutG hr6 (k := q0) (by omega)
        have e : (splice (flt encL Q) (q0 * 3) (zeros (j - q0) [Value.int .i64 0, Value.int .i64 0, Value.int .i64 0])).take (q0 * 3) = flt encL (Q.take q0) := by
          rw [← encL_o.ft Q (by omega)]
          unfold splice
          rw [List.append_assoc, List.take_append_of_le_length (by rw [List.length_take, encL_o.fl]; omega), List.take_take, Nat.min_self]
        rw [e] at h7
        exact h7
set_option maxHeartbeats 1000000 in
theorem keepS_calls {w : World} {base sb : Nat} {d : SD} (h : Sta w base sb d) (G : Option Addr) (m k : Nat) (sg : List Int) (hsg : Sl w 1 G m (ivs sg)) (hG : m ≠ 0 → ∀ b, blkOf G = some b → ¬ d.D sb b) (hm : m ≤ 8589934592) (hb : SB 50000000 d) (hB : base ≤ w.heap.size) :
    Calls Tryz.prog 30 #[.pointer (some ⟨sb, 0, none⟩), .slice G m k] w fun e w' => e = .returned (.tuple #[]) ∧ ∃ d', Stp w w' base sb d d' ∧ d'.lE = keepLE sg d.lE ∧ d'.lT = Tg.keepL sg d.lT ∧ d'.lL = keptL sg d.lL ∧ d'.p = d.p := by
  refine (F30.of (some ⟨sb, 0, none⟩) G m k w (Q := fun v w' => v = .tuple #[] ∧ ∃ d', Stp w w' base sb d d' ∧ d'.lE = keepLE sg d.lE ∧ d'.lT = Tg.keepL sg d.lT ∧ d'.lL = keptL sg d.lL ∧ d'.p = d.p) ?_).mono (fun e w' ⟨v, he, hv, h⟩ => ⟨by rw [he, hv], h⟩)
  have hnT := h.tg.len
  have hnL := h.ll
  have bt := hb.tl
  have bl := hb.ll
  have bp := hb.p
  refine nw_mk ?_
  have f1 : Fr (fun _ => False) w (w.alloc (.cells [Value.slice G m k].toArray 46)) := Fr.alloc _ _ _
  have r1 := RecAt.new w [Value.slice G m k] 46
  have hb1D : ¬ d.D sb w.heap.size := fun hk => by have := (h.lt hk).2; omega
  generalize hwb : w.heap.size = b1 at r1 hb1D ⊢
  generalize w.alloc (.cells [Value.slice G m k].toArray 46) = w1 at f1 r1 ⊢
  have fd := f1.trans1 (Fr.drew _ w1)
  have hcap : Cap w1.drew b1 G m k sg := ⟨r1.fr (Fr.drew (fun _ => False) w1) (fun h => h), fd.sl hsg (fun _ _ _ h => h), by omega⟩
  have hd := h.fr0 fd
  have s1 := fd.size
  have hGl : m ≠ 0 → ∀ b, blkOf G = some b → b < w.heap.size := fun h0 b hb' => hsg.blt (by decide) h0 hb'
  refine vIf_f rfl (dr_mk ⟨_, hd.rs.cell rfl, G, m, k, hcap.rc.cell rfl, (keepX_calls base d.ib d.bt d.bs d.N d.p d.S d.lE G m k sg w1.drew hd.ix (hb.e.mono (by omega)) (by omega) hcap.sl (fun h0 b hb' hi => hG h0 b hb' (.inr (.inl hi))) hm (by omega) (fun k hk => ⟨fun e => by have := hd.rs.lt; omega, fun ht => by have := (hd.tg.lt ht).2; omega, fun hl => by have := (hd.ld.blt hl).2; omega, fun hz => by have := hd.zb k hz; omega⟩)).mono ?_⟩)
  rintro r w2 ⟨rfl, f2, bs2, N2, S2, hI2, hbs2⟩
  have st2 := Stp.ix hd f2 hI2 hbs2
  have hcap2 := (hcap.fr f2 (fun hk => hb1D (.inr (.inl hk))) (fun h0 q hq hi => hG h0 q hq (.inr (.inl hi)))).fr (Fr.drew (fun _ => False) w2) (fun h => h) (fun _ _ _ h => h)
  have fd2 := Fr.drew (fun _ => False) w2
  have h2d := st2.st.fr0 fd2
  have s2 := f2.size
  have s2d : w2.drew.heap.size = w2.heap.size := rfl
  refine ⟨rfl, dr_mk ⟨_, h2d.rs.cell rfl, G, m, k, hcap2.rc.cell rfl, (Tg.keepTab_calls base d.tb d.R d.nT d.cT d.lT G m k sg w2.drew h2d.tg (by omega) (fun e he => by have := hb.t e he; omega) hcap2.sl hm (by omega) (fun k hk => ⟨fun e => by have := h2d.rs.lt; omega, fun hi => by have := (h2d.ix.lt hi).2; omega, fun hl => by have := (h2d.ld.blt hl).2; omega, fun hz => by have := h2d.zb k hz; omega⟩)).mono ?_⟩⟩
  rintro r w3 ⟨rfl, f3, R3, n3, c3, hT3, hR3⟩
  have st3 := Stp.tg h2d f3 hT3 (Tg.keepL_asc sg h.ta) (fun k hk => .inr (hR3 k hk))
  have h3 := st3.st
  have hcap3 := hcap2.fr f3 (fun hk => hb1D (.inr (.inr (.inl hk)))) (fun h0 q hq hi => hG h0 q hq (.inr (.inr (.inl hi))))
  have st13 := (((Stp.of0 h fd).trans st2).fr0 fd2).trans st3
  have s3 := f3.size
  refine ⟨rfl, dr_mk ⟨_, _, _, h3.rs.cell rfl, (kdel_calls base d.L d.nL d.cL d.lL b1 G m k sg w3 h3.ld h3.ll hcap3 (fun e => hb1D (.inr (.inr (.inr e)))) (fun h0 q hq e => hG h0 q hq (.inr (.inr (.inr e)))) (by omega)).mono ?_⟩⟩
  rintro r w4 ⟨rfl, f4, h4⟩
  have hkl := keptL_len sg d.lL
  refine ⟨_, _, _, rfl, dr_mk ((h3.rs.fr f4 h3.s3).st_mk (o := 0 + 1) (by show 0 + 1 + 1 ≤ 3; omega) (fun v hv => by simp at hv; subst hv; rfl) (fun r5 f5 => ⟨rfl, ?_⟩))⟩
  have r5 : RecAt _ sb 96 [.pointer (some ⟨d.ib, 0, none⟩), .slice d.L (keptL sg d.lL).length d.cL, .pointer (some ⟨d.tb, 0, none⟩)] := r5
  generalize stB w4 sb (0 + 1) [Value.slice d.L (keptL sg d.lL).length d.cL] = w5 at r5 f5 ⊢
  have f45 : Fr (fun k => k = sb ∨ blkOf d.L = some k) w3 w5 := (f4.mono (fun _ _ h => .inr h)).trans1 (f5.mono (fun _ _ h => .inl h))
  have h5 := h3.ld' f45 r5 (f5.row h4 (fun k hk h' => h3.s3 (by rw [← h']; exact hk))) rfl (h.la.sublist (List.filter_sublist ..)) (fun x hx => h.lz x ((List.mem_filter.1 hx).1)) (fun k hk => .inl hk)
  exact ⟨_, st13.trans ⟨h5, f45.mono (fun k _ hk => hk.elim (fun e => .inl e) (fun e => .inr (.inr (.inr e)))), rfl, fun k hk => .inl hk⟩, rfl, rfl, rfl, rfl⟩
end Go.Proofs.YthcclmlbkfadcaaGreat
/- chapter 22: words; what lives in a segment -/
namespace Go.Proofs.YthcclmlbkfadcaaGreat
open Go.GV Go.RowKit Go.Lib Go.Stb
open Tg (Tn liveT)
set_option linter.unusedVariables false
set_option linter.unusedSimpArgs false
theorem wd_ones (x : Wd) : ∀ v ∈ x.cs, v.oneCell' = true := by
  intro v hv
  unfold Wd.cs at hv
  rcases List.mem_append.1 hv with h | h
  · simp at h; rcases h with rfl | rfl <;> rfl
  · rcases List.mem_append.1 h with h | h
    · exact bvs_one _ v h
    · simp at h; rcases h with rfl | rfl | rfl | rfl | rfl <;> rfl
def W39 (l : List Wd) : Prop := ∀ x ∈ l, x.d.length = 32
theorem W39.len {l : List Wd} (h : W39 l) : ∀ x ∈ l, (x.cs).length = 39 := fun x hx => wd_len (h x hx)
def WSl (w : World) (A : Option Addr) (n : Nat) (l : List Wd) : Prop := Sl w 39 A n (flt Wd.cs l) ∧ l.length = n ∧ W39 l
def WOw (w : World) (B : Nat) (A : Option Addr) (n c : Nat) (l : List Wd) : Prop := Row w B 37 39 A n c (flt Wd.cs l) ∧ l.length = n ∧ W39 l
theorem WOw.sl {w : World} {B : Nat} {A : Option Addr} {n c : Nat} {l : List Wd} (h : WOw w B A n c l) : WSl w A n l := ⟨h.1.sl, h.2⟩
theorem WOw.fr0 {w w' : World} {B : Nat} {A : Option Addr} {n c : Nat} {l : List Wd} (h : WOw w B A n c l) (f : Fr (fun _ => False) w w') : WOw w' B A n c l := ⟨f.row h.1 (fun _ _ h => h), h.2⟩
theorem WSl.fr0 {w w' : World} {A : Option Addr} {n : Nat} {l : List Wd} (h : WSl w A n l) (f : Fr (fun _ => False) w w') : WSl w' A n l := ⟨f.sl h.1 (fun _ _ _ h => h), h.2⟩
theorem WOw.nil (w : World) (B : Nat) : WOw w B none 0 0 [] := ⟨Row.nil _ _ _ _, rfl, fun x hx => by cases hx⟩
theorem w_rd {w : World} {A : Option Addr} {n : Nat} {l : List Wd} (h : WSl w A n l) {i : Nat} {x : Wd} (hi : l[i]? = some x) {ii : Int} (hii : ii = (i : Int)) {X : Nat → Nat → Prop} (hX : ∀ b o, cellsAt w b (o + ii.toNat * 39) x.cs → X b o) :
    dr A fun b o => gd (decide (0 ≤ ii)) (gd (decide (ii < ((n : Nat) : Int))) (X b o)) :=
  el_rd h.1 h.2.2.len hi hii h.2.1 (fun b o hA hc => hX b o hc)
theorem push_w {w : World} {B : Nat} {A : Option Addr} {n c : Nat} {out : List Wd} {x : Wd} {K : Option Addr → Nat → Nat → World → Prop} (hr : WOw w B A n c out) (hx : x.d.length = 32) (hB : B ≤ w.heap.size) (hn : n ≤ 1073741824)
    (hK : ∀ A' c' w', WOw w' B A' (n + 1) c' (out ++ [x]) → Fr (fun k => blkOf A = some k) w w' → (∀ k, blkOf A' = some k → blkOf A = some k ∨ w.heap.size ≤ k) → K A' (n + 1) c' w') : nw w (x.cs ++ []) 37 fun b w' => app w' 39 96 Z37 37 A n c (.slice (some ⟨b, 0, none⟩) 1 1) K := by
  refine nw_mk ?_
  rw [List.append_nil]
  have hxl := wd_len hx
  have f1 : Fr (fun _ => False) w (w.alloc (.cells x.cs.toArray 37)) := Fr.alloc _ _ _
  have r1 : Row (w.alloc (.cells x.cs.toArray 37)) 0 37 39 (some ⟨w.heap.size, 0, none⟩) 1 1 x.cs := Row.new (Nat.zero_le _) (by rw [hxl])
  have hs : (w.alloc (.cells x.cs.toArray 37)).heap.size = w.heap.size + 1 := alloc_size _ _
  generalize w.alloc (.cells x.cs.toArray 37) = w1 at f1 r1 hs ⊢
  refine app_row2 (hr.fr0 f1).1 r1.sl.src (wd_ones x) rfl (by omega) (by omega) (by omega) (fun A' c' w' hr' f' hb' => hK A' c' w' ⟨?_, by rw [List.length_append, hr.2.1]; rfl, fun y hy => ?_⟩ ?_ (fun k hk => (hb' k hk).imp id (fun h => by omega)))
  · rw [flt_app, flt_one]; exact hr'
  · rcases List.mem_append.1 hy with h | h
    · exact hr.2.2 y h
    · simp at h; subst h; exact hx
  · exact f1.trans f' (fun _ _ h => h.elim) (fun _ _ h => h)
/-! ### fields of a word -/
theorem wd_fld {w : World} {b : Nat} {x : Wd} (h : RecAt w b 37 x.cs) (hx : x.d.length = 32) {j : Nat} {v : Value} (hj : [Value.string x.nm, .int .i64 x.z, .int .i64 x.s, .int .i64 x.o, .int .i64 x.q][j]? = some v) {i : Nat} (hi : i = 34 + j) : cellAt w b i = some v := by
  have h : RecAt w b 37 ([.int .i64 x.k, .int .u64 x.sq] ++ (x.d.map bv ++ [.string x.nm, .int .i64 x.z, .int .i64 x.s, .int .i64 x.o, .int .i64 x.q])) := h
  exact rec_end h (bvl hx) hj (by rw [hi]; rfl)
/-! ### the stable order -/
abbrev W32 : Type := { x : Wd // x.d.length = 32 }
def cmpW (a b : W32) : Int := cmpO a.1 b.1
def encW (x : W32) : List Value := x.1.cs
theorem cmpW_ord : OrdC cmpW := ⟨fun a b => cmpO_ord.anti _ _, fun a b c => cmpO_ord.trans _ _ _⟩
theorem ins_val (x : W32) : ∀ l : List W32, (ins cmpW x l).map (·.1) = ins cmpO x.1 (l.map (·.1))
  | [] => rfl
  | y :: r => by
    rw [List.map_cons, ins, ins]
    by_cases h : cmpO x.1 y.1 < 0
    · rw [if_pos (show cmpW x y < 0 from h), if_pos h]; rfl
    · rw [if_neg (show ¬ cmpW x y < 0 from h), if_neg h, List.map_cons, ins_val x r]
theorem stab_val (l : List W32) : (stab cmpW l).map (·.1) = stab cmpO (l.map (·.1)) :=
  snoc_ind (P := fun l => (stab cmpW l).map (·.1) = stab cmpO (l.map (·.1))) rfl (fun l x ih => by
    rw [stab_snoc, ins_val, ih, List.map_append, List.map_singleton, stab_snoc]) l
theorem flt_val (l : List W32) : flt encW l = flt Wd.cs (l.map (·.1)) := by
  unfold flt encW
  rw [List.map_map]; rfl
theorem to32 {l : List Wd} (h : W39 l) : ∃ l' : List W32, l'.map (·.1) = l := by
  refine ⟨l.attach.map (fun x => (⟨x.1, h x.1 x.2⟩ : W32)), ?_⟩
  rw [List.map_map]
  show l.attach.map (fun x => x.1) = l
  simp
theorem here1_calls (x y : W32) (w : World) :
    Calls Tryz.prog 52 #[ofL (encW x), ofL (encW y)] w fun e w' => e = .returned (.int .i64 (cmpW x y)) ∧ Fr (fun _ => False) w w' := by
  refine (F52.of _ _ w (Q := fun v w' => v = .int .i64 (cmpW x y) ∧ Fr (fun _ => False) w w') ?_).mono (fun e w' ⟨v, he, hv, h⟩ => ⟨by rw [he, hv], h⟩)
  refine nw_mk (nw_mk ?_)
  have f1 : Fr (fun _ => False) w (w.alloc (.cells (encW x).toArray 37)) := Fr.alloc _ _ _
  have r1 : RecAt (w.alloc (.cells (encW x).toArray 37)) w.heap.size 37 x.1.cs := RecAt.new _ _ _
  generalize w.alloc (.cells (encW x).toArray 37) = w1 at f1 r1 ⊢
  have f2 : Fr (fun _ => False) w1 (w1.alloc (.cells (encW y).toArray 37)) := Fr.alloc _ _ _
  have r2 : RecAt (w1.alloc (.cells (encW y).toArray 37)) w1.heap.size 37 y.1.cs := RecAt.new _ _ _
  generalize w1.alloc (.cells (encW y).toArray 37) = w2 at f2 r2 ⊢
  refine ⟨x.1.o, wd_fld (r1.fr f2 (fun h => h)) x.2 (j := 3) rfl rfl, y.1.o, wd_fld r2 y.2 (j := 3) rfl rfl, (cmpI_calls x.1.o y.1.o w2).mono ?_⟩
  rintro r w3 ⟨rfl, rfl⟩
  exact ⟨_, rfl, rfl, f1.trans1 f2⟩
theorem wsrt : StbWd.Srt W32 encW cmpW := ⟨fun x => wd_len x.2, fun x => wd_ones x.1, cmpW_ord, here1_calls⟩
theorem sortW_calls (B : Nat) (A : Option Addr) (n c : Nat) (l : List Wd) (w : World) (h : WOw w B A n c l) (hn : n ≤ 1000000000) :
    Calls Tryz.prog 51 #[.slice A n c, .func (.func 52) #[] #[]] w fun e w' => e = .returned (.tuple #[]) ∧ Fr (fun k => blkOf A = some k) w w' ∧ WOw w' B A n c (stab cmpO l) := by
  obtain ⟨l', rfl⟩ := to32 h.2.2
  have h1 := h.1
  rw [← flt_val] at h1
  have hl : l'.length = n := by have := h.2.1; simpa using this
  refine (StbWd.sortStable_calls wsrt B A n c l' w h1 hl (by omega)).mono ?_
  rintro r w2 ⟨rfl, f2, h2⟩
  rw [flt_val, stab_val] at h2
  refine ⟨rfl, f2, h2, by rw [stab_len]; exact h.2.1, fun x hx => h.2.2 x ((stab_perm _).mem_iff.1 hx)⟩
/-! ### what lives in a segment -/
theorem word_calls {P : Nat → Prop} (e : Tn) (cs : List Value) (w : World) (h : Tg.TnP P w cs e) :
    Calls Tryz.prog 50 #[ofL cs] w fun r w' => r = .returned (ofL (wdT e).cs) ∧ Fr (fun _ => False) w w' := by
  refine (F50.of cs w (Q := fun v w' => v = ofL (wdT e).cs ∧ Fr (fun _ => False) w w') ?_).mono (fun e w' ⟨v, he, hv, h⟩ => ⟨by rw [he, hv], h⟩)
  have hd := h.dl
  obtain ⟨A, n, c, rfl, hs, _, _⟩ := h
  refine nw2 (fun b1 b3 u f r1 r3 hb1 hb3 n13 => ?_)
  have r1 : RecAt u b1 _ ([.string e.nm] ++ (e.d.map bv ++ [.bool e.g, .int .i64 e.s, .int .i64 e.o, .int .i64 e.q, .slice A n c])) := r1
  refine ⟨e.nm, r1.cell rfl, e.d.map bv, bvl hd, rec_mid r1, [.int .i64 e.s, .int .i64 e.o, .int .i64 e.q], rfl, rec_loc r1 (bvl hd) (j := 1) rfl rfl rfl rfl, gd_mk (len1 hd) (gd_mk rfl (nw_mk (gd_mk (by simp [hd]) ?_)))⟩
  have f4 : Fr (fun _ => False) u (u.alloc (.cells Z37.toArray 37)) := Fr.alloc _ _ _
  have r4 := RecAt.new u Z37 37
  have hb8 : b3 ≠ u.heap.size := fun e => by have := r3.lt; omega
  have hub : w.heap.size ≤ u.heap.size := f.size
  have hb18 : b1 ≠ u.heap.size := fun e => by have := r1.lt; omega
  generalize hbe : u.heap.size = b8 at r4 hb8 hub hb18 ⊢
  generalize u.alloc (.cells Z37.toArray 37) = u1 at f4 r4 ⊢
  have x3 : (⟨3, 0, e.d, e.nm, 0, e.s, e.o, e.q⟩ : Wd).cs.length = 39 := wd_len hd
  refine r4.st_mk (o := 0) (vs := (⟨3, 0, e.d, e.nm, 0, e.s, e.o, e.q⟩ : Wd).cs) (by rw [x3]; exact Nat.le_refl _) (wd_ones _) (fun r5 f5 => ?_)
  rw [splice_full (by rw [x3]; rfl)] at r5
  show ldB (stB u1 b8 0 (⟨3, 0, e.d, e.nm, 0, e.s, e.o, e.q⟩ : Wd).cs) b1 (0 + 33) _
  generalize stB u1 b8 0 (⟨3, 0, e.d, e.nm, 0, e.s, e.o, e.q⟩ : Wd).cs = u2 at r5 f5 ⊢
  have g2 : Fr (fun _ => False) w u2 := (f.trans1 f4).trans f5 (fun _ _ h => h) (fun k hk h => by omega)
  have r12 := (r1.fr f4 (fun h => h)).fr f5 hb18
  have r32 := (r3.fr f4 (fun h => h)).fr f5 hb8
  -- the answer
  have fin : ∀ (y : Wd) (v : World), y.d.length = 32 → Fr (fun _ => False) w v → RecAt v b8 37 y.cs → RecAt v b3 37 Z37 → wdT e = y →
      ldA 39 v b8 0 fun a => gd (a.length == 39) (st v b3 0 a fun w14 => ldA 39 w14 b3 0 fun a15 => ofL a15 = ofL (wdT e).cs ∧ Fr (fun _ => False) w w14) := by
    intro y v hy fv ry r3v he
    have hyl := wd_len hy
    rw [he]
    refine ⟨y.cs, hyl, rec_all ry, gd_mk (by rw [hyl]; rfl) (r3v.st_mk (o := 0) (by rw [hyl]; exact Nat.le_refl _) (wd_ones _) (fun r6 f6 => ⟨y.cs, hyl, ?_, rfl, fr_own fv f6 hb3⟩))⟩
    rw [splice_full (by rw [hyl]; rfl)] at r6
    exact rec_all r6
  refine ⟨e.g, rec_end r12 (bvl hd) (j := 0) rfl rfl, vIf_mk (fun hg => ?_) (fun hg => ?_)⟩
  · refine r5.st_mk (o := 0) (by rw [x3]; simp) (fun v hv => by simp at hv; subst hv; rfl) (fun r6 f6 => ?_)
    have r6 : RecAt _ b8 37 (⟨4, 0, e.d, e.nm, 0, e.s, e.o, e.q⟩ : Wd).cs := r6
    generalize stB u2 b8 0 [Value.int .i64 4] = u3 at r6 f6 ⊢
    exact fin _ u3 hd (g2.trans f6 (fun _ _ h => h) (fun k hk h => by omega)) r6 (r32.fr f6 hb8) (by unfold wdT; rw [if_pos hg])
  · exact fin _ u2 hd g2 r5 r32 (by unfold wdT; rw [if_neg (by rw [hg]; decide)])
end Go.Proofs.YthcclmlbkfadcaaGreat
/- chapter 22: Here, Loads, Snapshot -/
namespace Go.Proofs.YthcclmlbkfadcaaGreat
open Go.GV Go.RowKit Go.Lib Go.Stb
open Tg (Tn liveT)
set_option linter.unusedVariables false
set_option linter.unusedSimpArgs false
theorem e_loc {P : Nat → Prop} {w w' : World} {cs : List Value} {e : En} {b p : Nat} (h : EnP P w' cs e) (hc : cellsAt w b p cs) : cellsAt w b (p + 34) [.int .i64 e.s, .int .i64 e.o, .int .i64 e.q] := fun j v hj => by
  match j, hj with
  | 0, hj => simp at hj; subst hj; exact e_fld h hc (j := 2) rfl
  | 1, hj => simp at hj; subst hj; exact e_fld h hc (j := 3) rfl
  | 2, hj => simp at hj; subst hj; exact e_fld h hc (j := 4) rfl
theorem t_fld {P : Nat → Prop} {w w' : World} {cs : List Value} {e : Tn} {b p : Nat} (h : Tg.TnP P w' cs e) (hc : cellsAt w b p cs) {j : Nat} {v : Value} (hj : [Value.bool e.g, .int .i64 e.s, .int .i64 e.o, .int .i64 e.q][j]? = some v) : cellAt w b (p + (33 + j)) = some v := by
  have hd := h.dl
  obtain ⟨A, n, c, rfl, _⟩ := h
  refine hc (33 + j) v ?_
  unfold Tg.Tn.cs
  have hj4 : j < 4 := (List.getElem?_eq_some_iff.1 hj).1
  have l1 : [Value.string e.nm].length = 1 := rfl
  have l2 : (e.d.map bv).length = 32 := bvl hd
  rw [List.getElem?_append_right (by rw [l1]; omega), List.getElem?_append_right (by rw [l1, l2]; omega)]
  have : 33 + j - [Value.string e.nm].length - (e.d.map bv).length = j := by rw [l1, l2]; omega
  rw [this]
  have h2 : [Value.bool e.g, .int .i64 e.s, .int .i64 e.o, .int .i64 e.q, .slice A n c] = [Value.bool e.g, .int .i64 e.s, .int .i64 e.o, .int .i64 e.q] ++ [.slice A n c] := rfl
  rw [h2, List.getElem?_append_left (by simpa using hj4)]
  exact hj
theorem fr_ownR {S : Nat → Prop} {w u v : World} {A : Option Addr} {b : Nat} (f : Fr (fun _ => False) w u) (hb : ∀ k, blkOf A = some k → b ≤ k) (hw : w.heap.size ≤ b) (g : Fr (fun k => blkOf A = some k) u v) : Fr S w v :=
  f.trans g (fun _ _ h => h.elim) (fun k hk h => by have := hb k h; omega)
set_option maxHeartbeats 1000000 in
theorem hereS_calls {w : World} {base sb : Nat} {d : SD} (h : Sta w base sb d) (s : Int) (hb : SB 50000000 d) :
    Calls Tryz.prog 12 #[.pointer (some ⟨sb, 0, none⟩), .int .i64 s] w fun e w' => Fr (fun _ => False) w w' ∧ ∃ A' c', e = .returned (.slice A' (herL s d.lE d.lT).length c') ∧ WOw w' w.heap.size A' (herL s d.lE d.lT).length c' (herL s d.lE d.lT) := by
  refine (F12.of (some ⟨sb, 0, none⟩) s w (Q := fun v w' => Fr (fun _ => False) w w' ∧ ∃ A' c', v = .slice A' (herL s d.lE d.lT).length c' ∧ WOw w' w.heap.size A' (herL s d.lE d.lT).length c' (herL s d.lE d.lT)) ?_).mono (fun e w' ⟨v, he, hf, A', c', hv, h⟩ => ⟨hf, A', c', by rw [he, hv], h⟩)
  have bp := hb.p
  have bt := hb.tl
  have hnT := h.tg.len
  have be : BdE 4294967296 d.lE := hb.e.mono (by omega)
  have bT : Tg.Bd 4294967296 d.lT := fun e he => by have := hb.t e he; omega
  refine vIf_f rfl (dr_mk ⟨_, h.rs.cell rfl, (rowX_calls base d.ib d.bt d.bs d.N d.p d.S d.lE w h.ix be (by omega)).mono ?_⟩)
  rintro r w1 ⟨f1, A1, c1, rfl, hE, hEl⟩
  have hErt := hE.rt
  refine ⟨_, _, _, rfl, jnC_mk (loop_rule (fun t u => Fr (fun _ => False) w1 u ∧ ∃ (i : Nat) (A2 : Option Addr) (c2 : Nat), i ≤ d.lE.length ∧ t = (some ⟨sb, 0, none⟩, s, (A2, (herE s (d.lE.take i)).length, c2), (A1, d.lE.length, c1), ((d.lE.length : Nat) : Int), (i : Int), ()) ∧ WOw u w.heap.size A2 (herE s (d.lE.take i)).length c2 (herE s (d.lE.take i)) ∧ ∀ k, blkOf A2 = some k → w1.heap.size ≤ k)
    (fun t _ => (d.lE.length - t.2.2.2.2.2.1).toNat) ?_ _ _ ⟨Fr.refl _ _, 0, none, 0, by omega, rfl, WOw.nil _ _, fun k hk => by cases hk⟩)⟩
  rintro t u C5 ⟨hf, i, A2, c2, hi, rfl, hW, hA2⟩ hC5 _
  have hs1 := f1.size
  refine vIf_mk (fun hlt => ?_) (fun hge => ?_)
  · have hlt2 : (i : Int) < ((d.lE.length : Nat) : Int) := of_decide_eq_true hlt
    have gi : d.lE[i]? = some (d.lE[i]'(by omega)) := List.getElem?_eq_getElem (by omega)
    generalize d.lE[i]'(by omega) = x at gi
    have hst := herE_step (s := s) gi
    have hll := herE_len s (d.lE.take i)
    rw [List.length_take] at hll
    have hmeas : (((d.lE.length : Nat) : Int) - IntKind.wrap .i64 ((i : Int) + 1)).toNat < (((d.lE.length : Nat) : Int) - (i : Int)).toNat := by rw [ei i (by omega)]; omega
    refine e_rd (hErt.fr0 hf) gi (fun b o cs hA hT hc => ⟨cs, hT.len, hc, var_mk z28 hT.len hT.one (fun b12 u1 g1 r12 => ?_)⟩)
    have hT1 := hT.fr0 g1
    have hW1 := hW.fr0 g1
    -- behind the asking
    have k8 : ∀ (t : Bool) (v : World), Fr (fun _ => False) u1 v → (t = true ↔ x.s = s ∧ liveE x = true) → jnC (F12.k8 (fun v w' => Fr (fun _ => False) w w' ∧ ∃ A' c', v = .slice A' (herL s d.lE d.lT).length c' ∧ WOw w' w.heap.size A' (herL s d.lE d.lT).length c' (herL s d.lE d.lT)) C5) (some ⟨sb, 0, none⟩, s, (A2, (herE s (d.lE.take i)).length, c2), (b12, 0), (A1, d.lE.length, c1), ((d.lE.length : Nat) : Int), (i : Int), t, ()) v := by
      intro t v fv ht
      have rv := r12.fr fv (fun h => h)
      have hTv := hT1.fr0 fv
      have hWv := hW1.fr0 fv
      have fwv : Fr (fun _ => False) w1 v := (hf.trans1 g1).trans1 fv
      have hdl := hTv.dl
      refine jnC_mk (fun _ => vIf_mk (fun h0 => ?_) (fun h0 => ?_))
      · have h0 := ht.1 h0
        rw [if_pos h0] at hst
        refine ⟨x.k, e_fld hTv (rec_all rv) (j := 0) rfl, x.d.map bv, bvl hdl, e_dig hTv (rec_all rv), x.z, e_fld hTv (rec_all rv) (j := 1) rfl, [.int .i64 x.s, .int .i64 x.o, .int .i64 x.q], rfl, e_loc hTv (rec_all rv), gd_mk (len1 hdl) (gd_mk rfl (gd_mk (by simp [hdl]) ?_))⟩
        refine push_w (x := wdE x) hWv hdl (by have := fwv.size; omega) (by show (herE s (d.lE.take i)).length ≤ _; omega) (fun A3 c3 v3 hW3 f3 hb3 => jnC_mk (hC5 _ _ ⟨fr_ownR fwv hA2 (Nat.le_refl _) f3, i + 1, A3, c3, by omega, ?_, ?_, fun k hk => ?_⟩ hmeas))
        · rw [hst, List.length_append, ei i (by omega)]; rfl
        · rw [hst, List.length_append]; exact hW3
        · rcases hb3 k hk with h' | h'
          · exact hA2 k h'
          · have := fwv.size; omega
      · rw [if_neg (fun h => by rw [ht.2 h] at h0; cases h0)] at hst
        exact jnC_mk (hC5 _ _ ⟨fwv, i + 1, A2, c2, by omega, by rw [hst, ei i (by omega)], by rw [hst]; exact hWv, hA2⟩ hmeas)
    refine ⟨x.s, e_fld hT1 (rec_all r12) (j := 2) rfl, vIf_mk (fun h0 => ?_) (fun h0 => k8 false _ (Fr.refl _ _) ?_)⟩
    · have h0 : x.s = s := by simpa using h0
      refine ⟨cs, hT1.len, rec_all r12, (alive_calls x cs u1 hT1.at (by have := be.at gi; omega)).mono ?_⟩
      rintro r u2 ⟨rfl, f2⟩
      exact ⟨_, rfl, k8 _ u2 f2 ⟨fun h => ⟨h0, h⟩, fun h => h.2⟩⟩
    · have h0 : ¬ x.s = s := by simpa using h0
      exact ⟨fun h => (by cases h), fun h => absurd h.1 h0⟩
  · have hge2 : ¬ (i : Int) < ((d.lE.length : Nat) : Int) := of_decide_eq_false hge
    rw [List.take_of_length_le (by omega)] at hW ⊢
    have hgu := f1.trans1 hf
    have hst := h.fr0 hgu
    have hllE := herE_len s d.lE
    clear hC5
    refine dr_mk ⟨_, hst.rs.cell rfl, (Tg.rowT_calls base d.tb d.R d.nT d.cT d.lT u hst.tg (by omega) bT).mono ?_⟩
    rintro r w2 ⟨f2, A5, c5, rfl, hT⟩
    have hTrt := hT.rt
    have hW2 := hW.fr0 f2
    have hg2 := hgu.trans1 f2
    have hsu := f2.size
    have hl5 : ∀ k, blkOf A2 = some k → k < u.heap.size := fun k hk => (hW.1.blt hk).2
    have hA5 : ∀ k, blkOf A5 = some k → u.heap.size ≤ k ∧ k < w2.heap.size := fun k hk => hT.blt hk
    have hRT2 := hTrt.mono (P' := fun k => u.heap.size ≤ k ∧ k < w2.heap.size) (fun k hk h => ⟨h, hk⟩)
    refine ⟨_, _, _, rfl, jnC_mk (loop_rule (fun t v => Fr (fun _ => False) w v ∧ ∃ (i : Nat) (A3 : Option Addr) (c3 : Nat), i ≤ d.nT ∧ t = (s, (A3, (herE s d.lE ++ herT s (d.lT.take i)).length, c3), (A5, d.nT, c5), ((d.nT : Nat) : Int), (i : Int), ()) ∧ WOw v w.heap.size A3 (herE s d.lE ++ herT s (d.lT.take i)).length c3 (herE s d.lE ++ herT s (d.lT.take i)) ∧ (∀ k, blkOf A3 = some k → w1.heap.size ≤ k ∧ (k < u.heap.size ∨ w2.heap.size ≤ k)) ∧ Tg.RT (fun k => u.heap.size ≤ k ∧ k < w2.heap.size) v A5 d.nT d.lT ∧ w2.heap.size ≤ v.heap.size)
      (fun t _ => (d.nT - t.2.2.2.2.1).toNat) ?_ _ _ ⟨hg2, 0, A2, c2, by omega, by simp [herT], by simpa [herT] using hW2, fun k hk => ⟨hA2 k hk, .inl (hl5 k hk)⟩, hRT2, Nat.le_refl _⟩)⟩
    clear hW2 hRT2 hTrt hT
    rintro t v C11 ⟨fv, i, A3, c3, hi, rfl, hW, hA3, hRT, hwv⟩ hC11 _
    have hllT := herT_len s (d.lT.take i)
    rw [List.length_take] at hllT
    refine vIf_mk (fun hlt => ?_) (fun hge => ?_)
    · have hlt2 : (i : Int) < ((d.nT : Nat) : Int) := of_decide_eq_true hlt
      have gi : d.lT[i]? = some (d.lT[i]'(by omega)) := List.getElem?_eq_getElem (by omega)
      generalize d.lT[i]'(by omega) = x at gi
      have hst := herT_step (s := s) gi
      have hmeas : (((d.nT : Nat) : Int) - IntKind.wrap .i64 ((i : Int) + 1)).toNat < (((d.nT : Nat) : Int) - (i : Int)).toNat := by rw [ei i (by omega)]; omega
      refine Tg.t_rd hRT gi (fun b o cs hA hTn hc => ⟨cs, hTn.len, hc, var_mk Tg.z35 hTn.len hTn.one (fun b41 u1 g1 r41 => ?_)⟩)
      have hT1 := hTn.fr0 g1
      have hW1 := hW.fr0 g1
      have hRT1 := hRT.fr0 g1
      have k14 : ∀ (t : Bool) (v2 : World), Fr (fun _ => False) u1 v2 → (t = true ↔ x.s = s ∧ liveT x = true) → jnC (F12.k14 (fun v w' => Fr (fun _ => False) w w' ∧ ∃ A' c', v = .slice A' (herL s d.lE d.lT).length c' ∧ WOw w' w.heap.size A' (herL s d.lE d.lT).length c' (herL s d.lE d.lT)) C11) (s, (A3, (herE s d.lE ++ herT s (d.lT.take i)).length, c3), (b41, 0), (A5, d.nT, c5), ((d.nT : Nat) : Int), (i : Int), t, ()) v2 := by
        intro t v2 fv2 ht
        have rv := r41.fr fv2 (fun h => h)
        have hTv := hT1.fr0 fv2
        have hWv := hW1.fr0 fv2
        have hRTv := hRT1.fr0 fv2
        have g12 := g1.trans1 fv2
        have fwv : Fr (fun _ => False) w v2 := fv.trans1 g12
        have hs12 := g12.size
        refine jnC_mk (fun _ => vIf_mk (fun h0 => ?_) (fun h0 => ?_))
        · have h0 := ht.1 h0
          rw [if_pos h0] at hst
          refine ⟨cs, hTv.len, rec_all rv, (word_calls x cs v2 hTv).mono ?_⟩
          rintro r v3 ⟨rfl, f3⟩
          have hdl := hTv.dl
          have hWv := hWv.fr0 f3
          have hRTv := hRTv.fr0 f3
          have fwv := fwv.trans1 f3
          have hs3 := f3.size
          have e1 : (herE s d.lE ++ (herT s (d.lT.take i) ++ [wdT x])).length = (herE s d.lE ++ herT s (d.lT.take i)).length + 1 := by simp only [List.length_append, List.length_cons, List.length_nil]; omega
          have hlen : (herE s d.lE ++ herT s (d.lT.take i)).length ≤ 1073741824 := by rw [List.length_append]; omega
          refine ⟨_, rfl, gd_mk (by rw [wd_len (x := wdT x) hdl]; rfl) (push_w (x := wdT x) hWv hdl (by have := fwv.size; omega) hlen (fun A4 c4 v4 hW4 f4 hb4 => jnC_mk (hC11 _ _ ⟨fr_ownR fwv (fun k hk => (hA3 k hk).1) hs1 f4, i + 1, A4, c4, by omega, ?_, ?_, fun k hk => ?_, ?_, by have := f4.size; omega⟩ hmeas)))⟩
          · rw [hst, e1, ei i (by omega)]
          · rw [hst, e1, ← List.append_assoc]; exact hW4
          · rcases hb4 k hk with h' | h'
            · exact hA3 k h'
            · exact ⟨by have := hf.size; omega, .inr (by omega)⟩
          · exact hRTv.fr f4 (fun k hk h' => by have := (hA3 k h').2; omega) (fun _ k hk h' => by have h1 := hA5 k hk; have h2 := (hA3 k h').2; omega)
        · rw [if_neg (fun h => by rw [ht.2 h] at h0; cases h0)] at hst
          exact jnC_mk (hC11 _ _ ⟨fwv, i + 1, A3, c3, by omega, by rw [hst, ei i (by omega)], by rw [hst]; exact hWv, hA3, hRTv, by omega⟩ hmeas)
      refine ⟨x.s, t_fld hT1 (rec_all r41) (j := 1) rfl, vIf_mk (fun h0 => ?_) (fun h0 => k14 false _ (Fr.refl _ _) ?_)⟩
      · have h0 : x.s = s := by simpa using h0
        refine ⟨cs, hT1.len, rec_all r41, (Tg.aliveT_calls x cs u1 hT1.at (by have := bT.at gi; omega)).mono ?_⟩
        rintro r u2 ⟨rfl, f2'⟩
        exact ⟨_, rfl, k14 _ u2 f2' ⟨fun h => ⟨h0, h⟩, fun h => h.2⟩⟩
      · have h0 : ¬ x.s = s := by simpa using h0
        exact ⟨fun h => (by cases h), fun h => absurd h.1 h0⟩
    · have hge2 : ¬ (i : Int) < ((d.nT : Nat) : Int) := of_decide_eq_false hge
      rw [List.take_of_length_le (by omega)] at hW ⊢
      have hll : (herE s d.lE ++ herT s d.lT).length ≤ 1000000000 := by rw [List.length_append]; have := herT_len s d.lT; omega
      refine (sortW_calls w.heap.size A3 _ c3 _ v hW hll).mono ?_
      rintro r v2 ⟨rfl, f2', hW2⟩
      have e : stab cmpO (herE s d.lE ++ herT s d.lT) = herL s d.lE d.lT := rfl
      have el : (herE s d.lE ++ herT s d.lT).length = (herL s d.lE d.lT).length := by rw [← e, stab_len]
      rw [e, el] at hW2
      refine ⟨rfl, fr_ownR fv (fun k hk => (hA3 k hk).1) hs1 f2', A3, c3, ?_, hW2⟩
      dsimp only
      rw [el]
end Go.Proofs.YthcclmlbkfadcaaGreat
/- chapter 22: Loads, Snapshot -/
namespace Go.Proofs.YthcclmlbkfadcaaGreat
open Go.GV Go.RowKit Go.Lib Go.Stb
open Tg (Tn liveT)
set_option linter.unusedVariables false
set_option linter.unusedSimpArgs false
theorem flt_put1 {β : Type} {enc : β → List Value} {sz : Nat} (h : EncO β enc sz) {l : List β} {i k : Nat} {x y : β} {v : Value} (hx : l[i]? = some x) (hk : k < sz) (hv : splice (enc x) k [v] = enc y) : splice (flt enc l) (i * sz + k) [v] = flt enc (l.set i y) := by
  have hi := (List.getElem?_eq_some_iff.1 hx).1
  have hA : (flt enc (l.take i)).length = i * sz := by rw [h.fl, List.length_take, Nat.min_eq_left (by omega)]
  have hX := h.len x
  have e1 : flt enc l = flt enc (l.take i) ++ (enc x ++ flt enc (l.drop (i + 1))) := by
    conv => lhs; rw [← List.take_append_drop i l, drop_at hx]
    rw [flt_app, flt_cons]
  have e2 : flt enc (l.set i y) = flt enc (l.take i) ++ (enc y ++ flt enc (l.drop (i + 1))) := by
    rw [List.set_eq_take_append_cons_drop, if_pos hi, flt_app, flt_cons]
  rw [e1, e2, ← hv]
  unfold splice
  have t1 : (flt enc (l.take i) ++ (enc x ++ flt enc (l.drop (i + 1)))).take (i * sz + k) = flt enc (l.take i) ++ (enc x).take k := by
    rw [← hA, List.take_length_add_append, List.take_append_of_le_length (by omega)]
  have t2 : (flt enc (l.take i) ++ (enc x ++ flt enc (l.drop (i + 1)))).drop (i * sz + k + [v].length) = (enc x).drop (k + [v].length) ++ flt enc (l.drop (i + 1)) := by
    rw [← hA, Nat.add_assoc, List.drop_length_add_append, List.drop_append_of_le_length (by rw [List.length_singleton]; omega)]
  rw [t1, t2]
  simp only [List.append_assoc]
/-- a variable that takes a word -/
theorem wd_var {w : World} {cs : List Value} {K : Nat → World → Prop} (hl : cs.length = 39) (ho : ∀ v ∈ cs, v.oneCell' = true) (hK : ∀ b w', Fr (fun _ => False) w w' → w.heap.size ≤ b → RecAt w' b 37 cs → K b w') :
    nw w Z37 37 fun b w1 => gd (cs.length == 39) (st w1 b 0 cs fun w2 => K b w2) := by
  refine nw_mk (gd_mk (by rw [hl]; rfl) ?_)
  have f1 : Fr (fun _ => False) w (w.alloc (.cells Z37.toArray 37)) := Fr.alloc _ _ _
  refine (RecAt.new w Z37 37).st_mk (o := 0) (by rw [hl]; exact Nat.le_refl _) ho (fun r2 f2 => hK _ _ (f1.trans f2 (fun _ _ h => h) (fun k hk h => by omega)) (Nat.le_refl _) ?_)
  rw [splice_full (by rw [hl]; rfl)] at r2
  exact r2
theorem herL_len (s : Int) (lE : List En) (lT : List Tn) : (herL s lE lT).length ≤ lE.length + lT.length := by
  have h1 := herE_len s lE
  have h2 := herT_len s lT
  unfold herL
  rw [stab_len, List.length_append]; omega
theorem loadsL_len (lE : List En) (lT : List Tn) (lL : List Lo) : (loadsL lE lT lL).length = lL.length := by simp [loadsL]
set_option maxHeartbeats 1000000 in
theorem loadsS_calls {w : World} {base sb : Nat} {d : SD} (h : Sta w base sb d) (hb : SB 50000000 d) :
    Calls Tryz.prog 36 #[.pointer (some ⟨sb, 0, none⟩)] w fun e w' => Fr (fun _ => False) w w' ∧ ∃ A' c', e = .returned (.slice A' d.nL c') ∧ Row w' w.heap.size 98 3 A' d.nL c' (flt encL (loadsL d.lE d.lT d.lL)) := by
  refine (F36.of (some ⟨sb, 0, none⟩) w (Q := fun v w' => Fr (fun _ => False) w w' ∧ ∃ A' c', v = .slice A' d.nL c' ∧ Row w' w.heap.size 98 3 A' d.nL c' (flt encL (loadsL d.lE d.lT d.lL))) ?_).mono (fun e w' ⟨v, he, hf, A', c', hv, h⟩ => ⟨hf, A', c', by rw [he, hv], h⟩)
  have hll := h.ll
  have bl := hb.ll
  refine vIf_f rfl (dr_mk ⟨_, _, _, h.rs.cell rfl, (ClnLd.clone_calls d.L d.nL d.cL _ w h.ld.sl (encL_o.fo _) (by omega)).mono ?_⟩)
  rintro r w1 ⟨f1, A1, c1, rfl, h1⟩
  have hA1 : ∀ k, blkOf A1 = some k → w.heap.size ≤ k := fun k hk => (h1.blt hk).1
  refine ⟨_, _, _, rfl, jnC_mk (loop_rule (fun t u => Fr (fun _ => False) w u ∧ ∃ i : Nat, i ≤ d.nL ∧ t = (some ⟨sb, 0, none⟩, (A1, d.nL, c1), ((d.nL : Nat) : Int), (i : Int), ()) ∧ Row u w.heap.size 98 3 A1 d.nL c1 (flt encL (loadsL d.lE d.lT (d.lL.take i) ++ d.lL.drop i)))
    (fun t _ => (d.nL - t.2.2.2.1).toNat) ?_ _ _ ⟨f1, 0, by omega, rfl, by simpa [loadsL] using h1⟩)⟩
  rintro t u C5 ⟨hf, i, hi, rfl, hr⟩ hC5 _
  refine vIf_mk (fun hlt => ?_) (fun hge => ?_)
  · have hlt2 : (i : Int) < ((d.nL : Nat) : Int) := of_decide_eq_true hlt
    have gi : d.lL[i]? = some (d.lL[i]'(by omega)) := List.getElem?_eq_getElem (by omega)
    generalize d.lL[i]'(by omega) = x at gi
    have hxz : x.v = 0 := h.lz x (List.mem_of_getElem? gi)
    have hdl : (loadsL d.lE d.lT (d.lL.take i)).length = i := by rw [loadsL_len, List.length_take]; omega
    have hdr := drop_at gi
    have hnext : loadsL d.lE d.lT (d.lL.take (i + 1)) = loadsL d.lE d.lT (d.lL.take i) ++ [⟨x.s, x.a, sumQ (herL x.s d.lE d.lT)⟩] := by
      unfold loadsL
      rw [List.take_add_one, gi, Option.toList_some, List.map_append]; rfl
    rw [hdr] at hr
    generalize loadsL d.lE d.lT (d.lL.take i) = P at hr hdl hnext
    have hPl : (P ++ x :: d.lL.drop (i + 1)).length = d.nL := by simp only [List.length_append, List.length_cons, List.length_drop]; omega
    refine l_rdS hr.sl hPl (get_mid (by omega)) rfl ((hereS_calls (h.fr0 hf) x.s hb).mono ?_)
    rintro r u2 ⟨f2, A2, c2, rfl, hW⟩
    have hxx : x = ⟨x.s, x.a, sumQ ((herL x.s d.lE d.lT).take 0)⟩ := by
      show x = ⟨x.s, x.a, 0⟩
      rw [← hxz]
    have hr2 := f2.row hr (fun _ _ h => h)
    have hHl : (herL x.s d.lE d.lT).length ≤ 1000000000 := by
      have h1 := herL_len x.s d.lE d.lT
      have := hb.el
      have := hb.tl
      omega
    generalize hH : herL x.s d.lE d.lT = H at hW hnext hxx hHl ⊢
    rw [hxx] at hr2
    have hWs := hW.sl
    have hdis : ∀ k, blkOf A1 = some k → k < u.heap.size := fun k hk => (hr.blt hk).2
    have hA2 : ∀ k, blkOf A2 = some k → u.heap.size ≤ k := fun k hk => (hW.1.blt hk).1
    refine ⟨_, _, _, rfl, jnC_mk (loop_rule (fun t v => Fr (fun _ => False) w v ∧ WSl v A2 H.length H ∧ ∃ j : Nat, j ≤ H.length ∧ t = (some ⟨sb, 0, none⟩, (A1, d.nL, c1), (i : Int), ((d.nL : Nat) : Int), (i : Int), (A2, H.length, c2), ((H.length : Nat) : Int), (j : Int), ()) ∧ Row v w.heap.size 98 3 A1 d.nL c1 (flt encL (P ++ ⟨x.s, x.a, sumQ (H.take j)⟩ :: d.lL.drop (i + 1))))
      (fun t _ => (H.length - t.2.2.2.2.2.2.2.1).toNat) ?_ _ _ ⟨hf.trans1 f2, hWs, 0, by omega, rfl, hr2⟩)⟩
    rintro t v C8 ⟨fv, hWv, j, hj, rfl, hrv⟩ hC8 _
    refine vIf_mk (fun hlt => ?_) (fun hge => ?_)
    · have hlt3 : (j : Int) < ((H.length : Nat) : Int) := of_decide_eq_true hlt
      have gj : H[j]? = some (H[j]'(by omega)) := List.getElem?_eq_getElem (by omega)
      generalize H[j]'(by omega) = y at gj
      have hy := hWv.2.2 y (List.mem_of_getElem? gj)
      have hyl := wd_len hy
      have hst := sumQ_step gj
      refine w_rd hWv gj rfl (fun b o hc => ⟨y.cs, hyl, hc, wd_var hyl (wd_ones y) (fun b22 v1 g1 hb22 r22 => ?_)⟩)
      have gd1 := g1.trans1 (Fr.drew _ v1)
      have hrd := gd1.row hrv (fun _ _ h => h)
      have r22d := r22.fr (Fr.drew (fun _ => False) v1) (fun h => h)
      have fvd := fv.trans1 gd1
      have hPl2 : ∀ z : Lo, (P ++ z :: d.lL.drop (i + 1)).length = d.nL := fun z => by simp only [List.length_append, List.length_cons, List.length_drop]; omega
      refine el_rd (enc := encL) hrd.sl (fun _ _ => rfl) (get_mid (i := i) (by omega)) rfl (hPl2 _) (fun b2 o2 hA2' hc2 => ⟨sumQ (H.take j), hc2 2 _ rfl, y.q, wd_fld r22d hy (j := 4) rfl rfl, ?_⟩)
      have hpt := row_putG (o' := i * 3 + 2) (us := [Value.int .i64 (IntKind.wrap .i64 (sumQ (H.take j) + y.q))]) (K := fun w' => jnC C8 (some ⟨sb, 0, none⟩, (A1, d.nL, c1), (i : Int), ((d.nL : Nat) : Int), (i : Int), (A2, H.length, c2), ((H.length : Nat) : Int), IntKind.wrap .i64 ((j : Int) + 1), ()) w') hrd (by omega) (by simp; omega) (by simp; rfl) (fun w6 hr6 f6 => jnC_mk (hC8 _ _ ⟨?_, ?_, j + 1, by omega, by rw [ei j (by omega)], ?_⟩ ?_))
      · rw [dr_iff] at hpt
        obtain ⟨b3, o3, hA3, hpt⟩ := hpt
        rw [hA3] at hA2' ⊢
        refine dr_mk (gd_mk (decide_eq_true (by show (0 : Int) ≤ (i : Int); omega)) (gd_mk (decide_eq_true (by show (i : Int) < ((d.nL : Nat) : Int); omega)) ?_))
        dsimp only
        rw [Int.toNat_natCast, ← hA3, Nat.add_assoc]
        exact hpt
      · exact fr_ownR fvd hA1 (Nat.le_refl _) f6
      · exact ⟨f6.sl (gd1.sl hWv.1 (fun _ _ _ h => h)) (fun _ k hk h' => by have := hdis k h'; have := hA2 k hk; omega), hWv.2⟩
      · rw [flt_put1 encL_o (get_mid (by omega)) (by omega) (y := ⟨x.s, x.a, IntKind.wrap .i64 (sumQ (H.take j) + y.q)⟩) rfl, set_mid (by omega)] at hr6
        rw [hst]; exact hr6
      · show (((H.length : Nat) : Int) - IntKind.wrap .i64 ((j : Int) + 1)).toNat < (((H.length : Nat) : Int) - (j : Int)).toNat
        rw [ei j (by omega)]; omega
    · have hge3 : ¬ (j : Int) < ((H.length : Nat) : Int) := of_decide_eq_false hge
      have hjl : j = H.length := by omega
      subst hjl
      rw [List.take_length] at hrv
      refine jnC_mk (hC5 _ _ ⟨fv, i + 1, by omega, by rw [ei i (by omega)], ?_⟩ ?_)
      · rw [hnext, List.append_assoc]; exact hrv
      · show (((d.nL : Nat) : Int) - IntKind.wrap .i64 ((i : Int) + 1)).toNat < (((d.nL : Nat) : Int) - (i : Int)).toNat
        rw [ei i (by omega)]; omega
  · have hge2 : ¬ (i : Int) < ((d.nL : Nat) : Int) := of_decide_eq_false hge
    have hin : i = d.nL := by omega
    rw [List.take_of_length_le (by omega), List.drop_of_length_le (by omega), List.append_nil] at hr
    exact ⟨hf, A1, c1, rfl, hr⟩
/-- a snapshot that a state gave: rows of its own -/
def SnO (w : World) (B : Nat) (cs : List Value) (E : List En) (T : List Tn) (Ls : List Lo) : Prop := ∃ (A : Option Addr) (c : Nat) (A' : Option Addr) (n' c' : Nat) (A'' : Option Addr) (n'' c'' : Nat),
  cs = [.int .i64 0, .int .i64 0, .int .i64 0, .int .u64 0, .slice A E.length c, .slice A' n' c', .slice A'' n'' c''] ∧ RE (fun k => B ≤ k) w A E.length E ∧ Tg.RT (fun k => B ≤ k) w A' n' T ∧ Sl w 3 A'' n'' (flt encL Ls) ∧ Ls.length = n''
theorem SnO.fr0 {w w' : World} {B : Nat} {cs : List Value} {E : List En} {T : List Tn} {Ls : List Lo} (h : SnO w B cs E T Ls) (f : Fr (fun _ => False) w w') : SnO w' B cs E T Ls := by
  obtain ⟨A, c, A', n', c', A'', n'', c'', e, h1, h2, h3, h4⟩ := h
  exact ⟨A, c, A', n', c', A'', n'', c'', e, h1.fr0 f, h2.fr0 f, f.sl h3 (fun _ _ _ h => h), h4⟩
theorem SnO.len {w : World} {B : Nat} {cs : List Value} {E : List En} {T : List Tn} {Ls : List Lo} (h : SnO w B cs E T Ls) : cs.length = 7 := by
  obtain ⟨A, c, A', n', c', A'', n'', c'', e, _⟩ := h
  rw [e]; rfl
/-- .. in blocks of P -/
def SnB (P : Nat → Prop) (w : World) (cs : List Value) (E : List En) (T : List Tn) (Ls : List Lo) : Prop := ∃ (A : Option Addr) (c : Nat) (A' : Option Addr) (n' c' : Nat) (A'' : Option Addr) (n'' c'' : Nat),
  cs = [.int .i64 0, .int .i64 0, .int .i64 0, .int .u64 0, .slice A E.length c, .slice A' n' c', .slice A'' n'' c''] ∧ RE P w A E.length E ∧ Tg.RT P w A' n' T ∧ Sl w 3 A'' n'' (flt encL Ls) ∧ Ls.length = n'' ∧
  (E.length ≠ 0 → ∀ k, blkOf A = some k → P k) ∧ (n' ≠ 0 → ∀ k, blkOf A' = some k → P k) ∧ (n'' ≠ 0 → ∀ k, blkOf A'' = some k → P k)
theorem SnB.out {B : Nat} {w : World} {cs : List Value} {E : List En} {T : List Tn} {Ls : List Lo} (h : SnB (fun k => B ≤ k) w cs E T Ls) : SnO w B cs E T Ls := by
  obtain ⟨A, c, A', n', c', A'', n'', c'', e, h1, h2, h3, h4, _⟩ := h
  exact ⟨A, c, A', n', c', A'', n'', c'', e, h1, h2, h3, h4⟩
theorem SnB.mono {P P' : Nat → Prop} {w : World} {cs : List Value} {E : List En} {T : List Tn} {Ls : List Lo} (h : SnB P w cs E T Ls) (hP : ∀ k, k < w.heap.size → P k → P' k) : SnB P' w cs E T Ls := by
  obtain ⟨A, c, A', n', c', A'', n'', c'', e, h1, h2, h3, h4, h5, h6, h7⟩ := h
  refine ⟨A, c, A', n', c', A'', n'', c'', e, h1.mono hP, h2.mono hP, h3, h4, fun h0 k hk => hP k ?_ (h5 h0 k hk), fun h0 k hk => hP k ?_ (h6 h0 k hk), fun h0 k hk => hP k (h3.blt (by decide) h0 hk) (h7 h0 k hk)⟩
  · obtain ⟨vs, q1, _⟩ := h1
    exact q1.blt (by decide) h0 hk
  · obtain ⟨vs, q1, _⟩ := h2
    exact q1.blt (by decide) h0 hk
theorem SnB.fr {P D : Nat → Prop} {w w' : World} {cs : List Value} {E : List En} {T : List Tn} {Ls : List Lo} (h : SnB P w cs E T Ls) (f : Fr D w w') (hD : ∀ k, P k → k < w.heap.size → ¬ D k) : SnB P w' cs E T Ls := by
  obtain ⟨A, c, A', n', c', A'', n'', c'', e, h1, h2, h3, h4, h5, h6, h7⟩ := h
  refine ⟨A, c, A', n', c', A'', n'', c'', e, ?_, ?_, f.sl h3 (fun h0 k hk => hD k (h7 h0 k hk) (h3.blt (by decide) h0 hk)), h4, h5, h6, h7⟩
  · have q := h1.mono (P' := fun k => P k ∧ k < w.heap.size) (fun k hk h => ⟨h, hk⟩)
    refine (q.fr f (fun k hk => hD k hk.1 hk.2) (fun h0 k hk => hD k (h5 h0 k hk) ?_)).mono (fun k _ h => h.1)
    obtain ⟨vs, q1, _⟩ := h1
    exact q1.blt (by decide) h0 hk
  · have q := h2.mono (P' := fun k => P k ∧ k < w.heap.size) (fun k hk h => ⟨h, hk⟩)
    refine (q.fr f (fun k hk => hD k hk.1 hk.2) (fun h0 k hk => hD k (h6 h0 k hk) ?_)).mono (fun k _ h => h.1)
    obtain ⟨vs, q1, _⟩ := h2
    exact q1.blt (by decide) h0 hk
set_option maxHeartbeats 1000000 in
theorem snapB_calls {w : World} {base sb : Nat} {d : SD} (h : Sta w base sb d) (hb : SB 50000000 d) :
    Calls Tryz.prog 11 #[.pointer (some ⟨sb, 0, none⟩)] w fun e w' => Fr (fun _ => False) w w' ∧ ∃ cs, e = .returned (ofL cs) ∧ SnB (fun k => w.heap.size ≤ k) w' cs d.lE d.lT (loadsL d.lE d.lT d.lL) := by
  refine (F11.of (some ⟨sb, 0, none⟩) w (Q := fun v w' => Fr (fun _ => False) w w' ∧ ∃ cs, v = ofL cs ∧ SnB (fun k => w.heap.size ≤ k) w' cs d.lE d.lT (loadsL d.lE d.lT d.lL)) ?_).mono (fun e w' ⟨v, he, hf, cs, hv, h⟩ => ⟨hf, cs, by rw [he, hv], h⟩)
  have bp := hb.p
  have bt := hb.tl
  have hnT := h.tg.len
  have hll := h.ll
  have be : BdE 4294967296 d.lE := hb.e.mono (by omega)
  have bT : Tg.Bd 4294967296 d.lT := fun e he => by have := hb.t e he; omega
  refine nw_mk ?_
  have f1 : Fr (fun _ => False) w (w.alloc (.cells Z30.toArray 30)) := Fr.alloc _ _ _
  have r1 := RecAt.new w Z30 30
  have hb1w : w.heap.size < (w.alloc (.cells Z30.toArray 30)).heap.size := by rw [alloc_size]; omega
  generalize hwb : w.heap.size = b1 at r1 hb1w ⊢
  generalize w.alloc (.cells Z30.toArray 30) = w1 at f1 r1 hb1w ⊢
  have fd := f1.trans1 (Fr.drew _ w1)
  have hd := h.fr0 fd
  have s1 : w1.drew.heap.size = w1.heap.size := rfl
  have rd := r1.fr (Fr.drew (fun _ => False) w1) (fun h => h)
  refine vIf_f rfl (dr_mk ⟨_, hd.rs.cell rfl, dr_mk ⟨_, hd.rs.cell rfl, (rowX_calls base d.ib d.bt d.bs d.N d.p d.S d.lE w1.drew hd.ix be (by omega)).mono ?_⟩⟩)
  rintro r w2 ⟨f2, A2, c2, rfl, hE, _⟩
  have h2 := hd.fr0 f2
  have s2 := f2.size
  refine ⟨_, _, _, rfl, kp_mk f2 hd.rs.lt (fun h => h) ((Tg.rowT_calls base d.tb d.R d.nT d.cT d.lT w2 h2.tg (by omega) bT).mono ?_)⟩
  rintro r w3 ⟨f3, A3, c3, rfl, hT⟩
  have h3 := h2.fr0 f3
  have s3 := f3.size
  refine ⟨_, _, _, rfl, (loadsS_calls h3 hb).mono ?_⟩
  rintro r w4 ⟨f4, A4, c4, rfl, hL⟩
  have r4 := ((rd.fr f2 (fun h => h)).fr f3 (fun h => h)).fr f4 (fun h => h)
  have g4 := ((fd.trans1 f2).trans1 f3).trans1 f4
  have hE4 := (hE.fr0 f3).fr0 f4
  have hT4 := hT.fr0 f4
  refine ⟨_, _, _, rfl, gd_mk rfl (st_all (vs := [Value.int .i64 0, .int .i64 0, .int .i64 0, .int .u64 0, .slice A2 d.lE.length c2, .slice A3 d.nT c3, .slice A4 d.nL c4]) r4 rfl rfl (fun v hv => by simp at hv; rcases hv with rfl | rfl | rfl | rfl | rfl <;> rfl) (fun w5 f5 r5 => ⟨?_, _, rfl, A2, c2, A3, d.nT, c3, A4, d.nL, c4, rfl, ?_, ?_, ?_, ?_, fun _ k hk => ?_, fun _ k hk => ?_, fun _ k hk => ?_⟩))⟩
  · exact fr_own g4 f5 (by omega)
  · exact ((hE4.mono (Nat.le_refl _) (fun k _ hk => hk)).fr f5 (fun k hk h => by omega) (fun k hk h => by have := (hE4.blt hk).1; omega)).rt.mono (fun k _ hk => by omega)
  · exact ((hT4.mono (Nat.le_refl _) (fun k _ hk => hk)).fr f5 (fun k hk h => by omega) (fun k hk h => by have := (hT4.blt hk).1; omega)).rt.mono (fun k _ hk => by omega)
  · exact (f5.row hL (fun k hk h => by have := (hL.blt hk).1; omega)).sl
  · rw [loadsL_len]; exact hll
  · have := (hE4.blt hk).1; omega
  · have := (hT4.blt hk).1; omega
  · have := (hL.blt hk).1; omega
theorem snapS_calls {w : World} {base sb : Nat} {d : SD} (h : Sta w base sb d) (hb : SB 50000000 d) :
    Calls Tryz.prog 11 #[.pointer (some ⟨sb, 0, none⟩)] w fun e w' => Fr (fun _ => False) w w' ∧ ∃ cs, e = .returned (ofL cs) ∧ SnO w' w.heap.size cs d.lE d.lT (loadsL d.lE d.lT d.lL) :=
  (snapB_calls h hb).mono (fun e w' ⟨f, cs, he, h⟩ => ⟨f, cs, he, h.out⟩)
end Go.Proofs.YthcclmlbkfadcaaGreat
/- chapter 22: the document's load, in, put; SameLoads, Words -/
namespace Go.Proofs.YthcclmlbkfadcaaGreat
open Go.GV Go.RowKit Go.Lib Go.Stb
open Tg (Tn liveT)
set_option linter.unusedVariables false
set_option linter.unusedSimpArgs false
def LOw (w : World) (B : Nat) (A : Option Addr) (n c : Nat) (l : List Lo) : Prop := Row w B 98 3 A n c (flt encL l) ∧ l.length = n
theorem LOw.fr0 {w w' : World} {B : Nat} {A : Option Addr} {n c : Nat} {l : List Lo} (h : LOw w B A n c l) (f : Fr (fun _ => False) w w') : LOw w' B A n c l := ⟨f.row h.1 (fun _ _ h => h), h.2⟩
/-! ### rows held against each other -/
theorem eqL (x : Lo) {K : Bool → Prop} (hK : K true) : eqI64 3 (encL x) (encL x) K :=
  ⟨[x.s, x.a, x.v], [x.s, x.a, x.v], rfl, rfl, rfl, rfl, by rw [beq_self_eq_true]; exact hK⟩
theorem sameLo_calls (A : Option Addr) (n c : Nat) (A' : Option Addr) (n' c' : Nat) (l : List Lo) (w : World) (h : Sl w 3 A n (flt encL l)) (hl : l.length = n) (h' : Sl w 3 A' n' (flt encL l)) (hl' : l.length = n') (hn : n ≤ 1073741824) :
    Calls Tryz.prog 35 #[.slice A n c, .slice A' n' c'] w fun e w' => e = .returned (.bool true) ∧ Fr (fun _ => False) w w' := by
  refine (F35.of A n c A' n' c' w (Q := fun v w' => v = .bool true ∧ Fr (fun _ => False) w w') ?_).mono (fun e w' ⟨v, he, hv, h⟩ => ⟨by rw [he, hv], h⟩)
  refine vIf_f (by simp; omega) (jnC_mk (loop_rule (fun s u => Fr (fun _ => False) w u ∧ ∃ i : Nat, i ≤ n ∧ s = ((A, n, c), (A', n', c'), (i : Int), ())) (fun s _ => (n - s.2.2.1).toNat) ?_ _ _ ⟨Fr.refl _ _, 0, by omega, rfl⟩))
  rintro s u C ⟨hf, i, hi, rfl⟩ hC _
  refine vIf_mk (fun hlt => ?_) (fun hge => ⟨rfl, hf⟩)
  have hlt2 : (i : Int) < (n : Int) := of_decide_eq_true hlt
  have gi : l[i]? = some (l[i]'(by omega)) := List.getElem?_eq_getElem (by omega)
  generalize l[i]'(by omega) = x at gi
  have fd := hf.trans1 (Fr.drew _ u)
  refine l_rd (fd.sl h (fun _ _ _ h => h)) hl gi rfl (l_rd (fd.sl h' (fun _ _ _ h => h)) hl' gi rfl (eqL x (vIf_f rfl (jnC_mk (hC _ _ ⟨fd, i + 1, by omega, by rw [ei i (by omega)]⟩ ?_)))))
  show ((n : Int) - IntKind.wrap .i64 ((i : Int) + 1)).toNat < ((n : Int) - (i : Int)).toNat
  rw [ei i (by omega)]; omega
end Go.Proofs.YthcclmlbkfadcaaGreat
/- chapter 22: the document's put and Here; Words -/
namespace Go.Proofs.YthcclmlbkfadcaaGreat
open Go.GV Go.RowKit Go.Lib Go.Stb
open Tg (Tn liveT)
set_option linter.unusedVariables false
set_option linter.unusedSimpArgs false
/-! ### words held against each other -/
/-! ### put -/
def wS (x : Wd) (st : List Wd × Bool) (y : Wd) : List Wd × Bool :=
  ((if st.2 = false ∧ x.o < y.o then (st.1 ++ [x], true) else st).1 ++ [y], (if st.2 = false ∧ x.o < y.o then (st.1 ++ [x], true) else st).2)
def wE (x : Wd) (st : List Wd × Bool) : List Wd := if st.2 = true then st.1 else st.1 ++ [x]
end Go.Proofs.YthcclmlbkfadcaaGreat
/- chapter 22: the document's Here, Loads, Is -/
namespace Go.Proofs.YthcclmlbkfadcaaGreat
open Go.GV Go.RowKit Go.Lib Go.Stb
open Tg (Tn liveT)
set_option linter.unusedVariables false
set_option linter.unusedSimpArgs false
/-- the document's state, as it lies, off the blocks D -/
def RSt (D : Nat → Prop) (w : World) (cs : List Value) (E : List En) (T : List Tn) (Ls : List Lo) : Prop := ∃ (A : Option Addr) (n c : Nat) (A' : Option Addr) (n' c' : Nat) (A'' : Option Addr) (n'' c'' : Nat),
  cs = [.slice A n c, .slice A' n' c', .slice A'' n'' c''] ∧ RDE D w A n E ∧ Tg.RD D w A' n' T ∧ Sl w 3 A'' n'' (flt encL Ls) ∧ Ls.length = n'' ∧ (n'' ≠ 0 → ∀ k, blkOf A'' = some k → ¬ D k)
theorem RSt.fr0 {D : Nat → Prop} {w w' : World} {cs : List Value} {E : List En} {T : List Tn} {Ls : List Lo} (h : RSt D w cs E T Ls) (f : Fr (fun _ => False) w w') : RSt D w' cs E T Ls := by
  obtain ⟨A, n, c, A', n', c', A'', n'', c'', e, h1, h2, h3, h4, h5⟩ := h
  exact ⟨A, n, c, A', n', c', A'', n'', c'', e, h1.fr0 f, h2.fr0 f, f.sl h3 (fun _ _ _ h => h), h4, h5⟩
theorem RSt.step {D D' : Nat → Prop} {w w' : World} {cs : List Value} {E : List En} {T : List Tn} {Ls : List Lo} (h : RSt D w cs E T Ls) (f : Fr D w w') (hD : ∀ k, D' k → D k ∨ w.heap.size ≤ k) : RSt D' w' cs E T Ls := by
  obtain ⟨A, n, c, A', n', c', A'', n'', c'', e, h1, h2, h3, h4, h5⟩ := h
  refine ⟨A, n, c, A', n', c', A'', n'', c'', e, h1.step f hD, h2.step f hD, f.sl h3 h5, h4, fun h0 k hk h' => ?_⟩
  rcases hD k h' with h'' | h''
  · exact h5 h0 k hk h''
  · have := h3.blt (by decide) h0 hk; omega
theorem RSt.len {D : Nat → Prop} {w : World} {cs : List Value} {E : List En} {T : List Tn} {Ls : List Lo} (h : RSt D w cs E T Ls) : cs.length = 3 := by
  obtain ⟨A, n, c, A', n', c', A'', n'', c'', e, _⟩ := h
  rw [e]; rfl
theorem RSt.one {D : Nat → Prop} {w : World} {cs : List Value} {E : List En} {T : List Tn} {Ls : List Lo} (h : RSt D w cs E T Ls) : ∀ v ∈ cs, v.oneCell' = true := by
  obtain ⟨A, n, c, A', n', c', A'', n'', c'', e, _⟩ := h
  subst e
  intro v hv
  simp at hv
  rcases hv with rfl | rfl | rfl <;> rfl
structure SB2 (E : List En) (T : List Tn) (Ls : List Lo) : Prop where
  e : BdE 4294967295 E
  t : Tg.Bd 4294967295 T
  el : E.length ≤ 60000000
  tl : T.length ≤ 60000000
  ll : Ls.length ≤ 60000000
end Go.Proofs.YthcclmlbkfadcaaGreat
/- chapter 22: the document's Loads, Is, Keep -/
namespace Go.Proofs.YthcclmlbkfadcaaGreat
open Go.GV Go.RowKit Go.Lib Go.Stb
open Tg (Tn liveT)
set_option linter.unusedVariables false
set_option linter.unusedSimpArgs false
end Go.Proofs.YthcclmlbkfadcaaGreat
/- chapter 22: the document's Apply and New -/
namespace Go.Proofs.YthcclmlbkfadcaaGreat
open Go.GV Go.RowKit Go.Lib Go.Stb
open Tg (Tn liveT)
set_option linter.unusedVariables false
set_option linter.unusedSimpArgs false
def RQ (D : Nat → Prop) (w : World) (E : List En) (T : List Tn) (Ls : List Lo) (v : Value) (w' : World) : Prop := Fr (fun _ => False) w w' ∧ ∃ cs, v = ofL cs ∧ RSt D w' cs E T Ls
theorem RSt.of {D : Nat → Prop} {w : World} {A : Option Addr} {n c : Nat} {A' : Option Addr} {n' c' : Nat} {A'' : Option Addr} {n'' c'' : Nat} {E : List En} {T : List Tn} {Ls : List Lo} {B : Nat} (h1 : RDE D w A n E) (h2 : Tg.RD D w A' n' T) (h3 : LOw w B A'' n'' c'' Ls) (hB : ∀ k, D k → k < B) : RSt D w [.slice A n c, .slice A' n' c', .slice A'' n'' c''] E T Ls :=
  ⟨A, n, c, A', n', c', A'', n'', c'', rfl, h1, h2, h3.1.sl, h3.2, fun _ k hk h => by have := (h3.1.blt hk).1; have := hB k h; omega⟩
end Go.Proofs.YthcclmlbkfadcaaGreat
/- chapter 22: the document's New, in and Keep -/
namespace Go.Proofs.YthcclmlbkfadcaaGreat
open Go.GV Go.RowKit Go.Lib Go.Stb
open Tg (Tn liveT)
set_option linter.unusedVariables false
set_option linter.unusedSimpArgs false
/-- a snapshot whose entries' parts lie in P -/
def RSn (P : Nat → Prop) (w : World) (cs : List Value) (E : List En) (T : List Tn) (Ls : List Lo) : Prop := ∃ (i j k q : Int) (A : Option Addr) (n c : Nat) (A' : Option Addr) (n' c' : Nat) (A'' : Option Addr) (n'' c'' : Nat),
  cs = [.int .i64 i, .int .i64 j, .int .i64 k, .int .u64 q, .slice A n c, .slice A' n' c', .slice A'' n'' c''] ∧ RE P w A n E ∧ Tg.RT P w A' n' T ∧ Sl w 3 A'' n'' (flt encL Ls) ∧ Ls.length = n''
theorem SnAt.low {w w' : World} {cs : List Value} {E : List En} {T : List Tn} {Ls : List Lo} (h : SnAt w cs E T Ls) (f : Fr (fun _ => False) w w') : RSn (fun k => k < w.heap.size) w' cs E T Ls := by
  obtain ⟨i, j, k, q, A, n, c, A', n', c', A'', n'', c'', e, h1, h2, h3, h4⟩ := h
  exact ⟨i, j, k, q, A, n, c, A', n', c', A'', n'', c'', e, (h1.mono (fun k hk _ => hk)).fr0 f, (h2.mono (fun k hk _ => hk)).fr0 f, f.sl h3 (fun _ _ _ h => h), h4⟩
end Go.Proofs.YthcclmlbkfadcaaGreat
/- chapter 22: the document's in and Keep -/
namespace Go.Proofs.YthcclmlbkfadcaaGreat
open Go.GV Go.RowKit Go.Lib Go.Stb
open Tg (Tn liveT)
set_option linter.unusedVariables false
set_option linter.unusedSimpArgs false
end Go.Proofs.YthcclmlbkfadcaaGreat
/- chapter 22: lives -/
namespace Go.Proofs.YthcclmlbkfadcaaGreat
open Go.GV Go.RowKit Go.Lib Go.Stb
open Tg (Tn liveT)
set_option linter.unusedVariables false
set_option linter.unusedSimpArgs false
def one1 : List UInt8 := 1 :: List.replicate 31 0
def wd1 : Wd := ⟨1, 0, one1, ⟨#[]⟩, 9, 1, 37, 62⟩
def wd2 : Wd := ⟨5, 0, one1, ⟨#[]⟩, 0, 2, 37, 53⟩
theorem wd_h1 : (herL 1 (applyE (applyE [] wd1) wd2) (Tg.applyL wd2 (Tg.applyL wd1 []))).length = 0 := by decide +kernel
theorem wd_h2 : (herL 2 (applyE (applyE [] wd1) wd2) (Tg.applyL wd2 (Tg.applyL wd1 []))).length = 1 := by decide +kernel
def ll3 (l : List Lo) : List (Int × Int × Int) := l.map (fun x => (x.s, x.a, x.v))
theorem ll3_inj : ∀ {l m : List Lo}, ll3 l = ll3 m → l = m
  | [], [], _ => rfl
  | [], _ :: _, h => by cases h
  | _ :: _, [], h => by cases h
  | ⟨a, b, c⟩ :: r, ⟨a', b', c'⟩ :: r', h => by
    simp only [ll3, List.map_cons, List.cons.injEq, Prod.mk.injEq] at h
    rw [h.1.1, h.1.2.1, h.1.2.2, ll3_inj (l := r) (m := r') h.2]
theorem wd_ld : loadsL (applyE (applyE [] wd1) wd2) (Tg.applyL wd2 (Tg.applyL wd1 [])) (applyS wd2 (applyS wd1 [])) = [⟨1, 62, 0⟩, ⟨2, 53, 53⟩] := ll3_inj (by decide +kernel)
theorem SB.nil (d : SD) (h1 : d.lE = []) (h2 : d.lT = []) (h3 : d.lL = []) (hp : d.p ≤ 10) : SB 10 d := by
  refine ⟨?_, ?_, hp, by rw [h2]; exact Nat.zero_le _, by rw [h3]; exact Nat.zero_le _, by rw [h1]; exact Nat.zero_le _⟩
  · rw [h1]; intro e he; cases he
  · rw [h2]; intro e he; cases he
theorem SB.mono {m m' : Nat} {d : SD} (h : SB m d) (hm : m ≤ m') : SB m' d :=
  ⟨h.e.mono hm, fun e he => Nat.le_trans (h.t e he) hm, Nat.le_trans h.p hm, Nat.le_trans h.tl hm, Nat.le_trans h.ll hm, Nat.le_trans h.el hm⟩
theorem SB.app {m : Nat} {d d' : SD} (h : SB m d) (x : Wd) (h1 : d'.lE = applyE d.lE x) (h2 : d'.lT = Tg.applyL x d.lT) (h3 : d'.lL = applyS x d.lL) (hp : d'.p = d.p + 1) : SB (m + 1) d' := by
  have a1 := applyE_len d.lE x
  have a2 := Tg.applyL_len x d.lT
  have a3 := applyS_len x d.lL
  refine ⟨?_, ?_, by have := h.p; omega, by rw [h2]; have := h.tl; omega, by rw [h3]; have := h.ll; omega, by rw [h1]; have := h.el; omega⟩
  · rw [h1]; exact applyE_bd h.e x
  · rw [h2]; exact Tg.applyL_bd h.t x
theorem SB.kept {m : Nat} {d d' : SD} (h : SB m d) (sg : List Int) (h1 : d'.lE = keepLE sg d.lE) (h2 : d'.lT = Tg.keepL sg d.lT) (h3 : d'.lL = keptL sg d.lL) (hp : d'.p = d.p) : SB m d' := by
  have a1 := keepLE_len sg d.lE
  have a2 := Tg.keepL_len sg d.lT
  have a3 := keptL_len sg d.lL
  refine ⟨?_, ?_, by have := h.p; omega, by rw [h2]; have := h.tl; omega, by rw [h3]; have := h.ll; omega, by rw [h1]; have := h.el; omega⟩
  · rw [h1]; exact h.e.keep sg
  · rw [h2]; exact Tg.keepL_bd h.t sg
set_option maxRecDepth 100000 in
set_option maxHeartbeats 1000000 in
theorem lives_calls (w : World) : Calls Tryz.prog 10 #[] w fun e w' => e = .returned (.bool true) ∧ Fr (fun _ => False) w w' := by
  refine (F10.of w (Q := fun v w' => v = .bool true ∧ Fr (fun _ => False) w w') ?_).mono (fun e w' ⟨v, he, hv, h⟩ => ⟨by rw [he, hv], h⟩)
  refine (newS_calls _ [] [] [] w ⟨0, 0, 0, 0, none, 0, 0, none, 0, 0, none, 0, 0, rfl, RE.nil _ _ _, Tg.RT.nil _ _ _, Sl.nil _ _ _, rfl⟩ (by simp) (by simp) (by simp) (fun e he => by cases he) (fun e he => by cases he)).mono ?_
  rintro r w1 ⟨f1, sb, d, rfl, hst, e1, e2, e3, hp⟩
  have hb0 := SB.nil d e1 e2 e3 (by simp at hp; omega)
  have s1 := f1.size
  refine ⟨_, rfl, gd_mk rfl (gd_mk rfl ((applyS_calls hst wd1 rfl (hb0.mono (by omega)) s1).mono ?_))⟩
  rintro r w2 ⟨rfl, d1, h1, q1, q2, q3, q4⟩
  have hb1 := hb0.app wd1 q1 q2 q3 q4
  have s2 := h1.fr.size
  refine ⟨rfl, gd_mk rfl (gd_mk rfl ((applyS_calls h1.st wd2 rfl (hb1.mono (by omega)) (by omega)).mono ?_))⟩
  rintro r w3 ⟨rfl, d2, h2, p1, p2, p3, p4⟩
  have hb2 := hb1.app wd2 p1 p2 p3 p4
  have f3 : Fr (fun _ => False) w w3 := (f1.trans h1.fr (U := fun _ => False) (fun _ _ h => h) (fun k hk h => by have := (hst.lt h).1; omega)).trans h2.fr (fun _ _ h => h) (fun k hk h => by have := (h1.st.lt h).1; omega)
  have hE : d2.lE = applyE (applyE [] wd1) wd2 := by rw [p1, q1, e1]; rfl
  have hT : d2.lT = Tg.applyL wd2 (Tg.applyL wd1 []) := by rw [p2, q2, e2]; rfl
  have hL : d2.lL = applyS wd2 (applyS wd1 []) := by rw [p3, q3, e3]; rfl
  have hb3 : SB 50000000 d2 := hb2.mono (by omega)
  refine ⟨rfl, (loadsS_calls h2.st hb3).mono ?_⟩
  rintro r w4 ⟨f4, A, c, rfl, hr⟩
  have hll : d2.nL = 2 := by
    have h5 := loadsL_len d2.lE d2.lT d2.lL
    rw [hE, hT, hL, wd_ld, ← hL, h2.st.ll] at h5
    exact h5.symm
  rw [hE, hT, hL, wd_ld, hll] at hr
  rw [hll]
  refine ⟨A, 2, c, rfl, (hereS_calls (h2.st.fr0 f4) 1 hb3).mono ?_⟩
  rintro r w5 ⟨f5, A5, c5, rfl, _⟩
  rw [hE, hT, wd_h1]
  refine ⟨_, _, _, rfl, vIf_t rfl ((hereS_calls (h2.st.fr0 (f4.trans1 f5)) 2 hb3).mono ?_)⟩
  rintro r w6 ⟨f6, A6, c6, rfl, _⟩
  rw [hE, hT, wd_h2]
  have hs := (f5.trans1 f6).sl hr.sl (fun _ _ _ h => h)
  refine ⟨_, _, _, rfl, vIf_t rfl (vIf_t rfl ?_)⟩
  obtain ⟨b, o, rfl, hc⟩ := hs.2 (by decide)
  refine dr_mk (gd_mk rfl ⟨encL ⟨1, 62, 0⟩, rfl, fun j v hj => hc j v (by rw [flt_cons, List.getElem?_append_left (List.getElem?_eq_some_iff.1 hj).1]; exact hj), ⟨[1, 62, 0], [1, 62, 0], rfl, rfl, rfl, rfl, vIf_t rfl ?_⟩⟩)
  refine dr_mk (gd_mk rfl ⟨encL ⟨2, 53, 53⟩, rfl, fun j v hj => by rw [Nat.add_assoc]; exact hc (3 + j) v (by rw [flt_cons, List.getElem?_append_right (by simp [encL]), show 3 + j - (encL ⟨1, 62, 0⟩).length = j from by simp [encL]]; exact hj), ⟨[2, 53, 53], [2, 53, 53], rfl, rfl, rfl, rfl, rfl, ((f3.trans1 f4).trans1 f5).trans1 f6⟩⟩)
end Go.Proofs.YthcclmlbkfadcaaGreat
