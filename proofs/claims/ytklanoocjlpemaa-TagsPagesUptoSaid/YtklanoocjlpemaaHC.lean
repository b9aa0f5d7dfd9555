/- chapter 21: place, fresh, Get, Row -/
import Derived.Test.YtklanoocjlpemaaHR
namespace Go.Proofs.Ytklanoocjlpemaa
open Go.GV Go.RowKit Go.Lib
set_option linter.unusedVariables false
set_option linter.unusedSimpArgs false
theorem strcmp_calls (a b : ByteArray) (w : World) : Calls Try.prog 43 #[.string a, .string b] w fun e w' => e = .returned (.int .i64 (cmpN a b)) ∧ w' = w := by
  refine (F43.of a b w (Q := fun v w' => v = .int .i64 (cmpN a b) ∧ w' = w) ?_).mono (fun e w' ⟨v, he, hv, h⟩ => ⟨by rw [he, hv], h⟩)
  refine (F52.of a b w (Q := fun v w' => v = .int .i64 (cmpN a b) ∧ w' = w) ?_).mono ?_
  · exact ⟨_, Extern.BytealgCompare.compare, _, _, Try.func59, by kernel_rfl, by kernel_rfl, by kernel_rfl, Lib.run_compareString a b w, cmpN a b, rfl, rfl, rfl⟩
  · rintro e w' ⟨v, rfl, rfl, rfl⟩
    exact ⟨_, rfl, rfl, rfl⟩
theorem pcl_calls {P : Nat → Prop} (e : Tn) (cs : List Value) (nm : ByteArray) (w : World) (h : TnP P w cs e) :
    Calls Try.prog 42 #[ofL cs, .string nm] w fun r w' => r = .returned (.int .i64 (cmpN e.nm nm)) ∧ Fr (fun _ => False) w w' := by
  refine (F42.of cs nm w (Q := fun v w' => v = .int .i64 (cmpN e.nm nm) ∧ Fr (fun _ => False) w w') ?_).mono (fun e w' ⟨v, he, hv, h⟩ => ⟨by rw [he, hv], h⟩)
  refine nw_mk ?_
  have f1 : Fr (fun _ => False) w (w.alloc (.cells cs.toArray 34)) := Fr.alloc _ _ _
  have r1 := RecAt.new w cs 34
  generalize w.alloc (.cells cs.toArray 34) = w1 at f1 r1 ⊢
  refine ⟨e.nm, c_nm h (rec_all r1), (strcmp_calls e.nm nm w1).mono ?_⟩
  rintro r w2 ⟨rfl, rfl⟩
  exact ⟨_, rfl, rfl, f1⟩
theorem mem_take_lt {α : Type} {l : List α} {i : Nat} {x : α} (h : x ∈ l.take i) : ∃ j, j < i ∧ l[j]? = some x := by
  obtain ⟨j, hj⟩ := List.mem_iff_getElem?.1 h
  rw [List.getElem?_take] at hj
  split at hj
  · exact ⟨j, by assumption, hj⟩
  · cases hj
theorem mem_drop_ge {α : Type} {l : List α} {i : Nat} {x : α} (h : x ∈ l.drop i) : ∃ j, i ≤ j ∧ l[j]? = some x := by
  obtain ⟨j, hj⟩ := List.mem_iff_getElem?.1 h
  rw [List.getElem?_drop] at hj
  exact ⟨i + j, by omega, hj⟩
theorem asc_lt {l : List Tn} (h : AscT l) {i j : Nat} {x y : Tn} (hi : l[i]? = some x) (hj : l[j]? = some y) (hij : i < j) : cmpN x.nm y.nm < 0 := by
  obtain ⟨h1, rfl⟩ := List.getElem?_eq_some_iff.1 hi
  obtain ⟨h2, rfl⟩ := List.getElem?_eq_some_iff.1 hj
  exact (List.pairwise_iff_getElem.1 h) i j h1 h2 hij
theorem bsT_calls {P : Nat → Prop} (A : Option Addr) (n c : Nat) (l : List Tn) (nm : ByteArray) (w : World) (h : RT P w A n l) (ha : AscT l) (hn : n ≤ 17179869184) :
    Calls Try.prog 41 #[.slice A n c, .string nm, .func (.func 42) #[] #[]] w fun e w' => Fr (fun _ => False) w w' ∧ ∃ i : Nat, e = .returned (.tuple #[.int .i64 i, .bool (isAt nm i l)]) ∧ Pl nm i l := by
  refine (F41s.of A n c nm w (Q := fun v w' => Fr (fun _ => False) w w' ∧ ∃ i : Nat, v = .tuple #[.int .i64 i, .bool (isAt nm i l)] ∧ Pl nm i l) ?_).mono (fun e w' ⟨v, he, hf, i, hv, h⟩ => ⟨hf, i, by rw [he, hv], h⟩)
  have hl := h.len
  refine jnC_mk (loop_rule (fun s u => Fr (fun _ => False) w u ∧ ∃ i j : Nat, i ≤ j ∧ j ≤ n ∧ s = ((A, n, c), nm, (), (n : Int), (i : Int), (j : Int), ()) ∧ (∀ x ∈ l.take i, cmpN x.nm nm < 0) ∧ ∀ x ∈ l.drop j, ¬ cmpN x.nm nm < 0)
    (fun s _ => (s.2.2.2.2.2.1 - s.2.2.2.2.1).toNat) ?_ _ _ ⟨Fr.refl _ _, 0, n, by omega, by omega, rfl, by simp, by rw [List.drop_of_length_le (by omega)]; intro x hx; cases hx⟩)
  rintro s u C ⟨hf, i, j, hij, hjn, rfl, hlo, hhi⟩ hC _
  refine vIf_mk (fun hlt => ?_) (fun hge => ?_)
  · have hlt2 : (i : Int) < (j : Int) := of_decide_eq_true hlt
    have em : IntKind.wrap .i64 (Int.fdiv (IntKind.wrap .u64 (IntKind.wrap .i64 ((i : Int) + (j : Int)))) (2 ^ 1)) = (((i + j) / 2 : Nat) : Int) := by
      rw [i64_id (n := (i : Int) + (j : Int)) (by omega) (by omega), IntKind.wrap_u64, Int.fdiv_eq_ediv_of_nonneg _ (by decide), i64_id (by omega) (by omega)]; omega
    have gi : l[(i + j) / 2]? = some (l[(i + j) / 2]'(by omega)) := List.getElem?_eq_getElem (by omega)
    generalize l[(i + j) / 2]'(by omega) = x at gi
    dsimp only
    rw [em]
    refine t_rd (h.fr0 hf) gi (fun b o cs hA hT hc => ⟨cs, hT.len, hc, (pcl_calls x cs nm u hT).mono ?_⟩)
    rintro r u2 ⟨rfl, f2⟩
    refine ⟨_, rfl, vIf_mk (fun h1 => jnC_mk (hC _ _ ⟨hf.trans1 f2, (i + j) / 2 + 1, j, by omega, hjn, by rw [ei _ (by omega)], fun y hy => ?_, hhi⟩ ?_)) (fun h1 => jnC_mk (hC _ _ ⟨hf.trans1 f2, i, (i + j) / 2, by omega, by omega, rfl, hlo, fun y hy => ?_⟩ ?_))⟩
    · have h1 := of_decide_eq_true h1
      obtain ⟨q, hq, hy⟩ := mem_take_lt hy
      by_cases hqm : q = (i + j) / 2
      · rw [hqm] at hy; rw [gi] at hy; injection hy with hy; subst hy; exact h1
      · exact cmpN_trans (asc_lt ha hy gi (by omega)) h1
    · show ((j : Int) - IntKind.wrap .i64 ((((i + j) / 2 : Nat) : Int) + 1)).toNat < ((j : Int) - (i : Int)).toNat
      rw [ei _ (by omega)]; omega
    · have h1 := of_decide_eq_false h1
      obtain ⟨q, hq, hy⟩ := mem_drop_ge hy
      by_cases hqm : q = (i + j) / 2
      · rw [hqm] at hy; rw [gi] at hy; injection hy with hy; subst hy; exact h1
      · intro h2
        exact h1 (cmpN_trans (asc_lt ha gi hy (by omega)) h2)
    · show ((((i + j) / 2 : Nat) : Int) - (i : Int)).toNat < ((j : Int) - (i : Int)).toNat
      omega
  · have hge2 : ¬ (i : Int) < (j : Int) := of_decide_eq_false hge
    have hij2 : i = j := by omega
    subst hij2
    have hpl : Pl nm i l := ⟨by omega, hlo, hhi⟩
    refine vIf_mk (fun h1 => ?_) (fun h1 => ?_)
    · have h1 : (i : Int) < (n : Int) := of_decide_eq_true h1
      have gi : l[i]? = some (l[i]'(by omega)) := List.getElem?_eq_getElem (by omega)
      generalize l[i]'(by omega) = x at gi
      refine t_rd (h.fr0 hf) gi (fun b o cs hA hT hc => ⟨cs, hT.len, hc, (pcl_calls x cs nm u hT).mono ?_⟩)
      rintro r u2 ⟨rfl, f2⟩
      refine ⟨_, rfl, hf.trans1 f2, i, ?_, hpl⟩
      have : isAt nm i l = (cmpN x.nm nm == 0) := by
        unfold isAt
        rw [gi, Bool.eq_iff_iff, decide_eq_true_iff, beq_iff_eq]
        exact (cmpN_zero _ _).symm
      rw [this]
    · have h1 : ¬ (i : Int) < (n : Int) := of_decide_eq_false h1
      refine ⟨hf, i, ?_, hpl⟩
      have : isAt nm i l = false := by
        unfold isAt
        rw [List.getElem?_eq_none (by omega)]
      rw [this]
/-! ### copies -/
theorem blk_none {A : Option Addr} (h : A.isNone = true) : A = none := by simpa using h
theorem clI_calls (A : Option Addr) (n c : Nat) (l : List Int) (w : World) (h : Sl w 1 A n (ivs l)) (hn : n ≤ 17179869184) :
    Calls Try.prog 38 #[.slice A n c] w fun e w' => Fr (fun _ => False) w w' ∧ ∃ A' c', e = .returned (.slice A' n c') ∧ Row w' w.heap.size 3 1 A' n c' (ivs l) := by
  refine (F38.of A n c w (Q := fun v w' => Fr (fun _ => False) w w' ∧ ∃ A' c', v = .slice A' n c' ∧ Row w' w.heap.size 3 1 A' n c' (ivs l)) ?_).mono (fun e w' ⟨v, he, hf, A', c', hv, h⟩ => ⟨hf, A', c', by rw [he, hv], h⟩)
  have hl := sl_n h
  refine vIf_mk (fun h0 => ?_) (fun h0 => nw_mk ?_)
  · have : n = 0 := by
      refine Classical.byContradiction fun hn0 => ?_
      obtain ⟨b, o, hA, _⟩ := h.2 hn0
      rw [hA] at h0; cases h0
    subst this
    have : l = [] := List.length_eq_zero_iff.1 hl
    subst this
    exact ⟨Fr.refl _ _, none, 0, rfl, Row.nil _ _ _ _⟩
  · have f1 : Fr (fun _ => False) w (w.alloc (.cells ([] : List Value).toArray 3)) := Fr.alloc _ _ _
    have r1 : Row (w.alloc (.cells ([] : List Value).toArray 3)) w.heap.size 3 1 (some ⟨w.heap.size, 0, none⟩) 0 0 [] := Row.new (Nat.le_refl _) rfl
    have hs : (w.alloc (.cells ([] : List Value).toArray 3)).heap.size = w.heap.size + 1 := alloc_size _ _
    generalize w.alloc (.cells ([] : List Value).toArray 3) = w1 at f1 r1 hs ⊢
    refine app_row r1 (sl_fr h f1).src (ivs_one l) rfl (by omega) (by omega) (by omega) (fun A' c' w' hr' f' => ⟨?_, A', c', ?_, ?_⟩)
    · exact f1.trans f' (fun _ _ h => h) (fun k hk h' => by simp only [blkOf, Option.some.injEq] at h'; omega)
    · rw [Nat.zero_add]
    · rw [Nat.zero_add, List.nil_append] at hr'; exact hr'
set_option maxRecDepth 10000 in
theorem fresh_calls {P : Nat → Prop} (e : Tn) (x0 : List Value) (w : World) (h : TnP P w x0 e) (hn : e.l.length ≤ 4294967296) :
    Calls Try.prog 26 #[ofL x0] w fun r w' => Fr (fun _ => False) w w' ∧ ∃ cs, r = .returned (ofL cs) ∧ TnP (fun k => w.heap.size ≤ k) w' cs e := by
  refine (F26.of x0 w (Q := fun v w' => Fr (fun _ => False) w w' ∧ ∃ cs, v = ofL cs ∧ TnP (fun k => w.heap.size ≤ k) w' cs e) ?_).mono (fun e w' ⟨v, he, hf, cs, hv, h⟩ => ⟨hf, cs, by rw [he, hv], h⟩)
  obtain ⟨A, n, c, rfl, hs, hd, _⟩ := h
  have hl := sl_n hs
  refine nw2 (fun b1 b5 u f r1 r5 hb1w hb5w n15 => ?_)
  have r1' : RecAt u b1 _ ([.string e.nm] ++ (e.d.map bv ++ [.bool e.g, .int .i64 e.s, .int .i64 e.o, .int .i64 e.q, .slice A n c])) := r1
  have hb1 := r1.lt
  have hb5 := r5.lt
  refine ⟨A, n, c, rec_end r1' (bvl hd) (j := 4) rfl rfl, (clI_calls A n c e.l u (sl_fr hs f) (by omega)).mono ?_⟩
  rintro r v ⟨g, A', c', rfl, hr⟩
  refine ⟨_, _, _, rfl, ?_⟩
  have r1v := r1.fr g (fun h => h)
  refine r1v.st_mk (o := 0 + 37) (by simp [Tn.cs, hd]) (fun v hv => by simp at hv; subst hv; rfl) (fun r f1 => ?_)
  have hsp := Tn.splice_l e A A' n n c c' e.l hd
  have r : RecAt (stB v b1 (0 + 37) [Value.slice A' n c']) b1 34 (e.cs A' n c') := by rw [← hsp]; exact r
  generalize stB v b1 (0 + 37) [Value.slice A' n c'] = v2 at r f1 ⊢
  refine ⟨_, by simp [Tn.cs, hd], rec_all r, gd_mk (by simp [Tn.cs, hd]) ?_⟩
  have r5v := (r5.fr g (fun h => h)).fr f1 (fun h => n15 h.symm)
  have hr2 := f1.row hr (fun k hk h' => by have := (hr.blt hk).1; omega)
  exact st_all r5v z35 (by simp [Tn.cs, hd]) (e.one A' _ c') (fun w' f5 r5' => ⟨fr_own (fr_own (f.trans1 g) f1 hb1w) f5 hb5w, _, rfl, A', _, c', rfl, sl_fr1 hr2 f5 hb5, hd, fun _ k hk => Nat.le_trans f.size (hr.blt hk).1⟩)
end Go.Proofs.Ytklanoocjlpemaa
