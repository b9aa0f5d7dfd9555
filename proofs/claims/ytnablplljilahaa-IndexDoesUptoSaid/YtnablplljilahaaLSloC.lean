/- a table of slots with entries: counting, Get. -/
import Derived.Test.YtnablplljilahaaLSloB
namespace Go.Proofs.Ytnablplljilahaa.Slo
open Go.GV Go.RowKit Go.Slots
set_option linter.unusedVariables false
/-! ### counting -/
def cntF (S : SRow) : Nat := (S.filter Option.isSome).length
theorem cntF_set : ∀ (S : SRow) (i : Nat) (o o' : Option (Key × List Value)), S[i]? = some o → cntF (S.set i o') + (if o.isSome then 1 else 0) = cntF S + (if o'.isSome then 1 else 0)
  | [], i, o, o', h => by simp at h
  | x :: r, 0, o, o', h => by
    simp only [List.getElem?_cons_zero, Option.some.injEq] at h
    subst h
    simp only [List.set_cons_zero, cntF, List.filter_cons]
    cases x <;> cases o' <;> simp
  | x :: r, i + 1, o, o', h => by
    have := cntF_set r i o o' (by simpa using h)
    simp only [List.set_cons_succ, cntF, List.filter_cons] at this ⊢
    cases x <;> simp at this ⊢ <;> omega
theorem cntF_free : ∀ (S : SRow), cntF S < S.length → ∃ f, Free S f
  | [], h => by simp [cntF] at h
  | none :: r, h => ⟨0, rfl⟩
  | some x :: r, h => by
    obtain ⟨f, hf⟩ := cntF_free r (by simp [cntF] at h ⊢; omega)
    exact ⟨f + 1, by unfold Free at hf ⊢; simpa using hf⟩
theorem cntF_none (n : Nat) : cntF (List.replicate n none) = 0 := by
  unfold cntF
  rw [List.filter_replicate]
  rfl
def Has (S : SRow) (k : Key) (v : List Value) : Prop := ∃ p, At S p k v
/-- one slot is written -/
theorem TabC.put {N : Nat} {S : SRow} {cs vs : List Value} {i : Nat} {o : Option (Key × List Value)} (h : TabC N S cs) (hi : i < N) (hl : vs.length = 71) (ho : SlotAt vs 0 o) (h1 : ∀ v ∈ vs, v.oneCell' = true) : TabC N (S.set i o) (splice cs (i * 71) vs) := by
  have hfit : i * 71 + vs.length ≤ cs.length := by rw [h.len, hl]; omega
  refine ⟨by rw [splice_len hfit]; exact h.len, by rw [List.length_set]; exact h.slen, fun j o' hj => ?_, fun v hv => ?_⟩
  rotate_left
  · unfold splice at hv
    simp only [List.mem_append] at hv
    rcases hv with (hv | hv) | hv
    · exact h.one v (List.mem_of_mem_take hv)
    · exact h1 v hv
    · exact h.one v (List.mem_of_mem_drop hv)
  have hjl := (List.getElem?_eq_some_iff.1 hj).1
  rw [List.length_set, h.slen] at hjl
  rw [set_at (by rw [h.slen]; exact hi)] at hj
  by_cases hij : i = j
  · subst hij
    rw [if_pos rfl] at hj
    injection hj with hj
    subst hj
    have get : ∀ q, q < 71 → (splice cs (i * 71) vs)[i * 71 + q]? = vs[q]? := fun q hq => by
      rw [splice_get hfit, if_neg (by omega), if_pos (by omega)]
      congr 1; omega
    cases o with
    | none =>
      have h0 : vs[0]? = some (.bool false) := by simpa [SlotAt] using ho
      show (splice cs (i * 71) vs)[i * 71]? = _
      have := get 0 (by omega)
      rw [Nat.add_zero] at this
      rw [this, h0]
    | some x =>
      obtain ⟨k, v⟩ := x
      obtain ⟨h1, h2⟩ := ho
      refine ⟨h1, fun q u hq => ?_⟩
      have hql : q < 71 := by
        have := (List.getElem?_eq_some_iff.1 hq).1
        simp [slotC, h1.1, h1.2] at this; omega
      rw [get q hql]
      have := h2 q u hq
      simpa using this
  · rw [if_neg hij] at hj
    have hold := h.slot j o' hj
    have get : ∀ q, q < 71 → (splice cs (i * 71) vs)[j * 71 + q]? = cs[j * 71 + q]? := fun q hq => by
      rw [splice_get hfit]
      by_cases h1 : j * 71 + q < i * 71
      · rw [if_pos h1]
      · rw [if_neg h1, if_neg (by rw [hl]; omega)]
    cases o' with
    | none =>
      have := get 0 (by omega)
      rw [Nat.add_zero] at this
      show (splice cs (i * 71) vs)[j * 71]? = _
      rw [this]; exact hold
    | some x =>
      obtain ⟨k, v⟩ := x
      obtain ⟨h1, h2⟩ := hold
      refine ⟨h1, fun q u hq => ?_⟩
      have hql : q < 71 := by
        have := (List.getElem?_eq_some_iff.1 hq).1
        simp [slotC, h1.1, h1.2] at this; omega
      rw [get q hql]
      exact h2 q u hq
theorem slotAt_C {k : Key} {v : List Value} (hk : k.length = 32) (hv : v.length = 38) : SlotAt (slotC k v) 0 (some (k, v)) := ⟨⟨hk, hv⟩, fun j u h => by simpa using h⟩
theorem slotC_len {k : Key} {v : List Value} (hk : k.length = 32) (hv : v.length = 38) : (slotC k v).length = 71 := by simp [slotC, hk, hv]
/-- the cells of a slot, cut out -/
theorem slotAt_cut {cs : List Value} {i : Nat} {o : Option (Key × List Value)} (h : SlotAt cs i o) : SlotAt ((cs.drop (i * 71)).take 71) 0 o := by
  have get : ∀ q, q < 71 → ((cs.drop (i * 71)).take 71)[q]? = cs[i * 71 + q]? := fun q hq => by rw [List.getElem?_take, if_pos hq, List.getElem?_drop]
  cases o with
  | none =>
    show ((cs.drop (i * 71)).take 71)[0 * 71]? = _
    rw [Nat.zero_mul, get 0 (by omega)]
    exact h
  | some x =>
    obtain ⟨k, v⟩ := x
    obtain ⟨h1, h2⟩ := h
    refine ⟨h1, fun q u hq => ?_⟩
    have hql : q < 71 := by
      have := (List.getElem?_eq_some_iff.1 hq).1
      simp [slotC, h1.1, h1.2] at this; omega
    rw [Nat.zero_mul, Nat.zero_add, get q hql]
    exact h2 q u hq
theorem cut_len {N : Nat} {S : SRow} {cs : List Value} (h : TabC N S cs) {i : Nat} (hi : i < N) : ((cs.drop (i * 71)).take 71).length = 71 := by
  rw [List.length_take, List.length_drop, h.len]; omega
theorem cut_cells {w : World} {b : Nat} {e : TypeId} {cs : List Value} (h : RecAt w b e cs) (o n : Nat) : cellsAt w b o ((cs.drop o).take n) := h.cells (fun j v hj => by
  rw [List.getElem?_take] at hj
  split at hj
  · rwa [List.getElem?_drop] at hj
  · cases hj)
theorem slotC_one {k : Key} {v : List Value} (hv : ∀ u ∈ v, u.oneCell' = true) : ∀ u ∈ slotC k v, u.oneCell' = true := by
  intro u hu
  simp only [slotC, List.mem_append, List.mem_singleton, List.not_mem_nil, or_false] at hu
  rcases hu with rfl | hu | hu
  · rfl
  · exact bvs_one k u hu
  · exact hv u hu
/-- a table as it should be; all its blocks are from B on -/
structure Tab (w : World) (B bt bs N : Nat) (S : SRow) : Prop where
  at_ : TabAt w bt bs N S (cntF S)
  inv : Inv (homeOf N) N S
  n8 : 8 ≤ N
  load : 4 * cntF S ≤ 3 * N
  big : N < 1099511627776
  bt_ : B ≤ bt
  bs_ : B ≤ bs
theorem Tab.free {w : World} {B bt bs N : Nat} {S : SRow} (h : Tab w B bt bs N S) : ∃ f, Free S f := by
  have hl := h.inv.len
  have := h.load
  have := h.n8
  exact cntF_free S (by omega)
theorem Tab.fr {D : Nat → Prop} {w w' : World} {B bt bs N : Nat} {S : SRow} (f : Fr D w w') (h : Tab w B bt bs N S) (hD : ∀ k, D k → k < B) : Tab w' B bt bs N S :=
  ⟨h.at_.fr f (fun hk => by have := hD _ hk; have := h.bt_; omega) (fun hk => by have := hD _ hk; have := h.bs_; omega), h.inv, h.n8, h.load, h.big, h.bt_, h.bs_⟩
/-- Get: the cells that the digest has -/
theorem get_calls (B bt bs N : Nat) (S : SRow) (k : Key) (w : World) (h : Tab w B bt bs N S) (hk : k.length = 32) :
    Calls Try.prog 24 #[.pointer (some ⟨bt, 0, none⟩), ofL (k.map bv)] w fun e w' => Fr (fun _ => False) w w' ∧ ((∃ cs, Has S k cs ∧ e = .returned (.tuple #[ofL cs, .bool true])) ∨ ((∀ v, ¬ Has S k v) ∧ e = .returned (.tuple #[ofL Z42, .bool false]))) := by
  refine (F24.of (some ⟨bt, 0, none⟩) (k.map bv) w (Q := fun v w' => Fr (fun _ => False) w w' ∧ ((∃ cs, Has S k cs ∧ v = .tuple #[ofL cs, .bool true]) ∨ ((∀ v, ¬ Has S k v) ∧ v = .tuple #[ofL Z42, .bool false]))) ?_).mono (fun e w' ⟨v, he, hf, hv⟩ => ⟨hf, by
    rcases hv with ⟨x, h1, h2⟩ | ⟨h1, h2⟩
    · exact .inl ⟨x, h1, by rw [he, h2]⟩
    · exact .inr ⟨h1, by rw [he, h2]⟩⟩)
  obtain ⟨f, hfree⟩ := h.free
  have zl : Z42.length = 38 := rfl
  have z1 : ∀ v ∈ Z42, v.oneCell' = true := by decide +kernel
  refine nw_mk (nw_mk (nw_mk (vIf_f rfl ?_)))
  have f1 : Fr (fun _ => False) w (w.alloc (.cells (k.map bv).toArray 29)) := Fr.alloc _ _ _
  have r1 : RecAt (w.alloc (.cells (k.map bv).toArray 29)) w.heap.size 29 (k.map bv) := RecAt.new w _ _
  have s1 : (w.alloc (.cells (k.map bv).toArray 29)).heap.size = w.heap.size + 1 := alloc_size _ _
  generalize w.alloc (.cells (k.map bv).toArray 29) = w1 at f1 r1 s1 ⊢
  have f2 : Fr (fun _ => False) w1 (w1.alloc (.cells Z42.toArray 42)) := Fr.alloc _ _ _
  have r2 : RecAt (w1.alloc (.cells Z42.toArray 42)) w1.heap.size 42 Z42 := RecAt.new w1 _ _
  have s2 : (w1.alloc (.cells Z42.toArray 42)).heap.size = w1.heap.size + 1 := alloc_size _ _
  have g2 := f1.trans1 f2
  have r1 := r1.fr f2 (fun h => h)
  generalize w1.alloc (.cells Z42.toArray 42) = w2 at g2 r1 r2 s2 ⊢
  have f3 : Fr (fun _ => False) w2 (w2.alloc (.cells Z42.toArray 42)) := Fr.alloc _ _ _
  have r3 : RecAt (w2.alloc (.cells Z42.toArray 42)) w2.heap.size 42 Z42 := RecAt.new w2 _ _
  have g3 := g2.trans1 f3
  have r1 := r1.fr f3 (fun h => h)
  have r2 := r2.fr f3 (fun h => h)
  have h1 := h.at_.fr g3 (fun h => h) (fun h => h)
  generalize w2.alloc (.cells Z42.toArray 42) = w3 at g3 r1 r2 r3 h1 ⊢
  refine ⟨k.map bv, by simp [hk], r1.cells (fun j v hj => by simpa using hj), (find_calls bt bs N S _ k _ h1 hk (by have := h.n8; omega) h.big hfree).mono ?_⟩
  rintro e w4 ⟨f4, t, b, hE, rfl, hb⟩
  have g4 := g3.trans1 f4
  have r2 := r2.fr f4 (fun h => h)
  have r3 := r3.fr f4 (fun h => h)
  obtain ⟨ty, ty', cs, ht⟩ := h1.fr f4 (fun h => h) (fun h => h)
  have hh := h.inv.hom k
  refine ⟨_, _, rfl, ?_⟩
  have fin : ∀ (vs : List Value) (b : Bool), vs.length = 38 → (∀ v ∈ vs, v.oneCell' = true) → ((∃ cs, Has S k cs ∧ Value.tuple #[ofL vs, .bool b] = .tuple #[ofL cs, .bool true]) ∨ ((∀ v, ¬ Has S k v) ∧ Value.tuple #[ofL vs, .bool b] = .tuple #[ofL Z42, .bool false])) →
      st w4 w1.heap.size 0 vs fun w26 => ldA 38 w26 w1.heap.size 0 fun a27 => Fr (fun _ => False) w w26 ∧ ((∃ cs, Has S k cs ∧ Value.tuple #[ofL a27, .bool b] = .tuple #[ofL cs, .bool true]) ∨ ((∀ v, ¬ Has S k v) ∧ Value.tuple #[ofL a27, .bool b] = .tuple #[ofL Z42, .bool false])) := by
    intro vs b hl h1 hq
    refine r2.st_mk (o := 0) (by rw [zl, hl]; omega) h1 (fun r f => ?_)
    rw [splice_full (by rw [hl, zl])] at r
    exact ⟨vs, hl, r.cells (fun j v hj => by simpa using hj), g4.trans f (fun _ _ h => h) (fun j hj h => by omega), hq⟩
  rcases hb with ⟨rfl, hf⟩ | ⟨rfl, v, hv⟩
  · exact vIf_t rfl ⟨_, zl, r3.cells (fun j v hj => by simpa using hj), gd_mk rfl (fin _ _ zl z1 (.inr ⟨fun v ⟨p, hp⟩ => hE.absent h.inv hf p v hp, rfl⟩))⟩
  · have hil := adv_lt hh hE.lt
    obtain ⟨_, _, ⟨hv38, h33⟩, _⟩ := ht.tab.key hv
    refine vIf_f rfl (dr_mk ⟨_, _, _, ht.hd.cell rfl, dr_mk (gd_mk (decide_eq_true (Int.natCast_nonneg _)) (gd_mk (decide_eq_true (by show ((adv N (homeOf N k) t : Nat) : Int) < (N : Int); omega)) ⟨v, hv38, ?_, gd_mk (by simp [hv38]) (fin v true hv38 (fun u hu => ?_) (.inl ⟨v, ⟨_, hv⟩, rfl⟩))⟩))⟩)
    · rw [Int.toNat_natCast, Nat.zero_add]
      exact ht.sl.cells h33
    · obtain ⟨j, hj⟩ := List.mem_iff_getElem?.1 hu
      exact ht.tab.one u (List.mem_of_getElem? (h33 j u hj))
end Go.Proofs.Ytnablplljilahaa.Slo
