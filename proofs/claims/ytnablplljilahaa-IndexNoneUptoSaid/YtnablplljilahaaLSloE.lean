/- a table of slots with entries: Put. -/
import Derived.Test.YtnablplljilahaaLSloD
namespace Go.Proofs.Ytnablplljilahaa.Slo
open Go.GV Go.RowKit Go.Slots
set_option linter.unusedVariables false
set_option linter.unusedSimpArgs false
/-- the last step of Put: the slot is written -/
theorem put_slot {w : World} {bt bs N : Nat} {S : SRow} {cnt : Int} {b1 b3 : Nat} {k : Key} {x : List Value} {i : Nat} {Q : Value → World → Prop} (h : TabAt w bt bs N S cnt) (hr : RecAt w b1 29 (k.map bv)) (hr3 : RecAt w b3 42 x) (hk : k.length = 32) (hx : x.length = 38) (hx1 : ∀ u ∈ x, u.oneCell' = true) (hi : i < N)
    (hQ : ∀ w', TabAt w' bt bs N (S.set i (some (k, x))) cnt → Fr (fun j => j = bs) w w' → Q (.tuple #[]) w') : F21.k8 Q (some ⟨bt, 0, none⟩, (b1, 0), (b3, 0), (i : Int), ()) w := by
  intro _
  have hd : Fr (fun _ => False) w w.drew := Fr.drew _ _
  have hT := h.fr hd (fun h => h) (fun h => h)
  obtain ⟨ty, ty', cs, ht⟩ := id hT
  have hr' := hr.fr hd (fun h => h)
  have hr3' := hr3.fr hd (fun h => h)
  refine dr_mk ⟨_, _, _, ht.hd.cell rfl, k.map bv, by simp [hk], hr'.cells (o := 0) (fun j v hj => by rw [Nat.zero_add]; exact hj), x, hx, hr3'.cells (o := 0) (fun j v hj => by rw [Nat.zero_add]; exact hj), gd_mk (by simp [hk]) (gd_mk (by simp [hx]) (dr_mk (gd_mk (decide_eq_true (Int.natCast_nonneg i)) (gd_mk (decide_eq_true (by show (i : Int) < (N : Int); omega)) (gd_mk (by simp [hk, hx]) ?_)))))⟩
  rw [Int.toNat_natCast]
  exact TabAt.set (w := w.drew) (S := S) hT hi (slotC_len hk hx) (slotAt_C hk hx) (slotC_one hx1) (fun w' h1 f1 => hQ w' h1 ((Fr.drew _ _).trans1 f1))
theorem has_over {N : Nat} {S : SRow} {k : Key} {v0 v : List Value} {i : Nat} (hI : Inv (homeOf N) N S) (h : At S i k v0) : (∀ k' v', Has (S.set i (some (k, v))) k' v' ↔ if k' = k then v' = v else Has S k' v') ∧ cntF (S.set i (some (k, v))) = cntF S := by
  have hil : i < S.length := by rw [hI.len]; exact h.lt hI.len
  refine ⟨fun k' v' => ?_, ?_⟩
  · by_cases hk : k' = k
    · subst hk
      rw [if_pos rfl]
      constructor
      · rintro ⟨p, hp⟩
        unfold At at hp
        rw [set_at hil] at hp
        split at hp
        · injection hp with hp; injection hp with hp
          exact (Prod.mk.inj hp).2.symm
        · rename_i hne
          exact absurd (hI.one _ _ _ _ _ h hp) hne
      · rintro rfl
        exact ⟨i, by unfold At; rw [set_at hil, if_pos rfl]⟩
    · rw [if_neg hk]
      constructor
      · rintro ⟨p, hp⟩
        unfold At at hp
        rw [set_at hil] at hp
        split at hp
        · injection hp with hp; injection hp with hp
          exact absurd (Prod.mk.inj hp).1.symm hk
        · exact ⟨p, hp⟩
      · rintro ⟨p, hp⟩
        refine ⟨p, ?_⟩
        unfold At
        rw [set_at hil, if_neg]
        · exact hp
        · intro he; subst he; exact hk (h.uniq hp).1.symm
  · have := cntF_set S i _ (some (k, v)) h
    simp at this; omega
theorem has_new {N : Nat} {S : SRow} {k : Key} {v : List Value} {i : Nat} (hI : Inv (homeOf N) N S) (hf : Free S i) (hab : ∀ v, ¬ Has S k v) : (∀ k' v', Has (S.set i (some (k, v))) k' v' ↔ if k' = k then v' = v else Has S k' v') ∧ cntF (S.set i (some (k, v))) = cntF S + 1 := by
  have hil : i < S.length := by rw [hI.len]; exact hf.lt hI.len
  refine ⟨fun k' v' => ?_, ?_⟩
  · by_cases hk : k' = k
    · subst hk
      rw [if_pos rfl]
      constructor
      · rintro ⟨p, hp⟩
        unfold At at hp
        rw [set_at hil] at hp
        split at hp
        · injection hp with hp; injection hp with hp
          exact (Prod.mk.inj hp).2.symm
        · exact absurd ⟨p, hp⟩ (hab v')
      · rintro rfl
        exact ⟨i, by unfold At; rw [set_at hil, if_pos rfl]⟩
    · rw [if_neg hk]
      constructor
      · rintro ⟨p, hp⟩
        unfold At at hp
        rw [set_at hil] at hp
        split at hp
        · injection hp with hp; injection hp with hp
          exact absurd (Prod.mk.inj hp).1.symm hk
        · exact ⟨p, hp⟩
      · rintro ⟨p, hp⟩
        refine ⟨p, ?_⟩
        unfold At
        rw [set_at hil, if_neg]
        · exact hp
        · intro he; subst he; exact Full.not_free ⟨k', v', hp⟩ hf
  · have := cntF_set S i none (some (k, v)) hf
    simp at this; omega
/-- what a table is behind Put -/
structure PutAns (w' : World) (B bt : Nat) (S : SRow) (N : Nat) (k : Key) (v : List Value) (bs' N' : Nat) (S' : SRow) : Prop where
  tab : Tab w' B bt bs' N' S'
  has : ∀ k' v', Has S' k' v' ↔ if k' = k then v' = v else Has S k' v'
  cnt : ((∃ v0, Has S k v0) ∧ cntF S' = cntF S ∧ N' = N) ∨ ((∀ v0, ¬ Has S k v0) ∧ cntF S' = cntF S + 1 ∧ N' = if 4 * (cntF S + 1) > 3 * N then 2 * N else N)
theorem cnt_st {w : World} {bt bs N : Nat} {S : SRow} {cnt cnt' : Int} (h : TabAt w bt bs N S cnt) {K : World → Prop} (hK : ∀ w', TabAt w' bt bs N S cnt' → Fr (fun j => j = bt) w w' → K w') : st w bt (0 + 1) [.int .i64 cnt'] K := by
  obtain ⟨ty, ty', cs, ht⟩ := h
  refine ht.hd.st_mk (o := 0 + 1) (by simp) (by intro v hv; simp only [List.mem_singleton] at hv; subst hv; rfl) (fun r f => hK _ ⟨ty, ty', cs, r, ht.sl.fr f (fun h => ht.ne h.symm), ht.ne, ht.tab⟩ f)
theorem tput_calls' (B bt bs N : Nat) (S : SRow) (k : Key) (x : List Value) (w : World) (h : Tab w B bt bs N S) (hk : k.length = 32) (hx : x.length = 38) (hx1 : ∀ u ∈ x, u.oneCell' = true) (hN : N < 274877906944) (hB : B ≤ w.heap.size) :
    Calls Try.prog 21 #[.pointer (some ⟨bt, 0, none⟩), ofL (k.map bv), ofL x] w fun e w' => e = .returned (.tuple #[]) ∧ Fr (fun j => j = bt ∨ j = bs) w w' ∧ ∃ bs' N' S', (bs' = bs ∨ w.heap.size ≤ bs') ∧ PutAns w' B bt S N k x bs' N' S' := by
  refine (F21.of (some ⟨bt, 0, none⟩) (k.map bv) x w (Q := fun v w' => v = .tuple #[] ∧ Fr (fun j => j = bt ∨ j = bs) w w' ∧ ∃ bs' N' S', (bs' = bs ∨ w.heap.size ≤ bs') ∧ PutAns w' B bt S N k x bs' N' S') ?_).mono (fun e w' ⟨v, he, hv, h⟩ => ⟨by rw [he, hv], h⟩)
  obtain ⟨f, hfree⟩ := h.free
  have hN8 := h.n8
  refine nw_mk (nw_mk (vIf_f rfl ?_))
  have f0 : Fr (fun _ => False) w (w.alloc (.cells (k.map bv).toArray 29)) := Fr.alloc _ _ _
  have hr0 : RecAt (w.alloc (.cells (k.map bv).toArray 29)) w.heap.size 29 (k.map bv) := RecAt.new w _ _
  have hs0 : (w.alloc (.cells (k.map bv).toArray 29)).heap.size = w.heap.size + 1 := alloc_size _ _
  generalize w.alloc (.cells (k.map bv).toArray 29) = w0 at f0 hr0 hs0 ⊢
  have f1 : Fr (fun _ => False) w0 (w0.alloc (.cells x.toArray 42)) := Fr.alloc _ _ _
  have hr3 : RecAt (w0.alloc (.cells x.toArray 42)) w0.heap.size 42 x := RecAt.new w0 _ _
  have hr := hr0.fr f1 (fun h => h)
  have f1 := f0.trans1 f1
  have hs1 : (w0.alloc (.cells x.toArray 42)).heap.size = w0.heap.size + 1 := alloc_size _ _
  have hT1 := h.at_.fr f1 (fun h => h) (fun h => h)
  have hbt1 : bt < w.heap.size := by obtain ⟨_, _, _, ht⟩ := h.at_; exact ht.hd.lt
  have hbs1 : bs < w.heap.size := by obtain ⟨_, _, _, ht⟩ := h.at_; exact ht.sl.lt
  generalize w0.alloc (.cells x.toArray 42) = w1 at f1 hr hr3 hs1 hT1 ⊢
  have hb3 : w.heap.size < w0.heap.size := by omega
  generalize w0.heap.size = b3 at hr3 hs1 hb3 ⊢
  generalize hb1 : w.heap.size = b1 at hr hb3 hbt1 hbs1 ⊢
  refine ⟨k.map bv, by simp [hk], hr.cells (fun j v hj => by simpa using hj), (find_calls bt bs N S _ k _ hT1 hk (by omega) h.big hfree).mono ?_⟩
  rintro e w2 ⟨f2, t, b, hE, rfl, hb⟩
  have f12 : Fr (fun j => j = bt ∨ j = bs) w w2 := (f1.trans1 f2).mono (fun _ _ h => h.elim)
  have hT2 := hT1.fr f2 (fun h => h) (fun h => h)
  have hr2 := hr.fr f2 (fun h => h)
  have hr32 := hr3.fr f2 (fun h => h)
  have hs2 : b3 < w2.heap.size := by have := f2.size; omega
  have hil := adv_lt (h.inv.hom k) hE.lt
  refine ⟨_, _, rfl, ?_⟩
  rcases hb with ⟨rfl, hf⟩ | ⟨rfl, v0, hv0⟩
  · have hab : ∀ v, ¬ Has S k v := fun v ⟨p, hp⟩ => hE.absent h.inv hf p v hp
    have hd : Fr (fun _ => False) w2 w2.drew := Fr.drew _ _
    have hT3 := hT2.fr hd (fun h => h) (fun h => h)
    have hr3 := hr2.fr hd (fun h => h)
    have hr33 := hr32.fr hd (fun h => h)
    have f13 : Fr (fun j => j = bt ∨ j = bs) w w2.drew := f12.trans1 (Fr.drew _ _)
    obtain ⟨ty, ty', cs, ht⟩ := id hT3
    have hc := h.load
    have e1 : IntKind.wrap .i64 (((cntF S : Nat) : Int) + 1) = ((cntF S + 1 : Nat) : Int) := by rw [i64_id (by omega) (by omega)]; rfl
    have e2 : IntKind.wrap .i64 (4 * ((cntF S + 1 : Nat) : Int)) = ((4 * (cntF S + 1) : Nat) : Int) := by rw [i64_id (by omega) (by omega)]; omega
    have e3 : IntKind.wrap .i64 (3 * (N : Int)) = ((3 * N : Nat) : Int) := by rw [i64_id (by omega) (by omega)]; omega
    refine vIf_t rfl (dr_mk ⟨_, ht.hd.cell rfl, dr_mk ⟨_, _, _, ht.hd.cell rfl, ?_⟩⟩)
    dsimp only
    rw [e1, e2, e3]
    -- behind: the count goes up, the slot is written
    have fin : ∀ (w5 : World) (bs5 N5 : Nat) (S5 : SRow) (t5 : Nat), Fr (fun j => j = bt ∨ j = bs) w w5 → RecAt w5 b3 42 x → TabAt w5 bt bs5 N5 S5 (cntF S : Nat) → RecAt w5 b1 29 (k.map bv) → Inv (homeOf N5) N5 S5 → cntF S5 = cntF S → (∀ k v, Has S5 k v ↔ Has S k v) → (bs5 = bs ∨ b1 ≤ bs5) → 8 ≤ N5 → N5 < 1099511627776 →
        4 * (cntF S + 1) ≤ 3 * N5 → N5 = (if 4 * (cntF S + 1) > 3 * N then 2 * N else N) → Slots.Ends (homeOf N5) N5 S5 k t5 → Free S5 (adv N5 (homeOf N5 k) t5) →
        F21.k7 (fun v w' => v = .tuple #[] ∧ Fr (fun j => j = bt ∨ j = bs) w w' ∧ ∃ bs' N' S', (bs' = bs ∨ b1 ≤ bs') ∧ PutAns w' B bt S N k x bs' N' S') (some ⟨bt, 0, none⟩, (b1, 0), (b3, 0), ((adv N5 (homeOf N5 k) t5 : Nat) : Int), ()) w5 := by
      intro w5 bs5 N5 S5 t5 a1 a2 a3 a4 a5 a6 a7 a8 a9 a10 a11 a12 a13 a14 _
      obtain ⟨ty5, ty5', cs5, ht5⟩ := id a3
      have hBs5 : B ≤ bs5 := by
        rcases a8 with h8 | h8
        · rw [h8]; exact h.bs_
        · omega
      refine dr_mk ⟨_, ht5.hd.cell rfl, dr_mk ?_⟩
      rw [e1]
      refine cnt_st a3 (fun w6 h6 f6 => jnC_mk ?_)
      have hr6 := a4.fr f6 (fun he => by omega)
      have hr36 := a2.fr f6 (fun he => by omega)
      refine put_slot h6 hr6 hr36 hk hx hx1 (adv_lt (a5.hom k) a13.lt) (fun w7 h7 f7 => ⟨rfl, ?_, bs5, N5, S5.set (adv N5 (homeOf N5 k) t5) (some (k, x)), a8, ?_⟩)
      · exact (a1.trans1 (f6.mono (fun j _ hj => .inl hj))).trans f7 (fun _ _ h => h) (fun j hj h' => by
          rcases a8 with h8 | h8
          · exact .inr (h'.trans h8)
          · omega)
      · have hab5 : ∀ v, ¬ Has S5 k v := fun v hv => hab v ((a7 k v).1 hv)
        obtain ⟨g1, g2⟩ := has_new (v := x) a5 a14 hab5
        refine ⟨⟨?_, a13.put a5 _ a14, a9, by rw [g2, a6]; exact a11, a10, h.bt_, hBs5⟩, fun k' v' => ?_, .inr ⟨hab, by rw [g2, a6], a12⟩⟩
        · rw [g2, a6]; exact h7
        · rw [g1]
          split
          · exact Iff.rfl
          · exact a7 k' v'
    refine vIf_mk (fun hg => ?_) (fun hg => ?_)
    · have hg : ((4 * (cntF S + 1) : Nat) : Int) > ((3 * N : Nat) : Int) := of_decide_eq_true hg
      refine (grow_calls w2.drew.heap.size bt bs N S _ w2.drew hT3 h.inv hN8 (by omega) (Nat.le_refl _)).mono ?_
      rintro e w3 ⟨rfl, f3, bs', S', hT4, hI4, hc4, hh4, hb4⟩
      have hr4 : RecAt w3 b1 29 (k.map bv) := hr3.fr f3 (fun he => by omega)
      have hr34 : RecAt w3 b3 42 x := hr33.fr f3 (fun he => by omega)
      obtain ⟨f', hfree'⟩ : ∃ f, Free S' f := cntF_free S' (by rw [hc4, hI4.len]; omega)
      refine ⟨rfl, k.map bv, by simp [hk], hr4.cells (fun j v hj => by simpa using hj), (find_calls bt bs' (2 * N) S' _ k w3 hT4 hk (by omega) (by omega) hfree').mono ?_⟩
      rintro e w4 ⟨f4, t4, b4, hE4, rfl, hb4'⟩
      have f14 : Fr (fun j => j = bt ∨ j = bs) w w4 := (f13.trans1 (f3.mono (fun j _ hj => .inl hj))).trans1 (f4.mono (fun _ _ h => h.elim))
      rcases hb4' with ⟨rfl, hf4⟩ | ⟨_, v4, hv4⟩
      · exact ⟨_, _, rfl, jnC_mk (fin w4 bs' (2 * N) S' t4 f14 (hr34.fr f4 (fun h => h)) (hT4.fr f4 (fun h => h) (fun h => h)) (hr4.fr f4 (fun h => h)) hI4 hc4 hh4 (.inr (by have : w2.drew.heap.size = w2.heap.size := rfl; omega)) (by omega) (by omega) (by omega) (by rw [if_pos (by omega)]) hE4 hf4)⟩
      · exact absurd ((hh4 k v4).1 ⟨_, hv4⟩) (hab v4)
    · have hg : ¬ ((4 * (cntF S + 1) : Nat) : Int) > ((3 * N : Nat) : Int) := of_decide_eq_false hg
      exact jnC_mk (fin w2.drew bs N S t f13 hr33 hT3 hr3 h.inv rfl (fun _ _ => Iff.rfl) (.inl rfl) hN8 h.big (by omega) (by rw [if_neg (by omega)]) hE hf)
  · refine vIf_f rfl (jnC_mk (put_slot hT2 hr2 hr32 hk hx hx1 hil (fun w3 h3 f3 => ⟨rfl, f12.trans1 (f3.mono (fun j _ hj => .inr hj)), bs, N, S.set (adv N (homeOf N k) t) (some (k, x)), .inl rfl, ?_⟩)))
    obtain ⟨g1, g2⟩ := has_over (v := x) h.inv hv0
    refine ⟨⟨by rw [g2]; exact h3, h.inv.over _ hv0, hN8, by rw [g2]; exact h.load, h.big, h.bt_, h.bs_⟩, g1, .inl ⟨⟨v0, _, hv0⟩, g2, rfl⟩⟩
theorem tput_calls (B bt bs N : Nat) (S : SRow) (k : Key) (x : List Value) (w : World) (h : Tab w B bt bs N S) (hk : k.length = 32) (hx : x.length = 38) (hx1 : ∀ u ∈ x, u.oneCell' = true) (hN : N < 274877906944) (hB : B ≤ w.heap.size) :
    Calls Try.prog 21 #[.pointer (some ⟨bt, 0, none⟩), ofL (k.map bv), ofL x] w fun e w' => e = .returned (.tuple #[]) ∧ Fr (fun j => B ≤ j) w w' ∧ ∃ bs' N' S', PutAns w' B bt S N k x bs' N' S' := by
  refine (tput_calls' B bt bs N S k x w h hk hx hx1 hN hB).mono fun e w' ⟨h1, f, bs', N', S', _, h2⟩ => ⟨h1, f.mono (fun j _ hj => ?_), bs', N', S', h2⟩
  rcases hj with hj | hj
  · rw [hj]; exact h.bt_
  · rw [hj]; exact h.bs_
end Go.Proofs.Ytnablplljilahaa.Slo
