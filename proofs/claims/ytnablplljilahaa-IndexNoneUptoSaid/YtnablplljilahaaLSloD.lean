/- a table of slots with entries: grow. -/
import Derived.Test.YtnablplljilahaaLSloC
namespace Go.Proofs.Ytnablplljilahaa.Slo
open Go.GV Go.RowKit Go.Slots
set_option linter.unusedVariables false
set_option linter.unusedSimpArgs false
theorem splice_all {c vs : List Value} (h : vs.length = c.length) : splice c 0 vs = vs := by
  unfold splice
  rw [List.take_zero, List.nil_append, Nat.zero_add, h, List.drop_length, List.append_nil]
theorem slot_one {cs : List Value} {i : Nat} {k : Key} {v : List Value} (h : SlotAt cs i (some (k, v))) (hl : cs.length = 71) (hi : i = 0) : cs = slotC k v := by
  subst hi
  obtain ⟨h1, h2⟩ := h
  apply List.ext_getElem?
  intro j
  by_cases hj : j < 71
  · have hs : (slotC k v)[j]? = some ((slotC k v)[j]'(by rw [slotC_len h1.1 h1.2]; exact hj)) := List.getElem?_eq_getElem _
    have := h2 j _ hs
    rw [hs, ← this]; congr 1; omega
  · rw [List.getElem?_eq_none (by omega), List.getElem?_eq_none (by rw [slotC_len h1.1 h1.2]; omega)]
theorem TabAt.set {w : World} {bt bs N : Nat} {S : SRow} {cnt : Int} (h : TabAt w bt bs N S cnt) {i : Nat} (hi : i < N) {o : Option (Key × List Value)} {vs : List Value} (hl : vs.length = 71) (ho : SlotAt vs 0 o) (h1 : ∀ v ∈ vs, v.oneCell' = true) {K : World → Prop}
    (hK : ∀ w', TabAt w' bt bs N (S.set i o) cnt → Fr (fun k => k = bs) w w' → K w') : st w bs (0 + i * 71) vs K := by
  obtain ⟨ty, ty', cs, ht⟩ := h
  rw [Nat.zero_add]
  refine ht.sl.st_mk (by rw [ht.tab.len, hl]; omega) h1 (fun r f => hK _ ⟨ty, ty', _, ht.hd.fr f ht.ne, r, ht.ne, ht.tab.put hi hl ho h1⟩ f)
theorem cntF_take (S : SRow) (j : Nat) (o : Option (Key × List Value)) (h : S[j]? = some o) : cntF (S.take (j + 1)) = cntF (S.take j) + (if o.isSome then 1 else 0) := by
  unfold cntF
  rw [List.take_add_one, h]
  simp only [Option.toList_some, List.filter_append, List.length_append]
  cases o <;> simp
theorem grow_calls (B bt bs N : Nat) (S : SRow) (cnt : Int) (w : World) (h : TabAt w bt bs N S cnt) (hI : Inv (homeOf N) N S) (hN : 8 ≤ N) (hN2 : N < 549755813888) (hB : B ≤ w.heap.size) :
    Calls Try.prog 35 #[.pointer (some ⟨bt, 0, none⟩)] w fun e w' => e = .returned (.tuple #[]) ∧ Fr (fun k => k = bt) w w' ∧ ∃ bs' S', TabAt w' bt bs' (2 * N) S' cnt ∧ Inv (homeOf (2 * N)) (2 * N) S' ∧ cntF S' = cntF S ∧ (∀ k v, Has S' k v ↔ Has S k v) ∧ B ≤ bs' := by
  refine (F35.of (some ⟨bt, 0, none⟩) w (Q := fun v w' => v = .tuple #[] ∧ Fr (fun k => k = bt) w w' ∧ ∃ bs' S', TabAt w' bt bs' (2 * N) S' cnt ∧ Inv (homeOf (2 * N)) (2 * N) S' ∧ cntF S' = cntF S ∧ (∀ k v, Has S' k v ↔ Has S k v) ∧ B ≤ bs') ?_).mono (fun e w' ⟨v, he, hv, h⟩ => ⟨by rw [he, hv], h⟩)
  obtain ⟨ty, ty', cs, ht⟩ := h
  have hSl := ht.tab.slen
  have w2 : IntKind.wrap .i64 (2 * (N : Int)) = ((2 * N : Nat) : Int) := by rw [i64_id (by omega) (by omega)]; omega
  refine dr_mk ⟨_, _, _, ht.hd.cell rfl, ?_⟩
  dsimp only
  rw [w2]
  refine gd_mk (decide_eq_true (by omega)) (gd_mk (decide_eq_true (by omega)) (gd_mk (decide_eq_true (by omega)) (nw_mk (dr_mk ?_))))
  rw [Int.toNat_natCast]
  have f1 : Fr (fun _ => False) w (w.alloc (.cells (zeros (2 * N) Z79).toArray 79)) := Fr.alloc _ _ _
  have hd1 := ht.hd.fr f1 (fun h => h)
  have sl1 := ht.sl.fr f1 (fun h => h)
  have nw1 : RecAt (w.alloc (.cells (zeros (2 * N) Z79).toArray 79)) w.heap.size 79 (zeros (2 * N) Z79) := RecAt.new w _ _
  have hbt := ht.hd.lt
  have hbs := ht.sl.lt
  have hs1 : w.heap.size < (w.alloc (.cells (zeros (2 * N) Z79).toArray 79)).heap.size := by rw [alloc_size]; omega
  generalize w.alloc (.cells (zeros (2 * N) Z79).toArray 79) = w1 at f1 hd1 sl1 nw1 hs1 ⊢
  generalize hbn : w.heap.size = bn at *
  refine hd1.st_mk (o := 0) (by simp) (by intro v hv; simp only [List.mem_singleton] at hv; subst hv; rfl) (fun hd2 f2 => ?_)
  have f12 : Fr (fun k => k = bt) w (stB w1 bt 0 [Value.slice (some ⟨bn, 0, none⟩) (2 * N) (2 * N)]) := f1.trans f2 (fun _ _ h => h.elim) (fun k _ h => h)
  have sl2 := sl1.fr f2 (fun h => ht.ne h.symm)
  have nw2 := nw1.fr f2 (fun h => by omega)
  have hs2 : bn < (stB w1 bt 0 [Value.slice (some ⟨bn, 0, none⟩) (2 * N) (2 * N)]).heap.size := by rw [stB_size]; exact hs1
  generalize stB w1 bt 0 [Value.slice (some ⟨bn, 0, none⟩) (2 * N) (2 * N)] = w2' at hd2 f12 sl2 nw2 hs2 ⊢
  have Zl : Z79.length = 71 := rfl
  have T0 : TabAt w2' bt bn (2 * N) (List.replicate (2 * N) none) cnt := by
    refine ⟨ty, 79, _, ?_, nw2, by omega, ⟨by rw [zeros_length, Zl], by simp, fun i o hi => ?_, fun v hv => ?_⟩⟩
    · exact hd2
    · have hil := (List.getElem?_eq_some_iff.1 hi).1
      rw [List.length_replicate] at hil
      have : o = none := by
        have := List.mem_of_getElem? hi
        exact (List.mem_replicate.1 this).2
      subst this
      show (zeros (2 * N) Z79)[i * 71]? = some (.bool false)
      have := zeros_get Z79 (2 * N) (i * 71) (by rw [Zl]; omega)
      rw [this, Zl, Nat.mul_mod_left]
      rfl
    · simp only [zeros, List.mem_flatten, List.mem_replicate] at hv
      obtain ⟨l, ⟨_, rfl⟩, hv⟩ := hv
      revert v
      decide +kernel
  have I0 : Inv (homeOf (2 * N)) (2 * N) (List.replicate (2 * N) (none : Option (Key × List Value))) := by
    have no : ∀ p k v, ¬ At (List.replicate (2 * N) (none : Option (Key × List Value))) p k v := fun p k v h => by
      have := List.mem_of_getElem? h
      have := (List.mem_replicate.1 this).2
      cases this
    exact ⟨by simp, fun k => homeOf_lt (by omega) k, fun p k v h => absurd h (no p k v), fun p q k v v' h => absurd h (no p k v)⟩
  have no0 : ∀ p k v, ¬ At (List.replicate (2 * N) (none : Option (Key × List Value))) p k v := fun p k v h => by
    have h1 := List.mem_of_getElem? h
    have h2 := (List.mem_replicate.1 h1).2
    cases h2
  refine jnC_mk ?_
  refine loop_rule (fun s u => Fr (fun k => k = bt) w u ∧ bn < u.heap.size ∧ RecAt u bs ty' cs ∧ ∃ (j : Nat) (S' : SRow), j ≤ N ∧ s = (some ⟨bt, 0, none⟩, (some ⟨bs, 0, none⟩, N, N), (N : Int), (j : Int), ()) ∧ TabAt u bt bn (2 * N) S' cnt ∧ Inv (homeOf (2 * N)) (2 * N) S' ∧ cntF S' = cntF (S.take j) ∧ ∀ k v, Has S' k v ↔ ∃ p, p < j ∧ At S p k v)
    (fun s _ => (N - s.2.2.2.1).toNat) ?_ _ _ ⟨f12, hs2, sl2, 0, _, by omega, rfl, T0, I0, by rw [cntF_none]; rfl, fun k v => Iff.intro (fun ⟨p, hp⟩ => absurd hp (no0 p k v)) (fun ⟨p, hp, _⟩ => absurd hp (Nat.not_lt_zero p))⟩
  rintro s u C ⟨hf, hus, hsl, j, S', hj, rfl, hT, hI', hcnt, hHas⟩ hC _
  have hub : B ≤ u.heap.size := by have := hf.size; omega
  refine vIf_mk (fun hlt => ?_) (fun hge => ?_)
  · have hlt2 : (j : Int) < (N : Int) := of_decide_eq_true hlt
    obtain ⟨o, ho⟩ : ∃ o, S[j]? = some o := ⟨_, List.getElem?_eq_getElem (by omega)⟩
    have hcl := cut_len ht.tab (i := j) (by omega)
    have hsc := slotAt_cut (ht.tab.slot j o ho)
    refine dr_mk (gd_mk (decide_eq_true (Int.natCast_nonneg j)) (gd_mk (decide_eq_true hlt2) ⟨(cs.drop (j * 71)).take 71, hcl, ?_, nw_mk (gd_mk (by simpa using hcl) ?_)⟩))
    · rw [Int.toNat_natCast, Nat.zero_add]; exact cut_cells hsl _ _
    generalize hvs : (cs.drop (j * 71)).take 71 = vs at hcl hsc ⊢
    have g1 : Fr (fun _ => False) u (u.alloc (.cells Z79.toArray 79)) := Fr.alloc _ _ _
    have rz : RecAt (u.alloc (.cells Z79.toArray 79)) u.heap.size 79 Z79 := RecAt.new u _ _
    have hone : ∀ x ∈ vs, x.oneCell' = true := by
      intro x hx
      have hx2 : x ∈ cs := by
        rw [← hvs] at hx
        exact List.mem_of_mem_drop (List.mem_of_mem_take hx)
      exact ht.tab.one x hx2
    refine rz.st_mk (o := 0) (by rw [Zl, hcl]; omega) hone (fun rv g2 => ?_)
    rw [splice_all (by rw [hcl, Zl])] at rv
    have g12 : Fr (fun _ => False) u (stB (u.alloc (.cells Z79.toArray 79)) u.heap.size 0 vs) := g1.trans g2 (fun _ _ h => h) (fun k hk h => by omega)
    have hs3 : u.heap.size < (stB (u.alloc (.cells Z79.toArray 79)) u.heap.size 0 vs).heap.size := by rw [stB_size, alloc_size]; omega
    generalize stB (u.alloc (.cells Z79.toArray 79)) u.heap.size 0 vs = u2 at rv g12 hs3 ⊢
    have hT2 := hT.fr g12 (fun h => h) (fun h => h)
    have hsl2 := hsl.fr g12 (fun h => h)
    have hf2 := hf.trans1 (g12.mono (fun _ _ h => h.elim))
    have next : ∀ (u3 : World) (S3 : SRow), Fr (fun k => k = bt) w u3 → bn < u3.heap.size → RecAt u3 bs ty' cs → TabAt u3 bt bn (2 * N) S3 cnt → Inv (homeOf (2 * N)) (2 * N) S3 → cntF S3 = cntF (S.take (j + 1)) → (∀ k v, Has S3 k v ↔ ∃ p, p < j + 1 ∧ At S p k v) →
        C (some ⟨bt, 0, none⟩, (some ⟨bs, 0, none⟩, N, N), (N : Int), IntKind.wrap .i64 ((j : Int) + 1), ()) u3 := fun u3 S3 a1 a2 a3 a4 a5 a6 a7 => by
      refine hC _ _ ⟨a1, a2, a3, j + 1, S3, by omega, ?_, a4, a5, a6, a7⟩ ?_
      · rw [i64_id (by omega) (by omega)]; rfl
      · show ((N : Int) - IntKind.wrap .i64 ((j : Int) + 1)).toNat < ((N : Int) - (j : Int)).toNat
        rw [i64_id (by omega) (by omega)]; omega
    cases o with
    | none =>
      have h0 : vs[0]? = some (.bool false) := by simpa [SlotAt] using hsc
      refine ⟨false, rv.cell h0, vIf_f rfl (jnC_mk (next u2 S' hf2 (by omega) hsl2 hT2 hI' ?_ (fun k v => ?_)))⟩
      · rw [cntF_take S j none ho, hcnt]; rfl
      · rw [hHas]
        refine ⟨fun ⟨p, h1, h2⟩ => ⟨p, by omega, h2⟩, fun ⟨p, h1, h2⟩ => ⟨p, ?_, h2⟩⟩
        by_cases hpj : p = j
        · subst hpj; unfold At at h2; rw [ho] at h2; cases h2
        · omega
    | some x =>
      obtain ⟨k, v⟩ := x
      have hat : At S j k v := ho
      obtain ⟨hk, hv38⟩ : k.length = 32 ∧ v.length = 38 := hsc.1
      have hve := slot_one hsc hcl rfl
      subst hve
      have hkc : ∀ q y, (k.map bv)[q]? = some y → (slotC k v)[0 + 1 + q]? = some y := fun q y hq => by
        have hql := (List.getElem?_eq_some_iff.1 hq).1
        unfold slotC
        rw [List.getElem?_append_right (by simp), List.getElem?_append_left (by simp at hql ⊢; omega)]
        simpa using hq
      obtain ⟨fr, hfr⟩ : ∃ f, Free S' f := cntF_free S' (by
        rw [hcnt, hI'.len]
        have : cntF (S.take j) ≤ (S.take j).length := List.length_filter_le _ _
        rw [List.length_take] at this
        omega)
      refine ⟨true, rv.cell rfl, vIf_t rfl ⟨k.map bv, by simp [hk], rv.cells (o := 0 + 1) hkc, ?_⟩⟩
      refine (find_calls bt bn (2 * N) S' cnt k u2 hT2 hk (by omega) (by omega) hfr).mono ?_
      rintro e u3 ⟨g3, t, b, hE, rfl, hb⟩
      rcases hb with ⟨rfl, hfree⟩ | ⟨_, v', hv'⟩
      · have hT3 := hT2.fr g3 (fun h => h) (fun h => h)
        have rv3 := rv.fr g3 (fun h => h)
        have hT3' := hT3
        obtain ⟨ty2, ty3, cs3, ht3⟩ := hT3'
        have hil := adv_lt (hI'.hom k) hE.lt
        refine ⟨_, _, rfl, dr_mk ⟨_, _, _, (show RecAt u3.drew bt ty2 _ from ht3.hd).cell rfl, slotC k v, slotC_len hk hv38, (show RecAt u3.drew u.heap.size 79 _ from rv3).cells (fun q y hq => by simpa using hq), ?_⟩⟩
        refine dr_mk (gd_mk (decide_eq_true (Int.natCast_nonneg _)) (gd_mk (decide_eq_true ?_) (gd_mk (by simp [slotC_len hk hv38]) ?_)))
        · show ((adv (2 * N) (homeOf (2 * N) k) t : Nat) : Int) < ((2 * N : Nat) : Int)
          omega
        rw [Int.toNat_natCast]
        refine TabAt.set (w := u3.drew) (S := S') (hT3.fr (Fr.drew (fun _ => False) u3) (fun h => h) (fun h => h)) hil (slotC_len hk hv38) (slotAt_C hk hv38) (fun x hx => hone x hx) (fun u4 hT4 g4 => ?_)
        have hbnB : B ≤ bn := by omega
        refine jnC_mk (next u4 _ ?_ ?_ ?_ hT4 (hE.put hI' v hfree) ?_ (fun k2 v2 => ?_))
        · exact ((hf2.trans1 (g3.mono (fun _ _ h => h.elim))).trans1 (Fr.drew _ _)).trans g4 (fun _ _ h => h) (fun q hq h => by omega)
        · have := g3.size; have := g4.size; show bn < _; have : u3.drew.heap.size = u3.heap.size := rfl; omega
        · have hsl3 : RecAt u3.drew bs ty' cs := RecAt.fr (S := fun _ => False) (g3.trans1 (Fr.drew _ _)) hsl2 (fun h => h)
          exact hsl3.fr g4 (fun h => by omega)
        · have h5 := cntF_set S' _ none (some (k, v)) hfree
          rw [cntF_take S j _ ho]
          simp at h5 ⊢
          omega
        · constructor
          · rintro ⟨p, hp⟩
            unfold At at hp
            rw [set_at (by rw [hI'.len]; exact hil)] at hp
            split at hp
            · injection hp with hp; injection hp with hp
              obtain ⟨rfl, rfl⟩ := Prod.mk.inj hp
              exact ⟨j, by omega, hat⟩
            · obtain ⟨q, h6, h7⟩ := (hHas k2 v2).1 ⟨p, hp⟩
              exact ⟨q, by omega, h7⟩
          · rintro ⟨p, h6, h7⟩
            by_cases hpj : p = j
            · subst hpj
              obtain ⟨rfl, rfl⟩ := hat.uniq h7
              exact ⟨_, by unfold At; rw [set_at (by rw [hI'.len]; exact hil), if_pos rfl]⟩
            · obtain ⟨q, hq⟩ := (hHas k2 v2).2 ⟨p, by omega, h7⟩
              refine ⟨q, ?_⟩
              unfold At
              rw [set_at (by rw [hI'.len]; exact hil), if_neg]
              · exact hq
              · intro he; subst he; exact Full.not_free ⟨k2, v2, hq⟩ hfree
      · exfalso
        obtain ⟨p, h6, h7⟩ := (hHas k v').1 ⟨_, hv'⟩
        have := hI.one _ _ _ _ _ h7 hat
        omega
  · have hge2 : ¬ ((j : Int) < (N : Int)) := of_decide_eq_false hge
    have hjN : j = N := by omega
    subst hjN
    rw [List.take_of_length_le (by omega)] at hcnt
    refine ⟨rfl, hf, bn, S', hT, hI', hcnt, fun k v => ?_, by omega⟩
    rw [hHas]
    exact ⟨fun ⟨p, _, hp⟩ => ⟨p, hp⟩, fun ⟨p, hp⟩ => ⟨p, hp.lt hI.len, hp⟩⟩
end Go.Proofs.Ytnablplljilahaa.Slo
