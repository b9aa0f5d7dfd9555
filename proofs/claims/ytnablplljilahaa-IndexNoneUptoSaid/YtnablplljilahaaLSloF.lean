/- a table of slots with entries: Cut. -/
import Derived.Test.YtnablplljilahaaLSloE
namespace Go.Proofs.Ytnablplljilahaa.Slo
open Go.GV Go.RowKit Go.Slots
set_option linter.unusedVariables false
set_option linter.unusedSimpArgs false
theorem between_calls (bt bs N : Nat) (S : SRow) (cnt : Int) (k : Key) (v : List Value) (hole i : Nat) (w : World) (h : TabAt w bt bs N S cnt) (hat : At S i k v) (hN : 2 ≤ N) (hN2 : N < 1099511627776) (hh : hole < N) (hi : i < N) (hne : i ≠ hole) :
    Calls Try.prog 43 #[.pointer (some ⟨bt, 0, none⟩), .int .i64 hole, .int .i64 i] w fun e w' => e = .returned (.bool (decide (dist N (homeOf N k) i < dist N hole i))) ∧ Fr (fun _ => False) w w' := by
  refine (F43.of (some ⟨bt, 0, none⟩) hole i w (Q := fun v w' => v = .bool (decide (dist N (homeOf N k) i < dist N hole i)) ∧ Fr (fun _ => False) w w') ?_).mono (fun e w' ⟨v, he, hv, h⟩ => ⟨by rw [he, hv], h⟩)
  obtain ⟨ty, ty', cs, ht⟩ := id h
  obtain ⟨hk, hkc, _, _⟩ := ht.tab.key hat
  refine dr_mk ⟨_, _, _, ht.hd.cell rfl, dr_mk (gd_mk (decide_eq_true (Int.natCast_nonneg i)) (gd_mk (decide_eq_true (by show (i : Int) < (N : Int); omega)) ⟨k.map bv, by simp [hk], ?_, (home_calls bt bs N S cnt k w h hk (by omega) hN2).mono ?_⟩))⟩
  · rw [Int.toNat_natCast, Nat.zero_add]; exact ht.sl.cells (fun j v hj => hkc j v hj)
  rintro e w2 ⟨rfl, f2⟩
  have hd2 := ht.hd.fr f2 (fun h => h)
  refine ⟨_, rfl, dr_mk ⟨_, _, _, hd2.cell rfl, gd_mk (decide_eq_true (by omega)) (gd_mk (decide_eq_true (by omega)) ⟨?_, f2.trans1 (Fr.drew _ _)⟩)⟩⟩
  have hm := homeOf_lt (N := N) (by omega) k
  generalize homeOf N k = m at hm
  have e1 : IntKind.wrap .i64 (IntKind.wrap .i64 (IntKind.wrap .i64 ((m : Int) - (hole : Int)) - 1) + (N : Int)) = ((m + N - hole - 1 : Nat) : Int) := by
    rw [i64_id (n := (m : Int) - (hole : Int)) (by omega) (by omega), i64_id (n := (m : Int) - (hole : Int) - 1) (by omega) (by omega), i64_id (by omega) (by omega)]; omega
  have e2 : IntKind.wrap .i64 (IntKind.wrap .i64 ((i : Int) - (hole : Int)) + (N : Int)) = ((i + N - hole : Nat) : Int) := by
    rw [i64_id (n := (i : Int) - (hole : Int)) (by omega) (by omega), i64_id (by omega) (by omega)]; omega
  rw [e1, e2, tmod_nat, tmod_nat]
  have md : ∀ x, x < 2 * N → x % N = if x < N then x else x - N := fun x hx => by
    split
    · exact Nat.mod_eq_of_lt (by omega)
    · rw [Nat.mod_eq_sub_mod (by omega), Nat.mod_eq_of_lt (by omega)]
  rw [md _ (by omega), md _ (by omega)]
  congr 1
  apply decide_eq_decide.2
  unfold dist
  split <;> split <;> split <;> split <;> omega
theorem has_move {N : Nat} {L : SRow} {hole i : Nat} {k : Key} {v : List Value} (h1 : Free L hole) (h2 : At L i k v) : (∀ k' v', Has ((L.set hole (some (k, v))).set i none) k' v' ↔ Has L k' v') ∧ cntF ((L.set hole (some (k, v))).set i none) = cntF L := by
  have hl1 : hole < L.length := (List.getElem?_eq_some_iff.1 h1).1
  have hl2 : i < (L.set hole (some (k, v))).length := by rw [List.length_set]; exact (List.getElem?_eq_some_iff.1 h2).1
  have hne : hole ≠ i := by intro he; subst he; exact Full.not_free ⟨k, v, h2⟩ h1
  have get : ∀ j, ((L.set hole (some (k, v))).set i none)[j]? = if i = j then some none else if hole = j then some (some (k, v)) else L[j]? := fun j => by
    rw [set_at hl2]
    split
    · rfl
    · rw [set_at hl1]
  refine ⟨fun k' v' => ⟨?_, ?_⟩, ?_⟩
  · rintro ⟨p, hp⟩
    unfold At at hp
    rw [get] at hp
    split at hp
    · cases hp
    · split at hp
      · injection hp with hp; injection hp with hp
        obtain ⟨rfl, rfl⟩ := Prod.mk.inj hp
        exact ⟨i, h2⟩
      · exact ⟨p, hp⟩
  · rintro ⟨p, hp⟩
    by_cases hpi : i = p
    · subst hpi
      obtain ⟨rfl, rfl⟩ := h2.uniq hp
      exact ⟨hole, by unfold At; rw [get, if_neg (fun h => hne h.symm), if_pos rfl]⟩
    · refine ⟨p, ?_⟩
      unfold At
      rw [get, if_neg hpi, if_neg]
      · exact hp
      · intro he; subst he; exact Full.not_free ⟨k', v', hp⟩ h1
  · have a1 := cntF_set L hole none (some (k, v)) h1
    have a2 := cntF_set (L.set hole (some (k, v))) i (some (k, v)) none (by rw [set_at hl1, if_neg hne]; exact h2)
    simp at a1 a2
    omega
theorem has_none {N : Nat} {S : SRow} {k : Key} {v0 : List Value} {i : Nat} (hI : Inv (homeOf N) N S) (h : At S i k v0) : (∀ k' v', Has (S.set i none) k' v' ↔ k' ≠ k ∧ Has S k' v') ∧ cntF (S.set i none) + 1 = cntF S := by
  have hil : i < S.length := by rw [hI.len]; exact h.lt hI.len
  refine ⟨fun k' v' => ⟨?_, ?_⟩, ?_⟩
  · rintro ⟨p, hp⟩
    unfold At at hp
    rw [set_at hil] at hp
    split at hp
    · cases hp
    · rename_i hne
      refine ⟨?_, p, hp⟩
      rintro rfl
      exact hne (hI.one _ _ _ _ _ h hp)
  · rintro ⟨hk, p, hp⟩
    refine ⟨p, ?_⟩
    unfold At
    rw [set_at hil, if_neg]
    · exact hp
    · intro he; subst he; exact hk (h.uniq hp).1.symm
  · have := cntF_set S i _ none h
    simp at this; omega
theorem set_same (S : SRow) (i : Nat) (a b : Option (Key × List Value)) : (S.set i a).set i b = S.set i b := by
  apply List.ext_getElem?
  intro j
  simp only [List.getElem?_set, List.length_set]
  split <;> rfl
theorem cut_calls' (B bt bs N : Nat) (S : SRow) (k : Key) (w : World) (h : Tab w B bt bs N S) (hk : k.length = 32) :
    Calls Try.prog 30 #[.pointer (some ⟨bt, 0, none⟩), ofL (k.map bv)] w fun e w' => Fr (fun j => j = bt ∨ j = bs) w w' ∧ ∃ S', Tab w' B bt bs N S' ∧
      ((e = .returned (.bool true) ∧ (∃ v0, Has S k v0) ∧ cntF S' + 1 = cntF S ∧ ∀ k' v', Has S' k' v' ↔ k' ≠ k ∧ Has S k' v') ∨ (e = .returned (.bool false) ∧ (∀ v, ¬ Has S k v) ∧ S' = S)) := by
  refine (F30.of (some ⟨bt, 0, none⟩) (k.map bv) w (Q := fun v w' => Fr (fun j => j = bt ∨ j = bs) w w' ∧ ∃ S', Tab w' B bt bs N S' ∧
      ((v = .bool true ∧ (∃ v0, Has S k v0) ∧ cntF S' + 1 = cntF S ∧ ∀ k' v', Has S' k' v' ↔ k' ≠ k ∧ Has S k' v') ∨ (v = .bool false ∧ (∀ v, ¬ Has S k v) ∧ S' = S))) ?_).mono (fun e w' ⟨v, he, hf, S', hT, hv⟩ => ⟨hf, S', hT, by
    rcases hv with ⟨h1, h2⟩ | ⟨h1, h2⟩
    · exact .inl ⟨by rw [he, h1], h2⟩
    · exact .inr ⟨by rw [he, h1], h2⟩⟩)
  obtain ⟨f, hfree⟩ := h.free
  have hN8 := h.n8
  have hbig := h.big
  have hB1 := h.bt_
  have hB2 := h.bs_
  refine nw_mk (vIf_f rfl ?_)
  have f1 : Fr (fun _ => False) w (w.alloc (.cells (k.map bv).toArray 29)) := Fr.alloc _ _ _
  have hr : RecAt (w.alloc (.cells (k.map bv).toArray 29)) w.heap.size 29 (k.map bv) := RecAt.new w _ _
  have hT1 := h.at_.fr f1 (fun h => h) (fun h => h)
  generalize w.alloc (.cells (k.map bv).toArray 29) = w1 at f1 hr hT1 ⊢
  refine ⟨k.map bv, by simp [hk], hr.cells (fun j v hj => by simpa using hj), (find_calls bt bs N S _ k _ hT1 hk (by omega) h.big hfree).mono ?_⟩
  rintro e w2 ⟨f2, t, b, hE, rfl, hb⟩
  have f12 : Fr (fun j => j = bt ∨ j = bs) w w2 := (f1.trans1 f2).mono (fun _ _ h => h.elim)
  have hT2 := hT1.fr f2 (fun h => h) (fun h => h)
  have hil := adv_lt (h.inv.hom k) hE.lt
  refine ⟨_, _, rfl, ?_⟩
  rcases hb with ⟨rfl, hf⟩ | ⟨rfl, v0, hv0⟩
  · exact vIf_t rfl ⟨f12, S, ⟨hT2, h.inv, h.n8, h.load, h.big, h.bt_, h.bs_⟩, .inr ⟨rfl, fun v ⟨p, hp⟩ => hE.absent h.inv hf p v hp, rfl⟩⟩
  generalize adv N (homeOf N k) t = i0 at hil hv0
  obtain ⟨ty, ty', cs, ht⟩ := id hT2
  refine vIf_f rfl (dr_mk ⟨_, _, _, ht.hd.cell rfl, gd_mk (decide_eq_true (by omega)) (jnC_mk ?_)⟩)
  obtain ⟨hn1, hn2⟩ := has_none h.inv hv0
  have hfl := hfree.lt h.inv.len
  have hlen : S.length = N := h.inv.len
  refine loop_rule (fun s u => Fr (fun j => j = bt ∨ j = bs) w u ∧ ∃ (P : SRow) (hole d : Nat), s = (some ⟨bt, 0, none⟩, (hole : Int), (N : Int), ((adv N hole d : Nat) : Int), ()) ∧ TabAt u bt bs N P (cntF S : Nat) ∧ Hole (homeOf N) N (P.set hole none) hole d f ∧ (∀ k' v', Has (P.set hole none) k' v' ↔ k' ≠ k ∧ Has S k' v') ∧ cntF (P.set hole none) + 1 = cntF S)
    (fun s _ => dist N (s.2.2.2.1).toNat f) ?_ _ _ ⟨f12, S, i0, 1, ?_, hT2, Hole.start h.inv hv0 hfree, hn1, hn2⟩
  rotate_left
  · rw [tmod1 (by omega) hbig hil]
  rintro s u C ⟨hf, P, hole, d, rfl, hT, hH, hHas, hcnt⟩ hC _
  have hole_lt := hH.hlt
  have hd1 := hH.s1
  have hdN := hH.sN
  have hdl := dist_lt hole_lt hfl
  have hPl : P.length = N := by have := hH.len; rwa [List.length_set] at this
  have hilt : adv N hole d < N := adv_lt hole_lt (by omega)
  have hine : adv N hole d ≠ hole := by unfold adv; split <;> omega
  have hPi : (P.set hole none)[adv N hole d]? = P[adv N hole d]? := by rw [set_at (by omega), if_neg (fun h => hine h.symm)]
  obtain ⟨ty2, ty2', cs2, ht2⟩ := id hT
  have hcs := ht2.tab.full hilt
  generalize hi : adv N hole d = i at *
  have hcell : ∃ b, cellAt u bs (0 + ((i : Int)).toNat * 71) = some (.bool b) ∧ ((b = true ∧ Full P i) ∨ (b = false ∧ Free P i)) := by
    rw [Int.toNat_natCast, Nat.zero_add]
    rcases hcs with ⟨h1, h2⟩ | ⟨h1, h2⟩
    · exact ⟨true, ht2.sl.cell h2, .inl ⟨rfl, h1⟩⟩
    · exact ⟨false, ht2.sl.cell h2, .inr ⟨rfl, h1⟩⟩
  obtain ⟨b, hb, hbb⟩ := hcell
  refine dr_mk ⟨_, _, _, ht2.hd.cell rfl, dr_mk (gd_mk (decide_eq_true (Int.natCast_nonneg i)) (gd_mk (decide_eq_true (by show (i : Int) < (N : Int); omega)) ⟨b, hb, ?_⟩))⟩
  rcases hbb with ⟨rfl, k2, v2, hat⟩ | ⟨rfl, hfr⟩
  · refine vIf_t rfl ?_
    have hatL : At (P.set hole none) i k2 v2 := by unfold At; rw [hPi]; exact hat
    have hdist : dist N hole i = d := by rw [← hi, dist_adv hole_lt (by omega)]
    have hif : i ≠ f := by
      intro he; subst he
      exact Full.not_free ⟨k2, v2, hatL⟩ hH.elt.1
    have hmeas : dist N (adv N i 1) f < dist N i f := by
      unfold adv dist
      split <;> split <;> split <;> omega
    refine (between_calls bt bs N P _ k2 v2 hole i u hT hat (by omega) hbig hole_lt hilt hine).mono ?_
    rintro e w3 ⟨rfl, f3⟩
    rw [hdist]
    refine ⟨_, rfl, ?_⟩
    have hT3 := hT.fr f3 (fun h => h) (fun h => h)
    refine vIf_mk (fun hm => ?_) (fun hm => ?_)
    · have hm2 : d ≤ dist N (homeOf N k2) i := by
        have : decide (dist N (homeOf N k2) i < d) = false := by simpa using hm
        have := of_decide_eq_false this
        omega
      have hT4 := hT3.fr (Fr.drew (fun _ => False) w3) (fun h => h) (fun h => h)
      obtain ⟨ty4, ty4', cs4, ht4⟩ := id hT4
      have hcl := cut_len ht4.tab hilt
      have hsc := slotAt_cut (ht4.tab.slot i _ hat)
      have hone : ∀ x ∈ (cs4.drop (i * 71)).take 71, x.oneCell' = true := fun x hx => ht4.tab.one x (List.mem_of_mem_drop (List.mem_of_mem_take hx))
      refine dr_mk ⟨_, _, _, ht4.hd.cell rfl, dr_mk ⟨_, _, _, ht4.hd.cell rfl, dr_mk (gd_mk (decide_eq_true (Int.natCast_nonneg i)) (gd_mk (decide_eq_true (by show (i : Int) < (N : Int); omega)) ⟨(cs4.drop (i * 71)).take 71, hcl, ?_, dr_mk (gd_mk (decide_eq_true (Int.natCast_nonneg hole)) (gd_mk (decide_eq_true (by show (hole : Int) < (N : Int); omega)) (gd_mk (by simpa using hcl) ?_)))⟩))⟩⟩
      · rw [Int.toNat_natCast, Nat.zero_add]; exact cut_cells ht4.sl _ _
      rw [Int.toNat_natCast]
      refine TabAt.set (w := w3.drew) (S := P) hT4 hole_lt hcl hsc hone (fun w5 h5 f5 => gd_mk (decide_eq_true (by show (N : Int) ≠ 0; omega)) (jnC_mk (hC _ _ ⟨?_, P.set hole (some (k2, v2)), i, 1, ?_, h5, ?_, ?_⟩ ?_)))
      · exact ((hf.trans1 (f3.mono (fun _ _ h => h.elim))).trans1 (Fr.drew _ _)).trans1 (f5.mono (fun j _ hj => .inr hj))
      · rw [tmod1 (by omega) hbig hilt]
      · have := hH.move (k := k2) (v := v2) (by rw [hi]; exact hatL) (by rw [hi]; exact hm2)
        rw [hi, set_same] at this
        exact this
      · have hmv := has_move (N := N) hH.free hatL
        rw [set_same] at hmv
        exact ⟨fun k' v' => by rw [hmv.1]; exact hHas k' v', by rw [hmv.2]; exact hcnt⟩
      · show dist N (Int.tmod (IntKind.wrap .i64 ((i : Int) + 1)) (N : Int)).toNat f < dist N ((i : Int)).toNat f
        rw [tmod1 (by omega) hbig hilt, Int.toNat_natCast, Int.toNat_natCast]
        exact hmeas
    · have hm2 : dist N (homeOf N k2) i < d := by
        have : decide (dist N (homeOf N k2) i < d) = true := by simpa using hm
        exact of_decide_eq_true this
      have hst := hH.stay (k := k2) (v := v2) (by rw [hi]; exact hatL) (by rw [hi]; exact hm2)
      have hadv : adv N i 1 = adv N hole (d + 1) := by
        have h1 := hst.sN
        rw [← hi]; unfold adv; split <;> split <;> split <;> omega
      refine gd_mk (decide_eq_true (by show (N : Int) ≠ 0; omega)) (jnC_mk (hC _ _ ⟨hf.trans1 (f3.mono (fun _ _ h => h.elim)), P, hole, d + 1, ?_, hT3, hst, hHas, hcnt⟩ ?_))
      · rw [tmod1 (by omega) hbig hilt, hadv]
      · show dist N (Int.tmod (IntKind.wrap .i64 ((i : Int) + 1)) (N : Int)).toNat f < dist N ((i : Int)).toNat f
        rw [tmod1 (by omega) hbig hilt, Int.toNat_natCast, Int.toNat_natCast]
        exact hmeas
  · refine vIf_f rfl (dr_mk ⟨_, _, _, ht2.hd.cell rfl, dr_mk (gd_mk (decide_eq_true (Int.natCast_nonneg hole)) (gd_mk (decide_eq_true (by show (hole : Int) < (N : Int); omega)) (gd_mk (by decide +kernel) ?_)))⟩)
    rw [Int.toNat_natCast]
    refine TabAt.set (w := u) (S := P) hT hole_lt (o := none) (by decide +kernel) (show _ = some (Value.bool false) from rfl) (by decide +kernel) (fun w5 h5 f5 => ?_)
    obtain ⟨ty5, ty5', cs5, ht5⟩ := id h5
    refine dr_mk ⟨_, ht5.hd.cell rfl, dr_mk ?_⟩
    have e1 : IntKind.wrap .i64 (((cntF S : Nat) : Int) - 1) = ((cntF (P.set hole none) : Nat) : Int) := by
      have := h.load
      rw [i64_id (by omega) (by omega)]; omega
    rw [e1]
    refine cnt_st h5 (fun w6 h6 f6 => ⟨?_, P.set hole none, ⟨h6, ?_, h.n8, ?_, h.big, h.bt_, h.bs_⟩, .inl ⟨rfl, ⟨v0, _, hv0⟩, hcnt, hHas⟩⟩)
    · exact (hf.trans1 (f5.mono (fun j _ hj => .inr hj))).trans1 (f6.mono (fun j _ hj => .inl hj))
    · exact hH.done (by rw [hi]; unfold Free; rw [hPi]; exact hfr)
    · have := h.load; omega
theorem cut_calls (B bt bs N : Nat) (S : SRow) (k : Key) (w : World) (h : Tab w B bt bs N S) (hk : k.length = 32) :
    Calls Try.prog 30 #[.pointer (some ⟨bt, 0, none⟩), ofL (k.map bv)] w fun e w' => Fr (fun j => B ≤ j) w w' ∧ ∃ S', Tab w' B bt bs N S' ∧
      ((e = .returned (.bool true) ∧ (∃ v0, Has S k v0) ∧ cntF S' + 1 = cntF S ∧ ∀ k' v', Has S' k' v' ↔ k' ≠ k ∧ Has S k' v') ∨ (e = .returned (.bool false) ∧ (∀ v, ¬ Has S k v) ∧ S' = S)) := by
  refine (cut_calls' B bt bs N S k w h hk).mono fun e w' ⟨f, h2⟩ => ⟨f.mono (fun j _ hj => ?_), h2⟩
  rcases hj with hj | hj
  · rw [hj]; exact h.bt_
  · rw [hj]; exact h.bs_
end Go.Proofs.Ytnablplljilahaa.Slo
