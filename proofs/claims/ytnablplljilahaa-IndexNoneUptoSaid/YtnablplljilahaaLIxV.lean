/- an index: Row, Count, Keep -/
import Derived.Test.YtnablplljilahaaLIxU
namespace Go.Proofs.Ytnablplljilahaa
open Go.GV Go.RowKit Go.Lib
set_option linter.unusedVariables false
set_option linter.unusedSimpArgs false
theorem dig_one (d : List UInt8) : ∀ v ∈ d.map bv, v.oneCell' = true := fun v hv => bvs_one d v hv
theorem dgz : Z29.length = 32 := rfl
theorem Ix.row_eq {X : Nat → Prop} {w : World} {base ib bt bs N p : Nat} {S : Slo.SRow} {l : List En} (h : Ix X w base ib bt bs N p S l) {r : List (List UInt8)} (ha : Dg.Asc r) (hm : ∀ d, d ∈ r ↔ ∃ v, Slo.Has S d v) : r = digsE l := by
  refine asc_ext ha (digsE_asc h.asc) (fun d => ?_)
  rw [hm]
  constructor
  · rintro ⟨cs, hc⟩
    obtain ⟨e, he, hd, _⟩ := h.has d cs hc
    exact List.mem_map.2 ⟨e, he, hd⟩
  · intro hd
    obtain ⟨e, he, rfl⟩ := List.mem_map.1 hd
    exact h.all e he
set_option maxRecDepth 10000 in
theorem rowX_calls {X : Nat → Prop} (base ib bt bs N p : Nat) (S : Slo.SRow) (l : List En) (w : World) (h : Ix X w base ib bt bs N p S l) (hb : BdE 4294967296 l) (hp : p ≤ 100000000) :
    Calls Try.prog 18 #[.pointer (some ⟨ib, 0, none⟩)] w fun e w' => Fr (fun _ => False) w w' ∧ ∃ A' c', e = .returned (.slice A' l.length c') ∧ OE (fun k => w.heap.size ≤ k) w' w.heap.size A' l.length c' l ∧ l.length ≤ 8 + 4 * p := by
  refine (F18.of (some ⟨ib, 0, none⟩) w (Q := fun v w' => Fr (fun _ => False) w w' ∧ ∃ A' c', v = .slice A' l.length c' ∧ OE (fun k => w.heap.size ≤ k) w' w.heap.size A' l.length c' l ∧ l.length ≤ 8 + 4 * p) ?_).mono (fun e w' ⟨v, he, hf, a, b, hv, h⟩ => ⟨hf, a, b, by rw [he, hv], h⟩)
  have hnb := h.nb
  refine vIf_f rfl (dr_mk ⟨_, h.ri.cell rfl, (Slo.trow_calls base bt bs N S w h.tb (by omega)).mono ?_⟩)
  rintro r w1 ⟨f1, A0, c0, r', rfl, hr, hw, ha, hl, hm⟩
  have hre := h.row_eq ha hm
  subst hre
  have hll : (digsE l).length = l.length := List.length_map _
  have hs1 := f1.size
  refine ⟨_, _, _, rfl, jnC_mk (loop_rule (fun s u => Fr (fun _ => False) w1 u ∧ ∃ (i : Nat) (A5 : Option Addr) (c5 : Nat), i ≤ l.length ∧ s = (some ⟨ib, 0, none⟩, (), (A5, i, c5), (A0, (digsE l).length, c0), ((digsE l).length : Int), (i : Int), ()) ∧ OE (fun k => w1.heap.size ≤ k) u w1.heap.size A5 i c5 (l.take i))
    (fun s _ => (l.length - s.2.2.2.2.2.1).toNat) ?_ _ _ ⟨Fr.refl _ _, 0, none, 0, by omega, rfl, OE.nil _ _ _⟩)⟩
  rintro s u C ⟨hf, i, A5, c5, hi, rfl, hO⟩ hC _
  refine vIf_mk (fun hlt => ?_) (fun hge => ?_)
  · have hlt2 : (i : Int) < ((digsE l).length : Int) := of_decide_eq_true hlt
    have gi : l[i]? = some (l[i]'(by omega)) := List.getElem?_eq_getElem (by omega)
    generalize l[i]'(by omega) = x at gi
    have gd' : (digsE l)[i]? = some x.d := by unfold digsE; rw [List.getElem?_map, gi]; rfl
    have hxm : x ∈ l := List.mem_of_getElem? gi
    have hxd : x.d.length = 32 := h.dl hxm
    obtain ⟨b, o, hA, hc⟩ := Dg.sl_dig (hf.row hr (fun _ _ h => h)).sl hw (i := i) (by omega)
    subst hA
    refine dr_mk (gd_mk (decide_eq_true (by show (0 : Int) ≤ (i : Int); omega)) (gd_mk hlt ⟨x.d.map bv, bvl hxd, by show cellsAt u b (o + ((i : Int)).toNat * 32) _; rw [Int.toNat_natCast]; exact hc i _ gd', var_k dgz (bvl hxd) (dig_one _) (fun b6 u1 g1 r6 _ => ⟨x.d.map bv, bvl hxd, rec_all r6, ?_⟩)⟩))
    refine (getX_calls base ib bt bs N p S l x.d u1 (h.fr0 ((f1.trans1 hf).trans1 g1)) hxd hb).mono ?_
    rintro r u2 ⟨g2, cs2, rfl, hE2⟩
    rw [getE_of h.asc hxm rfl] at hE2 ⊢
    refine ⟨_, _, rfl, var_k z28 hE2.len hE2.one (fun b7 u3 g3 r7 _ => ⟨cs2, hE2.len, rec_all r7, ?_⟩)⟩
    have g12 := g1.trans1 g2
    have g13 := g12.trans1 g3
    have hO1 := hO.fr0 g1
    have hs := (hf.trans1 g1).size
    refine pushE (hO.fr0 g13) ((hE2.fr0 g3).mono (fun k _ hk => ⟨fun h' => by have := (hO1.blt h').2; omega, by omega⟩)) (hf.trans1 g13).size (by show i ≤ 1073741824; omega) (fun A' c' w' hO' f' hnew => ?_)
    have hsn : l.take (i + 1) = l.take i ++ [x] := by rw [List.take_add_one, gi]; rfl
    refine jnC_mk (hC _ _ ⟨(hf.trans1 g13).trans f' (fun _ _ h => h) (fun k hk h' => by have := (hO.blt h').1; omega), i + 1, A', c', by omega, by rw [ei i (by omega)], by rw [hsn]; exact hO'⟩ ?_)
    show ((l.length : Int) - IntKind.wrap .i64 ((i : Int) + 1)).toNat < ((l.length : Int) - (i : Int)).toNat
    rw [ei i (by omega)]; omega
  · have hge2 : ¬ (i : Int) < ((digsE l).length : Int) := of_decide_eq_false hge
    rw [List.take_of_length_le (by omega)] at hO
    have : i = l.length := by omega
    subst this
    exact ⟨f1.trans1 hf, A5, c5, rfl, hO.mono hs1 (fun k _ hk => by omega), by omega⟩
set_option maxRecDepth 10000 in
theorem countX_calls {X : Nat → Prop} (base ib bt bs N p : Nat) (S : Slo.SRow) (l : List En) (w : World) (h : Ix X w base ib bt bs N p S l) (hb : BdE 4294967296 l) (hp : p ≤ 100000000) :
    Calls Try.prog 14 #[.pointer (some ⟨ib, 0, none⟩)] w fun e w' => Fr (fun _ => False) w w' ∧ e = .returned (.tuple #[.int .i64 (cntE l).1, .int .i64 (cntE l).2]) := by
  refine (F14.of (some ⟨ib, 0, none⟩) w (Q := fun v w' => Fr (fun _ => False) w w' ∧ v = .tuple #[.int .i64 (cntE l).1, .int .i64 (cntE l).2]) ?_).mono (fun e w' ⟨v, he, hf, hv⟩ => ⟨hf, by rw [he, hv]⟩)
  refine (rowX_calls base ib bt bs N p S l w h hb hp).mono ?_
  rintro r w1 ⟨f1, A0, c0, rfl, hO, hlen⟩
  have hR := hO.rt
  refine ⟨_, _, _, rfl, jnC_mk (loop_rule (fun s u => Fr (fun _ => False) w1 u ∧ ∃ i : Nat, i ≤ l.length ∧ s = ((cntE (l.take i)).1, (cntE (l.take i)).2, (A0, l.length, c0), (l.length : Int), (i : Int), ()))
    (fun s _ => (l.length - s.2.2.2.2.1).toNat) ?_ _ _ ⟨Fr.refl _ _, 0, by omega, rfl⟩)⟩
  rintro s u C ⟨hf, i, hi, rfl⟩ hC _
  refine vIf_mk (fun hlt => ?_) (fun hge => ?_)
  · have hlt2 : (i : Int) < (l.length : Int) := of_decide_eq_true hlt
    have gi : l[i]? = some (l[i]'(by omega)) := List.getElem?_eq_getElem (by omega)
    generalize l[i]'(by omega) = x at gi
    have hst := cntE_step gi
    refine e_rd (hR.fr0 hf) gi (fun b o cs hA hEn hc => ⟨cs, hEn.len, hc, var_mk z28 hEn.len hEn.one (fun b6 u1 g1 r6 => ⟨x.k, e_fld (j := 0) hEn (rec_all r6) rfl, ?_⟩)⟩)
    have hmeas : ((l.length : Int) - IntKind.wrap .i64 ((i : Int) + 1)).toNat < ((l.length : Int) - (i : Int)).toNat := by rw [ei i (by omega)]; omega
    refine vIf_mk (fun hk => ⟨x.z, e_fld (j := 1) hEn (rec_all r6) rfl, jnC_mk (hC _ _ ⟨hf.trans1 g1, i + 1, by omega, ?_⟩ hmeas)⟩) (fun hk => jnC_mk (hC _ _ ⟨hf.trans1 g1, i + 1, by omega, ?_⟩ hmeas))
    · have hk : x.k ≠ 5 := by simpa using hk
      rw [if_neg hk] at hst
      rw [hst, ei i (by omega)]; rfl
    · have hk : x.k = 5 := by simpa using hk
      rw [if_pos hk] at hst
      rw [hst, ei i (by omega)]
  · have hge2 : ¬ (i : Int) < (l.length : Int) := of_decide_eq_false hge
    rw [List.take_of_length_le (by omega)]
    exact ⟨f1.trans1 hf, rfl⟩
/-! ### Keep -/
theorem keepLE_take_succ (sg : List Int) (l : List En) {i : Nat} {e : En} (h : l[i]? = some e) : keepLE sg (l.take (i + 1)) = if (keepE e sg).2 then keepLE sg (l.take i) ++ [(keepE e sg).1] else keepLE sg (l.take i) := keepLE_step h
/-- the table on the way: what is kept of the first i, and the others -/
def midE (sg : List Int) (l : List En) (i : Nat) : List En := keepLE sg (l.take i) ++ l.drop i
theorem keepLE_digs (sg : List Int) : ∀ l : List En, (digsE (keepLE sg l)).Sublist (digsE l)
  | [] => List.Sublist.refl _
  | x :: xs => by
    have ih := keepLE_digs sg xs
    unfold keepLE at ih ⊢
    unfold digsE at ih ⊢
    rw [List.filterMap_cons, List.map_cons]
    by_cases h : (keepE x sg).2 = true
    · rw [if_pos h]
      show List.Sublist ((keepE x sg).1.d :: _) _
      rw [keepE_d h]
      exact ih.cons_cons _
    · rw [if_neg h]
      exact ih.cons _
theorem asc_of_digs {a b : List En} (hs : (digsE a).Sublist (digsE b)) (h : AscE b) : AscE a := List.pairwise_map.1 ((digsE_asc h).sublist hs)
theorem midE_asc (sg : List Int) {l : List En} (h : AscE l) (i : Nat) : AscE (midE sg l i) := by
  refine asc_of_digs (b := l) ?_ h
  unfold midE digsE
  have := (keepLE_digs sg (l.take i)).append (List.Sublist.refl (digsE (l.drop i)))
  unfold digsE at this
  rw [← List.map_append (l₁ := l.take i), List.take_append_drop] at this
  rw [List.map_append]
  exact this
theorem setE_mid {a b : List En} {e k : En} (ha : AscE (a ++ e :: b)) (hd : k.d = e.d) : setE k (a ++ e :: b) = a ++ k :: b := by
  induction a with
  | nil =>
    show setE k (e :: b) = k :: b
    unfold setE
    rw [hd, if_neg (by rw [cmpD_self]; omega), if_pos rfl]
  | cons x a ih =>
    have hc := List.pairwise_cons.1 ha
    show setE k (x :: (a ++ e :: b)) = x :: (a ++ k :: b)
    unfold setE
    rw [if_pos (by rw [hd]; exact hc.1 e (by simp)), ih hc.2]
theorem cut_mid {a b : List En} {e : En} (ha : AscE (a ++ e :: b)) : (a ++ e :: b).filter (fun y => !decide (y.d = e.d)) = a ++ b := by
  have h := List.pairwise_append.1 ha
  have hc := List.pairwise_cons.1 h.2.1
  rw [List.filter_append, List.filter_cons_of_neg (by simp)]
  congr 1
  · refine List.filter_eq_self.2 (fun y hy => ?_)
    have := h.2.2 y hy e (List.mem_cons_self ..)
    have : y.d ≠ e.d := fun hh => by rw [hh, cmpD_self] at this; omega
    simp [this]
  · refine List.filter_eq_self.2 (fun y hy => ?_)
    have := hc.1 y hy
    have : y.d ≠ e.d := fun hh => by rw [hh, cmpD_self] at this; omega
    simp [this]
set_option maxRecDepth 10000 in
theorem keepX_calls {X : Nat → Prop} (base ib bt bs N p : Nat) (S : Slo.SRow) (l : List En) (G : Option Addr) (m k : Nat) (sg : List Int) (w : World) (h : Ix X w base ib bt bs N p S l) (hb : BdE 4294967296 l) (hp : p ≤ 100000000) (hsg : Sl w 1 G m (ivs sg)) (hG : m ≠ 0 → ∀ b, blkOf G = some b → ¬ DI ib bt bs b) (hm : m ≤ 8589934592) (hB : base ≤ w.heap.size) (hX : ∀ k, w.heap.size ≤ k → X k) :
    Calls Try.prog 10 #[.pointer (some ⟨ib, 0, none⟩), .slice G m k] w fun e w' => e = .returned (.tuple #[]) ∧ Fr (DI ib bt bs) w w' ∧ ∃ bs' N' S', Ix X w' base ib bt bs' N' p S' (keepLE sg l) ∧ (bs' = bs ∨ w.heap.size ≤ bs') := by
  refine (F10.of (some ⟨ib, 0, none⟩) G m k w (Q := fun v w' => v = .tuple #[] ∧ Fr (DI ib bt bs) w w' ∧ ∃ bs' N' S', Ix X w' base ib bt bs' N' p S' (keepLE sg l) ∧ (bs' = bs ∨ w.heap.size ≤ bs')) ?_).mono (fun e w' ⟨v, he, hv, h⟩ => ⟨by rw [he, hv], h⟩)
  refine vIf_f rfl ((rowX_calls base ib bt bs N p S l w h hb hp).mono ?_)
  rintro r w1 ⟨f1, A0, c0, rfl, hO, hlen⟩
  have hs1 := f1.size
  have hltw := fun k hk => h.lt (k := k) hk
  have hR := hO.rt.mono (P' := fun k => w.heap.size ≤ k ∧ k < w1.heap.size) (fun k hk h => ⟨h, hk⟩)
  have hA0 : ∀ k, blkOf A0 = some k → w.heap.size ≤ k ∧ k < w1.heap.size := fun k hk => hO.blt hk
  refine ⟨_, _, _, rfl, jnC_mk (loop_rule (fun s u => Fr (DI ib bt bs) w u ∧ w1.heap.size ≤ u.heap.size ∧ RE (fun k => w.heap.size ≤ k ∧ k < w1.heap.size) u A0 l.length l ∧ ∃ (i bs' N' : Nat) (S' : Slo.SRow), i ≤ l.length ∧ s = (some ⟨ib, 0, none⟩, (G, m, k), (A0, l.length, c0), (l.length : Int), (i : Int), ()) ∧ Ix X u base ib bt bs' N' p S' (midE sg l i) ∧ (bs' = bs ∨ w1.heap.size ≤ bs'))
    (fun s _ => (l.length - s.2.2.2.2.1).toNat) ?_ _ _ ⟨f1.mono (fun _ _ h => h.elim), Nat.le_refl _, hR, 0, bs, N, S, by omega, rfl, h.fr0 f1, .inl rfl⟩)⟩
  rintro s u C ⟨hf, hus, hR, i, bs', N', S', hi, rfl, hI, hbs⟩ hC _
  have offD : ∀ q, w.heap.size ≤ q → q < w1.heap.size → ¬ (q = bt ∨ q = bs') := fun q h1 h2 hq => by
    rcases hq with hq | hq
    · have := (hltw q (.inr (.inl hq))).2; omega
    · rcases hbs with hb | hb
      · have := (hltw q (.inr (.inr (hq.trans hb)))).2; omega
      · omega
  refine vIf_mk (fun hlt => ?_) (fun hge => ?_)
  · have hlt2 : (i : Int) < (l.length : Int) := of_decide_eq_true hlt
    have gi : l[i]? = some (l[i]'(by omega)) := List.getElem?_eq_getElem (by omega)
    have hdr : l.drop i = l[i]'(by omega) :: l.drop (i + 1) := List.drop_eq_getElem_cons (by omega)
    generalize l[i]'(by omega) = x at gi hdr
    have hst := keepLE_step (sg := sg) gi
    have hmid : midE sg l i = keepLE sg (l.take i) ++ x :: l.drop (i + 1) := by unfold midE; rw [hdr]
    have hasc := hI.asc
    have hmeas : ((l.length : Int) - IntKind.wrap .i64 ((i : Int) + 1)).toNat < ((l.length : Int) - (i : Int)).toNat := by rw [ei i (by omega)]; omega
    refine e_rd hR gi (fun b o cs hA hEn hc => ⟨cs, hEn.len, hc, var_mk z28 hEn.len hEn.one (fun b6 u1 g1 r6 => ⟨cs, hEn.len, rec_all r6, ?_⟩)⟩)
    have hsgu : Sl u 1 G m (ivs sg) := hf.sl hsg hG
    refine (keep_calls x cs G m k sg u1 (hEn.fr0 g1).at (sl_fr hsgu g1) (hb.at gi) hm).mono ?_
    rintro r u2 ⟨g2, cs2, rfl, hE2⟩
    have r6 := r6.fr g2 (fun h => h)
    refine ⟨_, _, rfl, var_mk z28 hE2.len hE2.one (fun b17 u3 g3 r17 => ?_)⟩
    have g13 := (g1.trans1 g2).trans1 g3
    have r6 := r6.fr g3 (fun h => h)
    have hE3 := hE2.fr0 g3
    have g13 := g13.trans1 (Fr.drew _ u3)
    have hE3 := hE3.fr0 (Fr.drew _ u3)
    have r6 : RecAt u3.drew _ _ _ := r6
    have r17 : RecAt u3.drew _ _ _ := r17
    have hI3 := hI.fr0 g13
    have hR3 := hR.fr0 g13
    have hsz := g13.size
    have hsz1 := g1.size
    generalize u3.drew = u3 at g13 hE3 r6 r17 hI3 hR3 hsz ⊢
    have hEx : EnP (fun k => w.heap.size ≤ k ∧ k < w1.heap.size) u cs x := hEn
    refine vIf_mk (fun hk => ?_) (fun hk => ?_)
    · have hk : (keepE x sg).2 = true := hk
      rw [if_pos hk] at hst
      have hkd := keepE_d hk
      refine dr_mk ⟨_, hI3.ri.cell rfl, x.d.map bv, bvl hEx.dl, e_dig hEx (rec_all r6), cs2, hE2.len, rec_all r17, ?_⟩
      have tp := tputX_calls base ib bt bs' N' p S' _ (keepE x sg).1 cs2 u3 hI3 (hE3.mono (fun q _ hq => ⟨fun h' => by have := ((hI.fr0 g1).lt h').2; omega, hX q (by omega)⟩)) (by omega) (by omega)
      rw [hkd] at tp
      refine tp.mono ?_
      rintro r u4 ⟨rfl, g4, bs4, N4, p4, S4, h4, hbs4, _, hp4⟩
      have hp4 := hp4 ⟨x, by rw [hmid]; simp, rfl⟩
      subst hp4
      rw [hmid, setE_mid (by rw [← hmid]; exact hasc) hkd] at h4
      have : keepLE sg (l.take i) ++ (keepE x sg).1 :: l.drop (i + 1) = midE sg l (i + 1) := by unfold midE; rw [hst]; simp
      rw [this] at h4
      refine ⟨rfl, jnC_mk (hC _ _ ⟨?_, by have := g4.size; omega, hR3.fr g4 (fun q hq => offD q hq.1 hq.2) (fun _ q hq => offD q (hA0 q hq).1 (hA0 q hq).2), i + 1, bs4, N4, S4, by omega, by rw [ei i (by omega)], h4, ?_⟩ hmeas)⟩
      · refine (hf.trans1 (g13.mono (fun _ _ h => h.elim))).trans g4 (fun _ _ h => h) (fun q hq h' => ?_)
        rcases h' with h' | h'
        · exact .inr (.inl h')
        · rcases hbs with hb | hb
          · exact .inr (.inr (h'.trans hb))
          · omega
      · rcases hbs4 with hb4 | hb4
        · rw [hb4]; exact hbs
        · exact .inr (by omega)
    · have hk : ¬ (keepE x sg).2 = true := by rw [show (keepE x sg).2 = false from hk]; decide
      rw [if_neg hk] at hst
      refine dr_mk ⟨_, hI3.ri.cell rfl, x.d.map bv, bvl hEx.dl, e_dig hEx (rec_all r6), ?_⟩
      refine (tcutX_calls base ib bt bs' N' p S' _ x.d u3 hI3 hEx.dl).mono ?_
      rintro r u4 ⟨⟨bb, rfl⟩, g4, S4, h4⟩
      rw [hmid, cut_mid (by rw [← hmid]; exact hasc)] at h4
      have : keepLE sg (l.take i) ++ l.drop (i + 1) = midE sg l (i + 1) := by unfold midE; rw [hst]
      rw [this] at h4
      refine ⟨_, rfl, jnC_mk (hC _ _ ⟨?_, by have := g4.size; omega, hR3.fr g4 (fun q hq => offD q hq.1 hq.2) (fun _ q hq => offD q (hA0 q hq).1 (hA0 q hq).2), i + 1, bs', N', S4, by omega, by rw [ei i (by omega)], h4, hbs⟩ hmeas)⟩
      refine (hf.trans1 (g13.mono (fun _ _ h => h.elim))).trans g4 (fun _ _ h => h) (fun q hq h' => ?_)
      rcases h' with h' | h'
      · exact .inr (.inl h')
      · rcases hbs with hb | hb
        · exact .inr (.inr (h'.trans hb))
        · omega
  · have hge2 : ¬ (i : Int) < (l.length : Int) := of_decide_eq_false hge
    have : midE sg l i = keepLE sg l := by unfold midE; rw [List.take_of_length_le (by omega), List.drop_of_length_le (by omega), List.append_nil]
    rw [this] at hI
    exact ⟨rfl, hf, bs', N', S', hI, hbs.imp id (fun hh => by omega)⟩
end Go.Proofs.Ytnablplljilahaa
