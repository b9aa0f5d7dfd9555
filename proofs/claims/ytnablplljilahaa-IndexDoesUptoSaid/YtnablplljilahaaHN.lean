/- chapter 20: an index of an index's entries goes on alike -/
import Derived.Test.YtnablplljilahaaHM
namespace Go.Proofs.Ytnablplljilahaa
open Go.GV Go.RowKit Go.Lib
set_option linter.unusedVariables false
set_option linter.unusedSimpArgs false
theorem setE_last (e : En) : ∀ a : List En, (∀ x ∈ a, cmpD x.d e.d < 0) → setE e a = a ++ [e]
  | [], _ => rfl
  | x :: xs, h => by
    unfold setE
    rw [if_pos (h x (List.mem_cons_self ..)), setE_last e xs (fun y hy => h y (List.mem_cons_of_mem _ hy))]
    rfl
theorem newE_asc_id {l : List En} (h : AscE l) : newE l = l := by
  have : ∀ i, i ≤ l.length → newE (l.take i) = l.take i := by
    intro i
    induction i with
    | zero => intro _; rw [List.take_zero]; rfl
    | succ i ih =>
      intro hi
      have gi : l[i]? = some (l[i]'(by omega)) := List.getElem?_eq_getElem (by omega)
      rw [newE_step gi, ih (by omega), setE_last, List.take_add_one, gi]
      · rfl
      · intro x hx
        obtain ⟨j, hj⟩ := List.mem_iff_getElem?.1 hx
        rw [List.getElem?_take] at hj
        split at hj
        · obtain ⟨h1, rfl⟩ := List.getElem?_eq_some_iff.1 hj
          exact (List.pairwise_iff_getElem.1 h) j i h1 (by omega) (by assumption)
        · cases hj
  have := this l.length (Nat.le_refl _)
  rwa [List.take_length] at this
/-- the other index, off what an index's own blocks bear -/
theorem two_step {u u' : World} {base ib bt bs bs' base2 ib2 bt2 bs2 N2 p2 : Nat} {S2 : Slo.SRow} {l : List En} (hy : Ix (fun k => ¬ DI ib bt bs k) u base2 ib2 bt2 bs2 N2 p2 S2 l) (dj : ∀ k, DI ib bt bs k → ¬ DI ib2 bt2 bs2 k) (f : Fr (DI ib bt bs) u u') (hn : bs' = bs ∨ u.heap.size ≤ bs') :
    Ix (fun k => ¬ DI ib bt bs' k) u' base2 ib2 bt2 bs2 N2 p2 S2 l ∧ ∀ k, DI ib bt bs' k → ¬ DI ib2 bt2 bs2 k := by
  have h1 := (hy.monoX (X' := fun k => ¬ DI ib bt bs k ∧ k < u.heap.size) (fun k hk h => ⟨h, hk⟩)).off f (fun k hk h => dj k h hk) (fun k hk h => hk.1 h)
  refine ⟨h1.monoX (fun k _ hk h => ?_), fun k hk h => ?_⟩
  · rcases di_step hn k h with h' | h'
    · exact hk.1 h'
    · have := hk.2; omega
  · rcases di_step hn k hk with h' | h'
    · exact dj k h' h
    · have := (hy.lt h).2; omega
def appliesE (l : List En) (ws : List Wd) : List En := ws.foldl applyE l
theorem appliesE_step {l : List En} {ws : List Wd} {i : Nat} {x : Wd} (h : ws[i]? = some x) : appliesE l (ws.take (i + 1)) = applyE (appliesE l (ws.take i)) x := by
  unfold appliesE
  rw [List.take_add_one, h, List.foldl_append]; rfl
set_option maxHeartbeats 2000000 in
set_option maxRecDepth 100000 in
theorem again_law (A : Option Addr) (n c : Nat) (l0 : List En) (A1 : Option Addr) (n1 c1 : Nat) (ws : List Wd) (A2 : Option Addr) (n2 c2 : Nat) (ms : List Wd) (G : Option Addr) (m k : Nat) (sg : List Int) (w : World) (h0 : RE (fun _ => True) w A n l0) (h1 : WRow w A1 n1 ws) (h2 : WRow w A2 n2 ms) (hG : Sl w 1 G m (ivs sg)) (hn : n ≤ 1048576) (hn1 : n1 ≤ 1048576) (hn2 : n2 ≤ 1048576) (hm : m ≤ 1048576) (hb0 : BdE 1048576 l0) :
    Calls Try.prog 4 #[ofL [.slice A n c, .slice A1 n1 c1, .slice A2 n2 c2, .slice G m k]] w fun r w' => r = .returned (.bool true) ∧ Fr (fun _ => False) w w' := by
  refine (F4.of [.slice A n c, .slice A1 n1 c1, .slice A2 n2 c2, .slice G m k] w (Q := fun v w' => v = .bool true ∧ Fr (fun _ => False) w w') ?_).mono (fun e w' ⟨v, he, hv, h⟩ => ⟨by rw [he, hv], h⟩)
  have hGb : m ≠ 0 → ∀ k, blkOf G = some k → k < w.heap.size := fun h0 k hk => hG.blt (by decide) h0 hk
  refine nw_mk ?_
  have f1 : Fr (fun _ => False) w (w.alloc (.cells [Value.slice A n c, .slice A1 n1 c1, .slice A2 n2 c2, .slice G m k].toArray 56)).drew := (Fr.alloc _ _ _).trans1 (Fr.drew _ _)
  have r1 : RecAt (w.alloc (.cells [Value.slice A n c, .slice A1 n1 c1, .slice A2 n2 c2, .slice G m k].toArray 56)).drew w.heap.size 56 [Value.slice A n c, .slice A1 n1 c1, .slice A2 n2 c2, .slice G m k] := RecAt.new w _ _
  generalize (w.alloc (.cells [Value.slice A n c, .slice A1 n1 c1, .slice A2 n2 c2, .slice G m k].toArray 56)).drew = w2 at f1 r1 ⊢
  refine ⟨A, n, c, r1.cell rfl, A1, n1, c1, r1.cell rfl, A2, n2, c2, r1.cell rfl, G, m, k, r1.cell rfl, ?_⟩
  refine (newX_calls (X := fun _ => True) A n c l0 w2 (h0.fr0 f1) (by omega) (hb0.mono (by omega)) (fun _ _ => trivial)).mono ?_
  rintro r w3 ⟨f3, ib, bt, bs, N, p, S, rfl, hI, hp⟩
  have hs1 := f1.size
  have g3 := f1.trans1 f3
  have hb1 : BdE 1048576 (newE l0) := by have := newE_bd hb0 l0.length; rwa [newE_all] at this
  refine ⟨_, rfl, jnC_mk (loop_rule (fun s u => ∃ (i bs N p : Nat) (S : Slo.SRow), i ≤ n1 ∧ s = ((A1, n1, c1), (A2, n2, c2), (G, m, k), some ⟨ib, 0, none⟩, (i : Int), ()) ∧ Fr (fun _ => False) w u ∧ Ix (fun _ => True) u w2.heap.size ib bt bs N p S (appliesE (newE l0) (ws.take i)) ∧ BdE (1048576 + i) (appliesE (newE l0) (ws.take i)) ∧ p ≤ 1048576 + i)
    (fun s _ => (n1 - s.2.2.2.2.1).toNat) ?_ _ _ ⟨0, bs, N, p, S, by omega, rfl, g3, by rw [List.take_zero]; exact hI, by rw [List.take_zero]; exact hb1, by omega⟩)⟩
  clear hI hp
  rintro s u C ⟨i, bs, N, p, S, hi, rfl, g, hI, hb, hpl⟩ hC _
  have hus := g.size
  refine vIf_mk (fun hlt => ?_) (fun hge => ?_)
  · have hlt2 : (i : Int) < (n1 : Int) := of_decide_eq_true hlt
    have hwl := h1.1
    have gi : ws[i]? = some (ws[i]'(by omega)) := List.getElem?_eq_getElem (by omega)
    generalize ws[i]'(by omega) = x at gi
    have hx := h1.2.1 x (List.mem_of_getElem? gi)
    obtain ⟨b, o, hA1, hcs⟩ := h1.2.2 (by omega)
    have hst := appliesE_step (l := newE l0) gi
    rw [hA1]
    refine dr_mk (gd_mk (decide_eq_true (by show (0 : Int) ≤ (i : Int); omega)) (gd_mk hlt ⟨x.cs, wd_len hx, by rw [Int.toNat_natCast]; exact g.cells (hcs i x gi) (fun h => h), (applyX_calls w2.heap.size ib bt bs N p S _ x u hI hx (hb.mono (by omega)) (by omega) (by have := (hI.lt (.inl rfl)); omega) (fun _ _ => trivial)).mono ?_⟩))
    rintro r u2 ⟨rfl, f2', bs2, N2, S2, hI2, hnew⟩
    have g2 : Fr (fun _ => False) w u2 := g.trans f2' (fun _ _ h => h) (fun k hk h' => by have := (hI.lt h').1; omega)
    refine ⟨rfl, jnC_mk (hC _ _ ⟨i + 1, bs2, N2, p + 1, S2, by omega, by rw [ei i (by omega), hA1], g2, by rw [hst]; exact hI2, by rw [hst]; exact applyE_bd hb x, by omega⟩ ?_)⟩
    show ((n1 : Int) - IntKind.wrap .i64 ((i : Int) + 1)).toNat < ((n1 : Int) - (i : Int)).toNat
    rw [ei i (by omega)]; omega
  clear hC
  have hge2 : ¬ (i : Int) < (n1 : Int) := of_decide_eq_false hge
  generalize appliesE (newE l0) (ws.take i) = l1 at hI hb
  have hb : BdE 2097152 l1 := hb.mono (by omega)
  have hpl : p ≤ 2097152 := by omega
  refine (rowX_calls w2.heap.size ib bt bs N p S l1 u hI (hb.mono (by omega)) (by omega)).mono ?_
  rintro r u1 ⟨q1, Ar, cr, rfl, hO, hll⟩
  have hI1 := (hI.monoX (X' := fun k => k < u.heap.size) (fun k hk _ => hk)).fr0 q1
  have g1 := g.trans1 q1
  have hlt1 := fun k hk => (hI1.lt (k := k) hk)
  refine ⟨_, _, _, rfl, (newX_calls (X := fun k => ¬ DI ib bt bs k) Ar l1.length cr l1 u1 hO.rt (by omega) (hb.mono (by omega)) (fun k hk h => by have := (hlt1 k h).2; omega)).mono ?_⟩
  rintro r u2 ⟨q2, ib2, bt2, bs2, N2, p2, S2, rfl, hY, hp2⟩
  rw [newE_asc_id hI.asc] at hY
  have g2 := g1.trans1 q2
  have hs2 := q1.size
  have hX0 : Ix (fun k => ¬ DI ib2 bt2 bs2 k) u2 w2.heap.size ib bt bs N p S l1 := (hI1.fr0 q2).monoX (fun k _ hk h => by have := (hY.lt h).1; omega)
  have dj0 : ∀ k, DI ib bt bs k → ¬ DI ib2 bt2 bs2 k := fun k hk h => by have := (hlt1 k hk).2; have := (hY.lt h).1; omega
  refine ⟨_, rfl, jnC_mk (loop_rule (fun s u => ∃ (i bs N bs2 N2 : Nat) (p : Nat) (p2 : Nat) (S S2 : Slo.SRow), i ≤ n2 ∧ s = ((A2, n2, c2), (G, m, k), some ⟨ib, 0, none⟩, some ⟨ib2, 0, none⟩, (i : Int), ()) ∧ Fr (fun _ => False) w u ∧ Ix (fun k => ¬ DI ib2 bt2 bs2 k) u w2.heap.size ib bt bs N p S (appliesE l1 (ms.take i)) ∧ Ix (fun k => ¬ DI ib bt bs k) u u1.heap.size ib2 bt2 bs2 N2 p2 S2 (appliesE l1 (ms.take i)) ∧ (∀ k, DI ib bt bs k → ¬ DI ib2 bt2 bs2 k) ∧ BdE (2097152 + i) (appliesE l1 (ms.take i)) ∧ p ≤ 2097152 + i ∧ p2 ≤ 12582912 + i)
    (fun s _ => (n2 - s.2.2.2.2.1).toNat) ?_ _ _ ⟨0, bs, N, bs2, N2, p, p2, S, S2, by omega, rfl, g2, by rw [List.take_zero]; exact hX0, by rw [List.take_zero]; exact hY, dj0, by rw [List.take_zero]; exact hb, by omega, by omega⟩)⟩
  have hlow : w.heap.size ≤ u1.heap.size := g1.size
  clear hX0 hY dj0 hI1 hI hlt1 hb hpl hp2 hge
  rintro s v C ⟨j, bs, N, bs2, N2, p, p2, S, S2, hj, rfl, gv, hX, hY, dj, hb, hpl, hpl2⟩ hC _
  refine vIf_mk (fun hlt => ?_) (fun hge => ?_)
  · have hlt2 : (j : Int) < (n2 : Int) := of_decide_eq_true hlt
    have hwl := h2.1
    have gi : ms[j]? = some (ms[j]'(by omega)) := List.getElem?_eq_getElem (by omega)
    generalize ms[j]'(by omega) = x at gi
    have hx := h2.2.1 x (List.mem_of_getElem? gi)
    obtain ⟨b, o, hA2, hcs⟩ := h2.2.2 (by omega)
    have hst := appliesE_step (l := l1) gi
    have j0 : decide (0 ≤ (j : Int)) = true := decide_eq_true (by omega)
    rw [hA2]
    refine dr_mk (gd_mk j0 (gd_mk hlt ⟨x.cs, wd_len hx, by rw [Int.toNat_natCast]; exact gv.cells (hcs j x gi) (fun h => h), (applyX_calls w2.heap.size ib bt bs N p S _ x v hX hx (hb.mono (by omega)) (by omega) (by have := (hX.lt (.inl rfl)); omega) (fun k hk h => by have := (hY.lt h).2; omega)).mono ?_⟩))
    rintro r v2 ⟨rfl, f2', bs', N', S', hX2, hnew⟩
    have gv2 : Fr (fun _ => False) w v2 := gv.trans f2' (fun _ _ h => h) (fun k hk h' => by have := (hX.lt h').1; omega)
    obtain ⟨hY2, dj2⟩ := two_step (base := 0) hY dj f2' hnew
    refine ⟨rfl, dr_mk (gd_mk j0 (gd_mk hlt ⟨x.cs, wd_len hx, by rw [Int.toNat_natCast]; exact gv2.cells (hcs j x gi) (fun h => h), (applyX_calls u1.heap.size ib2 bt2 bs2 N2 p2 S2 _ x v2 hY2 hx (hb.mono (by omega)) (by omega) (by have := (hY2.lt (.inl rfl)); omega) (fun k hk h => by have := (hX2.lt h).2; omega)).mono ?_⟩))⟩
    rintro r v3 ⟨rfl, f3', bs2', N2', S2', hY3, hnew2⟩
    have gv3 : Fr (fun _ => False) w v3 := gv2.trans f3' (fun _ _ h => h) (fun k hk h' => by have := (hY2.lt h').1; omega)
    obtain ⟨hX3, dj3⟩ := two_step (base := 0) hX2 (fun k hk h => dj2 k h hk) f3' hnew2
    refine ⟨rfl, jnC_mk (hC _ _ ⟨j + 1, bs', N', bs2', N2', p + 1, p2 + 1, S', S2', by omega, by rw [ei j (by omega), hA2], gv3, by rw [hst]; exact hX3, by rw [hst]; exact hY3, fun k hk h => dj3 k h hk, by rw [hst]; exact applyE_bd hb x, by omega, by omega⟩ ?_)⟩
    show ((n2 : Int) - IntKind.wrap .i64 ((j : Int) + 1)).toNat < ((n2 : Int) - (j : Int)).toNat
    rw [ei j (by omega)]; omega
  · generalize appliesE l1 (ms.take j) = l2 at hX hY hb
    have hb2 : BdE 4294967296 l2 := hb.mono (by omega)
    have hoff : ∀ q, q < w.heap.size → ¬ DI ib bt bs q := fun q hq h => by have := (hX.lt h).1; omega
    have hoff2 : ∀ q, q < w.heap.size → ¬ DI ib2 bt2 bs2 q := fun q hq h => by have := (hY.lt h).1; omega
    refine (keepX_calls w2.heap.size ib bt bs N p S l2 G m k sg v hX hb2 (by omega) (sl_fr hG gv) (fun h0 q hq => hoff q (hGb h0 q hq)) (by omega) (by have := (hX.lt (.inl rfl)); omega) (fun k hk h => by have := (hY.lt h).2; omega)).mono ?_
    rintro r v2 ⟨rfl, f2', bs', N', S', hX2, hnew⟩
    have gv2 : Fr (fun _ => False) w v2 := gv.trans f2' (fun _ _ h => h) (fun k hk h' => by have := (hX.lt h').1; omega)
    obtain ⟨hY2, dj2⟩ := two_step (base := 0) hY dj f2' hnew
    refine ⟨rfl, (keepX_calls u1.heap.size ib2 bt2 bs2 N2 p2 S2 l2 G m k sg v2 hY2 hb2 (by omega) (sl_fr hG gv2) (fun h0 q hq => hoff2 q (hGb h0 q hq)) (by omega) (by have := (hY2.lt (.inl rfl)); omega) (fun k hk h => by have := (hX2.lt h).2; omega)).mono ?_⟩
    rintro r v3 ⟨rfl, f3', bs2', N2', S2', hY3, hnew2⟩
    have gv3 : Fr (fun _ => False) w v3 := gv2.trans f3' (fun _ _ h => h) (fun k hk h' => by have := (hY2.lt h').1; omega)
    obtain ⟨hX3, dj3⟩ := two_step (base := 0) hX2 (fun k hk h => dj2 k h hk) f3' hnew2
    have hb3 := hb2.keep sg
    refine ⟨rfl, (rowX_calls w2.heap.size ib bt bs' N' p S' _ v3 hX3 hb3 (by omega)).mono ?_⟩
    rintro r v4 ⟨q4, A47, c49, rfl, p4, hl4⟩
    refine ⟨_, _, _, rfl, (rowX_calls u1.heap.size ib2 bt2 bs2' N2' p2 S2' _ v4 (hY3.fr0 q4) hb3 (by omega)).mono ?_⟩
    rintro r v5 ⟨q5, A52, c54, rfl, p5, hl5⟩
    refine ⟨_, _, _, rfl, (sameLE_calls A47 _ c49 A52 _ c54 _ v5 (p4.rt.fr0 q5) p5.rt (by omega) hb3).mono ?_⟩
    rintro r v6 ⟨rfl, q6⟩
    refine ⟨_, rfl, vIf_t rfl ((lives_calls v6).mono ?_)⟩
    rintro r v7 ⟨rfl, q7⟩
    exact ⟨_, rfl, rfl, (((gv3.trans1 q4).trans1 q5).trans1 q6).trans1 q7⟩
end Go.Proofs.Ytnablplljilahaa
