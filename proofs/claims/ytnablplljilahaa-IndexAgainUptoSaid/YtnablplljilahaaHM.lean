/- chapter 20: what deeds come to -/
import Derived.Test.YtnablplljilahaaHL
import Derived.Test.YtnablplljilahaaLDdR
namespace Go.Proofs.Ytnablplljilahaa
open Go.GV Go.RowKit Go.Lib
set_option linter.unusedVariables false
set_option linter.unusedSimpArgs false
/-- where the deeds stand -/
structure StI (w : World) (i ib : Nat) (u : World) (bt bs N p : Nat) (S : Slo.SRow) (A6 : Option Addr) (n6 : Nat) (l : List En) : Prop where
  fr : Fr (fun _ => False) w u
  ix : Ix (fun _ => True) u w.heap.size ib bt bs N p S l
  rd : RDE (DI ib bt bs) u A6 n6 l
  bd : BdE (1048576 + i) l
  pl : p ≤ 1048576 + i
  ll : l.length ≤ 1048576 + i
theorem StI.fr0 {w : World} {i ib : Nat} {u u' : World} {bt bs N p : Nat} {S : Slo.SRow} {A6 : Option Addr} {n6 : Nat} {l : List En} (h : StI w i ib u bt bs N p S A6 n6 l) (f : Fr (fun _ => False) u u') : StI w i ib u' bt bs N p S A6 n6 l :=
  ⟨h.fr.trans1 f, h.ix.fr0 f, h.rd.fr0 f, h.bd, h.pl, h.ll⟩
set_option maxHeartbeats 2000000 in
set_option maxRecDepth 100000 in
theorem does_law (A : Option Addr) (n c : Nat) (l0 : List En) (A1 : Option Addr) (n1 c1 : Nat) (ds : List Dd) (w : World) (h0 : RE (fun _ => True) w A n l0) (h1 : DRow w A1 n1 ds) (hn : n ≤ 1048576) (hn1 : n1 ≤ 1048576) (hb0 : BdE 1048576 l0) :
    Calls Try.prog 3 #[.slice A n c, .slice A1 n1 c1] w fun r w' => r = .returned (.bool true) ∧ Fr (fun _ => False) w w' := by
  refine (F3.of A n c A1 n1 c1 w (Q := fun v w' => v = .bool true ∧ Fr (fun _ => False) w w') ?_).mono (fun e w' ⟨v, he, hv, h⟩ => ⟨by rw [he, hv], h⟩)
  have hl0 := h0.len
  have hdl := h1.1
  refine (newX_calls (X := fun _ => True) A n c l0 w h0 (by omega) (hb0.mono (by omega)) (fun _ _ => trivial)).mono ?_
  rintro r w2 ⟨f2, ib, bt, bs, N, p, S, rfl, hI, hp⟩
  have h0r := (h0.mono (P' := fun k => k < w.heap.size) (fun k hk _ => hk)).fr0 f2
  refine ⟨_, rfl, (rnew_calls A n c l0 w2 h0r (by omega)).mono ?_⟩
  rintro r w4 ⟨f4, A6, n6, c6, rfl, h6⟩
  have g4 := f2.trans1 f4
  have hR0 : RDE (DI ib bt bs) w4 A6 n6 (newE l0) := RDE.of (h6.mono (Nat.le_refl _) (fun k _ hk h' => by have := (hI.lt h').1; omega)) (fun k hk => (hI.lt hk).2)
  have hst0 : StI w 0 ib w4 bt bs N p S A6 n6 (newE l0) := by
    have e := newE_all l0
    refine ⟨g4, hI.fr0 f4, hR0, ?_, by omega, ?_⟩
    · rw [← e]; exact newE_bd hb0 _
    · rw [← e]; have := newE_len l0 l0.length; omega
  refine ⟨_, _, _, rfl, jnC_mk (loop_rule (fun s u => ∃ (i bs N p : Nat) (S : Slo.SRow) (A6 : Option Addr) (n6 c6 : Nat) (l : List En), i ≤ n1 ∧ s = ((A1, n1, c1), some ⟨ib, 0, none⟩, (A6, n6, c6), (i : Int), ()) ∧ StI w i ib u bt bs N p S A6 n6 l)
    (fun s _ => (n1 - s.2.2.2.1).toNat) ?_ _ _ ⟨0, bs, N, p, S, A6, n6, c6, newE l0, by omega, rfl, hst0⟩)⟩
  clear hst0 hR0 h6 h0r hI hp
  rintro s u C ⟨i, bs, N, p, S, A6, n6, c6, l, hi, rfl, hst⟩ hC _
  refine vIf_mk (fun hlt => ?_) (fun hge => ?_)
  · have hlt2 : (i : Int) < (n1 : Int) := of_decide_eq_true hlt
    have gi : ds[i]? = some (ds[i]'(by omega)) := List.getElem?_eq_getElem (by omega)
    generalize ds[i]'(by omega) = d at gi
    obtain ⟨b, o, hA1, hcs⟩ := h1.2 (by omega)
    obtain ⟨cs, hd, hc⟩ := hcs i d gi
    obtain ⟨G, m, k, rfl, hG, hx, hm⟩ := hd
    have hxl := wd_len hx
    have hGb : m ≠ 0 → ∀ k, blkOf G = some k → k < w.heap.size := fun h0 k hk => hG.blt (by decide) h0 hk
    rw [hA1]
    have i0 : decide (0 ≤ (i : Int)) = true := decide_eq_true (by omega)
    have dat : ∀ {z : World}, Fr (fun _ => False) w z → cellsAt z b (o + ((i : Int)).toNat * 41) ([Value.int .i64 d.kind] ++ (d.x.cs ++ [.slice G m k])) := fun fz => by rw [Int.toNat_natCast]; exact fz.cells hc (fun h => h)
    have hst := hst
    -- what is asked behind a deed
    have fin : ∀ (v : World) (bs' N' p' : Nat) (S' : Slo.SRow) (A6' : Option Addr) (n6' c6' : Nat) (l' : List En), StI w (i + 1) ib v bt bs' N' p' S' A6' n6' l' →
        jnC (F3.k11 (fun v w' => v = .bool true ∧ Fr (fun _ => False) w w') C) ((some ⟨b, o, none⟩, n1, c1), some ⟨ib, 0, none⟩, (A6', n6', c6'), (i : Int), ()) v := by
      intro v bs' N' p' S' A6' n6' c6' l' hst
      obtain ⟨g, hI, hRD, hb, hpl, hlen⟩ := hst
      have hRl := hRD.1.len
      have hb2 : BdE 4294967296 l' := hb.mono (by omega)
      refine jnC_mk (fun _ => dr_mk (gd_mk i0 (gd_mk hlt ⟨d.x.d.map bv, bvl hx, wd_dig (dd_word (dat g)), (getX_calls w.heap.size ib bt bs' N' p' S' l' d.x.d v hI hx hb2).mono ?_⟩)))
      rintro r v1 ⟨q1, cs1, rfl, p1⟩
      refine ⟨_, _, rfl, var_mk z28 p1.len p1.one (fun b30 v2 q2 r30 => ?_)⟩
      have k2 := q1.trans1 q2
      refine dr_mk (gd_mk i0 (gd_mk hlt ⟨d.x.d.map bv, bvl hx, wd_dig (dd_word (dat (g.trans1 k2))), (rget_calls A6' n6' c6' l' d.x.d v2 (hRD.1.fr0 k2) hx (by omega)).mono ?_⟩))
      rintro r v3 ⟨q3, cs3, rfl, p3⟩
      refine ⟨_, _, rfl, var_mk z28 p3.len p3.one (fun b38 v4 q4 r38 => ?_)⟩
      have q24 := q3.trans1 q4
      have k4 := k2.trans1 q24
      refine (countX_calls w.heap.size ib bt bs' N' p' S' l' v4 (hI.fr0 k4) hb2 (by omega)).mono ?_
      rintro r v5 ⟨q5, rfl⟩
      have k5 := k4.trans1 q5
      refine ⟨_, _, rfl, (rcountIx_calls A6' n6' c6' l' v5 (hRD.1.fr0 k5) (by omega)).mono ?_⟩
      rintro r v6 ⟨q6, rfl⟩
      have k6 := k5.trans1 q6
      have q46 := q5.trans1 q6
      have r30 := r30.fr (q24.trans1 q46) (fun h => h)
      have r38 := r38.fr q46 (fun h => h)
      have p1 := p1.fr0 (q2.trans1 (q24.trans1 q46))
      have p3 := p3.fr0 (q4.trans1 q46)
      have hgb := hb.get d.x.d
      refine ⟨_, _, rfl, cs1, p1.len, rec_all r30, cs3, p3.len, rec_all r38, (same_calls _ cs1 cs3 v6 p1.at p3.at (by omega)).mono ?_⟩
      rintro r v7 ⟨rfl, q7⟩
      have k7 := k6.trans1 q7
      refine ⟨_, rfl, vIf_f rfl (vIf_f (by simp) (vIf_f (by simp) (vIf_f (by simp) ((rowX_calls w.heap.size ib bt bs' N' p' S' l' v7 (hI.fr0 k7) hb2 (by omega)).mono ?_))))⟩
      rintro r v14 ⟨q14, A86, c88, rfl, p14, _⟩
      have k14 := k7.trans1 q14
      refine ⟨_, _, _, rfl, (sameLE_calls A86 _ c88 A6' n6' c6' l' v14 p14.rt (hRD.1.fr0 k14) (by omega) hb2).mono ?_⟩
      rintro r v15 ⟨rfl, q15⟩
      refine ⟨_, rfl, vIf_f rfl (jnC_mk (hC _ _ ⟨i + 1, bs', N', p', S', A6', n6', c6', l', by omega, by rw [ei i (by omega), hA1], StI.fr0 ⟨g, hI, hRD, hb, hpl, hlen⟩ (k14.trans1 q15)⟩ ?_))⟩
      show ((n1 : Int) - IntKind.wrap .i64 ((i : Int) + 1)).toNat < ((n1 : Int) - (i : Int)).toNat
      rw [ei i (by omega)]; omega
    obtain ⟨g, hI, hRD, hb, hpl, hlen⟩ := hst
    have hws := g.size
    have hDI : ∀ k, DI ib bt bs k → w.heap.size ≤ k ∧ k < u.heap.size := fun k hk => hI.lt hk
    have hbD : ∀ q, q < w.heap.size → ¬ DI ib bt bs q := fun q hq h => by have := (hDI q h).1; omega
    refine dr_mk (gd_mk i0 (gd_mk hlt ⟨d.kind, dd_kind (dat g), vIf_mk (fun h0 => ?_) (fun h0 => ?_)⟩))
    · refine dr_mk (gd_mk i0 (gd_mk hlt ⟨d.x.cs, hxl, dd_word (dat g), (applyX_calls w.heap.size ib bt bs N p S l d.x u hI hx (hb.mono (by omega)) (by omega) hws (fun _ _ => trivial)).mono ?_⟩))
      rintro r u2 ⟨rfl, f2', bs2, N2, S2, h2, hnew⟩
      have hRD2 := hRD.step f2' (di_step hnew)
      have g2 := ix_fr g hI f2'
      refine ⟨rfl, dr_mk (gd_mk i0 (gd_mk hlt ⟨d.x.cs, hxl, dd_word (dat g2), (rapplyIx_calls A6 n6 c6 l d.x u2 hRD2 hI.asc (by have := hRD2.1.len; omega) (hb.mono (by omega)) hx (fun k hk => (h2.lt hk).2)).mono ?_⟩))⟩
      rintro r u3 ⟨f3, A7, n7, c7, rfl, h7⟩
      have hal := applyE_len l d.x
      have hab := applyE_bd hb d.x
      exact ⟨_, _, _, rfl, fin u3 bs2 N2 (p + 1) S2 A7 n7 c7 (applyE l d.x) ⟨g2.trans1 f3, h2.fr0 f3, h7, hab, by omega, by omega⟩⟩
    · refine dr_mk (gd_mk i0 (gd_mk hlt ⟨G, m, k, dd_segs hx (dat g), (keepX_calls w.heap.size ib bt bs N p S l G m k d.sg u hI (hb.mono (by omega)) (by omega) (sl_fr hG g) (fun h0 q hq => hbD q (hGb h0 q hq)) (by omega) hws (fun _ _ => trivial)).mono ?_⟩))
      rintro r u2 ⟨rfl, f2', bs2, N2, S2, h2, hnew⟩
      have hRD2 := hRD.step f2' (di_step hnew)
      have g2 := ix_fr g hI f2'
      refine ⟨rfl, dr_mk (gd_mk i0 (gd_mk hlt ⟨G, m, k, dd_segs hx (dat g2), (rkeepIx_calls A6 n6 c6 l G m k d.sg u2 hRD2 (by have := hRD2.1.len; omega) (hb.mono (by omega)) (sl_fr hG g2) (by omega) (fun k hk => (h2.lt hk).2)).mono ?_⟩))⟩
      rintro r u3 ⟨f3, A7, n7, c7, rfl, h7⟩
      have hal := keepLE_len d.sg l
      have hab := hb.keep d.sg
      exact ⟨_, _, _, rfl, fin u3 bs2 N2 p S2 A7 n7 c7 (keepLE d.sg l) ⟨g2.trans1 f3, h2.fr0 f3, h7, hab.mono (by omega), by omega, by omega⟩⟩
  · obtain ⟨g, hI, hRD, hb, hpl, hlen⟩ := hst
    have hb2 : BdE 4294967296 l := hb.mono (by omega)
    have hRl := hRD.1.len
    refine (rowX_calls w.heap.size ib bt bs N p S l u hI hb2 (by omega)).mono ?_
    rintro r v14 ⟨q14, A86, c88, rfl, p14, _⟩
    refine ⟨_, _, _, rfl, (sameLE_calls A86 _ c88 A6 n6 c6 l v14 p14.rt (hRD.1.fr0 q14) (by omega) hb2).mono ?_⟩
    rintro r v15 ⟨rfl, q15⟩
    refine ⟨_, rfl, vIf_t rfl ((lives_calls v15).mono ?_)⟩
    rintro r v16 ⟨rfl, q16⟩
    exact ⟨_, rfl, rfl, ((g.trans1 q14).trans1 q15).trans1 q16⟩
end Go.Proofs.Ytnablplljilahaa
