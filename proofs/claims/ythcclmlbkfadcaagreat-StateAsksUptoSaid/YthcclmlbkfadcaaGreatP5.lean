import Derived.Test.YthcclmlbkfadcaaGreatRows
import Derived.WalkKit
import Derived.ProofKit
import Derived.OpenShut
import Derived.JoinedCond
import Derived.Test.YthcclmlbkfadcaaGreatP4
/- chapter 22: Here, Loads, Snapshot -/
namespace Go.Proofs.YthcclmlbkfadcaaGreat
open Go.GV Go.RowKit Go.Lib Go.Stb
open Tg (Tn liveT)
set_option linter.unusedVariables false
set_option linter.unusedSimpArgs false
theorem e_loc {P : Nat → Prop} {w w' : World} {cs : List Value} {e : En} {b p : Nat} (h : EnP P w' cs e) (hc : cellsAt w b p cs) : cellsAt w b (p + 34) [.int .i64 e.s, .int .i64 e.o, .int .i64 e.q] := fun j v hj => by
  match j, hj with
  | 0, hj => simp at hj; subst hj; exact e_fld h hc (j := 2) rfl
  | 1, hj => simp at hj; subst hj; exact e_fld h hc (j := 3) rfl
  | 2, hj => simp at hj; subst hj; exact e_fld h hc (j := 4) rfl
theorem t_fld {P : Nat → Prop} {w w' : World} {cs : List Value} {e : Tn} {b p : Nat} (h : Tg.TnP P w' cs e) (hc : cellsAt w b p cs) {j : Nat} {v : Value} (hj : [Value.bool e.g, .int .i64 e.s, .int .i64 e.o, .int .i64 e.q][j]? = some v) : cellAt w b (p + (33 + j)) = some v := by
  have hd := h.dl
  obtain ⟨A, n, c, rfl, _⟩ := h
  refine hc (33 + j) v ?_
  unfold Tg.Tn.cs
  have hj4 : j < 4 := (List.getElem?_eq_some_iff.1 hj).1
  have l1 : [Value.string e.nm].length = 1 := rfl
  have l2 : (e.d.map bv).length = 32 := bvl hd
  rw [List.getElem?_append_right (by rw [l1]; omega), List.getElem?_append_right (by rw [l1, l2]; omega)]
  have : 33 + j - [Value.string e.nm].length - (e.d.map bv).length = j := by rw [l1, l2]; omega
  rw [this]
  have h2 : [Value.bool e.g, .int .i64 e.s, .int .i64 e.o, .int .i64 e.q, .slice A n c] = [Value.bool e.g, .int .i64 e.s, .int .i64 e.o, .int .i64 e.q] ++ [.slice A n c] := rfl
  rw [h2, List.getElem?_append_left (by simpa using hj4)]
  exact hj
theorem fr_ownR {S : Nat → Prop} {w u v : World} {A : Option Addr} {b : Nat} (f : Fr (fun _ => False) w u) (hb : ∀ k, blkOf A = some k → b ≤ k) (hw : w.heap.size ≤ b) (g : Fr (fun k => blkOf A = some k) u v) : Fr S w v :=
  f.trans g (fun _ _ h => h.elim) (fun k hk h => by have := hb k h; omega)
set_option maxHeartbeats 1000000 in
theorem hereS_calls {w : World} {base sb : Nat} {d : SD} (h : Sta w base sb d) (s : Int) (hb : SB 50000000 d) :
    Calls Tryz.prog 12 #[.pointer (some ⟨sb, 0, none⟩), .int .i64 s] w fun e w' => Fr (fun _ => False) w w' ∧ ∃ A' c', e = .returned (.slice A' (herL s d.lE d.lT).length c') ∧ WOw w' w.heap.size A' (herL s d.lE d.lT).length c' (herL s d.lE d.lT) := by
  refine (F12.of (some ⟨sb, 0, none⟩) s w (Q := fun v w' => Fr (fun _ => False) w w' ∧ ∃ A' c', v = .slice A' (herL s d.lE d.lT).length c' ∧ WOw w' w.heap.size A' (herL s d.lE d.lT).length c' (herL s d.lE d.lT)) ?_).mono (fun e w' ⟨v, he, hf, A', c', hv, h⟩ => ⟨hf, A', c', by rw [he, hv], h⟩)
  have bp := hb.p
  have bt := hb.tl
  have hnT := h.tg.len
  have be : BdE 4294967296 d.lE := hb.e.mono (by omega)
  have bT : Tg.Bd 4294967296 d.lT := fun e he => by have := hb.t e he; omega
  refine vIf_f rfl (dr_mk ⟨_, h.rs.cell rfl, (rowX_calls base d.ib d.bt d.bs d.N d.p d.S d.lE w h.ix be (by omega)).mono ?_⟩)
  rintro r w1 ⟨f1, A1, c1, rfl, hE, hEl⟩
  have hErt := hE.rt
  refine ⟨_, _, _, rfl, jnC_mk (loop_rule (fun t u => Fr (fun _ => False) w1 u ∧ ∃ (i : Nat) (A2 : Option Addr) (c2 : Nat), i ≤ d.lE.length ∧ t = (some ⟨sb, 0, none⟩, s, (A2, (herE s (d.lE.take i)).length, c2), (A1, d.lE.length, c1), ((d.lE.length : Nat) : Int), (i : Int), ()) ∧ WOw u w.heap.size A2 (herE s (d.lE.take i)).length c2 (herE s (d.lE.take i)) ∧ ∀ k, blkOf A2 = some k → w1.heap.size ≤ k)
    (fun t _ => (d.lE.length - t.2.2.2.2.2.1).toNat) ?_ _ _ ⟨Fr.refl _ _, 0, none, 0, by omega, rfl, WOw.nil _ _, fun k hk => by cases hk⟩)⟩
  rintro t u C5 ⟨hf, i, A2, c2, hi, rfl, hW, hA2⟩ hC5 _
  have hs1 := f1.size
  refine vIf_mk (fun hlt => ?_) (fun hge => ?_)
  · have hlt2 : (i : Int) < ((d.lE.length : Nat) : Int) := of_decide_eq_true hlt
    have gi : d.lE[i]? = some (d.lE[i]'(by omega)) := List.getElem?_eq_getElem (by omega)
    generalize d.lE[i]'(by omega) = x at gi
    have hst := herE_step (s := s) gi
    have hll := herE_len s (d.lE.take i)
    rw [List.length_take] at hll
    have hmeas : (((d.lE.length : Nat) : Int) - IntKind.wrap .i64 ((i : Int) + 1)).toNat < (((d.lE.length : Nat) : Int) - (i : Int)).toNat := by rw [ei i (by omega)]; omega
    refine e_rd (hErt.fr0 hf) gi (fun b o cs hA hT hc => ⟨cs, hT.len, hc, var_mk z28 hT.len hT.one (fun b12 u1 g1 r12 => ?_)⟩)
    have hT1 := hT.fr0 g1
    have hW1 := hW.fr0 g1
    -- behind the asking
    have k8 : ∀ (t : Bool) (v : World), Fr (fun _ => False) u1 v → (t = true ↔ x.s = s ∧ liveE x = true) → jnC (F12.k8 (fun v w' => Fr (fun _ => False) w w' ∧ ∃ A' c', v = .slice A' (herL s d.lE d.lT).length c' ∧ WOw w' w.heap.size A' (herL s d.lE d.lT).length c' (herL s d.lE d.lT)) C5) (some ⟨sb, 0, none⟩, s, (A2, (herE s (d.lE.take i)).length, c2), (b12, 0), (A1, d.lE.length, c1), ((d.lE.length : Nat) : Int), (i : Int), t, ()) v := by
      intro t v fv ht
      have rv := r12.fr fv (fun h => h)
      have hTv := hT1.fr0 fv
      have hWv := hW1.fr0 fv
      have fwv : Fr (fun _ => False) w1 v := (hf.trans1 g1).trans1 fv
      have hdl := hTv.dl
      refine jnC_mk (fun _ => vIf_mk (fun h0 => ?_) (fun h0 => ?_))
      · have h0 := ht.1 h0
        rw [if_pos h0] at hst
        refine ⟨x.k, e_fld hTv (rec_all rv) (j := 0) rfl, x.d.map bv, bvl hdl, e_dig hTv (rec_all rv), x.z, e_fld hTv (rec_all rv) (j := 1) rfl, [.int .i64 x.s, .int .i64 x.o, .int .i64 x.q], rfl, e_loc hTv (rec_all rv), gd_mk (len1 hdl) (gd_mk rfl (gd_mk (by simp [hdl]) ?_))⟩
        refine push_w (x := wdE x) hWv hdl (by have := fwv.size; omega) (by show (herE s (d.lE.take i)).length ≤ _; omega) (fun A3 c3 v3 hW3 f3 hb3 => jnC_mk (hC5 _ _ ⟨fr_ownR fwv hA2 (Nat.le_refl _) f3, i + 1, A3, c3, by omega, ?_, ?_, fun k hk => ?_⟩ hmeas))
        · rw [hst, List.length_append, ei i (by omega)]; rfl
        · rw [hst, List.length_append]; exact hW3
        · rcases hb3 k hk with h' | h'
          · exact hA2 k h'
          · have := fwv.size; omega
      · rw [if_neg (fun h => by rw [ht.2 h] at h0; cases h0)] at hst
        exact jnC_mk (hC5 _ _ ⟨fwv, i + 1, A2, c2, by omega, by rw [hst, ei i (by omega)], by rw [hst]; exact hWv, hA2⟩ hmeas)
    refine ⟨x.s, e_fld hT1 (rec_all r12) (j := 2) rfl, vIf_mk (fun h0 => ?_) (fun h0 => k8 false _ (Fr.refl _ _) ?_)⟩
    · have h0 : x.s = s := by simpa using h0
      refine ⟨cs, hT1.len, rec_all r12, (alive_calls x cs u1 hT1.at (by have := be.at gi; omega)).mono ?_⟩
      rintro r u2 ⟨rfl, f2⟩
      exact ⟨_, rfl, k8 _ u2 f2 ⟨fun h => ⟨h0, h⟩, fun h => h.2⟩⟩
    · have h0 : ¬ x.s = s := by simpa using h0
      exact ⟨fun h => (by cases h), fun h => absurd h.1 h0⟩
  · have hge2 : ¬ (i : Int) < ((d.lE.length : Nat) : Int) := of_decide_eq_false hge
    rw [List.take_of_length_le (by omega)] at hW ⊢
    have hgu := f1.trans1 hf
    have hst := h.fr0 hgu
    have hllE := herE_len s d.lE
    clear hC5
    refine dr_mk ⟨_, hst.rs.cell rfl, (Tg.rowT_calls base d.tb d.R d.nT d.cT d.lT u hst.tg (by omega) bT).mono ?_⟩
    rintro r w2 ⟨f2, A5, c5, rfl, hT⟩
    have hTrt := hT.rt
    have hW2 := hW.fr0 f2
    have hg2 := hgu.trans1 f2
    have hsu := f2.size
    have hl5 : ∀ k, blkOf A2 = some k → k < u.heap.size := fun k hk => (hW.1.blt hk).2
    have hA5 : ∀ k, blkOf A5 = some k → u.heap.size ≤ k ∧ k < w2.heap.size := fun k hk => hT.blt hk
    have hRT2 := hTrt.mono (P' := fun k => u.heap.size ≤ k ∧ k < w2.heap.size) (fun k hk h => ⟨h, hk⟩)
    refine ⟨_, _, _, rfl, jnC_mk (loop_rule (fun t v => Fr (fun _ => False) w v ∧ ∃ (i : Nat) (A3 : Option Addr) (c3 : Nat), i ≤ d.nT ∧ t = (s, (A3, (herE s d.lE ++ herT s (d.lT.take i)).length, c3), (A5, d.nT, c5), ((d.nT : Nat) : Int), (i : Int), ()) ∧ WOw v w.heap.size A3 (herE s d.lE ++ herT s (d.lT.take i)).length c3 (herE s d.lE ++ herT s (d.lT.take i)) ∧ (∀ k, blkOf A3 = some k → w1.heap.size ≤ k ∧ (k < u.heap.size ∨ w2.heap.size ≤ k)) ∧ Tg.RT (fun k => u.heap.size ≤ k ∧ k < w2.heap.size) v A5 d.nT d.lT ∧ w2.heap.size ≤ v.heap.size)
      (fun t _ => (d.nT - t.2.2.2.2.1).toNat) ?_ _ _ ⟨hg2, 0, A2, c2, by omega, by simp [herT], by simpa [herT] using hW2, fun k hk => ⟨hA2 k hk, .inl (hl5 k hk)⟩, hRT2, Nat.le_refl _⟩)⟩
    clear hW2 hRT2 hTrt hT
    rintro t v C11 ⟨fv, i, A3, c3, hi, rfl, hW, hA3, hRT, hwv⟩ hC11 _
    have hllT := herT_len s (d.lT.take i)
    rw [List.length_take] at hllT
    refine vIf_mk (fun hlt => ?_) (fun hge => ?_)
    · have hlt2 : (i : Int) < ((d.nT : Nat) : Int) := of_decide_eq_true hlt
      have gi : d.lT[i]? = some (d.lT[i]'(by omega)) := List.getElem?_eq_getElem (by omega)
      generalize d.lT[i]'(by omega) = x at gi
      have hst := herT_step (s := s) gi
      have hmeas : (((d.nT : Nat) : Int) - IntKind.wrap .i64 ((i : Int) + 1)).toNat < (((d.nT : Nat) : Int) - (i : Int)).toNat := by rw [ei i (by omega)]; omega
      refine Tg.t_rd hRT gi (fun b o cs hA hTn hc => ⟨cs, hTn.len, hc, var_mk Tg.z35 hTn.len hTn.one (fun b41 u1 g1 r41 => ?_)⟩)
      have hT1 := hTn.fr0 g1
      have hW1 := hW.fr0 g1
      have hRT1 := hRT.fr0 g1
      have k14 : ∀ (t : Bool) (v2 : World), Fr (fun _ => False) u1 v2 → (t = true ↔ x.s = s ∧ liveT x = true) → jnC (F12.k14 (fun v w' => Fr (fun _ => False) w w' ∧ ∃ A' c', v = .slice A' (herL s d.lE d.lT).length c' ∧ WOw w' w.heap.size A' (herL s d.lE d.lT).length c' (herL s d.lE d.lT)) C11) (s, (A3, (herE s d.lE ++ herT s (d.lT.take i)).length, c3), (b41, 0), (A5, d.nT, c5), ((d.nT : Nat) : Int), (i : Int), t, ()) v2 := by
        intro t v2 fv2 ht
        have rv := r41.fr fv2 (fun h => h)
        have hTv := hT1.fr0 fv2
        have hWv := hW1.fr0 fv2
        have hRTv := hRT1.fr0 fv2
        have g12 := g1.trans1 fv2
        have fwv : Fr (fun _ => False) w v2 := fv.trans1 g12
        have hs12 := g12.size
        refine jnC_mk (fun _ => vIf_mk (fun h0 => ?_) (fun h0 => ?_))
        · have h0 := ht.1 h0
          rw [if_pos h0] at hst
          refine ⟨cs, hTv.len, rec_all rv, (word_calls x cs v2 hTv).mono ?_⟩
          rintro r v3 ⟨rfl, f3⟩
          have hdl := hTv.dl
          have hWv := hWv.fr0 f3
          have hRTv := hRTv.fr0 f3
          have fwv := fwv.trans1 f3
          have hs3 := f3.size
          have e1 : (herE s d.lE ++ (herT s (d.lT.take i) ++ [wdT x])).length = (herE s d.lE ++ herT s (d.lT.take i)).length + 1 := by simp only [List.length_append, List.length_cons, List.length_nil]; omega
          have hlen : (herE s d.lE ++ herT s (d.lT.take i)).length ≤ 1073741824 := by rw [List.length_append]; omega
          refine ⟨_, rfl, gd_mk (by rw [wd_len (x := wdT x) hdl]; rfl) (push_w (x := wdT x) hWv hdl (by have := fwv.size; omega) hlen (fun A4 c4 v4 hW4 f4 hb4 => jnC_mk (hC11 _ _ ⟨fr_ownR fwv (fun k hk => (hA3 k hk).1) hs1 f4, i + 1, A4, c4, by omega, ?_, ?_, fun k hk => ?_, ?_, by have := f4.size; omega⟩ hmeas)))⟩
          · rw [hst, e1, ei i (by omega)]
          · rw [hst, e1, ← List.append_assoc]; exact hW4
          · rcases hb4 k hk with h' | h'
            · exact hA3 k h'
            · exact ⟨by have := hf.size; omega, .inr (by omega)⟩
          · exact hRTv.fr f4 (fun k hk h' => by have := (hA3 k h').2; omega) (fun _ k hk h' => by have h1 := hA5 k hk; have h2 := (hA3 k h').2; omega)
        · rw [if_neg (fun h => by rw [ht.2 h] at h0; cases h0)] at hst
          exact jnC_mk (hC11 _ _ ⟨fwv, i + 1, A3, c3, by omega, by rw [hst, ei i (by omega)], by rw [hst]; exact hWv, hA3, hRTv, by omega⟩ hmeas)
      refine ⟨x.s, t_fld hT1 (rec_all r41) (j := 1) rfl, vIf_mk (fun h0 => ?_) (fun h0 => k14 false _ (Fr.refl _ _) ?_)⟩
      · have h0 : x.s = s := by simpa using h0
        refine ⟨cs, hT1.len, rec_all r41, (Tg.aliveT_calls x cs u1 hT1.at (by have := bT.at gi; omega)).mono ?_⟩
        rintro r u2 ⟨rfl, f2'⟩
        exact ⟨_, rfl, k14 _ u2 f2' ⟨fun h => ⟨h0, h⟩, fun h => h.2⟩⟩
      · have h0 : ¬ x.s = s := by simpa using h0
        exact ⟨fun h => (by cases h), fun h => absurd h.1 h0⟩
    · have hge2 : ¬ (i : Int) < ((d.nT : Nat) : Int) := of_decide_eq_false hge
      rw [List.take_of_length_le (by omega)] at hW ⊢
      have hll : (herE s d.lE ++ herT s d.lT).length ≤ 1000000000 := by rw [List.length_append]; have := herT_len s d.lT; omega
      refine (sortW_calls w.heap.size A3 _ c3 _ v hW hll).mono ?_
      rintro r v2 ⟨rfl, f2', hW2⟩
      have e : stab cmpO (herE s d.lE ++ herT s d.lT) = herL s d.lE d.lT := rfl
      have el : (herE s d.lE ++ herT s d.lT).length = (herL s d.lE d.lT).length := by rw [← e, stab_len]
      rw [e, el] at hW2
      refine ⟨rfl, fr_ownR fv (fun k hk => (hA3 k hk).1) hs1 f2', A3, c3, ?_, hW2⟩
      dsimp only
      rw [el]
end Go.Proofs.YthcclmlbkfadcaaGreat
/- chapter 22: Loads, Snapshot -/
namespace Go.Proofs.YthcclmlbkfadcaaGreat
open Go.GV Go.RowKit Go.Lib Go.Stb
open Tg (Tn liveT)
set_option linter.unusedVariables false
set_option linter.unusedSimpArgs false
theorem flt_put1 {β : Type} {enc : β → List Value} {sz : Nat} (h : EncO β enc sz) {l : List β} {i k : Nat} {x y : β} {v : Value} (hx : l[i]? = some x) (hk : k < sz) (hv : splice (enc x) k [v] = enc y) : splice (flt enc l) (i * sz + k) [v] = flt enc (l.set i y) := by
  have hi := (List.getElem?_eq_some_iff.1 hx).1
  have hA : (flt enc (l.take i)).length = i * sz := by rw [h.fl, List.length_take, Nat.min_eq_left (by omega)]
  have hX := h.len x
  have e1 : flt enc l = flt enc (l.take i) ++ (enc x ++ flt enc (l.drop (i + 1))) := by
    conv => lhs; rw [← List.take_append_drop i l, drop_at hx]
    rw [flt_app, flt_cons]
  have e2 : flt enc (l.set i y) = flt enc (l.take i) ++ (enc y ++ flt enc (l.drop (i + 1))) := by
    rw [List.set_eq_take_append_cons_drop, if_pos hi, flt_app, flt_cons]
  rw [e1, e2, ← hv]
  unfold splice
  have t1 : (flt enc (l.take i) ++ (enc x ++ flt enc (l.drop (i + 1)))).take (i * sz + k) = flt enc (l.take i) ++ (enc x).take k := by
    rw [← hA, List.take_length_add_append, List.take_append_of_le_length (by omega)]
  have t2 : (flt enc (l.take i) ++ (enc x ++ flt enc (l.drop (i + 1)))).drop (i * sz + k + [v].length) = (enc x).drop (k + [v].length) ++ flt enc (l.drop (i + 1)) := by
    rw [← hA, Nat.add_assoc, List.drop_length_add_append, List.drop_append_of_le_length (by rw [List.length_singleton]; omega)]
  rw [t1, t2]
  simp only [List.append_assoc]
/-- a variable that takes a word -/
theorem wd_var {w : World} {cs : List Value} {K : Nat → World → Prop} (hl : cs.length = 39) (ho : ∀ v ∈ cs, v.oneCell' = true) (hK : ∀ b w', Fr (fun _ => False) w w' → w.heap.size ≤ b → RecAt w' b 37 cs → K b w') :
    nw w Z37 37 fun b w1 => gd (cs.length == 39) (st w1 b 0 cs fun w2 => K b w2) := by
  refine nw_mk (gd_mk (by rw [hl]; rfl) ?_)
  have f1 : Fr (fun _ => False) w (w.alloc (.cells Z37.toArray 37)) := Fr.alloc _ _ _
  refine (RecAt.new w Z37 37).st_mk (o := 0) (by rw [hl]; exact Nat.le_refl _) ho (fun r2 f2 => hK _ _ (f1.trans f2 (fun _ _ h => h) (fun k hk h => by omega)) (Nat.le_refl _) ?_)
  rw [splice_full (by rw [hl]; rfl)] at r2
  exact r2
theorem herL_len (s : Int) (lE : List En) (lT : List Tn) : (herL s lE lT).length ≤ lE.length + lT.length := by
  have h1 := herE_len s lE
  have h2 := herT_len s lT
  unfold herL
  rw [stab_len, List.length_append]; omega
theorem loadsL_len (lE : List En) (lT : List Tn) (lL : List Lo) : (loadsL lE lT lL).length = lL.length := by simp [loadsL]
set_option maxHeartbeats 1000000 in
theorem loadsS_calls {w : World} {base sb : Nat} {d : SD} (h : Sta w base sb d) (hb : SB 50000000 d) :
    Calls Tryz.prog 36 #[.pointer (some ⟨sb, 0, none⟩)] w fun e w' => Fr (fun _ => False) w w' ∧ ∃ A' c', e = .returned (.slice A' d.nL c') ∧ Row w' w.heap.size 98 3 A' d.nL c' (flt encL (loadsL d.lE d.lT d.lL)) := by
  refine (F36.of (some ⟨sb, 0, none⟩) w (Q := fun v w' => Fr (fun _ => False) w w' ∧ ∃ A' c', v = .slice A' d.nL c' ∧ Row w' w.heap.size 98 3 A' d.nL c' (flt encL (loadsL d.lE d.lT d.lL))) ?_).mono (fun e w' ⟨v, he, hf, A', c', hv, h⟩ => ⟨hf, A', c', by rw [he, hv], h⟩)
  have hll := h.ll
  have bl := hb.ll
  refine vIf_f rfl (dr_mk ⟨_, _, _, h.rs.cell rfl, (ClnLd.clone_calls d.L d.nL d.cL _ w h.ld.sl (encL_o.fo _) (by omega)).mono ?_⟩)
  rintro r w1 ⟨f1, A1, c1, rfl, h1⟩
  have hA1 : ∀ k, blkOf A1 = some k → w.heap.size ≤ k := fun k hk => (h1.blt hk).1
  refine ⟨_, _, _, rfl, jnC_mk (loop_rule (fun t u => Fr (fun _ => False) w u ∧ ∃ i : Nat, i ≤ d.nL ∧ t = (some ⟨sb, 0, none⟩, (A1, d.nL, c1), ((d.nL : Nat) : Int), (i : Int), ()) ∧ Row u w.heap.size 98 3 A1 d.nL c1 (flt encL (loadsL d.lE d.lT (d.lL.take i) ++ d.lL.drop i)))
    (fun t _ => (d.nL - t.2.2.2.1).toNat) ?_ _ _ ⟨f1, 0, by omega, rfl, by simpa [loadsL] using h1⟩)⟩
  rintro t u C5 ⟨hf, i, hi, rfl, hr⟩ hC5 _
  refine vIf_mk (fun hlt => ?_) (fun hge => ?_)
  · have hlt2 : (i : Int) < ((d.nL : Nat) : Int) := of_decide_eq_true hlt
    have gi : d.lL[i]? = some (d.lL[i]'(by omega)) := List.getElem?_eq_getElem (by omega)
    generalize d.lL[i]'(by omega) = x at gi
    have hxz : x.v = 0 := h.lz x (List.mem_of_getElem? gi)
    have hdl : (loadsL d.lE d.lT (d.lL.take i)).length = i := by rw [loadsL_len, List.length_take]; omega
    have hdr := drop_at gi
    have hnext : loadsL d.lE d.lT (d.lL.take (i + 1)) = loadsL d.lE d.lT (d.lL.take i) ++ [⟨x.s, x.a, sumQ (herL x.s d.lE d.lT)⟩] := by
      unfold loadsL
      rw [List.take_add_one, gi, Option.toList_some, List.map_append]; rfl
    rw [hdr] at hr
    generalize loadsL d.lE d.lT (d.lL.take i) = P at hr hdl hnext
    have hPl : (P ++ x :: d.lL.drop (i + 1)).length = d.nL := by simp only [List.length_append, List.length_cons, List.length_drop]; omega
    refine l_rdS hr.sl hPl (get_mid (by omega)) rfl ((hereS_calls (h.fr0 hf) x.s hb).mono ?_)
    rintro r u2 ⟨f2, A2, c2, rfl, hW⟩
    have hxx : x = ⟨x.s, x.a, sumQ ((herL x.s d.lE d.lT).take 0)⟩ := by
      show x = ⟨x.s, x.a, 0⟩
      rw [← hxz]
    have hr2 := f2.row hr (fun _ _ h => h)
    have hHl : (herL x.s d.lE d.lT).length ≤ 1000000000 := by
      have h1 := herL_len x.s d.lE d.lT
      have := hb.el
      have := hb.tl
      omega
    generalize hH : herL x.s d.lE d.lT = H at hW hnext hxx hHl ⊢
    rw [hxx] at hr2
    have hWs := hW.sl
    have hdis : ∀ k, blkOf A1 = some k → k < u.heap.size := fun k hk => (hr.blt hk).2
    have hA2 : ∀ k, blkOf A2 = some k → u.heap.size ≤ k := fun k hk => (hW.1.blt hk).1
    refine ⟨_, _, _, rfl, jnC_mk (loop_rule (fun t v => Fr (fun _ => False) w v ∧ WSl v A2 H.length H ∧ ∃ j : Nat, j ≤ H.length ∧ t = (some ⟨sb, 0, none⟩, (A1, d.nL, c1), (i : Int), ((d.nL : Nat) : Int), (i : Int), (A2, H.length, c2), ((H.length : Nat) : Int), (j : Int), ()) ∧ Row v w.heap.size 98 3 A1 d.nL c1 (flt encL (P ++ ⟨x.s, x.a, sumQ (H.take j)⟩ :: d.lL.drop (i + 1))))
      (fun t _ => (H.length - t.2.2.2.2.2.2.2.1).toNat) ?_ _ _ ⟨hf.trans1 f2, hWs, 0, by omega, rfl, hr2⟩)⟩
    rintro t v C8 ⟨fv, hWv, j, hj, rfl, hrv⟩ hC8 _
    refine vIf_mk (fun hlt => ?_) (fun hge => ?_)
    · have hlt3 : (j : Int) < ((H.length : Nat) : Int) := of_decide_eq_true hlt
      have gj : H[j]? = some (H[j]'(by omega)) := List.getElem?_eq_getElem (by omega)
      generalize H[j]'(by omega) = y at gj
      have hy := hWv.2.2 y (List.mem_of_getElem? gj)
      have hyl := wd_len hy
      have hst := sumQ_step gj
      refine w_rd hWv gj rfl (fun b o hc => ⟨y.cs, hyl, hc, wd_var hyl (wd_ones y) (fun b22 v1 g1 hb22 r22 => ?_)⟩)
      have gd1 := g1.trans1 (Fr.drew _ v1)
      have hrd := gd1.row hrv (fun _ _ h => h)
      have r22d := r22.fr (Fr.drew (fun _ => False) v1) (fun h => h)
      have fvd := fv.trans1 gd1
      have hPl2 : ∀ z : Lo, (P ++ z :: d.lL.drop (i + 1)).length = d.nL := fun z => by simp only [List.length_append, List.length_cons, List.length_drop]; omega
      refine el_rd (enc := encL) hrd.sl (fun _ _ => rfl) (get_mid (i := i) (by omega)) rfl (hPl2 _) (fun b2 o2 hA2' hc2 => ⟨sumQ (H.take j), hc2 2 _ rfl, y.q, wd_fld r22d hy (j := 4) rfl rfl, ?_⟩)
      have hpt := row_putG (o' := i * 3 + 2) (us := [Value.int .i64 (IntKind.wrap .i64 (sumQ (H.take j) + y.q))]) (K := fun w' => jnC C8 (some ⟨sb, 0, none⟩, (A1, d.nL, c1), (i : Int), ((d.nL : Nat) : Int), (i : Int), (A2, H.length, c2), ((H.length : Nat) : Int), IntKind.wrap .i64 ((j : Int) + 1), ()) w') hrd (by omega) (by simp; omega) (by simp; rfl) (fun w6 hr6 f6 => jnC_mk (hC8 _ _ ⟨?_, ?_, j + 1, by omega, by rw [ei j (by omega)], ?_⟩ ?_))
      · rw [dr_iff] at hpt
        obtain ⟨b3, o3, hA3, hpt⟩ := hpt
        rw [hA3] at hA2' ⊢
        refine dr_mk (gd_mk (decide_eq_true (by show (0 : Int) ≤ (i : Int); omega)) (gd_mk (decide_eq_true (by show (i : Int) < ((d.nL : Nat) : Int); omega)) ?_))
        dsimp only
        rw [Int.toNat_natCast, ← hA3, Nat.add_assoc]
        exact hpt
      · exact fr_ownR fvd hA1 (Nat.le_refl _) f6
      · exact ⟨f6.sl (gd1.sl hWv.1 (fun _ _ _ h => h)) (fun _ k hk h' => by have := hdis k h'; have := hA2 k hk; omega), hWv.2⟩
      · rw [flt_put1 encL_o (get_mid (by omega)) (by omega) (y := ⟨x.s, x.a, IntKind.wrap .i64 (sumQ (H.take j) + y.q)⟩) rfl, set_mid (by omega)] at hr6
        rw [hst]; exact hr6
      · show (((H.length : Nat) : Int) - IntKind.wrap .i64 ((j : Int) + 1)).toNat < (((H.length : Nat) : Int) - (j : Int)).toNat
        rw [ei j (by omega)]; omega
    · have hge3 : ¬ (j : Int) < ((H.length : Nat) : Int) := of_decide_eq_false hge
      have hjl : j = H.length := by omega
      subst hjl
      rw [List.take_length] at hrv
      refine jnC_mk (hC5 _ _ ⟨fv, i + 1, by omega, by rw [ei i (by omega)], ?_⟩ ?_)
      · rw [hnext, List.append_assoc]; exact hrv
      · show (((d.nL : Nat) : Int) - IntKind.wrap .i64 ((i : Int) + 1)).toNat < (((d.nL : Nat) : Int) - (i : Int)).toNat
        rw [ei i (by omega)]; omega
  · have hge2 : ¬ (i : Int) < ((d.nL : Nat) : Int) := of_decide_eq_false hge
    have hin : i = d.nL := by omega
    rw [List.take_of_length_le (by omega), List.drop_of_length_le (by omega), List.append_nil] at hr
    exact ⟨hf, A1, c1, rfl, hr⟩
/-- a snapshot that a state gave: rows of its own -/
def SnO (w : World) (B : Nat) (cs : List Value) (E : List En) (T : List Tn) (Ls : List Lo) : Prop := ∃ (A : Option Addr) (c : Nat) (A' : Option Addr) (n' c' : Nat) (A'' : Option Addr) (n'' c'' : Nat),
  cs = [.int .i64 0, .int .i64 0, .int .i64 0, .int .u64 0, .slice A E.length c, .slice A' n' c', .slice A'' n'' c''] ∧ RE (fun k => B ≤ k) w A E.length E ∧ Tg.RT (fun k => B ≤ k) w A' n' T ∧ Sl w 3 A'' n'' (flt encL Ls) ∧ Ls.length = n''
theorem SnO.fr0 {w w' : World} {B : Nat} {cs : List Value} {E : List En} {T : List Tn} {Ls : List Lo} (h : SnO w B cs E T Ls) (f : Fr (fun _ => False) w w') : SnO w' B cs E T Ls := by
  obtain ⟨A, c, A', n', c', A'', n'', c'', e, h1, h2, h3, h4⟩ := h
  exact ⟨A, c, A', n', c', A'', n'', c'', e, h1.fr0 f, h2.fr0 f, f.sl h3 (fun _ _ _ h => h), h4⟩
theorem SnO.len {w : World} {B : Nat} {cs : List Value} {E : List En} {T : List Tn} {Ls : List Lo} (h : SnO w B cs E T Ls) : cs.length = 7 := by
  obtain ⟨A, c, A', n', c', A'', n'', c'', e, _⟩ := h
  rw [e]; rfl
/-- .. in blocks of P -/
def SnB (P : Nat → Prop) (w : World) (cs : List Value) (E : List En) (T : List Tn) (Ls : List Lo) : Prop := ∃ (A : Option Addr) (c : Nat) (A' : Option Addr) (n' c' : Nat) (A'' : Option Addr) (n'' c'' : Nat),
  cs = [.int .i64 0, .int .i64 0, .int .i64 0, .int .u64 0, .slice A E.length c, .slice A' n' c', .slice A'' n'' c''] ∧ RE P w A E.length E ∧ Tg.RT P w A' n' T ∧ Sl w 3 A'' n'' (flt encL Ls) ∧ Ls.length = n'' ∧
  (E.length ≠ 0 → ∀ k, blkOf A = some k → P k) ∧ (n' ≠ 0 → ∀ k, blkOf A' = some k → P k) ∧ (n'' ≠ 0 → ∀ k, blkOf A'' = some k → P k)
theorem SnB.out {B : Nat} {w : World} {cs : List Value} {E : List En} {T : List Tn} {Ls : List Lo} (h : SnB (fun k => B ≤ k) w cs E T Ls) : SnO w B cs E T Ls := by
  obtain ⟨A, c, A', n', c', A'', n'', c'', e, h1, h2, h3, h4, _⟩ := h
  exact ⟨A, c, A', n', c', A'', n'', c'', e, h1, h2, h3, h4⟩
theorem SnB.mono {P P' : Nat → Prop} {w : World} {cs : List Value} {E : List En} {T : List Tn} {Ls : List Lo} (h : SnB P w cs E T Ls) (hP : ∀ k, k < w.heap.size → P k → P' k) : SnB P' w cs E T Ls := by
  obtain ⟨A, c, A', n', c', A'', n'', c'', e, h1, h2, h3, h4, h5, h6, h7⟩ := h
  refine ⟨A, c, A', n', c', A'', n'', c'', e, h1.mono hP, h2.mono hP, h3, h4, fun h0 k hk => hP k ?_ (h5 h0 k hk), fun h0 k hk => hP k ?_ (h6 h0 k hk), fun h0 k hk => hP k (h3.blt (by decide) h0 hk) (h7 h0 k hk)⟩
  · obtain ⟨vs, q1, _⟩ := h1
    exact q1.blt (by decide) h0 hk
  · obtain ⟨vs, q1, _⟩ := h2
    exact q1.blt (by decide) h0 hk
theorem SnB.fr {P D : Nat → Prop} {w w' : World} {cs : List Value} {E : List En} {T : List Tn} {Ls : List Lo} (h : SnB P w cs E T Ls) (f : Fr D w w') (hD : ∀ k, P k → k < w.heap.size → ¬ D k) : SnB P w' cs E T Ls := by
  obtain ⟨A, c, A', n', c', A'', n'', c'', e, h1, h2, h3, h4, h5, h6, h7⟩ := h
  refine ⟨A, c, A', n', c', A'', n'', c'', e, ?_, ?_, f.sl h3 (fun h0 k hk => hD k (h7 h0 k hk) (h3.blt (by decide) h0 hk)), h4, h5, h6, h7⟩
  · have q := h1.mono (P' := fun k => P k ∧ k < w.heap.size) (fun k hk h => ⟨h, hk⟩)
    refine (q.fr f (fun k hk => hD k hk.1 hk.2) (fun h0 k hk => hD k (h5 h0 k hk) ?_)).mono (fun k _ h => h.1)
    obtain ⟨vs, q1, _⟩ := h1
    exact q1.blt (by decide) h0 hk
  · have q := h2.mono (P' := fun k => P k ∧ k < w.heap.size) (fun k hk h => ⟨h, hk⟩)
    refine (q.fr f (fun k hk => hD k hk.1 hk.2) (fun h0 k hk => hD k (h6 h0 k hk) ?_)).mono (fun k _ h => h.1)
    obtain ⟨vs, q1, _⟩ := h2
    exact q1.blt (by decide) h0 hk
end Go.Proofs.YthcclmlbkfadcaaGreat
/- chapter 22: the document's load, in, put; SameLoads, Words -/
namespace Go.Proofs.YthcclmlbkfadcaaGreat
open Go.GV Go.RowKit Go.Lib Go.Stb
open Tg (Tn liveT)
set_option linter.unusedVariables false
set_option linter.unusedSimpArgs false
def LOw (w : World) (B : Nat) (A : Option Addr) (n c : Nat) (l : List Lo) : Prop := Row w B 98 3 A n c (flt encL l) ∧ l.length = n
theorem LOw.fr0 {w w' : World} {B : Nat} {A : Option Addr} {n c : Nat} {l : List Lo} (h : LOw w B A n c l) (f : Fr (fun _ => False) w w') : LOw w' B A n c l := ⟨f.row h.1 (fun _ _ h => h), h.2⟩
theorem push_l {w : World} {B : Nat} {A : Option Addr} {n c : Nat} {out : List Lo} {x : Lo} {K : Option Addr → Nat → Nat → World → Prop} (hr : LOw w B A n c out) (hB : B ≤ w.heap.size) (hn : n ≤ 1073741824)
    (hK : ∀ A' c' w', LOw w' B A' (n + 1) c' (out ++ [x]) → Fr (fun k => blkOf A = some k) w w' → (∀ k, blkOf A' = some k → blkOf A = some k ∨ w.heap.size ≤ k) → K A' (n + 1) c' w') : nw w (encL x ++ []) 98 fun b w' => app w' 3 24 [Value.int .i64 0, Value.int .i64 0, Value.int .i64 0] 98 A n c (.slice (some ⟨b, 0, none⟩) 1 1) K := by
  refine nw_mk ?_
  rw [List.append_nil]
  have f1 : Fr (fun _ => False) w (w.alloc (.cells (encL x).toArray 98)) := Fr.alloc _ _ _
  have r1 : Row (w.alloc (.cells (encL x).toArray 98)) 0 98 3 (some ⟨w.heap.size, 0, none⟩) 1 1 (encL x) := Row.new (Nat.zero_le _) rfl
  have hs : (w.alloc (.cells (encL x).toArray 98)).heap.size = w.heap.size + 1 := alloc_size _ _
  generalize w.alloc (.cells (encL x).toArray 98) = w1 at f1 r1 hs ⊢
  refine app_row2 (hr.fr0 f1).1 r1.sl.src (encL_o.one x) rfl (by omega) (by omega) (by omega) (fun A' c' w' hr' f' hb' => hK A' c' w' ⟨?_, by rw [List.length_append, hr.2]; rfl⟩ ?_ (fun k hk => (hb' k hk).imp id (fun h => by omega)))
  · rw [flt_app, flt_one]; exact hr'
  · exact f1.trans f' (fun _ _ h => h.elim) (fun _ _ h => h)
theorem loS_len (s n : Int) (p : Bool) : ∀ (l : List Lo) (st : List Lo × Bool), (l.foldl (loS s n p) st).1.length ≤ st.1.length + 2 * l.length
  | [], st => by simp
  | y :: r, st => by
    have ih := loS_len s n p r (loS s n p st y)
    have h1 : (loS s n p st y).1.length ≤ st.1.length + 2 := by
      unfold loS
      split
      · split <;> simp
      · split <;> simp
    rw [List.foldl_cons, List.length_cons]
    omega
set_option maxHeartbeats 2000000 in
theorem rload_calls (A : Option Addr) (m c : Nat) (l : List Lo) (s n : Int) (p : Bool) (w : World) (h : Sl w 3 A m (flt encL l)) (hl : l.length = m) (ha : AscL l) (hn : wr n = n) (hm : m ≤ 500000000) :
    Calls Tryz.prog 57 #[.slice A m c, .int .i64 s, .int .i64 n, .bool p] w fun e w' => Fr (fun _ => False) w w' ∧ ∃ A' c', e = .returned (.slice A' (setL s (newA s n p l) l).length c') ∧ LOw w' w.heap.size A' (setL s (newA s n p l) l).length c' (setL s (newA s n p l) l) := by
  refine (F57.of A m c s n p w (Q := fun v w' => Fr (fun _ => False) w w' ∧ ∃ A' c', v = .slice A' (setL s (newA s n p l) l).length c' ∧ LOw w' w.heap.size A' (setL s (newA s n p l) l).length c' (setL s (newA s n p l) l)) ?_).mono (fun e w' ⟨v, he, hf, A', c', hv, h⟩ => ⟨hf, A', c', by rw [he, hv], h⟩)
  have hfold : ∀ i, ((l.take i).foldl (loS s n p) ([], false)).1.length ≤ 2 * i := fun i => by
    have := loS_len s n p (l.take i) ([], false)
    rw [List.length_take] at this
    simp only [List.length_nil] at this
    omega
  refine jnC_mk (loop_rule (fun t u => Fr (fun _ => False) w u ∧ ∃ (i : Nat) (A' : Option Addr) (c' : Nat), i ≤ m ∧ t = ((A, m, c), s, n, p, (A', ((l.take i).foldl (loS s n p) ([], false)).1.length, c'), ((l.take i).foldl (loS s n p) ([], false)).2, (i : Int), ()) ∧ LOw u w.heap.size A' ((l.take i).foldl (loS s n p) ([], false)).1.length c' ((l.take i).foldl (loS s n p) ([], false)).1) (fun t _ => (m - t.2.2.2.2.2.2.1).toNat) ?_ _ _ ⟨Fr.refl _ _, 0, none, 0, by omega, rfl, Row.nil _ _ _ _, rfl⟩)
  rintro t u C ⟨hf, i, A', c', hi, rfl, hr⟩ hC _
  have hfi := hfold i
  have hBu := hf.size
  have hsl := fun (v : World) (f : Fr (fun _ => False) w v) => f.sl h (fun _ _ _ h => h)
  refine vIf_mk (fun hlt => ?_) (fun hge => ?_)
  · have hlt2 : (i : Int) < (m : Int) := of_decide_eq_true hlt
    have gi : l[i]? = some (l[i]'(by omega)) := List.getElem?_eq_getElem (by omega)
    generalize l[i]'(by omega) = y at gi
    have hst : (l.take (i + 1)).foldl (loS s n p) ([], false) = loS s n p ((l.take i).foldl (loS s n p) ([], false)) y := by
      rw [List.take_add_one, gi, Option.toList_some, List.foldl_append]; rfl
    generalize hS : (l.take i).foldl (loS s n p) ([], false) = S at hst hr hfi ⊢
    have hmeas : ((m : Int) - IntKind.wrap .i64 ((i : Int) + 1)).toNat < ((m : Int) - (i : Int)).toNat := by rw [ei i (by omega)]; omega
    -- behind the first push
    have k9 : ∀ (v : World) (A2 : Option Addr) (c2 : Nat) (S1 : List Lo × Bool), Fr (fun _ => False) w v → (S1 = if S.2 = false ∧ s < y.s then (S.1 ++ [⟨s, n, 0⟩], true) else S) → S1.1.length ≤ 2 * i + 1 → LOw v w.heap.size A2 S1.1.length c2 S1.1 →
        F57.k9 (fun v w' => Fr (fun _ => False) w w' ∧ ∃ A' c', v = .slice A' (setL s (newA s n p l) l).length c' ∧ LOw w' w.heap.size A' (setL s (newA s n p l) l).length c' (setL s (newA s n p l) l)) C ((A, m, c), s, n, p, (A2, S1.1.length, c2), S1.2, (i : Int), ()) v := by
      intro v A2 c2 S1 fv hS1 hlen hrv _
      refine l_rd (hsl v fv) hl gi rfl (lo_var (fun b13 v1 g1 hb13 r13 => ⟨y.s, r13.cell rfl, ?_⟩))
      have hrv1 := hrv.fr0 g1
      have fv1 := fv.trans1 g1
      have hA2b : ∀ k, blkOf A2 = some k → k ≠ b13 := fun k hk => by have := (hrv.1.blt hk).2; omega
      have hwb : w.heap.size ≤ b13 := by have := fv.size; omega
      refine vIf_mk (fun he => ?_) (fun hne => ?_)
      · have he : y.s = s := by simpa using he
        have hlo : loS s n p S y = (S1.1 ++ [⟨y.s, wr ((if p then 0 else y.a) + n), y.v⟩], true) := by unfold loS; rw [if_pos he, hS1]
        rw [hlo] at hst
        have k13 : ∀ (v2 : World) (a0 : Int), Fr (fun _ => False) w v2 → LOw v2 w.heap.size A2 S1.1.length c2 S1.1 → RecAt v2 b13 98 (encL ⟨y.s, a0, y.v⟩) → a0 = (if p then 0 else y.a) → v2.heap.size = v1.heap.size →
            F57.k13 (fun v w' => Fr (fun _ => False) w w' ∧ ∃ A' c', v = .slice A' (setL s (newA s n p l) l).length c' ∧ LOw w' w.heap.size A' (setL s (newA s n p l) l).length c' (setL s (newA s n p l) l)) C ((A, m, c), s, n, p, (A2, S1.1.length, c2), (i : Int), (b13, 0), ()) v2 := by
          intro v2 a0 fv2 hrv2 r2 ha0 hsz _
          refine ⟨a0, r2.cell rfl, r2.st_mk (o := 0 + 1) (by show 0 + 1 + 1 ≤ 3; omega) (fun v hv => by simp at hv; subst hv; rfl) (fun r3 f3 => ?_)⟩
          have r3 : RecAt _ b13 98 (encL ⟨y.s, IntKind.wrap .i64 (a0 + n), y.v⟩) := r3
          generalize stB v2 b13 (0 + 1) [Value.int .i64 (IntKind.wrap .i64 (a0 + n))] = v3 at r3 f3 ⊢
          have fv3 := fr_own fv2 f3 hwb
          have hrv3 : LOw v3 w.heap.size A2 S1.1.length c2 S1.1 := ⟨f3.row hrv2.1 (fun k hk h => hA2b k hk h), hrv2.2⟩
          refine ⟨_, rfl, rec_all r3, gd_mk rfl (push_l hrv3 (by have := fv3.size; omega) (by show S1.1.length ≤ _; omega) (fun A3 c3 w3 hr3 f4 _ => jnC_mk (hC _ _ ⟨?_, i + 1, A3, c3, by omega, ?_, ?_⟩ hmeas)))⟩
          · exact fr_ownR fv3 (fun q hq => (hrv3.1.blt hq).1) (Nat.le_refl _) f4
          · rw [hst, ei i (by omega), List.length_append]; rfl
          · rw [hst, List.length_append, ← ha0]; exact hr3
        refine vIf_mk (fun hp => ?_) (fun hp => jnC_mk (k13 v1 y.a fv1 hrv1 r13 (by rw [if_neg (by rw [show p = false from hp]; decide)]) rfl))
        refine r13.st_mk (o := 0 + 1) (by show 0 + 1 + 1 ≤ 3; omega) (fun v hv => by simp at hv; subst hv; rfl) (fun r3 f3 => jnC_mk (k13 _ 0 (fr_own fv1 f3 hwb) ⟨f3.row hrv1.1 (fun k hk h => hA2b k hk h), hrv1.2⟩ r3 (by rw [if_pos (show p = true from hp)]) (by simp [stB])))
      · have hne : ¬ y.s = s := by simpa using hne
        have hlo : loS s n p S y = (S1.1 ++ [y], S1.2) := by unfold loS; rw [if_neg hne, hS1]
        rw [hlo] at hst
        refine ⟨encL y, rfl, rec_all r13, gd_mk rfl (push_l hrv1 (by have := fv1.size; omega) (by show S1.1.length ≤ _; omega) (fun A3 c3 w3 hr3 f3 _ => jnC_mk (hC _ _ ⟨?_, i + 1, A3, c3, by omega, ?_, ?_⟩ hmeas)))⟩
        · exact fr_ownR fv1 (fun q hq => (hrv1.1.blt hq).1) (Nat.le_refl _) f3
        · rw [hst, ei i (by omega), List.length_append]; rfl
        · rw [hst, List.length_append]; exact hr3
    refine vIf_mk (fun hin => ?_) (fun hin => ?_)
    · have hin : S.2 = false := by simpa using hin
      refine l_rdS (hsl u hf) hl gi rfl (jnC_mk (fun _ => ?_))
      refine vIf_mk (fun hlt' => ?_) (fun hnlt => ?_)
      · have hlt' : s < y.s := by have := of_decide_eq_true hlt'; omega
        refine gd_mk rfl (push_l (x := ⟨s, n, 0⟩) hr (by omega) (by show S.1.length ≤ _; omega) (fun A3 c3 w3 hr3 f3 _ => jnC_mk ?_))
        have := k9 w3 A3 c3 (S.1 ++ [⟨s, n, 0⟩], true) (fr_ownR hf (fun q hq => (hr.1.blt hq).1) (Nat.le_refl _) f3) (by rw [if_pos ⟨hin, hlt'⟩]) (by rw [List.length_append]; simp; omega) (by rw [List.length_append]; exact hr3)
        rw [List.length_append] at this
        exact this
      · have hnlt : ¬ s < y.s := by have := of_decide_eq_false hnlt; omega
        exact jnC_mk (k9 _ A' c' S hf (by rw [if_neg (fun h => hnlt h.2)]) (by omega) hr)
    · have hin : S.2 = true := by simpa using hin
      exact jnC_mk (fun _ => vIf_f rfl (jnC_mk (k9 _ A' c' S hf (by rw [if_neg (fun h => by rw [hin] at h; cases h.1)]) (by omega) hr)))
  · have hge2 : ¬ (i : Int) < (m : Int) := of_decide_eq_false hge
    have hin : i = m := by omega
    subst hin
    have hput := loS_fold s n p hn l [] ha
    rw [List.take_of_length_le (by omega)] at hr hfi ⊢
    generalize l.foldl (loS s n p) ([], false) = S at hput hr hfi ⊢
    rw [List.nil_append] at hput
    refine vIf_mk (fun hin => ?_) (fun hin => ?_)
    · have hin : S.2 = false := by simpa using hin
      have e : setL s (newA s n p l) l = S.1 ++ [⟨s, n, 0⟩] := by rw [← hput]; unfold loE; rw [if_neg (by rw [hin]; decide)]
      refine gd_mk rfl (push_l (x := ⟨s, n, 0⟩) hr (by omega) (by show S.1.length ≤ _; omega) (fun A3 c3 w3 hr3 f3 _ => ⟨?_, A3, c3, ?_, ?_⟩))
      · exact fr_ownR hf (fun q hq => (hr.1.blt hq).1) (Nat.le_refl _) f3
      · rw [e, List.length_append]; rfl
      · rw [e, List.length_append]; exact hr3
    · have hin : S.2 = true := by simpa using hin
      have e : setL s (newA s n p l) l = S.1 := by rw [← hput]; unfold loE; rw [if_pos hin]
      rw [e]
      exact ⟨hf, A', c', rfl, hr⟩
/-! ### rows held against each other -/
end Go.Proofs.YthcclmlbkfadcaaGreat
/- chapter 22: the document's put and Here; Words -/
namespace Go.Proofs.YthcclmlbkfadcaaGreat
open Go.GV Go.RowKit Go.Lib Go.Stb
open Tg (Tn liveT)
set_option linter.unusedVariables false
set_option linter.unusedSimpArgs false
/-! ### words held against each other -/
/-! ### put -/
def wS (x : Wd) (st : List Wd × Bool) (y : Wd) : List Wd × Bool :=
  ((if st.2 = false ∧ x.o < y.o then (st.1 ++ [x], true) else st).1 ++ [y], (if st.2 = false ∧ x.o < y.o then (st.1 ++ [x], true) else st).2)
def wE (x : Wd) (st : List Wd × Bool) : List Wd := if st.2 = true then st.1 else st.1 ++ [x]
end Go.Proofs.YthcclmlbkfadcaaGreat
/- chapter 22: the document's Here, Loads, Is -/
namespace Go.Proofs.YthcclmlbkfadcaaGreat
open Go.GV Go.RowKit Go.Lib Go.Stb
open Tg (Tn liveT)
set_option linter.unusedVariables false
set_option linter.unusedSimpArgs false
/-- the document's state, as it lies, off the blocks D -/
def RSt (D : Nat → Prop) (w : World) (cs : List Value) (E : List En) (T : List Tn) (Ls : List Lo) : Prop := ∃ (A : Option Addr) (n c : Nat) (A' : Option Addr) (n' c' : Nat) (A'' : Option Addr) (n'' c'' : Nat),
  cs = [.slice A n c, .slice A' n' c', .slice A'' n'' c''] ∧ RDE D w A n E ∧ Tg.RD D w A' n' T ∧ Sl w 3 A'' n'' (flt encL Ls) ∧ Ls.length = n'' ∧ (n'' ≠ 0 → ∀ k, blkOf A'' = some k → ¬ D k)
theorem RSt.fr0 {D : Nat → Prop} {w w' : World} {cs : List Value} {E : List En} {T : List Tn} {Ls : List Lo} (h : RSt D w cs E T Ls) (f : Fr (fun _ => False) w w') : RSt D w' cs E T Ls := by
  obtain ⟨A, n, c, A', n', c', A'', n'', c'', e, h1, h2, h3, h4, h5⟩ := h
  exact ⟨A, n, c, A', n', c', A'', n'', c'', e, h1.fr0 f, h2.fr0 f, f.sl h3 (fun _ _ _ h => h), h4, h5⟩
theorem RSt.step {D D' : Nat → Prop} {w w' : World} {cs : List Value} {E : List En} {T : List Tn} {Ls : List Lo} (h : RSt D w cs E T Ls) (f : Fr D w w') (hD : ∀ k, D' k → D k ∨ w.heap.size ≤ k) : RSt D' w' cs E T Ls := by
  obtain ⟨A, n, c, A', n', c', A'', n'', c'', e, h1, h2, h3, h4, h5⟩ := h
  refine ⟨A, n, c, A', n', c', A'', n'', c'', e, h1.step f hD, h2.step f hD, f.sl h3 h5, h4, fun h0 k hk h' => ?_⟩
  rcases hD k h' with h'' | h''
  · exact h5 h0 k hk h''
  · have := h3.blt (by decide) h0 hk; omega
theorem RSt.len {D : Nat → Prop} {w : World} {cs : List Value} {E : List En} {T : List Tn} {Ls : List Lo} (h : RSt D w cs E T Ls) : cs.length = 3 := by
  obtain ⟨A, n, c, A', n', c', A'', n'', c'', e, _⟩ := h
  rw [e]; rfl
theorem RSt.one {D : Nat → Prop} {w : World} {cs : List Value} {E : List En} {T : List Tn} {Ls : List Lo} (h : RSt D w cs E T Ls) : ∀ v ∈ cs, v.oneCell' = true := by
  obtain ⟨A, n, c, A', n', c', A'', n'', c'', e, _⟩ := h
  subst e
  intro v hv
  simp at hv
  rcases hv with rfl | rfl | rfl <;> rfl
structure SB2 (E : List En) (T : List Tn) (Ls : List Lo) : Prop where
  e : BdE 4294967295 E
  t : Tg.Bd 4294967295 T
  el : E.length ≤ 60000000
  tl : T.length ≤ 60000000
  ll : Ls.length ≤ 60000000
end Go.Proofs.YthcclmlbkfadcaaGreat
/- chapter 22: the document's Loads, Is, Keep -/
namespace Go.Proofs.YthcclmlbkfadcaaGreat
open Go.GV Go.RowKit Go.Lib Go.Stb
open Tg (Tn liveT)
set_option linter.unusedVariables false
set_option linter.unusedSimpArgs false
end Go.Proofs.YthcclmlbkfadcaaGreat
/- chapter 22: the document's Apply and New -/
namespace Go.Proofs.YthcclmlbkfadcaaGreat
open Go.GV Go.RowKit Go.Lib Go.Stb
open Tg (Tn liveT)
set_option linter.unusedVariables false
set_option linter.unusedSimpArgs false
def RQ (D : Nat → Prop) (w : World) (E : List En) (T : List Tn) (Ls : List Lo) (v : Value) (w' : World) : Prop := Fr (fun _ => False) w w' ∧ ∃ cs, v = ofL cs ∧ RSt D w' cs E T Ls
theorem sl3_one (A : Option Addr) (n c : Nat) (A' : Option Addr) (n' c' : Nat) (A'' : Option Addr) (n'' c'' : Nat) : ∀ v ∈ [Value.slice A n c, .slice A' n' c', .slice A'' n'' c''], v.oneCell' = true := fun v hv => by
  simp at hv; rcases hv with rfl | rfl | rfl <;> rfl
theorem RSt.of {D : Nat → Prop} {w : World} {A : Option Addr} {n c : Nat} {A' : Option Addr} {n' c' : Nat} {A'' : Option Addr} {n'' c'' : Nat} {E : List En} {T : List Tn} {Ls : List Lo} {B : Nat} (h1 : RDE D w A n E) (h2 : Tg.RD D w A' n' T) (h3 : LOw w B A'' n'' c'' Ls) (hB : ∀ k, D k → k < B) : RSt D w [.slice A n c, .slice A' n' c', .slice A'' n'' c''] E T Ls :=
  ⟨A, n, c, A', n', c', A'', n'', c'', rfl, h1, h2, h3.1.sl, h3.2, fun _ k hk h => by have := (h3.1.blt hk).1; have := hB k h; omega⟩
/-- the way out: what is in the block b is told, by way of the result's own block -/
theorem rfin {D D' : Nat → Prop} {w v : World} {b b5 : Nat} {cs : List Value} {E : List En} {T : List Tn} {Ls : List Lo} (hw : Fr (fun _ => False) w v) (h5w : w.heap.size ≤ b5) (r : RecAt v b 44 cs) (r5 : RecAt v b5 44 [Value.slice none 0 0, Value.slice none 0 0, Value.slice none 0 0]) (h : RSt D' v cs E T Ls) (hd : ∀ k, D k → D' k) (h5 : D' b5) :
    ldA 3 v b 0 fun a => gd (a.length == 3) <| st v b5 0 a fun w' => ldA 3 w' b5 0 fun a' => RQ D w E T Ls (ofL a') w' := by
  refine ⟨cs, h.len, rec_all r, gd_mk (by rw [h.len]; rfl) (r5.st_mk (o := 0) (by rw [h.len]; show 0 + 3 ≤ 3; omega) h.one (fun r6 f6 => ?_))⟩
  have e : splice [Value.slice none 0 0, Value.slice none 0 0, Value.slice none 0 0] 0 cs = cs := splice_full h.len
  rw [e] at r6
  exact ⟨cs, h.len, rec_all r6, fr_own hw f6 h5w, cs, rfl, h.step (f6.mono (fun k _ hk => by rw [show k = b5 from hk]; exact h5)) (fun k hk => .inl (hd k hk))⟩
end Go.Proofs.YthcclmlbkfadcaaGreat
/- chapter 22: the document's New, in and Keep -/
namespace Go.Proofs.YthcclmlbkfadcaaGreat
open Go.GV Go.RowKit Go.Lib Go.Stb
open Tg (Tn liveT)
set_option linter.unusedVariables false
set_option linter.unusedSimpArgs false
theorem newLo_asc : ∀ (l l0 : List Lo), AscL l0 → AscL (l.foldl (fun t x => setL x.s x.a t) l0)
  | [], _, h => h
  | x :: r, l0, h => newLo_asc r _ (setL_asc _ _ h)
/-- a snapshot whose entries' parts lie in P -/
def RSn (P : Nat → Prop) (w : World) (cs : List Value) (E : List En) (T : List Tn) (Ls : List Lo) : Prop := ∃ (i j k q : Int) (A : Option Addr) (n c : Nat) (A' : Option Addr) (n' c' : Nat) (A'' : Option Addr) (n'' c'' : Nat),
  cs = [.int .i64 i, .int .i64 j, .int .i64 k, .int .u64 q, .slice A n c, .slice A' n' c', .slice A'' n'' c''] ∧ RE P w A n E ∧ Tg.RT P w A' n' T ∧ Sl w 3 A'' n'' (flt encL Ls) ∧ Ls.length = n''
theorem SnAt.low {w w' : World} {cs : List Value} {E : List En} {T : List Tn} {Ls : List Lo} (h : SnAt w cs E T Ls) (f : Fr (fun _ => False) w w') : RSn (fun k => k < w.heap.size) w' cs E T Ls := by
  obtain ⟨i, j, k, q, A, n, c, A', n', c', A'', n'', c'', e, h1, h2, h3, h4⟩ := h
  exact ⟨i, j, k, q, A, n, c, A', n', c', A'', n'', c'', e, (h1.mono (fun k hk _ => hk)).fr0 f, (h2.mono (fun k hk _ => hk)).fr0 f, f.sl h3 (fun _ _ _ h => h), h4⟩
set_option maxHeartbeats 1000000 in
theorem rnewS_calls {D P : Nat → Prop} (cs : List Value) (E : List En) (T : List Tn) (Ls : List Lo) (w : World) (h : RSn P w cs E T Ls) (hE : E.length ≤ 50000000) (hT : T.length ≤ 50000000) (hL : Ls.length ≤ 50000000) (hw : ∀ x ∈ Ls, wr x.a = x.a) (hD : ∀ k, D k → k < w.heap.size) (hP : ∀ k, P k → k < w.heap.size ∧ ¬ D k) :
    Calls Tryz.prog 14 #[ofL cs] w fun e w' => Fr (fun _ => False) w w' ∧ ∃ cs', e = .returned (ofL cs') ∧ RSt D w' cs' (newE E) (Tg.newT T) (newLo Ls) := by
  refine (F14.of cs w (Q := RQ D w (newE E) (Tg.newT T) (newLo Ls)) ?_).mono (fun e w' ⟨v, he, hf, cs', hv, h⟩ => ⟨hf, cs', by rw [he, hv], h⟩)
  obtain ⟨i, j, k, q, A, n, c, A', n', c', A'', n'', c'', rfl, g1, g2, g3, g4⟩ := h
  have hEl := g1.len
  have hTl := g2.len
  refine nw_mk (nw_mk ?_)
  have f1 : Fr (fun _ => False) w (w.alloc (.cells [Value.int .i64 i, .int .i64 j, .int .i64 k, .int .u64 q, .slice A n c, .slice A' n' c', .slice A'' n'' c''].toArray 30)) := Fr.alloc _ _ _
  have r1 := RecAt.new w [Value.int .i64 i, .int .i64 j, .int .i64 k, .int .u64 q, .slice A n c, .slice A' n' c', .slice A'' n'' c''] 30
  generalize hb1 : w.heap.size = b1 at r1 ⊢
  generalize w.alloc (.cells [Value.int .i64 i, .int .i64 j, .int .i64 k, .int .u64 q, .slice A n c, .slice A' n' c', .slice A'' n'' c''].toArray 30) = w1 at f1 r1 ⊢
  have f2 : Fr (fun _ => False) w1 (w1.alloc (.cells [Value.slice none 0 0, Value.slice none 0 0, Value.slice none 0 0].toArray 44)) := Fr.alloc _ _ _
  have r5 := RecAt.new w1 [Value.slice none 0 0, Value.slice none 0 0, Value.slice none 0 0] 44
  have s1 := f1.size
  generalize hb5 : w1.heap.size = b5 at r5 s1 ⊢
  generalize w1.alloc (.cells [Value.slice none 0 0, Value.slice none 0 0, Value.slice none 0 0].toArray 44) = w2 at f2 r5 ⊢
  have f2 := f2.trans1 (Fr.drew _ w2)
  have r5 := r5.fr (Fr.drew (fun _ => False) w2) (fun h => h)
  generalize w2.drew = u at f2 r5 ⊢
  have fu := f1.trans1 f2
  have r1 := r1.fr f2 (fun h => h)
  have h5w : w.heap.size ≤ b5 := by omega
  have hsu : w.heap.size ≤ u.heap.size := fu.size
  have l1 := r1.lt
  have l5 := r5.lt
  have hD1 : ∀ k, D k ∨ k = b5 → k < u.heap.size := fun k hk => hk.elim (fun h => by have := hD k h; omega) (fun e => by omega)
  have hD2 : ∀ (b : Nat) (v : World), u.heap.size ≤ v.heap.size → b < v.heap.size → ∀ k, (D k ∨ k = b5) ∨ k = b → k < v.heap.size := fun b v h1 h2 k hk => hk.elim (fun h => by have := hD1 k h; omega) (fun e => by omega)
  have hP1 : ∀ k, P k → ¬ (D k ∨ k = b5) := fun k hk h => h.elim (hP k hk).2 (fun e => by have := (hP k hk).1; omega)
  have hP2 : ∀ b, u.heap.size ≤ b → ∀ k, P k → ¬ ((D k ∨ k = b5) ∨ k = b) := fun b hb k hk h => h.elim (hP1 k hk) (fun e => by have := (hP k hk).1; omega)
  have tail : ∀ (v : World) (b28 : Nat) (A20 : Option Addr) (n21 c22 : Nat) (A25 : Option Addr) (n26 c27 : Nat), Fr (fun _ => False) u v → u.heap.size ≤ b28 → RecAt v b28 44 [Value.slice none 0 0, Value.slice none 0 0, Value.slice none 0 0] →
      RDE (fun k => (D k ∨ k = b5) ∨ k = b28) v A20 n21 (newE E) → Tg.RD (fun k => (D k ∨ k = b5) ∨ k = b28) v A25 n26 (Tg.newT T) →
      (gd (([Value.slice A20 n21 c22] ++ ([Value.slice A25 n26 c27] ++ ([Value.slice none 0 0] ++ []))).length == 3) <|
          st v b28 0 ([Value.slice A20 n21 c22] ++ ([Value.slice A25 n26 c27] ++ ([Value.slice none 0 0] ++ []))) fun w23 =>
          jnC (F14.l3 (RQ D w (newE E) (Tg.newT T) (newLo Ls))) ((b1, 0), (b5, 0), (b28, 0), (0), ()) w23) := by
    intro v b28 A20 n21 c22 A25 n26 c27 fv hb28 r28 e1 e2
    refine gd_mk rfl (r28.st_mk (o := 0) (by show 0 + 3 ≤ 3; omega) (sl3_one _ _ _ _ _ _ _ _ _) (fun r30 f30 => ?_))
    have r30 : RecAt _ b28 44 [.slice A20 n21 c22, .slice A25 n26 c27, .slice none 0 0] := r30
    have l28 := r28.lt
    have s30 := f30.size
    generalize stB v b28 0 _ = y at r30 f30 s30 ⊢
    have fy := fr_own fv f30 hb28
    have fwy := fu.trans1 fy
    have f30' : Fr (fun k => (D k ∨ k = b5) ∨ k = b28) v y := f30.mono (fun k _ h => .inr h)
    have e1 := e1.step f30' (fun k hk => .inl hk)
    have e2 := e2.step f30' (fun k hk => .inl hk)
    refine jnC_mk (loop_rule (fun s t => Fr (fun k => k = b28) y t ∧ ∃ (i : Nat) (A3 : Option Addr) (c3 : Nat), i ≤ n'' ∧ s = ((b1, 0), (b5, 0), (b28, 0), (i : Int), ()) ∧ RecAt t b28 44 [.slice A20 n21 c22, .slice A25 n26 c27, .slice A3 (newLo (Ls.take i)).length c3] ∧ LOw t y.heap.size A3 (newLo (Ls.take i)).length c3 (newLo (Ls.take i)))
      (fun s _ => (n'' - s.2.2.2.1).toNat) ?_ _ _ ⟨Fr.refl _ _, 0, none, 0, by omega, rfl, r30, Row.nil _ _ _ _, rfl⟩)
    rintro s t C3 ⟨hf, i, A3, c3, hi, rfl, rt, hL⟩ hC3 _
    have fwt := fr_own fwy hf (by show w.heap.size ≤ b28; omega)
    have r1t := (r1.fr fy (fun h => h)).fr hf (fun h => by have h : b1 = b28 := h; omega)
    have r5t := (r5.fr fy (fun h => h)).fr hf (fun h => by have h : b5 = b28 := h; omega)
    have g3t := fwt.sl g3 (fun _ _ _ h => h)
    have hnl := newLo_len (Ls.take i)
    rw [List.length_take] at hnl
    refine ⟨A'', n'', c'', r1t.cell rfl, vIf_mk (fun hlt => ?_) (fun hge => ?_)⟩
    · have hlt2 : (i : Int) < (n'' : Int) := of_decide_eq_true hlt
      have gi : Ls[i]? = some (Ls[i]'(by omega)) := List.getElem?_eq_getElem (by omega)
      generalize Ls[i]'(by omega) = x at gi
      have hst := newLo_step gi
      have hxw := hw x (List.mem_of_getElem? gi)
      have eN : newA x.s x.a true (newLo (Ls.take i)) = x.a := by unfold newA; rw [if_pos rfl, Int.zero_add, hxw]
      have fd := Fr.drew (fun _ => False) t
      have rtd := rt.fr fd (fun h => h)
      have r1d := r1t.fr fd (fun h => h)
      have hLd := hL.fr0 fd
      have g3d := fd.sl g3t (fun _ _ _ h => h)
      refine ⟨A3, _, c3, rtd.cell rfl, A'', n'', c'', r1d.cell rfl, l_rdS g3d g4 gi rfl ⟨A'', n'', c'', r1d.cell rfl, l_rdA g3d g4 gi rfl ((rload_calls A3 _ c3 (newLo (Ls.take i)) x.s x.a true t.drew hLd.1.sl rfl (newLo_asc _ _ List.Pairwise.nil) hxw (by omega)).mono ?_)⟩⟩
      rw [eN, ← hst]
      rintro r t2 ⟨f2, A4, c4, rfl, h4⟩
      have rt2 := rtd.fr f2 (fun h => h)
      refine ⟨_, _, _, rfl, rt2.st_mk (o := 0 + 2) (by show 0 + 2 + 1 ≤ 3; omega) (fun v hv => by simp at hv; subst hv; rfl) (fun r43 f43 => jnC_mk (hC3 _ _ ⟨?_, i + 1, A4, c4, by omega, by rw [ei i (by omega)], r43, ?_⟩ ?_))⟩
      · exact (hf.trans fd (fun _ _ h => h) (fun _ _ h => h.elim)).trans (f2.trans f43 (fun _ _ h => h.elim) (fun _ _ h => h)) (fun _ _ h => h) (fun _ _ h => h)
      · have hty : y.heap.size ≤ t.drew.heap.size := (hf.trans fd (U := fun k => k = b28) (fun _ _ h => h) (fun _ _ h => h.elim)).size
        exact ⟨f43.row (row_low hty h4.1) (fun k hk h => by have := (h4.1.blt hk).1; have h : k = b28 := h; omega), h4.2⟩
      · show ((n'' : Int) - IntKind.wrap .i64 ((i : Int) + 1)).toNat < ((n'' : Int) - (i : Int)).toNat
        rw [ei i (by omega)]; omega
    · have hge2 : ¬ (i : Int) < (n'' : Int) := of_decide_eq_false hge
      rw [List.take_of_length_le (by omega)] at hL rt
      have hf' : Fr (fun k => (D k ∨ k = b5) ∨ k = b28) y t := hf.mono (fun k _ h => .inr h)
      exact rfin (D' := fun k => (D k ∨ k = b5) ∨ k = b28) fwt h5w rt r5t (RSt.of (e1.step hf' (fun k hk => .inl hk)) (e2.step hf' (fun k hk => .inl hk)) hL (hD2 b28 y fy.size (by omega))) (fun k hk => .inl (.inl hk)) (.inl (.inr rfl))
  refine ⟨A, n, c, r1.cell rfl, A', n', c', r1.cell rfl, (rnew_calls A n c E u (g1.fr0 fu) (by omega)).mono ?_, ?_⟩
  · rintro r v ⟨fv, A20, n21, c22, rfl, e1⟩
    have sv := fv.size
    have e1 := RDE.of (e1.mono (Nat.le_refl _) (fun k _ hk => hP1 k hk)) hD1
    refine ⟨_, _, _, rfl, kp_mk fv l1 (fun h => h) ⟨(Tg.rnew_calls A' n' c' T v (g2.fr0 (fu.trans1 fv)) (by omega)).mono ?_, ?_⟩⟩
    · rintro r v2 ⟨fv2, A25, n26, c27, rfl, e2⟩
      have f12 := fv.trans1 fv2
      have e2 := Tg.RD.of (e2.mono (Nat.le_refl _) (fun k _ hk => hP1 k hk)) (fun k hk => by have := hD1 k hk; omega)
      refine ⟨_, _, _, rfl, nw_mk ?_⟩
      have fa : Fr (fun _ => False) v2 (v2.alloc (.cells [Value.slice none 0 0, Value.slice none 0 0, Value.slice none 0 0].toArray 44)) := Fr.alloc _ _ _
      have ra := RecAt.new v2 [Value.slice none 0 0, Value.slice none 0 0, Value.slice none 0 0] 44
      have f13 := f12.trans1 fa
      have e1 := (e1.fr0 fv2).step (D' := fun k => (D k ∨ k = b5) ∨ k = v2.heap.size) (fa.mono (fun _ _ h => h.elim)) (fun k hk => hk.imp id (fun e => by omega))
      have e2 := e2.step (D' := fun k => (D k ∨ k = b5) ∨ k = v2.heap.size) (fa.mono (fun _ _ h => h.elim)) (fun k hk => hk.imp id (fun e => by omega))
      exact kp_mk f13 l1 (fun h => h) (kp_mk f13 l1 (fun h => h) (tail _ _ _ _ _ _ _ _ f13 f12.size ra e1 e2))
    · refine nw_mk ?_
      have fa : Fr (fun _ => False) v (v.alloc (.cells [Value.slice none 0 0, Value.slice none 0 0, Value.slice none 0 0].toArray 44)) := Fr.alloc _ _ _
      have ra := RecAt.new v [Value.slice none 0 0, Value.slice none 0 0, Value.slice none 0 0] 44
      have f12 := fv.trans1 fa
      have la := ra.lt
      have e1 := e1.step (D' := fun k => (D k ∨ k = b5) ∨ k = v.heap.size) (fa.mono (fun _ _ h => h.elim)) (fun k hk => hk.imp id (fun e => by omega))
      refine kp_mk f12 l1 (fun h => h) (kp_mk f12 l1 (fun h => h) ((Tg.rnew_calls A' n' c' T _ (g2.fr0 (fu.trans1 f12)) (by omega)).mono ?_))
      rintro r v2 ⟨fv2, A25, n26, c27, rfl, e2⟩
      have f13 := f12.trans1 fv2
      have e2 := Tg.RD.of (e2.mono (Nat.le_refl _) (fun k _ hk => hP2 v.heap.size sv k hk)) (hD2 _ _ f12.size la)
      exact ⟨_, _, _, rfl, tail _ _ _ _ _ _ _ _ f13 sv (ra.fr fv2 (fun h => h)) (e1.fr0 fv2) e2⟩
  · refine nw_mk ?_
    have fa : Fr (fun _ => False) u (u.alloc (.cells [Value.slice none 0 0, Value.slice none 0 0, Value.slice none 0 0].toArray 44)) := Fr.alloc _ _ _
    have ra := RecAt.new u [Value.slice none 0 0, Value.slice none 0 0, Value.slice none 0 0] 44
    have la := ra.lt
    refine kp_mk fa l1 (fun h => h) (kp_mk fa l1 (fun h => h) ((rnew_calls A n c E _ (g1.fr0 (fu.trans1 fa)) (by omega)).mono ?_))
    rintro r v ⟨fv, A20, n21, c22, rfl, e1⟩
    have e1 := RDE.of (e1.mono (Nat.le_refl _) (fun k _ hk => hP2 u.heap.size (Nat.le_refl _) k hk)) (hD2 _ _ fa.size la)
    have f12 := fa.trans1 fv
    have sv := fv.size
    refine ⟨_, _, _, rfl, kp_mk f12 l1 (fun h => h) ((Tg.rnew_calls A' n' c' T v (g2.fr0 (fu.trans1 f12)) (by omega)).mono ?_)⟩
    rintro r v2 ⟨fv2, A25, n26, c27, rfl, e2⟩
    have e2 := Tg.RD.of (e2.mono (Nat.le_refl _) (fun k _ hk => hP2 u.heap.size (Nat.le_refl _) k hk)) (hD2 _ _ f12.size (by omega))
    have f13 := f12.trans1 fv2
    exact ⟨_, _, _, rfl, tail _ _ _ _ _ _ _ _ f13 (Nat.le_refl _) (ra.fr (fv.trans1 fv2) (fun h => h)) (e1.fr0 fv2) e2⟩
end Go.Proofs.YthcclmlbkfadcaaGreat
/- chapter 22: the document's in and Keep -/
namespace Go.Proofs.YthcclmlbkfadcaaGreat
open Go.GV Go.RowKit Go.Lib Go.Stb
open Tg (Tn liveT)
set_option linter.unusedVariables false
set_option linter.unusedSimpArgs false
end Go.Proofs.YthcclmlbkfadcaaGreat
/- chapter 22: lives -/
namespace Go.Proofs.YthcclmlbkfadcaaGreat
open Go.GV Go.RowKit Go.Lib Go.Stb
open Tg (Tn liveT)
set_option linter.unusedVariables false
set_option linter.unusedSimpArgs false
def one1 : List UInt8 := 1 :: List.replicate 31 0
def wd1 : Wd := ⟨1, 0, one1, ⟨#[]⟩, 9, 1, 37, 62⟩
def wd2 : Wd := ⟨5, 0, one1, ⟨#[]⟩, 0, 2, 37, 53⟩
theorem wd_h1 : (herL 1 (applyE (applyE [] wd1) wd2) (Tg.applyL wd2 (Tg.applyL wd1 []))).length = 0 := by decide +kernel
theorem wd_h2 : (herL 2 (applyE (applyE [] wd1) wd2) (Tg.applyL wd2 (Tg.applyL wd1 []))).length = 1 := by decide +kernel
def ll3 (l : List Lo) : List (Int × Int × Int) := l.map (fun x => (x.s, x.a, x.v))
theorem ll3_inj : ∀ {l m : List Lo}, ll3 l = ll3 m → l = m
  | [], [], _ => rfl
  | [], _ :: _, h => by cases h
  | _ :: _, [], h => by cases h
  | ⟨a, b, c⟩ :: r, ⟨a', b', c'⟩ :: r', h => by
    simp only [ll3, List.map_cons, List.cons.injEq, Prod.mk.injEq] at h
    rw [h.1.1, h.1.2.1, h.1.2.2, ll3_inj (l := r) (m := r') h.2]
theorem wd_ld : loadsL (applyE (applyE [] wd1) wd2) (Tg.applyL wd2 (Tg.applyL wd1 [])) (applyS wd2 (applyS wd1 [])) = [⟨1, 62, 0⟩, ⟨2, 53, 53⟩] := ll3_inj (by decide +kernel)
theorem SB.nil (d : SD) (h1 : d.lE = []) (h2 : d.lT = []) (h3 : d.lL = []) (hp : d.p ≤ 10) : SB 10 d := by
  refine ⟨?_, ?_, hp, by rw [h2]; exact Nat.zero_le _, by rw [h3]; exact Nat.zero_le _, by rw [h1]; exact Nat.zero_le _⟩
  · rw [h1]; intro e he; cases he
  · rw [h2]; intro e he; cases he
theorem SB.mono {m m' : Nat} {d : SD} (h : SB m d) (hm : m ≤ m') : SB m' d :=
  ⟨h.e.mono hm, fun e he => Nat.le_trans (h.t e he) hm, Nat.le_trans h.p hm, Nat.le_trans h.tl hm, Nat.le_trans h.ll hm, Nat.le_trans h.el hm⟩
theorem SB.app {m : Nat} {d d' : SD} (h : SB m d) (x : Wd) (h1 : d'.lE = applyE d.lE x) (h2 : d'.lT = Tg.applyL x d.lT) (h3 : d'.lL = applyS x d.lL) (hp : d'.p = d.p + 1) : SB (m + 1) d' := by
  have a1 := applyE_len d.lE x
  have a2 := Tg.applyL_len x d.lT
  have a3 := applyS_len x d.lL
  refine ⟨?_, ?_, by have := h.p; omega, by rw [h2]; have := h.tl; omega, by rw [h3]; have := h.ll; omega, by rw [h1]; have := h.el; omega⟩
  · rw [h1]; exact applyE_bd h.e x
  · rw [h2]; exact Tg.applyL_bd h.t x
theorem SB.kept {m : Nat} {d d' : SD} (h : SB m d) (sg : List Int) (h1 : d'.lE = keepLE sg d.lE) (h2 : d'.lT = Tg.keepL sg d.lT) (h3 : d'.lL = keptL sg d.lL) (hp : d'.p = d.p) : SB m d' := by
  have a1 := keepLE_len sg d.lE
  have a2 := Tg.keepL_len sg d.lT
  have a3 := keptL_len sg d.lL
  refine ⟨?_, ?_, by have := h.p; omega, by rw [h2]; have := h.tl; omega, by rw [h3]; have := h.ll; omega, by rw [h1]; have := h.el; omega⟩
  · rw [h1]; exact h.e.keep sg
  · rw [h2]; exact Tg.keepL_bd h.t sg
set_option maxRecDepth 100000 in
set_option maxHeartbeats 1000000 in
theorem lives_calls (w : World) : Calls Tryz.prog 10 #[] w fun e w' => e = .returned (.bool true) ∧ Fr (fun _ => False) w w' := by
  refine (F10.of w (Q := fun v w' => v = .bool true ∧ Fr (fun _ => False) w w') ?_).mono (fun e w' ⟨v, he, hv, h⟩ => ⟨by rw [he, hv], h⟩)
  refine (newS_calls _ [] [] [] w ⟨0, 0, 0, 0, none, 0, 0, none, 0, 0, none, 0, 0, rfl, RE.nil _ _ _, Tg.RT.nil _ _ _, Sl.nil _ _ _, rfl⟩ (by simp) (by simp) (by simp) (fun e he => by cases he) (fun e he => by cases he)).mono ?_
  rintro r w1 ⟨f1, sb, d, rfl, hst, e1, e2, e3, hp⟩
  have hb0 := SB.nil d e1 e2 e3 (by simp at hp; omega)
  have s1 := f1.size
  refine ⟨_, rfl, gd_mk rfl (gd_mk rfl ((applyS_calls hst wd1 rfl (hb0.mono (by omega)) s1).mono ?_))⟩
  rintro r w2 ⟨rfl, d1, h1, q1, q2, q3, q4⟩
  have hb1 := hb0.app wd1 q1 q2 q3 q4
  have s2 := h1.fr.size
  refine ⟨rfl, gd_mk rfl (gd_mk rfl ((applyS_calls h1.st wd2 rfl (hb1.mono (by omega)) (by omega)).mono ?_))⟩
  rintro r w3 ⟨rfl, d2, h2, p1, p2, p3, p4⟩
  have hb2 := hb1.app wd2 p1 p2 p3 p4
  have f3 : Fr (fun _ => False) w w3 := (f1.trans h1.fr (U := fun _ => False) (fun _ _ h => h) (fun k hk h => by have := (hst.lt h).1; omega)).trans h2.fr (fun _ _ h => h) (fun k hk h => by have := (h1.st.lt h).1; omega)
  have hE : d2.lE = applyE (applyE [] wd1) wd2 := by rw [p1, q1, e1]; rfl
  have hT : d2.lT = Tg.applyL wd2 (Tg.applyL wd1 []) := by rw [p2, q2, e2]; rfl
  have hL : d2.lL = applyS wd2 (applyS wd1 []) := by rw [p3, q3, e3]; rfl
  have hb3 : SB 50000000 d2 := hb2.mono (by omega)
  refine ⟨rfl, (loadsS_calls h2.st hb3).mono ?_⟩
  rintro r w4 ⟨f4, A, c, rfl, hr⟩
  have hll : d2.nL = 2 := by
    have h5 := loadsL_len d2.lE d2.lT d2.lL
    rw [hE, hT, hL, wd_ld, ← hL, h2.st.ll] at h5
    exact h5.symm
  rw [hE, hT, hL, wd_ld, hll] at hr
  rw [hll]
  refine ⟨A, 2, c, rfl, (hereS_calls (h2.st.fr0 f4) 1 hb3).mono ?_⟩
  rintro r w5 ⟨f5, A5, c5, rfl, _⟩
  rw [hE, hT, wd_h1]
  refine ⟨_, _, _, rfl, vIf_t rfl ((hereS_calls (h2.st.fr0 (f4.trans1 f5)) 2 hb3).mono ?_)⟩
  rintro r w6 ⟨f6, A6, c6, rfl, _⟩
  rw [hE, hT, wd_h2]
  have hs := (f5.trans1 f6).sl hr.sl (fun _ _ _ h => h)
  refine ⟨_, _, _, rfl, vIf_t rfl (vIf_t rfl ?_)⟩
  obtain ⟨b, o, rfl, hc⟩ := hs.2 (by decide)
  refine dr_mk (gd_mk rfl ⟨encL ⟨1, 62, 0⟩, rfl, fun j v hj => hc j v (by rw [flt_cons, List.getElem?_append_left (List.getElem?_eq_some_iff.1 hj).1]; exact hj), ⟨[1, 62, 0], [1, 62, 0], rfl, rfl, rfl, rfl, vIf_t rfl ?_⟩⟩)
  refine dr_mk (gd_mk rfl ⟨encL ⟨2, 53, 53⟩, rfl, fun j v hj => by rw [Nat.add_assoc]; exact hc (3 + j) v (by rw [flt_cons, List.getElem?_append_right (by simp [encL]), show 3 + j - (encL ⟨1, 62, 0⟩).length = j from by simp [encL]]; exact hj), ⟨[2, 53, 53], [2, 53, 53], rfl, rfl, rfl, rfl, rfl, ((f3.trans1 f4).trans1 f5).trans1 f6⟩⟩)
end Go.Proofs.YthcclmlbkfadcaaGreat
/- deeds: a kind, a word, segments; rows of them -/
namespace Go.Proofs.YthcclmlbkfadcaaGreat
open Go.GV Go.RowKit Go.Lib
set_option linter.unusedVariables false
set_option linter.unusedSimpArgs false
structure Dd where
  kind : Int
  x : Wd
  sg : List Int
def DdAt (w : World) (cs : List Value) (d : Dd) : Prop := ∃ S m k, cs = [Value.int .i64 d.kind] ++ (d.x.cs ++ [.slice S m k]) ∧ Sl w 1 S m (ivs d.sg) ∧ d.x.d.length = 32 ∧ m ≤ 1048576
theorem DdAt.fr {w w' : World} {cs : List Value} {d : Dd} (h : DdAt w cs d) (f : Fr (fun _ => False) w w') : DdAt w' cs d := by
  obtain ⟨S, m, k, h1, h2, h3, h4⟩ := h
  exact ⟨S, m, k, h1, sl_fr h2 f, h3, h4⟩
/-- a row of deeds -/
def DRow (w : World) (A : Option Addr) (n : Nat) (l : List Dd) : Prop := l.length = n ∧ (n ≠ 0 → ∃ b o, A = some ⟨b, o, none⟩ ∧ ∀ (i : Nat) (d : Dd), l[i]? = some d → ∃ cs, DdAt w cs d ∧ cellsAt w b (o + i * 41) cs)
theorem DRow.fr {w w' : World} {A : Option Addr} {n : Nat} {l : List Dd} (h : DRow w A n l) (f : Fr (fun _ => False) w w') : DRow w' A n l := by
  refine ⟨h.1, fun h0 => ?_⟩
  obtain ⟨b, o, hA, hc⟩ := h.2 h0
  refine ⟨b, o, hA, fun i d hi => ?_⟩
  obtain ⟨cs, h1, h2⟩ := hc i d hi
  exact ⟨cs, h1.fr f, f.cells h2 (fun h => h)⟩
/-- rows of words -/
def WRow (w : World) (A : Option Addr) (n : Nat) (l : List Wd) : Prop := l.length = n ∧ (∀ x ∈ l, x.d.length = 32) ∧ (n ≠ 0 → ∃ b o, A = some ⟨b, o, none⟩ ∧ ∀ (i : Nat) (x : Wd), l[i]? = some x → cellsAt w b (o + i * 39) x.cs)
theorem WRow.fr {w w' : World} {A : Option Addr} {n : Nat} {l : List Wd} (h : WRow w A n l) (f : Fr (fun _ => False) w w') : WRow w' A n l := by
  refine ⟨h.1, h.2.1, fun h0 => ?_⟩
  obtain ⟨b, o, hA, hc⟩ := h.2.2 h0
  exact ⟨b, o, hA, fun i x hi => f.cells (hc i x hi) (fun h => h)⟩
end Go.Proofs.YthcclmlbkfadcaaGreat
/- chapter 22: what deeds come to -/
namespace Go.Proofs.YthcclmlbkfadcaaGreat
open Go.GV Go.RowKit Go.Lib Go.Stb
open Tg (Tn liveT)
set_option linter.unusedVariables false
set_option linter.unusedSimpArgs false
/-! ### a block without ints has no row of ints -/
def NoI (xs : List Value) : Prop := ∀ (o : Nat) (k : IntKind) (x : Int), xs[o]? ≠ some (.int k x)
theorem sl_nb {w : World} {A : Option Addr} {n : Nat} {l : List Int} {b : Nat} {t : TypeId} {xs : List Value} (h : Sl w 1 A n (ivs l)) (r : RecAt w b t xs) (hx : NoI xs) (h0 : n ≠ 0) {k : Nat} (hk : blkOf A = some k) : k ≠ b := by
  rintro rfl
  have hl := sl_n h
  obtain ⟨b', o, rfl, hc⟩ := h.2 h0
  injection hk with hk
  have hk : b' = k := hk
  subst hk
  have gi : l[0]? = some (l[0]'(by omega)) := List.getElem?_eq_getElem (by omega)
  have := hc 0 _ (ivs_at gi)
  exact hx _ _ _ (r.get this)
theorem EnP.nb {P : Nat → Prop} {w : World} {cs : List Value} {e : En} {b : Nat} {t : TypeId} {xs : List Value} (h : EnP P w cs e) (r : RecAt w b t xs) (hx : NoI xs) : EnP (fun k => P k ∧ k ≠ b) w cs e := by
  obtain ⟨A, n, c, h1, h2, h3, h4⟩ := h
  exact ⟨A, n, c, h1, h2, h3, fun h0 k hk => ⟨h4 h0 k hk, sl_nb h2 r hx h0 hk⟩⟩
theorem TnP.nb {P : Nat → Prop} {w : World} {cs : List Value} {e : Tn} {b : Nat} {t : TypeId} {xs : List Value} (h : Tg.TnP P w cs e) (r : RecAt w b t xs) (hx : NoI xs) : Tg.TnP (fun k => P k ∧ k ≠ b) w cs e := by
  obtain ⟨A, n, c, h1, h2, h3, h4⟩ := h
  exact ⟨A, n, c, h1, h2, h3, fun h0 k hk => ⟨h4 h0 k hk, sl_nb h2 r hx h0 hk⟩⟩
theorem Ix.nb_ {X : Nat → Prop} {w : World} {base ib bt bs N p : Nat} {S : Slo.SRow} {l : List En} {b : Nat} {t : TypeId} {xs : List Value} (h : Ix X w base ib bt bs N p S l) (r : RecAt w b t xs) (hx : NoI xs) : Ix (fun k => X k ∧ k ≠ b) w base ib bt bs N p S l :=
  ⟨h.ri, h.tb, h.ba, h.nt, h.ns, fun k cs hk => by
    obtain ⟨e, h1, h2, h3⟩ := h.has k cs hk
    exact ⟨e, h1, h2, (h3.nb r hx).mono (fun j hj hh => ⟨hh.1.1, hh.1.2, hh.2⟩)⟩, h.all, h.asc, h.cn, h.nb⟩
theorem Tab.nb_ {X : Nat → Prop} {w : World} {base tb : Nat} {R : Option Addr} {n c : Nat} {l : List Tn} {b : Nat} {t : TypeId} {xs : List Value} (h : Tg.Tab X w base tb R n c l) (r : RecAt w b t xs) (hx : NoI xs) : Tg.Tab (fun k => X k ∧ k ≠ b) w base tb R n c l := by
  obtain ⟨vs, h1, h2⟩ := h.ot
  exact ⟨h.rc, ⟨vs, h1, ⟨h2.len, fun i e hi => (TnP.nb (h2.at_ i e hi) r hx).mono (fun j hj hh => ⟨hh.1.1, hh.1.2.1, hh.1.2.2, hh.2⟩)⟩⟩, h.ne, h.ba⟩
/-- a block that is not a state's, and has no ints, may change -/
theorem Sta.off {u u' : World} {B sb : Nat} {d : SD} (h : Sta u B sb d) {b : Nat} {t : TypeId} {xs : List Value} (r : RecAt u b t xs) (hx : NoI xs) (hb : ¬ d.D sb b) (f : Fr (fun k => k = b) u u') : Sta u' B sb d := by
  refine ⟨h.rs.fr f (fun e => hb (.inl e.symm)), h.ba, ?_, ?_, h.ta, f.row h.ld (fun k hk e => hb (.inr (.inr (.inr (by rw [← show k = b from e]; exact hk))))), h.ll, h.la, h.lz, h.s1, h.s2, h.s3, h.it, h.il, h.tl, (fun k hk => Nat.lt_of_lt_of_le (h.zb k hk) f.size)⟩
  · exact ((Ix.nb_ h.ix r hx).off f (fun k hk e => hb (.inr (.inl (by rw [← show k = b from e]; exact hk)))) (fun k hk e => hk.2 e)).monoX (fun k _ hk => hk.1)
  · exact ((Tab.nb_ h.tg r hx).off f (fun k hk e => hb (.inr (.inr (.inl (by rw [← show k = b from e]; exact hk))))) (fun k hk e => hk.2 e)).monoX (fun k _ hk => hk.1)
theorem noI3 {D : Nat → Prop} {w : World} {cs : List Value} {E : List En} {T : List Tn} {Ls : List Lo} (h : RSt D w cs E T Ls) : NoI cs := by
  obtain ⟨A, n, c, A', n', c', A'', n'', c'', e, _⟩ := h
  subst e
  intro o k x
  match o with
  | 0 => simp
  | 1 => simp
  | 2 => simp
  | o + 3 => simp
/-! ### where the deeds stand -/
structure StS (w : World) (B i sb b11 : Nat) (u : World) (d : SD) (cs : List Value) : Prop where
  fr : Fr (fun _ => False) w u
  st : Sta u B sb d
  rc : RecAt u b11 44 cs
  rd : RSt (fun k => d.D sb k ∨ k = b11) u cs d.lE d.lT d.lL
  nb : ¬ d.D sb b11
  wb : w.heap.size ≤ b11
  bd : SB (1048576 + i) d
theorem StS.fr0 {w : World} {B i sb b11 : Nat} {u u' : World} {d : SD} {cs : List Value} (h : StS w B i sb b11 u d cs) (f : Fr (fun _ => False) u u') : StS w B i sb b11 u' d cs :=
  ⟨h.fr.trans1 f, h.st.fr0 f, h.rc.fr f (fun h => h), h.rd.fr0 f, h.nb, h.wb, h.bd⟩
theorem StS.lt {w : World} {B i sb b11 : Nat} {u : World} {d : SD} {cs : List Value} (h : StS w B i sb b11 u d cs) : ∀ k, d.D sb k ∨ k = b11 → k < u.heap.size := fun k hk => hk.elim (fun h' => (h.st.lt h').2) (fun e => by rw [e]; exact h.rc.lt)
theorem SB.two {m : Nat} {d : SD} (h : SB m d) (hm : m ≤ 50000000) : SB2 d.lE d.lT d.lL :=
  ⟨h.e.mono (by omega), fun e he => Nat.le_trans (h.t e he) (by omega), Nat.le_trans h.el (by omega), Nat.le_trans h.tl (by omega), Nat.le_trans h.ll (by omega)⟩
/-- behind the program's deed, ahead of the document's -/
structure Mid (w : World) (B i sb b11 : Nat) (u : World) (d d' : SD) (cs : List Value) : Prop where
  fr : Fr (fun _ => False) w u
  st : Sta u B sb d'
  rc : RecAt u b11 44 cs
  rd : RSt (fun k => d'.D sb k ∨ k = b11) u cs d.lE d.lT d.lL
  nb : ¬ d'.D sb b11
  wb : w.heap.size ≤ b11
theorem StS.mid {w : World} {B i sb b11 : Nat} {u u' : World} {d d' : SD} {cs : List Value} (h : StS w B i sb b11 u d cs) (s : Stp u u' B sb d d') (hB : w.heap.size ≤ B) : Mid w B i sb b11 u' d d' cs :=
  ⟨h.fr.trans s.fr (fun _ _ h => h) (fun k hk h' => by have := (h.st.lt h').1; omega), s.st, h.rc.fr s.fr h.nb, h.rd.step (s.fr.mono (fun k _ hk => .inl hk)) (fun k hk => hk.elim (fun h' => (s.up k h').imp .inl id) (fun e => .inl (.inr e))), fun h' => (s.up _ h').elim h.nb (fun h2 => by have := h.rc.lt; omega), h.wb⟩
theorem Mid.lt {w : World} {B i sb b11 : Nat} {u : World} {d d' : SD} {cs : List Value} (h : Mid w B i sb b11 u d d' cs) : ∀ k, d'.D sb k ∨ k = b11 → k < u.heap.size := fun k hk => hk.elim (fun h' => (h.st.lt h').2) (fun e => by rw [e]; exact h.rc.lt)
/-- the document's state behind it is put into its variable -/
theorem Mid.put {w : World} {B i j sb b11 : Nat} {u v : World} {d d' : SD} {cs cs' : List Value} {K : World → Prop} (h : Mid w B i sb b11 u d d' cs) (f : Fr (fun _ => False) u v) (rd : RSt (fun k => d'.D sb k ∨ k = b11) v cs' d'.lE d'.lT d'.lL) (hb : SB (1048576 + j) d')
    (hK : ∀ y, StS w B j sb b11 y d' cs' → Fr (fun k => k = b11) v y → K y) : gd (cs'.length == 3) (Go.GV.st v b11 0 cs' K) := by
  have hl := h.rd.len
  have hl' := rd.len
  have r := h.rc.fr f (fun h => h)
  refine gd_mk (by rw [hl']; rfl) (r.st_mk (o := 0) (by rw [hl', hl]; omega) rd.one (fun r2 f2 => hK _ ⟨fr_own (h.fr.trans1 f) f2 h.wb, (h.st.fr0 f).off r (noI3 h.rd) h.nb f2, ?_, rd.step (f2.mono (fun k _ e => .inr e)) (fun k hk => .inl hk), h.nb, h.wb, hb⟩ f2))
  rw [splice_full (by rw [hl', hl])] at r2
  exact r2
end Go.Proofs.YthcclmlbkfadcaaGreat
/- For the closings: what the bound gives. -/
namespace Go.Proofs.YthcclmlbkfadcaaGreat
open Go.GV Go.ChangeShapes Go.WideShapes Go.ChangeAt Go.RowKit
set_option linter.unusedVariables false
theorem own : ownKnob Tryz.prog.godebug = none := by kernel_rfl
theorem laid : laidOutB Tryz.prog = true := by kernel_rfl
theorem small {H : Type} {l : List (DataW H)} (hk : Rows.uptoSmall H l = true) : Rows.uptoBulkAll l ≤ 1048576 := of_decide_eq_true hk
theorem one_le {H : Type} (d : DataW H) : 1 ≤ Rows.uptoBulk d := by
  cases d with
  | lit l => cases l <;> simp [Rows.uptoBulk]
  | nil => simp [Rows.uptoBulk]
  | ptr d => simp [Rows.uptoBulk]
  | slice elems spare => simp [Rows.uptoBulk]
  | agg parts => simp [Rows.uptoBulk]
  | iface t d => simp [Rows.uptoBulk]
  | map entries => simp [Rows.uptoBulk]
  | held h => simp [Rows.uptoBulk]
theorem part_le {H : Type} {d : DataW H} {l : List (DataW H)} (h : d ∈ l) : Rows.uptoBulk d ≤ Rows.uptoBulkAll l := by
  induction l with
  | nil => cases h
  | cons x r ih =>
    simp only [Rows.uptoBulkAll]
    cases List.mem_cons.1 h with
    | inl e => subst e; omega
    | inr e => have := ih e; omega
theorem part_at {H : Type} {d : DataW H} {l : List (DataW H)} {i : Nat} (h : l[i]? = some d) : Rows.uptoBulk d ≤ Rows.uptoBulkAll l := part_le (List.mem_of_getElem? h)
theorem length_le {H : Type} (l : List (DataW H)) : l.length ≤ Rows.uptoBulkAll l := by
  induction l with
  | nil => simp [Rows.uptoBulkAll]
  | cons x r ih => have := one_le x; simp only [Rows.uptoBulkAll, List.length_cons]; omega
end Go.Proofs.YthcclmlbkfadcaaGreat
/- opening words and rows of ints -/
namespace Go.Proofs.YthcclmlbkfadcaaGreat
open Go.GV Go.ChangeShapes Go.WideShapes Go.ChangeAt Go.RowKit
set_option linter.unusedVariables false
set_option linter.unusedSimpArgs false
theorem cDg : Tryz.prog.cellsOf 33 = 32 := by kernel_rfl
theorem cU8 : Tryz.prog.cellsOf 5 = 1 := by kernel_rfl
theorem cIn : Tryz.prog.cellsOf 3 = 1 := by kernel_rfl
theorem cU64 : Tryz.prog.cellsOf 25 = 1 := by kernel_rfl
theorem cBo : Tryz.prog.cellsOf 4 = 1 := by kernel_rfl
theorem cSt : Tryz.prog.cellsOf 9 = 1 := by kernel_rfl
theorem cIs : Tryz.prog.cellsOf 46 = 1 := by kernel_rfl
theorem cLo : Tryz.prog.cellsOf 35 = 3 := by kernel_rfl
theorem cut {cs : List Value} (o k : Nat) : cs.drop o = (cs.drop o).take k ++ cs.drop (o + k) := by
  rw [← List.drop_drop]; exact (List.take_append_drop k _).symm
theorem flat_ivs : ∀ r : List Int, (r.map (fun y => [Value.int .i64 y])).flatten = ivs r
  | [] => rfl
  | a :: b => by
    rw [List.map_cons, List.flatten_cons, flat_ivs b]; rfl
theorem tr_ints {H : Type} {enc : TypeId × Value → H} {w : World} {fuel : Nat} {cs : List Value} {x : DataW H × List MemPlace} (h : TR enc Tryz.prog w fuel 46 cs x) :
    ∃ (A : Option Addr) (n c : Nat) (l : List Int), cs = [Value.slice A n c] ∧ Sl w 1 A n (ivs l) ∧ n ≤ Rows.uptoBulk x.1 := by
  obtain ⟨A, n, c, vss, hcs, h1, h2, h3, h4, h5, h6⟩ := tr_slice (P := Tryz.prog) (e := 3) Tryz.underlying46 (by rw [cIn]; decide) h
  rcases h6 with ⟨h7, rfl, rfl, rfl⟩ | ⟨es, sp, h7, h8, h9, h10⟩
  · exact ⟨none, 0, 0, [], hcs, Sl.nil _ _ _, Nat.zero_le _⟩
  · obtain ⟨r, hrl, hr⟩ := choose_list (R := fun _ v (y : Int) => v = [Value.int .i64 y]) vss (fun i v hi => by
      obtain ⟨m, y, hy, _⟩ := h10 i v hi
      obtain ⟨q, e, _⟩ := tr_int (P := Tryz.prog) (k := .i64) Tryz.underlying3 hy
      exact ⟨q, e⟩)
    have hv : vss = r.map (fun y => [Value.int .i64 y]) := by
      apply List.ext_getElem?
      intro i
      by_cases hi : i < vss.length
      · obtain ⟨y, hl, hl2⟩ := hr i _ (List.getElem?_eq_getElem hi)
        rw [List.getElem?_map, hl, List.getElem?_eq_getElem hi, hl2]; rfl
      · rw [List.getElem?_eq_none (by omega), List.getElem?_eq_none (by simp; omega)]
    rw [cIn, hv, flat_ivs] at h5
    refine ⟨A, n, c, r, hcs, h5, ?_⟩
    rw [h7]
    have := length_le es
    simp only [Rows.uptoBulk]
    omega
set_option maxRecDepth 100000 in
theorem tr_loc {H : Type} {enc : TypeId × Value → H} {w : World} {fuel : Nat} {cs : List Value} {x : DataW H × List MemPlace} (h : TR enc Tryz.prog w fuel 35 cs x) : ∃ s o q : Int, cs = [.int .i64 s, .int .i64 o, .int .i64 q] := by
  obtain ⟨hl, ds, hd, hdl, hf⟩ := tr_struct (P := Tryz.prog) Tryz.underlying35 h
  rw [cLo] at hl
  obtain ⟨m0, y0, t0, _⟩ := hf 0 _ rfl
  obtain ⟨m1, y1, t1, _⟩ := hf 1 _ rfl
  obtain ⟨m2, y2, t2, _⟩ := hf 2 _ rfl
  match cs, hl with
  | [x0, x1, x2], _ =>
    have t0 : TR enc Tryz.prog w m0 3 (([x0, x1, x2].drop 0).take (Tryz.prog.cellsOf 3)) y0 := t0
    have t1 : TR enc Tryz.prog w m1 3 (([x0, x1, x2].drop 1).take (Tryz.prog.cellsOf 3)) y1 := t1
    have t2 : TR enc Tryz.prog w m2 3 (([x0, x1, x2].drop 2).take (Tryz.prog.cellsOf 3)) y2 := t2
    simp only [cIn, List.drop_zero, List.drop_succ_cons, List.take_succ_cons, List.take_zero] at t0 t1 t2
    obtain ⟨n0, e0, _⟩ := tr_int (P := Tryz.prog) (k := .i64) Tryz.underlying3 t0
    obtain ⟨n1, e1, _⟩ := tr_int (P := Tryz.prog) (k := .i64) Tryz.underlying3 t1
    obtain ⟨n2, e2, _⟩ := tr_int (P := Tryz.prog) (k := .i64) Tryz.underlying3 t2
    simp only [List.cons.injEq, and_true] at e0 e1 e2
    subst e0; subst e1; subst e2
    exact ⟨n0, n1, n2, rfl⟩
theorem tr_dig {H : Type} {enc : TypeId × Value → H} {w : World} {fuel : Nat} {cs : List Value} {x : DataW H × List MemPlace} (h : TR enc Tryz.prog w fuel 33 cs x) : ∃ l : List UInt8, cs = l.map bv ∧ l.length = 32 :=
  tr_byteArray (P := Tryz.prog) Tryz.underlying33 Tryz.underlying5 cU8 cDg h
end Go.Proofs.YthcclmlbkfadcaaGreat
/- opening entries, and rows of them -/
namespace Go.Proofs.YthcclmlbkfadcaaGreat
open Go.GV Go.ChangeShapes Go.WideShapes Go.ChangeAt Go.RowKit
set_option linter.unusedVariables false
set_option linter.unusedSimpArgs false
theorem cEn : Tryz.prog.cellsOf 48 = 38 := by kernel_rfl
set_option maxRecDepth 100000 in
theorem tr_en {H : Type} {enc : TypeId × Value → H} {w : World} {fuel : Nat} {cs : List Value} {x : DataW H × List MemPlace} (h : TR enc Tryz.prog w fuel 48 cs x) : ∃ e : En, EnAt w cs e ∧ e.l.length ≤ Rows.uptoBulk x.1 := by
  obtain ⟨hl, ds, hd, hdl, hf⟩ := tr_struct (P := Tryz.prog) Tryz.underlying48 h
  rw [cEn] at hl
  obtain ⟨m0, y0, t0, _⟩ := hf 0 _ rfl
  obtain ⟨m1, y1, t1, _⟩ := hf 1 _ rfl
  obtain ⟨m2, y2, t2, _⟩ := hf 2 _ rfl
  obtain ⟨m3, y3, t3, _⟩ := hf 3 _ rfl
  obtain ⟨m4, y4, t4, b4⟩ := hf 4 _ rfl
  have t0 : TR enc Tryz.prog w m0 33 ((cs.drop 0).take (Tryz.prog.cellsOf 33)) y0 := t0
  have t1 : TR enc Tryz.prog w m1 3 ((cs.drop 32).take (Tryz.prog.cellsOf 3)) y1 := t1
  have t2 : TR enc Tryz.prog w m2 3 ((cs.drop 33).take (Tryz.prog.cellsOf 3)) y2 := t2
  have t3 : TR enc Tryz.prog w m3 35 ((cs.drop 34).take (Tryz.prog.cellsOf 35)) y3 := t3
  have t4 : TR enc Tryz.prog w m4 46 ((cs.drop 37).take (Tryz.prog.cellsOf 46)) y4 := t4
  rw [cDg] at t0
  rw [cIn] at t1 t2
  rw [cLo] at t3
  rw [cIs] at t4
  obtain ⟨d, e0, hdl⟩ := tr_dig t0
  obtain ⟨k, e1, _⟩ := tr_int (P := Tryz.prog) (k := .i64) Tryz.underlying3 t1
  obtain ⟨z, e2, _⟩ := tr_int (P := Tryz.prog) (k := .i64) Tryz.underlying3 t2
  obtain ⟨s, o, q, e3⟩ := tr_loc t3
  obtain ⟨A, n, c, l, e4, hs, hb⟩ := tr_ints t4
  have hcs : cs = cs.drop 0 := rfl
  rw [cut 0 32, cut 32 1, cut 33 1, cut 34 3, cut 37 1, e0, e1, e2, e3, e4, List.drop_of_length_le (l := cs) (i := 37 + 1) (by omega)] at hcs
  refine ⟨⟨d, k, z, s, o, q, l⟩, ⟨A, n, c, hcs, hs, hdl⟩, ?_⟩
  have h1 := part_at b4
  have h2 := sl_n hs
  rw [hd]
  simp only [Rows.uptoBulk]
  omega
theorem chunk_flatE {vss : List (List Value)} (hk : ∀ (i : Nat) (v : List Value), vss[i]? = some v → v.length = 38) {i : Nat} {v : List Value} (hi : vss[i]? = some v) : chunk vss.flatten i = v := by
  obtain ⟨h1, h2⟩ := flatten_get hk
  have hil := (List.getElem?_eq_some_iff.1 hi).1
  have hv := hk i v hi
  apply List.ext_getElem?
  intro j
  by_cases hj : j < 38
  · rw [chunk_get hj]
    exact h2 i v j hi hj
  · rw [List.getElem?_eq_none (l := v) (by omega), List.getElem?_eq_none]
    unfold chunk
    rw [List.length_take]; omega
set_option maxRecDepth 100000 in
theorem tr_ens {H : Type} {enc : TypeId × Value → H} {w : World} {fuel : Nat} {cs : List Value} {x : DataW H × List MemPlace} (h : TR enc Tryz.prog w fuel 26 cs x) :
    ∃ (A : Option Addr) (n c : Nat) (l : List En), cs = [Value.slice A n c] ∧ RE (fun _ => True) w A n l ∧ n ≤ Rows.uptoBulk x.1 ∧ BdE (Rows.uptoBulk x.1) l := by
  obtain ⟨A, n, c, vss, hcs, h1, h2, h3, h4, h5, h6⟩ := tr_slice (P := Tryz.prog) (e := 48) Tryz.underlying26 (by rw [cEn]; decide) h
  rw [cEn] at h4 h5
  rcases h6 with ⟨h7, rfl, rfl, rfl⟩ | ⟨es, sp, h7, h8, h9, h10⟩
  · exact ⟨none, 0, 0, [], hcs, RE.nil _ _ _, Nat.zero_le _, fun e he => by cases he⟩
  · obtain ⟨l, hll, hl⟩ := choose_list (R := fun (i : Nat) v (e : En) => EnAt w v e ∧ e.l.length ≤ Rows.uptoBulkAll es) vss (fun i v hi => by
      obtain ⟨m, y, hy, hey⟩ := h10 i v hi
      obtain ⟨e, he, hb⟩ := tr_en hy
      exact ⟨e, he, Nat.le_trans hb (part_at hey)⟩)
    have hat : ∀ (i : Nat) (e : En), l[i]? = some e → ∃ v, vss[i]? = some v ∧ EnAt w v e ∧ e.l.length ≤ Rows.uptoBulkAll es := fun i e hi => by
      have hil := (List.getElem?_eq_some_iff.1 hi).1
      have hg : vss[i]? = some (vss[i]'(by omega)) := List.getElem?_eq_getElem (by omega)
      obtain ⟨e', he', hr⟩ := hl i _ hg
      rw [hi] at he'
      injection he' with he'
      subst he'
      exact ⟨_, hg, hr⟩
    have hbulk : Rows.uptoBulkAll es ≤ Rows.uptoBulk x.1 := by rw [h7]; simp only [Rows.uptoBulk]; omega
    refine ⟨A, n, c, l, hcs, ⟨_, h5, ?_, fun i e hi => ?_⟩, ?_, fun e he => ?_⟩
    · rw [(flatten_get h4).1]; omega
    · obtain ⟨v, hv, ⟨A, n, c, e1, e2, e3⟩, _⟩ := hat i e hi
      rw [chunk_flatE h4 hv]
      exact ⟨A, n, c, e1, e2, e3, fun _ _ _ => trivial⟩
    · have := length_le es
      omega
    · obtain ⟨i, hi⟩ := List.mem_iff_getElem?.1 he
      obtain ⟨_, _, _, hb⟩ := hat i e hi
      omega
end Go.Proofs.YthcclmlbkfadcaaGreat
/- opening names entries -/
namespace Go.Proofs.YthcclmlbkfadcaaGreat.Tg
open Go.GV Go.ChangeShapes Go.WideShapes Go.ChangeAt Go.RowKit
set_option linter.unusedVariables false
set_option linter.unusedSimpArgs false
theorem cTn : Tryz.prog.cellsOf 53 = 38 := by kernel_rfl
set_option maxRecDepth 100000 in
theorem tr_tn {H : Type} {enc : TypeId × Value → H} {w : World} {fuel : Nat} {cs : List Value} {x : DataW H × List MemPlace} (h : TR enc Tryz.prog w fuel 53 cs x) : ∃ e : Tn, TnAt w cs e ∧ e.l.length ≤ Rows.uptoBulk x.1 := by
  obtain ⟨hl, ds, hd, hdl, hf⟩ := tr_struct (P := Tryz.prog) Tryz.underlying53 h
  rw [cTn] at hl
  obtain ⟨m0, y0, t0, _⟩ := hf 0 _ rfl
  obtain ⟨m1, y1, t1, _⟩ := hf 1 _ rfl
  obtain ⟨m2, y2, t2, _⟩ := hf 2 _ rfl
  obtain ⟨m3, y3, t3, _⟩ := hf 3 _ rfl
  obtain ⟨m4, y4, t4, b4⟩ := hf 4 _ rfl
  have t0 : TR enc Tryz.prog w m0 9 ((cs.drop 0).take (Tryz.prog.cellsOf 9)) y0 := t0
  have t1 : TR enc Tryz.prog w m1 33 ((cs.drop 1).take (Tryz.prog.cellsOf 33)) y1 := t1
  have t2 : TR enc Tryz.prog w m2 4 ((cs.drop 33).take (Tryz.prog.cellsOf 4)) y2 := t2
  have t3 : TR enc Tryz.prog w m3 35 ((cs.drop 34).take (Tryz.prog.cellsOf 35)) y3 := t3
  have t4 : TR enc Tryz.prog w m4 46 ((cs.drop 37).take (Tryz.prog.cellsOf 46)) y4 := t4
  rw [cSt] at t0
  rw [cDg] at t1
  rw [cBo] at t2
  rw [cLo] at t3
  rw [cIs] at t4
  obtain ⟨nm, e0, _⟩ := tr_string (P := Tryz.prog) Tryz.underlying9 t0
  obtain ⟨d, e1, hdl⟩ := tr_dig t1
  obtain ⟨g, e2, _⟩ := tr_bool (P := Tryz.prog) Tryz.underlying4 t2
  obtain ⟨s, o, q, e3⟩ := tr_loc t3
  obtain ⟨A, n, c, l, e4, hs, hb⟩ := tr_ints t4
  have hcs : cs = cs.drop 0 := rfl
  rw [cut 0 1, cut 1 32, cut 33 1, cut 34 3, cut 37 1, e0, e1, e2, e3, e4, List.drop_of_length_le (l := cs) (i := 37 + 1) (by omega)] at hcs
  refine ⟨⟨nm, d, g, s, o, q, l⟩, ⟨A, n, c, hcs, hs, hdl⟩, ?_⟩
  have h1 := part_at b4
  have h2 := sl_n hs
  rw [hd]
  simp only [Rows.uptoBulk]
  omega
end Go.Proofs.YthcclmlbkfadcaaGreat.Tg
/- chapter 22: opening snapshots, deeds, words -/
namespace Go.Proofs.YthcclmlbkfadcaaGreat
open Go.GV Go.ChangeShapes Go.WideShapes Go.ChangeAt Go.RowKit
open Tg (Tn)
set_option linter.unusedVariables false
set_option linter.unusedSimpArgs false
theorem wr_wf {n : Int} (h : (Lit.int .i64 n).wf = true) : wr n = n := by
  simp [Lit.wf, IntKind.min, IntKind.max, IntKind.signed, IntKind.bits] at h
  unfold wr
  simp [IntKind.wrap, IntKind.min, IntKind.max, IntKind.signed, IntKind.bits]
  (try split) <;> omega
theorem cLd : Tryz.prog.cellsOf 98 = 3 := by kernel_rfl
set_option maxRecDepth 100000 in
theorem tr_lo {H : Type} {enc : TypeId × Value → H} {w : World} {fuel : Nat} {cs : List Value} {x : DataW H × List MemPlace} (h : TR enc Tryz.prog w fuel 98 cs x) : ∃ y : Lo, cs = encL y ∧ wr y.a = y.a := by
  obtain ⟨hl, ds, hd, hdl, hf⟩ := tr_struct (P := Tryz.prog) Tryz.underlying98 h
  rw [cLd] at hl
  obtain ⟨m0, y0, t0, _⟩ := hf 0 _ rfl
  obtain ⟨m1, y1, t1, _⟩ := hf 1 _ rfl
  obtain ⟨m2, y2, t2, _⟩ := hf 2 _ rfl
  match cs, hl with
  | [x0, x1, x2], _ =>
    have t0 : TR enc Tryz.prog w m0 3 (([x0, x1, x2].drop 0).take (Tryz.prog.cellsOf 3)) y0 := t0
    have t1 : TR enc Tryz.prog w m1 3 (([x0, x1, x2].drop 1).take (Tryz.prog.cellsOf 3)) y1 := t1
    have t2 : TR enc Tryz.prog w m2 3 (([x0, x1, x2].drop 2).take (Tryz.prog.cellsOf 3)) y2 := t2
    simp only [cIn, List.drop_zero, List.drop_succ_cons, List.take_succ_cons, List.take_zero] at t0 t1 t2
    obtain ⟨n0, e0, _⟩ := tr_int (P := Tryz.prog) (k := .i64) Tryz.underlying3 t0
    obtain ⟨n1, e1, hw, _⟩ := tr_int (P := Tryz.prog) (k := .i64) Tryz.underlying3 t1
    obtain ⟨n2, e2, _⟩ := tr_int (P := Tryz.prog) (k := .i64) Tryz.underlying3 t2
    simp only [List.cons.injEq, and_true] at e0 e1 e2
    subst e0; subst e1; subst e2
    exact ⟨⟨n0, n1, n2⟩, rfl, wr_wf hw⟩
theorem flat_los : ∀ r : List Lo, (r.map encL).flatten = flt encL r
  | [] => rfl
  | a :: b => by
    rw [List.map_cons, List.flatten_cons, flat_los b, flt_cons]
theorem tr_los {H : Type} {enc : TypeId × Value → H} {w : World} {fuel : Nat} {cs : List Value} {x : DataW H × List MemPlace} (h : TR enc Tryz.prog w fuel 28 cs x) :
    ∃ (A : Option Addr) (n c : Nat) (l : List Lo), cs = [Value.slice A n c] ∧ Sl w 3 A n (flt encL l) ∧ l.length = n ∧ n ≤ Rows.uptoBulk x.1 ∧ ∀ y ∈ l, wr y.a = y.a := by
  obtain ⟨A, n, c, vss, hcs, h1, h2, h3, h4, h5, h6⟩ := tr_slice (P := Tryz.prog) (e := 98) Tryz.underlying28 (by rw [cLd]; decide) h
  rcases h6 with ⟨h7, rfl, rfl, rfl⟩ | ⟨es, sp, h7, h8, h9, h10⟩
  · exact ⟨none, 0, 0, [], hcs, Sl.nil _ _ _, rfl, Nat.zero_le _, fun y hy => by cases hy⟩
  · obtain ⟨r, hrl, hr⟩ := choose_list (R := fun _ v (y : Lo) => v = encL y ∧ wr y.a = y.a) vss (fun i v hi => by
      obtain ⟨m, y, hy, _⟩ := h10 i v hi
      exact tr_lo hy)
    have hv : vss = r.map encL := by
      apply List.ext_getElem?
      intro i
      by_cases hi : i < vss.length
      · obtain ⟨y, hl, hl2⟩ := hr i _ (List.getElem?_eq_getElem hi)
        rw [List.getElem?_map, hl, List.getElem?_eq_getElem hi, hl2.1]; rfl
      · rw [List.getElem?_eq_none (by omega), List.getElem?_eq_none (by simp; omega)]
    rw [cLd, hv, flat_los] at h5
    refine ⟨A, n, c, r, hcs, h5, by omega, ?_, fun y hy => ?_⟩
    · rw [h7]
      have := length_le es
      simp only [Rows.uptoBulk]
      omega
    · obtain ⟨i, hi⟩ := List.mem_iff_getElem?.1 hy
      have hil := (List.getElem?_eq_some_iff.1 hi).1
      obtain ⟨y', hl, hl2⟩ := hr i _ (List.getElem?_eq_getElem (l := vss) (by omega))
      rw [hi] at hl
      injection hl with hl
      subst hl
      exact hl2.2
set_option maxRecDepth 100000 in
theorem tr_tns {H : Type} {enc : TypeId × Value → H} {w : World} {fuel : Nat} {cs : List Value} {x : DataW H × List MemPlace} (h : TR enc Tryz.prog w fuel 27 cs x) :
    ∃ (A : Option Addr) (n c : Nat) (l : List Tn), cs = [Value.slice A n c] ∧ Tg.RT (fun _ => True) w A n l ∧ n ≤ Rows.uptoBulk x.1 ∧ Tg.Bd (Rows.uptoBulk x.1) l := by
  obtain ⟨A, n, c, vss, hcs, h1, h2, h3, h4, h5, h6⟩ := tr_slice (P := Tryz.prog) (e := 53) Tryz.underlying27 (by rw [Tg.cTn]; decide) h
  rw [Tg.cTn] at h4 h5
  rcases h6 with ⟨h7, rfl, rfl, rfl⟩ | ⟨es, sp, h7, h8, h9, h10⟩
  · exact ⟨none, 0, 0, [], hcs, Tg.RT.nil _ _ _, Nat.zero_le _, (fun e he => by cases he)⟩
  · obtain ⟨l, hll, hl⟩ := choose_list (R := fun (i : Nat) v (e : Tn) => Tg.TnAt w v e ∧ e.l.length ≤ Rows.uptoBulkAll es) vss (fun i v hi => by
      obtain ⟨m, y, hy, hey⟩ := h10 i v hi
      obtain ⟨e, he, hb⟩ := Tg.tr_tn hy
      exact ⟨e, he, Nat.le_trans hb (part_at hey)⟩)
    have hat : ∀ (i : Nat) (e : Tn), l[i]? = some e → ∃ v, vss[i]? = some v ∧ Tg.TnAt w v e ∧ e.l.length ≤ Rows.uptoBulkAll es := fun i e hi => by
      have hil := (List.getElem?_eq_some_iff.1 hi).1
      have hg : vss[i]? = some (vss[i]'(by omega)) := List.getElem?_eq_getElem (by omega)
      obtain ⟨e', he', hr⟩ := hl i _ hg
      rw [hi] at he'
      injection he' with he'
      subst he'
      exact ⟨_, hg, hr⟩
    have hbulk : Rows.uptoBulkAll es ≤ Rows.uptoBulk x.1 := by rw [h7]; simp only [Rows.uptoBulk]; omega
    refine ⟨A, n, c, l, hcs, ⟨_, h5, ?_, fun i e hi => ?_⟩, ?_, fun e he => ?_⟩
    · rw [(flatten_get h4).1]; omega
    · obtain ⟨v, hv, ⟨A, n, c, e1, e2, e3⟩, _⟩ := hat i e hi
      show Tg.TnP (fun _ => True) w (chunk vss.flatten i) e
      rw [chunk_flatE h4 hv]
      exact ⟨A, n, c, e1, e2, e3, fun _ _ _ => trivial⟩
    · have := length_le es
      omega
    · obtain ⟨i, hi⟩ := List.mem_iff_getElem?.1 he
      obtain ⟨_, _, _, hb⟩ := hat i e hi
      omega
theorem cSn : Tryz.prog.cellsOf 30 = 7 := by kernel_rfl
set_option maxRecDepth 100000 in
theorem open_sn {H : Type} {enc : TypeId × Value → H} {w : World} {b0 : Nat} {v : Value} {d : DataW H} {ps : List MemPlace} (hv : Value.okWide Tryz.prog w .any b0 30 v) (h : DataW.Trod enc Tryz.prog w 0 (fun _ => true) true 30 v d ps) (hb : Rows.uptoBulk d ≤ 1048576) :
    ∃ (cs : List Value) (E : List En) (T : List Tn) (Ls : List Lo), v = ofL cs ∧ SnAt w cs E T Ls ∧ E.length ≤ 1048576 ∧ T.length ≤ 1048576 ∧ Ls.length ≤ 1048576 ∧ BdE 1048576 E ∧ Tg.Bd 1048576 T ∧ ∀ y ∈ Ls, wr y.a = y.a := by
  obtain ⟨fuel, ht⟩ := h
  obtain ⟨cs, rfl, hcs⟩ := agg_of_struct Tryz.underlying30 hv
  rw [hcs] at ht
  obtain ⟨hl, ds, hd, hdl, hf⟩ := tr_struct (P := Tryz.prog) Tryz.underlying30 ht
  rw [cSn] at hl
  obtain ⟨m0, y0, t0, _⟩ := hf 0 _ rfl
  obtain ⟨m1, y1, t1, _⟩ := hf 1 _ rfl
  obtain ⟨m2, y2, t2, _⟩ := hf 2 _ rfl
  obtain ⟨m3, y3, t3, _⟩ := hf 3 _ rfl
  obtain ⟨m4, y4, t4, b4⟩ := hf 4 _ rfl
  obtain ⟨m5, y5, t5, b5⟩ := hf 5 _ rfl
  obtain ⟨m6, y6, t6, b6⟩ := hf 6 _ rfl
  match cs, hl with
  | [x0, x1, x2, x3, x4, x5, x6], _ =>
    have t0 : TR enc Tryz.prog w m0 3 (([x0, x1, x2, x3, x4, x5, x6].drop 0).take (Tryz.prog.cellsOf 3)) y0 := t0
    have t1 : TR enc Tryz.prog w m1 3 (([x0, x1, x2, x3, x4, x5, x6].drop 1).take (Tryz.prog.cellsOf 3)) y1 := t1
    have t2 : TR enc Tryz.prog w m2 3 (([x0, x1, x2, x3, x4, x5, x6].drop 2).take (Tryz.prog.cellsOf 3)) y2 := t2
    have t3 : TR enc Tryz.prog w m3 25 (([x0, x1, x2, x3, x4, x5, x6].drop 3).take (Tryz.prog.cellsOf 25)) y3 := t3
    have t4 : TR enc Tryz.prog w m4 26 [x4] y4 := t4
    have t5 : TR enc Tryz.prog w m5 27 [x5] y5 := t5
    have t6 : TR enc Tryz.prog w m6 28 [x6] y6 := t6
    simp only [cIn, cU64, List.drop_zero, List.drop_succ_cons, List.take_succ_cons, List.take_zero] at t0 t1 t2 t3
    obtain ⟨n0, e0, _⟩ := tr_int (P := Tryz.prog) (k := .i64) Tryz.underlying3 t0
    obtain ⟨n1, e1, _⟩ := tr_int (P := Tryz.prog) (k := .i64) Tryz.underlying3 t1
    obtain ⟨n2, e2, _⟩ := tr_int (P := Tryz.prog) (k := .i64) Tryz.underlying3 t2
    obtain ⟨n3, e3, _⟩ := tr_int (P := Tryz.prog) (k := .u64) Tryz.underlying25 t3
    obtain ⟨A, n, c, E, e4, r4, q4, d4⟩ := tr_ens t4
    obtain ⟨A', n', c', T, e5, r5, q5, d5⟩ := tr_tns t5
    obtain ⟨A'', n'', c'', Ls, e6, r6, l6, q6, d6⟩ := tr_los t6
    injection e0 with e0 _; injection e1 with e1 _; injection e2 with e2 _; injection e3 with e3 _; injection e4 with e4 _; injection e5 with e5 _; injection e6 with e6 _
    subst e0; subst e1; subst e2; subst e3; subst e4; subst e5; subst e6
    have p4 := part_at b4
    have p5 := part_at b5
    have p6 := part_at b6
    have : Rows.uptoBulkAll ds ≤ Rows.uptoBulk d := by dsimp only at hd; rw [hd]; simp only [Rows.uptoBulk]; omega
    have hEl := r4.len
    have hTl := r5.len
    exact ⟨_, E, T, Ls, rfl, ⟨n0, n1, n2, n3, A, n, c, A', n', c', A'', n'', c'', rfl, r4, r5, r6, l6⟩, by omega, by omega, by omega, d4.mono (by omega), fun e he => Nat.le_trans (d5 e he) (by omega), d6⟩
end Go.Proofs.YthcclmlbkfadcaaGreat
/- opening rows of words -/
namespace Go.Proofs.YthcclmlbkfadcaaGreat
open Go.GV Go.ChangeShapes Go.WideShapes Go.ChangeAt Go.RowKit
set_option linter.unusedVariables false
set_option linter.unusedSimpArgs false
end Go.Proofs.YthcclmlbkfadcaaGreat
/- chapter 22: what a state is asked; the law of asking -/
namespace Go.Proofs.YthcclmlbkfadcaaGreat
open Go.GV Go.RowKit Go.Lib Go.Stb
open Tg (Tn liveT)
set_option linter.unusedVariables false
set_option linter.unusedSimpArgs false
set_option maxRecDepth 10000 in
theorem digS_calls {w : World} {base sb : Nat} {d : SD} (h : Sta w base sb d) (dg : List UInt8) (hd : dg.length = 32) (hb : SB 50000000 d) :
    Calls Tryz.prog 15 #[.pointer (some ⟨sb, 0, none⟩), ofL (dg.map bv)] w fun e w' => Fr (fun _ => False) w w' ∧ ∃ cs, e = .returned (.tuple #[ofL cs, .bool (getE dg d.lE).2]) ∧ EnP (fun k => w.heap.size ≤ k) w' cs (getE dg d.lE).1 := by
  refine (F15.of (some ⟨sb, 0, none⟩) (dg.map bv) w (Q := fun v w' => Fr (fun _ => False) w w' ∧ ∃ cs, v = .tuple #[ofL cs, .bool (getE dg d.lE).2] ∧ EnP (fun k => w.heap.size ≤ k) w' cs (getE dg d.lE).1) ?_).mono (fun e w' ⟨v, he, hf, cs, hv, h⟩ => ⟨hf, cs, by rw [he, hv], h⟩)
  refine nw_mk (nw_mk ?_)
  have f1 : Fr (fun _ => False) w (w.alloc (.cells (dg.map bv).toArray 33)) := Fr.alloc _ _ _
  have r1 := RecAt.new w (dg.map bv) 33
  generalize w.alloc (.cells (dg.map bv).toArray 33) = w1 at f1 r1 ⊢
  have f2 : Fr (fun _ => False) w1 (w1.alloc (.cells Z48.toArray 48)) := Fr.alloc _ _ _
  have r3 := RecAt.new w1 Z48 48
  have s1 := f1.size
  generalize hb3 : w1.heap.size = b3 at r3 s1 ⊢
  generalize w1.alloc (.cells Z48.toArray 48) = w2 at f2 r3 ⊢
  have f2 := f2.trans1 (Fr.drew _ w2)
  have r3 := r3.fr (Fr.drew (fun _ => False) w2) (fun h => h)
  have g := f1.trans1 f2
  have h2 := h.fr0 g
  refine vIf_f rfl (dr_mk ⟨_, h2.rs.cell rfl, dg.map bv, bvl hd, rec_all (r1.fr f2 (fun h => h)), (getX_calls base d.ib d.bt d.bs d.N d.p d.S d.lE dg w2.drew h2.ix hd (hb.e.mono (by omega))).mono ?_⟩)
  rintro r w4 ⟨f4, cs, rfl, hE⟩
  have hgs := g.size
  refine ⟨cs, _, rfl, gd_mk (by rw [hE.len]; rfl) (st_all (r3.fr f4 (fun h => h)) z28 hE.len hE.one (fun w5 f5 r5 => ⟨fr_own (g.trans1 f4) f5 s1, cs, rfl, ?_⟩))⟩
  have l3 := r3.lt
  exact (hE.fr f5 (fun k hk e => by have e : k = b3 := e; omega)).mono (fun k _ hk => by omega)
set_option maxRecDepth 10000 in
theorem tagS_calls {w : World} {base sb : Nat} {d : SD} (h : Sta w base sb d) (nm : ByteArray) (hb : SB 50000000 d) :
    Calls Tryz.prog 17 #[.pointer (some ⟨sb, 0, none⟩), .string nm] w fun e w' => Fr (fun _ => False) w w' ∧ ∃ cs, e = .returned (.tuple #[ofL cs, .bool (Tg.getR nm d.lT).2]) ∧ Tg.TnP (fun k => w.heap.size ≤ k) w' cs (Tg.getR nm d.lT).1 := by
  refine (F17.of (some ⟨sb, 0, none⟩) nm w (Q := fun v w' => Fr (fun _ => False) w w' ∧ ∃ cs, v = .tuple #[ofL cs, .bool (Tg.getR nm d.lT).2] ∧ Tg.TnP (fun k => w.heap.size ≤ k) w' cs (Tg.getR nm d.lT).1) ?_).mono (fun e w' ⟨v, he, hf, cs, hv, h⟩ => ⟨hf, cs, by rw [he, hv], h⟩)
  have hTl := h.tg.len
  have htl := hb.tl
  refine nw_mk ?_
  have f2 : Fr (fun _ => False) w (w.alloc (.cells Z53.toArray 53)) := Fr.alloc _ _ _
  have r3 := RecAt.new w Z53 53
  generalize hb3 : w.heap.size = b3 at r3 ⊢
  generalize w.alloc (.cells Z53.toArray 53) = w2 at f2 r3 ⊢
  have h2 := h.fr0 f2
  refine vIf_f rfl (dr_mk ⟨_, h2.rs.cell rfl, (Tg.getT_calls base d.tb d.R d.nT d.cT d.lT nm w2 h2.tg h2.ta (by omega) (fun e he => Nat.le_trans (hb.t e he) (by omega))).mono ?_⟩)
  rintro r w4 ⟨f4, cs, rfl, hE⟩
  have hgs := f2.size
  refine ⟨cs, _, rfl, gd_mk (by rw [hE.len]; rfl) (st_all (r3.fr f4 (fun h => h)) Tg.z35 hE.len hE.one (fun w5 f5 r5 => ⟨fr_own (f2.trans1 f4) f5 (by omega), cs, rfl, ?_⟩))⟩
  have l3 := r3.lt
  exact (hE.fr f5 (fun k hk e => by have e : k = b3 := e; omega)).mono (fun k _ hk => by omega)
theorem countS_calls {w : World} {base sb : Nat} {d : SD} (h : Sta w base sb d) (hb : SB 50000000 d) :
    Calls Tryz.prog 19 #[.pointer (some ⟨sb, 0, none⟩)] w fun e w' => Fr (fun _ => False) w w' ∧ e = .returned (.tuple #[.int .i64 (cntE d.lE).1, .int .i64 (cntE d.lE).2, .int .i64 ((Tg.thereL d.lT).length : Nat)]) := by
  refine (F19.of (some ⟨sb, 0, none⟩) w (Q := fun v w' => Fr (fun _ => False) w w' ∧ v = .tuple #[.int .i64 (cntE d.lE).1, .int .i64 (cntE d.lE).2, .int .i64 ((Tg.thereL d.lT).length : Nat)]) ?_).mono (fun e w' ⟨v, he, hf, hv⟩ => ⟨hf, by rw [he, hv]⟩)
  have hTl := h.tg.len
  have htl := hb.tl
  have hp := hb.p
  refine vIf_f rfl (dr_mk ⟨_, h.rs.cell rfl, (countX_calls base d.ib d.bt d.bs d.N d.p d.S d.lE w h.ix (hb.e.mono (by omega)) (by omega)).mono ?_⟩)
  rintro r w2 ⟨f2, rfl⟩
  have h2 := h.fr0 f2
  refine ⟨_, _, rfl, dr_mk ⟨_, h2.rs.cell rfl, (Tg.countT_calls base d.tb d.R d.nT d.cT d.lT w2 h2.tg (by omega) (fun e he => Nat.le_trans (hb.t e he) (by omega))).mono ?_⟩⟩
  rintro r w3 ⟨rfl, f3⟩
  exact ⟨_, rfl, f2.trans1 f3, rfl⟩
theorem namesS_calls {w : World} {base sb : Nat} {d : SD} (h : Sta w base sb d) (hb : SB 50000000 d) :
    Calls Tryz.prog 25 #[.pointer (some ⟨sb, 0, none⟩)] w fun e w' => Fr (fun _ => False) w w' ∧ ∃ A' c', e = .returned (.slice A' (Tg.thereL d.lT).length c') ∧ Row w' w.heap.size 33 32 A' (Tg.thereL d.lT).length c' (Tg.dcs (Tg.digL (Tg.thereL d.lT))) := by
  refine (F25.of (some ⟨sb, 0, none⟩) w (Q := fun v w' => Fr (fun _ => False) w w' ∧ ∃ A' c', v = .slice A' (Tg.thereL d.lT).length c' ∧ Row w' w.heap.size 33 32 A' (Tg.thereL d.lT).length c' (Tg.dcs (Tg.digL (Tg.thereL d.lT)))) ?_).mono (fun e w' ⟨v, he, hf, a, b, hv, h⟩ => ⟨hf, a, b, by rw [he, hv], h⟩)
  have hTl := h.tg.len
  have htl := hb.tl
  refine vIf_f rfl (dr_mk ⟨_, h.rs.cell rfl, (Tg.namesT_calls base d.tb d.R d.nT d.cT d.lT w h.tg (by omega) (fun e he => Nat.le_trans (hb.t e he) (by omega))).mono ?_⟩)
  rintro r w2 ⟨f2, A, c, rfl, hr⟩
  exact ⟨_, _, _, rfl, f2, _, _, rfl, hr⟩
theorem listS_calls {w : World} {base sb : Nat} {d : SD} (h : Sta w base sb d) (af : ByteArray) (m : Int) (hb : SB 50000000 d) :
    Calls Tryz.prog 27 #[.pointer (some ⟨sb, 0, none⟩), .string af, .int .i64 m] w fun e w' => Fr (fun _ => False) w w' ∧ ∃ A' c', e = .returned (.slice A' (Tg.listL af m d.lT).length c') ∧ Row w' w.heap.size 9 1 A' (Tg.listL af m d.lT).length c' (Tg.svs (Tg.listL af m d.lT)) := by
  refine (F27.of (some ⟨sb, 0, none⟩) af m w (Q := fun v w' => Fr (fun _ => False) w w' ∧ ∃ A' c', v = .slice A' (Tg.listL af m d.lT).length c' ∧ Row w' w.heap.size 9 1 A' (Tg.listL af m d.lT).length c' (Tg.svs (Tg.listL af m d.lT))) ?_).mono (fun e w' ⟨v, he, hf, a, b, hv, h⟩ => ⟨hf, a, b, by rw [he, hv], h⟩)
  have hTl := h.tg.len
  have htl := hb.tl
  refine vIf_f rfl (dr_mk ⟨_, h.rs.cell rfl, (Tg.listT_calls base d.tb d.R d.nT d.cT d.lT af m w h.tg (by omega) (fun e he => Nat.le_trans (hb.t e he) (by omega))).mono ?_⟩)
  rintro r w2 ⟨f2, A, c, rfl, hr⟩
  exact ⟨_, _, _, rfl, f2, _, _, rfl, hr⟩
end Go.Proofs.YthcclmlbkfadcaaGreat
/- chapter 22: what a state has (the law of asking) -/
namespace Go.Proofs.YthcclmlbkfadcaaGreat
open Go.GV Go.RowKit Go.Lib Go.Stb
open Tg (Tn liveT)
set_option linter.unusedVariables false
set_option linter.unusedSimpArgs false
theorem there_w32 {P : Nat → Prop} {w : World} {A : Option Addr} {n : Nat} {l : List Tn} (h : Tg.RT P w A n l) : Tg.W32 (Tg.digL (Tg.thereL l)) := by
  intro d hd
  obtain ⟨e, he, rfl⟩ := List.mem_map.1 hd
  obtain ⟨vs, _, ht⟩ := h
  obtain ⟨i, hi⟩ := List.mem_iff_getElem?.1 (List.mem_filter.1 he).1
  exact (ht.at_ i e hi).dl
theorem noIz : NoI [Value.slice none 0 0, Value.slice none 0 0, Value.slice none 0 0] := by
  intro o k x
  match o with
  | 0 => simp
  | 1 => simp
  | 2 => simp
  | o + 3 => simp
set_option maxHeartbeats 2000000 in
set_option maxRecDepth 100000 in
theorem asks_law (cs0 : List Value) (E0 : List En) (T0 : List Tn) (L0 : List Lo) (dg : List UInt8) (nm : ByteArray) (w : World) (h0 : SnAt w cs0 E0 T0 L0) (hd : dg.length = 32) (hE : E0.length ≤ 1048576) (hT : T0.length ≤ 1048576) (hL : L0.length ≤ 1048576) (bE : BdE 1048576 E0) (bT : Tg.Bd 1048576 T0) (hw : ∀ x ∈ L0, wr x.a = x.a) :
    Calls Tryz.prog 4 #[ofL cs0, ofL (dg.map bv), .string nm] w fun r w' => r = .returned (.bool true) ∧ Fr (fun _ => False) w w' := by
  refine (F4.of cs0 (dg.map bv) nm w (Q := fun v w' => v = .bool true ∧ Fr (fun _ => False) w w') ?_).mono (fun e w' ⟨v, he, hv, h⟩ => ⟨by rw [he, hv], h⟩)
  have hl0 := h0.len
  refine nw_mk (nw_mk ?_)
  have f1 : Fr (fun _ => False) w (w.alloc (.cells cs0.toArray 30)) := Fr.alloc _ _ _
  have r1 := RecAt.new w cs0 30
  generalize hb1 : w.heap.size = b1 at r1 ⊢
  generalize w.alloc (.cells cs0.toArray 30) = w1 at f1 r1 ⊢
  have f2 : Fr (fun _ => False) w1 (w1.alloc (.cells (dg.map bv).toArray 33)) := Fr.alloc _ _ _
  have r3 := RecAt.new w1 (dg.map bv) 33
  generalize hb3 : w1.heap.size = b3 at r3 ⊢
  generalize w1.alloc (.cells (dg.map bv).toArray 33) = w2 at f2 r3 ⊢
  have f1 := f1.trans1 f2
  have r1 := r1.fr f2 (fun h => h)
  have h02 := h0.fr0 f1
  refine ⟨cs0, hl0, rec_all r1, (newS_calls cs0 E0 T0 L0 w2 h02 (by omega) (by omega) (by omega) (bE.mono (by omega)) (fun e he => Nat.le_trans (bT e he) (by omega))).mono ?_⟩
  rintro r w4 ⟨f2, sb, d, rfl, hst, e1, e2, e3, hp⟩
  have g4 := f1.trans1 f2
  refine ⟨_, rfl, cs0, hl0, rec_all (r1.fr f2 (fun h => h)), (rnewS_calls (D := d.D sb) cs0 E0 T0 L0 w4 (h02.low f2) (by omega) (by omega) (by omega) hw (fun k hk => (hst.lt hk).2) (fun k hk => ⟨Nat.lt_of_lt_of_le hk f2.size, fun h => by have := (hst.lt h).1; omega⟩)).mono ?_⟩
  rintro r w8 ⟨f3, cs, rfl, hR⟩
  rw [← e1, ← e2, ← e3] at hR
  have s1 := f1.size
  have s2 := f2.size
  have s3 := f3.size
  refine ⟨cs, rfl, nw_mk ?_⟩
  have f4 : Fr (fun _ => False) w8 (w8.alloc (.cells [Value.slice none 0 0, Value.slice none 0 0, Value.slice none 0 0].toArray 44)) := Fr.alloc _ _ _
  have r11 := RecAt.new w8 [Value.slice none 0 0, Value.slice none 0 0, Value.slice none 0 0] 44
  generalize hb11 : w8.heap.size = b11 at r11 ⊢
  generalize w8.alloc (.cells [Value.slice none 0 0, Value.slice none 0 0, Value.slice none 0 0].toArray 44) = w12 at f4 r11 ⊢
  have hst12 := hst.fr0 (f3.trans1 f4)
  have hnb : ¬ d.D sb b11 := fun h => by have := (hst.lt h).2; omega
  have hR12 : RSt (fun k => d.D sb k ∨ k = b11) w12 cs d.lE d.lT d.lL := hR.step (f4.mono (fun _ _ h => h.elim)) (fun k hk => hk.imp id (fun e => by omega))
  have hbd : SB (1048576 + 0) d := by
    have q1 := newE_bd bE E0.length
    rw [newE_all, ← e1] at q1
    have q2 := Tg.newT_bd bT T0.length
    rw [Tg.newT_all, ← e2] at q2
    have q3 := newE_len E0 E0.length
    rw [newE_all, ← e1] at q3
    have q4 := Tg.newT_len T0 T0.length
    rw [Tg.newT_all, ← e2] at q4
    have q5 := newLo_len L0
    rw [← e3] at q5
    exact ⟨q1, q2, by omega, by omega, by omega, by omega⟩
  have hcl := hR.len
  refine gd_mk (by rw [hcl]; rfl) (r11.st_mk (o := 0) (by rw [hcl]; show 0 + 3 ≤ 3; omega) hR.one (fun r13 f13 => ?_))
  rw [splice_full (by rw [hcl]; rfl)] at r13
  have g12 := (g4.trans1 f3).trans1 f4
  have hst0 : StS w w2.heap.size 0 sb b11 (stB w12 b11 0 cs) d cs := ⟨fr_own g12 f13 (by omega), hst12.off r11 noIz hnb f13, r13, hR12.step (f13.mono (fun k _ e => .inr e)) (fun k hk => .inl hk), hnb, by omega, hbd⟩
  have r3 := (r3.fr ((f2.trans1 f3).trans1 f4) (fun h => h)).fr f13 (fun h => by
    have h : b3 = b11 := h
    have := r3.lt
    omega)
  generalize stB w12 b11 0 cs = u0 at hst0 r3 ⊢
  clear r13 f13 r11 f4 hst12 hnb hR12 hbd g12 hR hst e1 e2 e3 hp hcl
  have hb : SB 50000000 d := hst0.bd.mono (by omega)
  have hb2 := hb.two (Nat.le_refl _)
  have t1 := hb2.el
  have t2 := hb2.tl
  have bT2 : Tg.Bd 4294967296 d.lT := fun e he => Nat.le_trans (hb.t e he) (by omega)
  obtain ⟨A, n, c, A', n', c', A'', n'', c'', rfl, g1, g2, g3, g4', g5⟩ := id hst0.rd
  have hEl := g1.1.len
  have hTl := g2.1.len
  refine ⟨dg.map bv, bvl hd, rec_all r3, (digS_calls hst0.st dg hd hb).mono ?_⟩
  rintro r u1 ⟨q1, x1, rfl, p1⟩
  refine ⟨x1, _, rfl, var_mk z28 p1.len p1.one (fun b21 u2 q2 r21 => ?_)⟩
  have k2 := q1.trans1 q2
  have R2 := hst0.rc.fr k2 (fun h => h)
  refine ⟨A, n, c, R2.cell rfl, dg.map bv, bvl hd, rec_all (r3.fr k2 (fun h => h)), (rget_calls A n c d.lE dg u2 (g1.1.fr0 k2) hd (by omega)).mono ?_⟩
  rintro r u3 ⟨q3, x3, rfl, p3⟩
  refine ⟨x3, _, rfl, var_mk z28 p3.len p3.one (fun b32 u4 q4 r32 => ?_)⟩
  have k4 := (k2.trans1 q3).trans1 q4
  refine (tagS_calls (hst0.st.fr0 k4) nm hb).mono ?_
  rintro r u5 ⟨q5, x5, rfl, p5⟩
  refine ⟨x5, _, rfl, var_mk Tg.z35 p5.len p5.one (fun b39 u6 q6 r39 => ?_)⟩
  have k6 := (k4.trans1 q5).trans1 q6
  have R6 := hst0.rc.fr k6 (fun h => h)
  refine ⟨A', n', c', R6.cell rfl, (Tg.rget_calls A' n' c' d.lT nm u6 (g2.1.fr0 k6) (by omega)).mono ?_⟩
  rintro r u7 ⟨q7, x7, rfl, p7⟩
  refine ⟨x7, _, rfl, var_mk Tg.z35 p7.len p7.one (fun b49 u8 q8 r49 => ?_)⟩
  have k8 := (k6.trans1 q7).trans1 q8
  refine (countS_calls (hst0.st.fr0 k8) hb).mono ?_
  rintro r u9 ⟨q9, rfl⟩
  have k9 := k8.trans1 q9
  have R9 := hst0.rc.fr k9 (fun h => h)
  refine ⟨_, _, _, rfl, A, n, c, R9.cell rfl, (rcountIx_calls A n c d.lE u9 (g1.1.fr0 k9) (by omega)).mono ?_⟩
  rintro r u10 ⟨q10, rfl⟩
  have q10 := q10.trans1 (Fr.drew _ u10)
  have k10 := k9.trans1 q10
  refine ⟨_, _, rfl, ?_⟩
  have q8_10 := (q8.trans1 q9).trans1 q10
  have q6_10 := (q6.trans1 q7).trans1 q8_10
  have q4_10 := (q4.trans1 q5).trans1 q6_10
  have q2_10 := (q2.trans1 q3).trans1 q4_10
  have r21 := r21.fr (q3.trans1 q4_10) (fun h => h)
  have r32 := r32.fr (q5.trans1 q6_10) (fun h => h)
  have r39 := r39.fr (q7.trans1 q8_10) (fun h => h)
  have r49 := r49.fr (q9.trans1 q10) (fun h => h)
  have p1 := p1.fr0 q2_10
  have p3 := p3.fr0 q4_10
  have p5 := p5.fr0 q6_10
  have p7 := p7.fr0 q8_10
  generalize u10.drew = u10 at k10 r21 r32 r39 r49 p1 p3 p5 p7 ⊢
  have hgE := hb.e.get dg
  have hgT := Tg.getR_bd hb.t nm
  refine ⟨x1, p1.len, rec_all r21, x3, p3.len, rec_all r32, (same_calls _ x1 x3 u10 p1.at p3.at (by omega)).mono ?_⟩
  rintro r u11 ⟨rfl, q11⟩
  refine ⟨_, rfl, vIf_t rfl (vIf_t (by simp) ⟨x5, p5.len, rec_all (r39.fr q11 (fun h => h)), x7, p7.len, rec_all (r49.fr q11 (fun h => h)), (Tg.sameT_calls _ x5 x7 u11 (p5.fr0 q11).at (p7.fr0 q11).at (by omega)).mono ?_⟩)⟩
  rintro r u12 ⟨rfl, q12⟩
  have k12 := (k10.trans1 q11).trans1 q12
  have R12 := hst0.rc.fr k12 (fun h => h)
  refine ⟨_, rfl, vIf_t rfl (vIf_t (by simp) (vIf_t (by simp) (vIf_t (by simp) ⟨A', n', c', R12.cell rfl, (Tg.rnames_calls A' n' c' d.lT u12 (g2.1.fr0 k12) (by omega)).mono ?_⟩)))⟩
  rintro r u13 ⟨q13, A79, c81, rfl, p13⟩
  have k13 := k12.trans1 q13
  have R13 := hst0.rc.fr k13 (fun h => h)
  have l13 := R13.lt
  refine ⟨_, _, _, rfl, vIf_t (by rw [Tg.digL_len]; simp) ⟨A', n', c', R13.cell rfl, (namesS_calls (hst0.st.fr0 k13) hb).mono ?_⟩⟩
  rintro r u14 ⟨q14, A87, c89, rfl, p14⟩
  have k14 := k13.trans1 q14
  refine ⟨_, _, _, rfl, kp_mk q14 l13 (fun h => h) ((Tg.rnames_calls A' n' c' d.lT u14 (g2.1.fr0 k14) (by omega)).mono ?_)⟩
  rintro r u15 ⟨q15, A92, c94, rfl, p15⟩
  have hll := Tg.thereL_len d.lT
  have hdl := Tg.digL_len (Tg.thereL d.lT)
  have hWt := there_w32 g2.1
  refine ⟨_, _, _, rfl, (Tg.same_dig A87 _ c89 _ A92 _ c94 _ u15 (q15.sl p14.sl (fun _ _ _ h => h)) hWt p15.sl hWt (by omega)).mono ?_⟩
  rintro r u16 ⟨rfl, q16⟩
  have k16 := (k14.trans1 q15).trans1 q16
  have R16 := hst0.rc.fr k16 (fun h => h)
  refine ⟨_, rfl, vIf_t (by simp) ⟨A', n', c', R16.cell rfl, (listS_calls (hst0.st.fr0 k16) nm 3 hb).mono ?_⟩⟩
  rintro r u17 ⟨q17, A103, c105, rfl, p17⟩
  have k17 := k16.trans1 q17
  refine ⟨_, _, _, rfl, kp_mk q17 R16.lt (fun h => h) ((Tg.rlist_calls A' n' c' d.lT nm 3 u17 (g2.1.fr0 k17) (by omega)).mono ?_)⟩
  rintro r u18 ⟨q18, A108, c110, rfl, p18⟩
  have hLl := Tg.listL_len nm 3 d.lT
  refine ⟨_, _, _, rfl, (Tg.texts_calls A103 _ c105 A108 _ c110 (Tg.listL nm 3 d.lT) u18 (q18.sl p17.sl (fun _ _ _ h => h)) p18.sl (by omega)).mono ?_⟩
  rintro r u19 ⟨rfl, q19⟩
  refine ⟨_, rfl, vIf_t rfl ((lives_calls u19).mono ?_)⟩
  rintro r u20 ⟨rfl, q20⟩
  exact ⟨_, rfl, rfl, (((hst0.fr.trans1 k17).trans1 q18).trans1 q19).trans1 q20⟩
end Go.Proofs.YthcclmlbkfadcaaGreat
/- chapter 22: opening a digest -/
namespace Go.Proofs.YthcclmlbkfadcaaGreat
open Go.GV Go.ChangeShapes Go.WideShapes Go.ChangeAt Go.RowKit
set_option linter.unusedVariables false
theorem cDq : Tryz.prog.cellsOf 33 = 32 := by kernel_rfl
theorem cBq : Tryz.prog.cellsOf 5 = 1 := by kernel_rfl
set_option maxRecDepth 100000 in
theorem open_digq {H : Type} {enc : TypeId × Value → H} {w : World} {b0 : Nat} {v : Value} {d : DataW H} {ps : List MemPlace} (hv : Value.okWide Tryz.prog w .any b0 33 v) (h : DataW.Trod enc Tryz.prog w 0 (fun _ => true) true 33 v d ps) : ∃ l : List UInt8, v = ofL (l.map bv) ∧ l.length = 32 := by
  obtain ⟨fuel, ht⟩ := h
  obtain ⟨cs, rfl, hcs⟩ := agg_of_array Tryz.underlying33 hv
  rw [hcs] at ht
  obtain ⟨l, rfl, hl⟩ := tr_byteArray (P := Tryz.prog) Tryz.underlying33 Tryz.underlying5 cBq cDq ht
  exact ⟨l, rfl, hl⟩
end Go.Proofs.YthcclmlbkfadcaaGreat
