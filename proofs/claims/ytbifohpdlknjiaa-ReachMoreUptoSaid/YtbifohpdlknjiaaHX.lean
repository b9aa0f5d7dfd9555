/- PROVED HERE: the statement ReachMoreUptoSaid of chapter 33 (from more roots and more links no less is reached). CONDITION: what the argument holds is of bulk at most 1048576, as the statement says. -/
import Derived.Test.YtbifohpdlknjiaaHP
import Derived.Test.YtbifohpdlknjiaaLDZ
namespace Go.Proofs.Ytbifohpdlknjiaa
open Go.GV Go.ChangeShapes Go.WideShapes Go.ChangeAt Go.RowKit
set_option linter.unusedVariables false
theorem cL : Try.prog.cellsOf 29 = 64 := by kernel_rfl
set_option maxRecDepth 100000 in
theorem tr_lnk {H : Type} {enc : TypeId × Value → H} {w : World} {fuel : Nat} {cs : List Value} {x : DataW H × List MemPlace} (h : TR enc Try.prog w fuel 29 cs x) : ∃ y : Lnk, cs = (y.1 ++ y.2).map bv ∧ y.1.length = 32 ∧ y.2.length = 32 := by
  obtain ⟨hl, ds, hd, hdl, hf⟩ := tr_struct (P := Try.prog) Try.underlying29 h
  rw [cL] at hl
  obtain ⟨m0, y0, t0, _⟩ := hf 0 _ rfl
  obtain ⟨m1, y1, t1, _⟩ := hf 1 _ rfl
  have t0 : TR enc Try.prog w m0 27 ((cs.drop 0).take (Try.prog.cellsOf 27)) y0 := t0
  have t1 : TR enc Try.prog w m1 27 ((cs.drop 32).take (Try.prog.cellsOf 27)) y1 := t1
  rw [cD] at t0 t1
  obtain ⟨a, ha, hal⟩ := tr_dig t0
  obtain ⟨b, hb, hbl⟩ := tr_dig t1
  refine ⟨(a, b), ?_, hal, hbl⟩
  rw [List.map_append, ← ha, ← hb, List.drop_zero, List.take_of_length_le (l := cs.drop 32) (by rw [List.length_drop, hl]; decide), List.take_append_drop]
set_option maxRecDepth 100000 in
theorem tr_lnks {H : Type} {enc : TypeId × Value → H} {w : World} {fuel : Nat} {cs : List Value} {x : DataW H × List MemPlace} (h : TR enc Try.prog w fuel 23 cs x) :
    ∃ (A : Option Addr) (n c : Nat) (l : List Lnk), cs = [Value.slice A n c] ∧ Sl w 64 A n (lks l) ∧ WL l ∧ n ≤ Rows.uptoBulk x.1 := by
  obtain ⟨A, n, c, vss, hcs, h1, h2, h3, h4, h5, h6⟩ := tr_slice (P := Try.prog) (e := 29) Try.underlying23 (by rw [cL]; decide) h
  rcases h6 with ⟨h7, rfl, rfl, rfl⟩ | ⟨es, sp, h7, h8, h9, h10⟩
  · exact ⟨none, 0, 0, [], hcs, Sl.nil _ _ _, (fun d hd => by cases hd), Nat.zero_le _⟩
  · obtain ⟨r, hrl, hr⟩ := choose_list (R := fun _ v (y : Lnk) => v = (y.1 ++ y.2).map bv ∧ y.1.length = 32 ∧ y.2.length = 32) vss (fun i v hi => by
      obtain ⟨m, y, hy, _⟩ := h10 i v hi
      exact tr_lnk hy)
    have hv : vss = r.map (fun y => (y.1 ++ y.2).map bv) := by
      apply List.ext_getElem?
      intro i
      by_cases hi : i < vss.length
      · obtain ⟨y, hl, hl2, _⟩ := hr i _ (List.getElem?_eq_getElem hi)
        rw [List.getElem?_map, hl, List.getElem?_eq_getElem hi, hl2]; rfl
      · rw [List.getElem?_eq_none (by omega), List.getElem?_eq_none (by simp; omega)]
    have hw : WL r := by
      intro d hd
      obtain ⟨i, hi, hid⟩ := List.mem_iff_getElem.1 hd
      obtain ⟨y, hl, _, hl3⟩ := hr i _ (List.getElem?_eq_getElem (show i < vss.length by omega))
      rw [List.getElem?_eq_getElem hi, hid] at hl
      injection hl with hl
      rw [hl]; exact hl3
    rw [cL, hv] at h5
    refine ⟨A, n, c, r, hcs, h5, hw, ?_⟩
    rw [h7]
    have := length_le es
    simp only [Rows.uptoBulk]
    omega
set_option maxRecDepth 100000 in
theorem reachMore_contract (H : Type) (enc : TypeId × Value → H) (W : World) (base : Nat) (args : Array Value) (ds gs : List (DataW H)) (before : List MemPlace)
    (hval : ∀ (j : Nat) t v, Try.f4.params[j]? = some t → args[j]? = some v → Value.okWide Try.prog W .any base t v)
    (hW : DataW.Whole enc Try.prog Try.f4.params.toList Rows.reachMoreSpec.vars false W args.toList ds gs before) (hk : Rows.uptoSmall H (ds ++ gs) = true) :
    Calls Try.prog 4 args W fun e W' => ∃ v, e = .returned v ∧ Rows.reachMoreSpec.post enc Try.prog Try.f4 false true false false W args v W' := by
  have hW' := hW
  obtain ⟨p, q, hA, hV, rfl, hfz, hnd⟩ := hW
  rw [Try.params4] at hA hval
  obtain ⟨v0, vs0, d0, ds0, p0, q0, hargs, rfl, rfl, h0, r0⟩ := trodAll_cons hA
  obtain ⟨rfl, rfl, rfl⟩ := trodAll_nil r0
  obtain rfl : args = #[v0] := by cases args; simp_all
  obtain ⟨rfl, rfl⟩ := trodVars_none hV
  have hb := small hk
  simp only [List.append_nil, Rows.uptoBulkAll] at hb
  obtain ⟨fuel, h0⟩ := h0
  obtain ⟨cs, rfl, hcs⟩ := agg_of_struct Try.underlying33 (hval 0 _ v0 rfl rfl)
  rw [hcs] at h0
  obtain ⟨hl, ds, hd, hdl, hf⟩ := tr_struct (P := Try.prog) Try.underlying33 h0
  have cS : Try.prog.cellsOf 22 = 1 := by kernel_rfl
  have cSL : Try.prog.cellsOf 23 = 1 := by kernel_rfl
  have cM : Try.prog.cellsOf 33 = 4 := by kernel_rfl
  rw [cM] at hl
  obtain ⟨m0, y0, t0, b0⟩ := hf 0 _ rfl
  obtain ⟨m1, y1, t1, b1⟩ := hf 1 _ rfl
  obtain ⟨m2, y2, t2, b2⟩ := hf 2 _ rfl
  obtain ⟨m3, y3, t3, b3⟩ := hf 3 _ rfl
  have hd : d0 = .agg ds := hd
  subst hd
  have k0 := part_at b0
  have k1 := part_at b1
  have k2 := part_at b2
  have k3 := part_at b3
  simp only [Rows.uptoBulk] at hb
  match cs, hl with
  | [x0, x1, x2, x3], _ =>
    have t0 : TR enc Try.prog W m0 22 (([x0, x1, x2, x3].drop 0).take (Try.prog.cellsOf 22)) y0 := t0
    have t1 : TR enc Try.prog W m1 22 (([x0, x1, x2, x3].drop 1).take (Try.prog.cellsOf 22)) y1 := t1
    have t2 : TR enc Try.prog W m2 23 (([x0, x1, x2, x3].drop 2).take (Try.prog.cellsOf 23)) y2 := t2
    have t3 : TR enc Try.prog W m3 23 (([x0, x1, x2, x3].drop 3).take (Try.prog.cellsOf 23)) y3 := t3
    simp only [cS, cSL, List.drop_zero, List.drop_succ_cons, List.take_succ_cons, List.take_zero] at t0 t1 t2 t3
    obtain ⟨R, nr, cr, r, e0, hsr, hwr, hnr⟩ := tr_digs t0
    obtain ⟨O, no, co, o, e1, hso, hwo, hno⟩ := tr_digs t1
    obtain ⟨L, nl, cl, l, e2, hsl, hwl, hnl⟩ := tr_lnks t2
    obtain ⟨M, nm, cm, m, e3, hsm, hwm, hnm⟩ := tr_lnks t3
    simp only [List.cons.injEq, and_true] at e0 e1 e2 e3
    subst e0; subst e1; subst e2; subst e3
    refine (more_law R nr cr r O no co o L nl cl l M nm cm m W hsr hwr hso hwo hsl hwl hsm hwm (by omega) (by omega) (by omega) (by omega)).mono fun e W' ⟨he, hf⟩ => ⟨_, he, ?_⟩
    exact close_true laid (by kernel_rfl) rfl rfl Try.underlying4 hW' rfl rfl rfl hf
set_option maxRecDepth 100000 in
theorem reachMore_lifted (os : Os) (started : os.Started) (H : Type) (enc : TypeId × Value → H) (F : Stop.Interp) :
    ReturnsInHanded {} Try.checked os 4 .any ((Rows.OpenSpec.upto Rows.reachMoreSpec).pre6 enc Try.prog Try.f4 Rows.reachMoreUptoRow.domain false) (((Rows.OpenSpec.upto Rows.reachMoreSpec).at F).post enc Try.prog Try.f4 false true false false) := by
  refine returnsInHanded_of_cond (C := Try.checked) (s := Rows.OpenSpec.upto Rows.reachMoreSpec) (k := Rows.uptoSmall) rfl own started (by kernel_rfl) Try.func4
    (OpenSpec.witness (enc := enc) (C := Try.checked) (s := Rows.OpenSpec.upto Rows.reachMoreSpec) (k := Rows.uptoSmall) rfl false ⟨#[], #[.agg #[.slice none 0 0, .slice none 0 0, .slice none 0 0, .slice none 0 0]], []⟩ 8 (by kernel_rfl) (by kernel_rfl) (by kernel_rfl)
      (x := ([.agg [.nil, .nil, .nil, .nil]], [], [])) (by kernel_rfl) rfl (by kernel_rfl)) ?_
  intro W base args ds gs before hval hW _ hk _
  exact reachMore_contract H enc W base args ds gs before hval hW hk
theorem reachMore_proved : Rows.ReachMoreUptoSaid :=
  OpenClaim.holds_of_cond 4 Try.f4 rfl rfl rfl rfl rfl rfl rfl ⟨rfl, rfl, rfl, rfl, rfl⟩ rfl rfl rfl rfl rfl (by kernel_rfl) Try.func4 (by kernel_rfl)
    (of_decide_eq_true (by kernel_rfl)) (by unfold Func.isWrapper; first | (rw [if_pos (by decide +kernel)]; kernel_rfl) | (rw [if_neg (by decide +kernel)]; exact ⟨rfl, rfl⟩))
    (fun os started H enc _ F => reachMore_lifted os started H enc F)
#print axioms reachMore_proved
end Go.Proofs.Ytbifohpdlknjiaa
