/- PROVED HERE: the statement ReachTellsUptoSaid of chapter 33 (users, what is reached and what is missing, told by the program as the document tells them). CONDITION: what the arguments hold is of bulk at most 1048576, as the statement says. -/
import Derived.Test.YtbifohpdlknjiaaHN
import Derived.Test.YtbifohpdlknjiaaLDZ
namespace Go.Proofs.Ytbifohpdlknjiaa
open Go.GV Go.ChangeShapes Go.WideShapes Go.ChangeAt Go.RowKit
set_option linter.unusedVariables false
theorem cL : Try.prog.cellsOf 29 = 64 := by kernel_rfl
set_option maxRecDepth 100000 in
theorem tr_lnk {H : Type} {enc : TypeId × Value → H} {w : World} {fuel : Nat} {cs : List Value} {x : DataW H × List MemPlace} (h : TR enc Try.prog w fuel 29 cs x) : ∃ y : Lnk, cs = (y.1 ++ y.2).map bv ∧ y.1.length = 32 ∧ y.2.length = 32 := by
  obtain ⟨hl, ds, hd, hdl, hf⟩ := tr_struct (P := Try.prog) Try.underlying29 h
  rw [cL] at hl
  obtain ⟨m0, y0, t0, _⟩ := hf 0 _ rfl
  obtain ⟨m1, y1, t1, _⟩ := hf 1 _ rfl
  have t0 : TR enc Try.prog w m0 27 ((cs.drop 0).take (Try.prog.cellsOf 27)) y0 := t0
  have t1 : TR enc Try.prog w m1 27 ((cs.drop 32).take (Try.prog.cellsOf 27)) y1 := t1
  rw [cD] at t0 t1
  obtain ⟨a, ha, hal⟩ := tr_dig t0
  obtain ⟨b, hb, hbl⟩ := tr_dig t1
  refine ⟨(a, b), ?_, hal, hbl⟩
  rw [List.map_append, ← ha, ← hb, List.drop_zero, List.take_of_length_le (l := cs.drop 32) (by rw [List.length_drop, hl]; decide), List.take_append_drop]
set_option maxRecDepth 100000 in
theorem tr_lnks {H : Type} {enc : TypeId × Value → H} {w : World} {fuel : Nat} {cs : List Value} {x : DataW H × List MemPlace} (h : TR enc Try.prog w fuel 23 cs x) :
    ∃ (A : Option Addr) (n c : Nat) (l : List Lnk), cs = [Value.slice A n c] ∧ Sl w 64 A n (lks l) ∧ WL l ∧ n ≤ Rows.uptoBulk x.1 := by
  obtain ⟨A, n, c, vss, hcs, h1, h2, h3, h4, h5, h6⟩ := tr_slice (P := Try.prog) (e := 29) Try.underlying23 (by rw [cL]; decide) h
  rcases h6 with ⟨h7, rfl, rfl, rfl⟩ | ⟨es, sp, h7, h8, h9, h10⟩
  · exact ⟨none, 0, 0, [], hcs, Sl.nil _ _ _, (fun d hd => by cases hd), Nat.zero_le _⟩
  · obtain ⟨r, hrl, hr⟩ := choose_list (R := fun _ v (y : Lnk) => v = (y.1 ++ y.2).map bv ∧ y.1.length = 32 ∧ y.2.length = 32) vss (fun i v hi => by
      obtain ⟨m, y, hy, _⟩ := h10 i v hi
      exact tr_lnk hy)
    have hv : vss = r.map (fun y => (y.1 ++ y.2).map bv) := by
      apply List.ext_getElem?
      intro i
      by_cases hi : i < vss.length
      · obtain ⟨y, hl, hl2, _⟩ := hr i _ (List.getElem?_eq_getElem hi)
        rw [List.getElem?_map, hl, List.getElem?_eq_getElem hi, hl2]; rfl
      · rw [List.getElem?_eq_none (by omega), List.getElem?_eq_none (by simp; omega)]
    have hw : WL r := by
      intro d hd
      obtain ⟨i, hi, hid⟩ := List.mem_iff_getElem.1 hd
      obtain ⟨y, hl, _, hl3⟩ := hr i _ (List.getElem?_eq_getElem (show i < vss.length by omega))
      rw [List.getElem?_eq_getElem hi, hid] at hl
      injection hl with hl
      rw [hl]; exact hl3
    rw [cL, hv] at h5
    refine ⟨A, n, c, r, hcs, h5, hw, ?_⟩
    rw [h7]
    have := length_le es
    simp only [Rows.uptoBulk]
    omega
set_option maxRecDepth 100000 in
theorem open_lnks {H : Type} {enc : TypeId × Value → H} {w : World} {v : Value} {d : DataW H} {ps : List MemPlace} (hv : Value.okWide Try.prog w .any 0 23 v) (h : DataW.Trod enc Try.prog w 0 (fun _ => true) true 23 v d ps) :
    ∃ (A : Option Addr) (n c : Nat) (l : List Lnk), v = Value.slice A n c ∧ Sl w 64 A n (lks l) ∧ WL l ∧ n ≤ Rows.uptoBulk d := by
  obtain ⟨fuel, ht⟩ := h
  obtain ⟨A, n, c, l, hcs, h1, h2, h3⟩ := tr_lnks ht
  exact ⟨A, n, c, l, slice_of_cells Try.underlying23 hv hcs, h1, h2, h3⟩
set_option maxRecDepth 100000 in
theorem reachTells_contract (H : Type) (enc : TypeId × Value → H) (W : World) (base : Nat) (args : Array Value) (ds gs : List (DataW H)) (before : List MemPlace)
    (hval : ∀ (j : Nat) t v, Try.f5.params[j]? = some t → args[j]? = some v → Value.okWide Try.prog W .any base t v)
    (hW : DataW.Whole enc Try.prog Try.f5.params.toList Rows.reachTellsSpec.vars false W args.toList ds gs before) (hk : Rows.uptoSmall H (ds ++ gs) = true) :
    Calls Try.prog 5 args W fun e W' => ∃ v, e = .returned v ∧ Rows.reachTellsSpec.post enc Try.prog Try.f5 false true false false W args v W' := by
  have hW' := hW
  obtain ⟨p, q, hA, hV, rfl, hfz, hnd⟩ := hW
  rw [Try.params5] at hA hval
  obtain ⟨v0, vs0, d0, ds0, p0, q0, hargs, rfl, rfl, h0, r0⟩ := trodAll_cons hA
  obtain ⟨v1, vs1, d1, ds1, p1, q1, rfl, rfl, rfl, h1, r1⟩ := trodAll_cons r0
  obtain ⟨v2, vs2, d2, ds2, p2, q2, rfl, rfl, rfl, h2, r2⟩ := trodAll_cons r1
  obtain ⟨rfl, rfl, rfl⟩ := trodAll_nil r2
  obtain rfl : args = #[v0, v1, v2] := by cases args; simp_all
  obtain ⟨rfl, rfl⟩ := trodVars_none hV
  have hb := small hk
  simp only [List.append_nil, Rows.uptoBulkAll] at hb
  obtain ⟨A, n, c, a, rfl, hs, hw, hn⟩ := open_digs (hval 0 _ v0 rfl rfl) h0
  obtain ⟨R, nr, cr, r, rfl, hsr, hwr, hnr⟩ := open_digs (hval 1 _ v1 rfl rfl) h1
  obtain ⟨L, nl, cl, l, rfl, hsl, hwl, hnl⟩ := open_lnks (hval 2 _ v2 rfl rfl) h2
  refine (tells_law A n c a R nr cr r L nl cl l W hs hw hsr hwr hsl hwl (by omega) (by omega) (by omega)).mono fun e W' ⟨he, hf⟩ => ⟨_, he, ?_⟩
  exact close_true laid (by kernel_rfl) rfl rfl Try.underlying4 hW' rfl rfl rfl hf
set_option maxRecDepth 100000 in
theorem reachTells_lifted (os : Os) (started : os.Started) (H : Type) (enc : TypeId × Value → H) (F : Stop.Interp) :
    ReturnsInHanded {} Try.checked os 5 .any ((Rows.OpenSpec.upto Rows.reachTellsSpec).pre6 enc Try.prog Try.f5 Rows.reachTellsUptoRow.domain false) (((Rows.OpenSpec.upto Rows.reachTellsSpec).at F).post enc Try.prog Try.f5 false true false false) := by
  refine returnsInHanded_of_cond (C := Try.checked) (s := Rows.OpenSpec.upto Rows.reachTellsSpec) (k := Rows.uptoSmall) rfl own started (by kernel_rfl) Try.func5
    (OpenSpec.witness (enc := enc) (C := Try.checked) (s := Rows.OpenSpec.upto Rows.reachTellsSpec) (k := Rows.uptoSmall) rfl false ⟨#[], #[.slice none 0 0, .slice none 0 0, .slice none 0 0], []⟩ 8 (by kernel_rfl) (by kernel_rfl) (by kernel_rfl)
      (x := ([.nil, .nil, .nil], [], [])) (by kernel_rfl) rfl (by kernel_rfl)) ?_
  intro W base args ds gs before hval hW _ hk _
  exact reachTells_contract H enc W base args ds gs before hval hW hk
theorem reachTells_proved : Rows.ReachTellsUptoSaid :=
  OpenClaim.holds_of_cond 5 Try.f5 rfl rfl rfl rfl rfl rfl rfl ⟨rfl, rfl, rfl, rfl, rfl⟩ rfl rfl rfl rfl rfl (by kernel_rfl) Try.func5 (by kernel_rfl)
    (of_decide_eq_true (by kernel_rfl)) (by unfold Func.isWrapper; first | (rw [if_pos (by decide +kernel)]; kernel_rfl) | (rw [if_neg (by decide +kernel)]; exact ⟨rfl, rfl⟩))
    (fun os started H enc _ F => reachTells_lifted os started H enc F)
#print axioms reachTells_proved
end Go.Proofs.Ytbifohpdlknjiaa
