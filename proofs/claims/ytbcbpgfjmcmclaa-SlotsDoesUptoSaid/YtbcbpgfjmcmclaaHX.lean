/- PROVED HERE: the statement SlotsDoesUptoSaid of chapter 18 (what deeds on a table come to, deed by deed). CONDITION: what the arguments hold is of bulk at most 1048576, as the statement says. -/
import Derived.Test.YtbcbpgfjmcmclaaHW
import Derived.Test.YtbcbpgfjmcmclaaLDZ
namespace Go.Proofs.Ytbcbpgfjmcmclaa
open Go.GV Go.ChangeShapes Go.WideShapes Go.ChangeAt Go.RowKit
set_option linter.unusedVariables false
theorem cDd : Try.prog.cellsOf 40 = 34 := by kernel_rfl
set_option maxRecDepth 100000 in
theorem tr_ded {H : Type} {enc : TypeId × Value → H} {w : World} {fuel : Nat} {cs : List Value} {x : DataW H × List MemPlace} (h : TR enc Try.prog w fuel 40 cs x) : ∃ y : Ded, cs = dedC y ∧ y.2.1.length = 32 := by
  obtain ⟨hl, ds, hd, hdl, hf⟩ := tr_struct (P := Try.prog) Try.underlying40 h
  rw [cDd] at hl
  have c3 : Try.prog.cellsOf 3 = 1 := by kernel_rfl
  obtain ⟨m0, y0, t0, _⟩ := hf 0 _ rfl
  obtain ⟨m1, y1, t1, _⟩ := hf 1 _ rfl
  obtain ⟨m2, y2, t2, _⟩ := hf 2 _ rfl
  have t0 : TR enc Try.prog w m0 3 ((cs.drop 0).take (Try.prog.cellsOf 3)) y0 := t0
  have t1 : TR enc Try.prog w m1 28 ((cs.drop 1).take (Try.prog.cellsOf 28)) y1 := t1
  have t2 : TR enc Try.prog w m2 3 ((cs.drop 33).take (Try.prog.cellsOf 3)) y2 := t2
  rw [cD] at t1
  rw [c3] at t0 t2
  obtain ⟨a, ha, hal⟩ := tr_dig t1
  obtain ⟨n0, e0, _⟩ := tr_int (P := Try.prog) (k := .i64) Try.underlying3 t0
  obtain ⟨n2, e2, _⟩ := tr_int (P := Try.prog) (k := .i64) Try.underlying3 t2
  refine ⟨(n0, a, n2), ?_, hal⟩
  unfold dedC
  rw [← e0, ← ha, ← e2, List.drop_zero, List.take_of_length_le (l := cs.drop 33) (by rw [List.length_drop, hl]; decide)]
  have h1 : cs.drop 33 = (cs.drop 1).drop 32 := by rw [List.drop_drop]
  rw [h1, List.take_append_drop, List.take_append_drop]
set_option maxRecDepth 100000 in
theorem tr_deds {H : Type} {enc : TypeId × Value → H} {w : World} {fuel : Nat} {cs : List Value} {x : DataW H × List MemPlace} (h : TR enc Try.prog w fuel 34 cs x) :
    ∃ (A : Option Addr) (n c : Nat) (l : List Ded), cs = [Value.slice A n c] ∧ Sl w 34 A n (deds l) ∧ WD l ∧ n ≤ Rows.uptoBulk x.1 := by
  obtain ⟨A, n, c, vss, hcs, h1, h2, h3, h4, h5, h6⟩ := tr_slice (P := Try.prog) (e := 40) Try.underlying34 (by rw [cDd]; decide) h
  rcases h6 with ⟨h7, rfl, rfl, rfl⟩ | ⟨es, sp, h7, h8, h9, h10⟩
  · exact ⟨none, 0, 0, [], hcs, Sl.nil _ _ _, (fun d hd => by cases hd), Nat.zero_le _⟩
  · obtain ⟨r, hrl, hr⟩ := choose_list (R := fun _ v (y : Ded) => v = dedC y ∧ y.2.1.length = 32) vss (fun i v hi => by
      obtain ⟨m, y, hy, _⟩ := h10 i v hi
      exact tr_ded hy)
    have hv : vss = r.map dedC := by
      apply List.ext_getElem?
      intro i
      by_cases hi : i < vss.length
      · obtain ⟨y, hl, hl2, _⟩ := hr i _ (List.getElem?_eq_getElem hi)
        rw [List.getElem?_map, hl, List.getElem?_eq_getElem hi, hl2]; rfl
      · rw [List.getElem?_eq_none (by omega), List.getElem?_eq_none (by simp; omega)]
    have hw : WD r := by
      intro d hd
      obtain ⟨i, hi, hid⟩ := List.mem_iff_getElem.1 hd
      obtain ⟨y, hl, _, hl3⟩ := hr i _ (List.getElem?_eq_getElem (show i < vss.length by omega))
      rw [List.getElem?_eq_getElem hi, hid] at hl
      injection hl with hl
      rw [hl]; exact hl3
    rw [cDd, hv] at h5
    refine ⟨A, n, c, r, hcs, h5, hw, ?_⟩
    rw [h7]
    have := length_le es
    simp only [Rows.uptoBulk]
    omega
set_option maxRecDepth 100000 in
theorem open_deds {H : Type} {enc : TypeId × Value → H} {w : World} {v : Value} {d : DataW H} {ps : List MemPlace} (hv : Value.okWide Try.prog w .any 0 34 v) (h : DataW.Trod enc Try.prog w 0 (fun _ => true) true 34 v d ps) :
    ∃ (A : Option Addr) (n c : Nat) (l : List Ded), v = Value.slice A n c ∧ Sl w 34 A n (deds l) ∧ WD l ∧ n ≤ Rows.uptoBulk d := by
  obtain ⟨fuel, ht⟩ := h
  obtain ⟨A, n, c, l, hcs, h1, h2, h3⟩ := tr_deds ht
  exact ⟨A, n, c, l, slice_of_cells Try.underlying34 hv hcs, h1, h2, h3⟩
set_option maxRecDepth 100000 in
theorem slotsDoes_contract (H : Type) (enc : TypeId × Value → H) (W : World) (base : Nat) (args : Array Value) (ds gs : List (DataW H)) (before : List MemPlace)
    (hval : ∀ (j : Nat) t v, Try.f4.params[j]? = some t → args[j]? = some v → Value.okWide Try.prog W .any base t v)
    (hW : DataW.Whole enc Try.prog Try.f4.params.toList Rows.slotsDoesSpec.vars false W args.toList ds gs before) (hk : Rows.uptoSmall H (ds ++ gs) = true) :
    Calls Try.prog 4 args W fun e W' => ∃ v, e = .returned v ∧ Rows.slotsDoesSpec.post enc Try.prog Try.f4 false true false false W args v W' := by
  have hW' := hW
  obtain ⟨p, q, hA, hV, rfl, hfz, hnd⟩ := hW
  rw [Try.params4] at hA hval
  obtain ⟨v0, vs0, d0, ds0, p0, q0, hargs, rfl, rfl, h0, r0⟩ := trodAll_cons hA
  obtain ⟨rfl, rfl, rfl⟩ := trodAll_nil r0
  obtain rfl : args = #[v0] := by cases args; simp_all
  obtain ⟨rfl, rfl⟩ := trodVars_none hV
  have hb := small hk
  simp only [List.append_nil, Rows.uptoBulkAll] at hb
  obtain ⟨A, n, c, l, rfl, hs, hw, hn⟩ := open_deds (hval 0 _ v0 rfl rfl) h0
  refine (does_law A n c l W hs hw (by omega)).mono fun e W' ⟨he, hf⟩ => ⟨_, he, ?_⟩
  exact close_true laid (by kernel_rfl) rfl rfl Try.underlying4 hW' rfl rfl rfl hf
set_option maxRecDepth 100000 in
theorem slotsDoes_lifted (os : Os) (started : os.Started) (H : Type) (enc : TypeId × Value → H) (F : Stop.Interp) :
    ReturnsInHanded {} Try.checked os 4 .any ((Rows.OpenSpec.upto Rows.slotsDoesSpec).pre6 enc Try.prog Try.f4 Rows.slotsDoesUptoRow.domain false) (((Rows.OpenSpec.upto Rows.slotsDoesSpec).at F).post enc Try.prog Try.f4 false true false false) := by
  refine returnsInHanded_of_cond (C := Try.checked) (s := Rows.OpenSpec.upto Rows.slotsDoesSpec) (k := Rows.uptoSmall) rfl own started (by kernel_rfl) Try.func4
    (OpenSpec.witness (enc := enc) (C := Try.checked) (s := Rows.OpenSpec.upto Rows.slotsDoesSpec) (k := Rows.uptoSmall) rfl false ⟨#[], #[.slice none 0 0], []⟩ 8 (by kernel_rfl) (by kernel_rfl) (by kernel_rfl)
      (x := ([.nil], [], [])) (by kernel_rfl) rfl (by kernel_rfl)) ?_
  intro W base args ds gs before hval hW _ hk _
  exact slotsDoes_contract H enc W base args ds gs before hval hW hk
theorem slotsDoes_proved : Rows.SlotsDoesUptoSaid :=
  OpenClaim.holds_of_cond 4 Try.f4 rfl rfl rfl rfl rfl rfl rfl ⟨rfl, rfl, rfl, rfl, rfl⟩ rfl rfl rfl rfl rfl (by kernel_rfl) Try.func4 (by kernel_rfl)
    (of_decide_eq_true (by kernel_rfl)) (by unfold Func.isWrapper; first | (rw [if_pos (by decide +kernel)]; kernel_rfl) | (rw [if_neg (by decide +kernel)]; exact ⟨rfl, rfl⟩))
    (fun os started H enc _ F => slotsDoes_lifted os started H enc F)
#print axioms slotsDoes_proved
end Go.Proofs.Ytbcbpgfjmcmclaa
