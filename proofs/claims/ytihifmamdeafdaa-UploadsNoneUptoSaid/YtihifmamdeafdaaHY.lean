/- PROVED HERE: the statement UploadsNoneUptoSaid of chapter 37 (nil uploads have nothing). CONDITION: what the arguments hold is of bulk at most 1048576, as the statement says. -/
import Derived.Test.YtihifmamdeafdaaHN
import Derived.Test.YtihifmamdeafdaaLZ
namespace Go.Proofs.Ytihifmamdeafdaa
open Go.GV Go.ChangeShapes Go.WideShapes Go.ChangeAt Go.RowKit
open Go.ChangeMaps (open_string shut_string)
set_option linter.unusedVariables false
theorem uploadsNone_contract (H : Type) (enc : TypeId × Value → H) (W : World) (base : Nat) (args : Array Value) (ds gs : List (DataW H)) (before : List MemPlace)
    (hval : ∀ (j : Nat) t v, Try.f5.params[j]? = some t → args[j]? = some v → Value.okWide Try.prog W .any base t v)
    (hW : DataW.Whole enc Try.prog Try.f5.params.toList Rows.uploadsNoneSpec.vars false W args.toList ds gs before) (hk : Rows.uptoSmall H (ds ++ gs) = true) :
    Calls Try.prog 5 args W fun e W' => ∃ v, e = .returned v ∧ Rows.uploadsNoneSpec.post enc Try.prog Try.f5 false true false false W args v W' := by
  have hW' := hW
  obtain ⟨p, q, hA, hV, rfl, hfz, hnd⟩ := hW
  rw [Try.params5] at hA hval
  obtain ⟨v0, vs0, d0, ds0, p0, q0, hargs, rfl, rfl, h0, r0⟩ := trodAll_cons hA
  obtain ⟨rfl, rfl, rfl⟩ := trodAll_nil r0
  obtain rfl : args = #[v0] := by cases args; simp_all
  obtain ⟨rfl, rfl⟩ := trodVars_none hV
  obtain ⟨fuel, h0⟩ := h0
  obtain ⟨cs, rfl, hcs⟩ := agg_of_struct Try.underlying40 (hval 0 _ v0 rfl rfl)
  rw [hcs] at h0
  obtain ⟨hl, ds, hd, hdl, hf⟩ := tr_struct (P := Try.prog) Try.underlying40 h0
  have c3 : Try.prog.cellsOf 3 = 1 := by kernel_rfl
  have c28 : Try.prog.cellsOf 28 = 1 := by kernel_rfl
  have c40 : Try.prog.cellsOf 40 = 5 := by kernel_rfl
  rw [c40] at hl
  obtain ⟨m0, y0, t0, _⟩ := hf 0 _ rfl
  obtain ⟨m1, y1, t1, _⟩ := hf 1 _ rfl
  obtain ⟨m2, y2, t2, _⟩ := hf 2 _ rfl
  obtain ⟨m3, y3, t3, _⟩ := hf 3 _ rfl
  obtain ⟨m4, y4, t4, _⟩ := hf 4 _ rfl
  match cs, hl with
  | [x0, x1, x2, x3, x4], _ =>
    have t0 : TR enc Try.prog W m0 3 (([x0, x1, x2, x3, x4].drop 0).take (Try.prog.cellsOf 3)) y0 := t0
    have t1 : TR enc Try.prog W m1 3 (([x0, x1, x2, x3, x4].drop 1).take (Try.prog.cellsOf 3)) y1 := t1
    have t2 : TR enc Try.prog W m2 3 (([x0, x1, x2, x3, x4].drop 2).take (Try.prog.cellsOf 3)) y2 := t2
    have t3 : TR enc Try.prog W m3 28 (([x0, x1, x2, x3, x4].drop 3).take (Try.prog.cellsOf 28)) y3 := t3
    have t4 : TR enc Try.prog W m4 3 (([x0, x1, x2, x3, x4].drop 4).take (Try.prog.cellsOf 3)) y4 := t4
    simp only [c3, c28, List.drop_zero, List.drop_succ_cons, List.take_succ_cons, List.take_zero] at t0 t1 t2 t3 t4
    obtain ⟨n0, e0, _⟩ := tr_int (P := Try.prog) (k := .i64) Try.underlying3 t0
    obtain ⟨n1, e1, _⟩ := tr_int (P := Try.prog) (k := .i64) Try.underlying3 t1
    obtain ⟨n2, e2, _⟩ := tr_int (P := Try.prog) (k := .i64) Try.underlying3 t2
    obtain ⟨A, n, c, l, e3, _⟩ := tr_bytes (P := Try.prog) (e := 5) Try.underlying28 Try.underlying5 (by kernel_rfl) t3
    obtain ⟨n4, e4, _⟩ := tr_int (P := Try.prog) (k := .i64) Try.underlying3 t4
    simp only [List.cons.injEq, and_true] at e0 e1 e2 e3 e4
    subst e0; subst e1; subst e2; subst e3; subst e4
    refine (none_law n0 n1 n2 n4 A n c W).mono fun e W' ⟨he, hf⟩ => ⟨_, he, ?_⟩
    exact close_true laid (by kernel_rfl) rfl rfl Try.underlying4 hW' rfl rfl rfl hf
set_option maxRecDepth 100000 in
theorem uploadsNone_lifted (os : Os) (started : os.Started) (H : Type) (enc : TypeId × Value → H) (F : Stop.Interp) :
    ReturnsInHanded {} Try.checked os 5 .any ((Rows.OpenSpec.upto Rows.uploadsNoneSpec).pre6 enc Try.prog Try.f5 Rows.uploadsNoneUptoRow.domain false) (((Rows.OpenSpec.upto Rows.uploadsNoneSpec).at F).post enc Try.prog Try.f5 false true false false) := by
  refine returnsInHanded_of_cond (C := Try.checked) (s := Rows.OpenSpec.upto Rows.uploadsNoneSpec) (k := Rows.uptoSmall) rfl own started (by kernel_rfl) Try.func5
    (OpenSpec.witness (enc := enc) (C := Try.checked) (s := Rows.OpenSpec.upto Rows.uploadsNoneSpec) (k := Rows.uptoSmall) rfl false ⟨#[], #[.agg #[.int .i64 0, .int .i64 0, .int .i64 0, .slice none 0 0, .int .i64 0]], []⟩ 8 (by kernel_rfl) (by kernel_rfl) (by kernel_rfl)
      (x := ([.agg [.lit (.int .i64 0), .lit (.int .i64 0), .lit (.int .i64 0), .nil, .lit (.int .i64 0)]], [], [])) (by kernel_rfl) rfl (by kernel_rfl)) ?_
  intro W base args ds gs before hval hW _ hk _
  exact uploadsNone_contract H enc W base args ds gs before hval hW hk
theorem uploadsNone_proved : Rows.UploadsNoneUptoSaid :=
  OpenClaim.holds_of_cond 5 Try.f5 rfl rfl rfl rfl rfl rfl rfl ⟨rfl, rfl, rfl, rfl, rfl⟩ rfl rfl rfl rfl rfl (by kernel_rfl) Try.func5 (by kernel_rfl)
    (of_decide_eq_true (by kernel_rfl)) (by unfold Func.isWrapper; first | (rw [if_pos (by decide +kernel)]; kernel_rfl) | (rw [if_neg (by decide +kernel)]; exact ⟨rfl, rfl⟩))
    (fun os started H enc _ F => uploadsNone_lifted os started H enc F)
#print axioms uploadsNone_proved
end Go.Proofs.Ytihifmamdeafdaa
