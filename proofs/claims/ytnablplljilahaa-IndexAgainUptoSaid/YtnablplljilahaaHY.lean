/- PROVED HERE: the statement IndexAgainUptoSaid of chapter 20 (an index of another one s entries goes on as that one does). CONDITION: what the arguments hold is of bulk at most 1048576, as the statement says. -/
import Derived.Test.YtnablplljilahaaHN
import Derived.Test.YtnablplljilahaaLEnJ
import Derived.Test.YtnablplljilahaaLDdJ
import Derived.Test.YtnablplljilahaaLWdRJ
namespace Go.Proofs.Ytnablplljilahaa
open Go.GV Go.ChangeShapes Go.WideShapes Go.ChangeAt Go.RowKit
set_option linter.unusedVariables false
theorem cAg : Try.prog.cellsOf 56 = 4 := by kernel_rfl
set_option maxRecDepth 100000 in
theorem open_ag {H : Type} {enc : TypeId × Value → H} {w : World} {b0 : Nat} {v : Value} {d : DataW H} {ps : List MemPlace} (hv : Value.okWide Try.prog w .any b0 56 v) (h : DataW.Trod enc Try.prog w 0 (fun _ => true) true 56 v d ps) (hb : Rows.uptoBulk d ≤ 1048576) :
    ∃ (A : Option Addr) (n c : Nat) (l : List En) (A1 : Option Addr) (n1 c1 : Nat) (ws : List Wd) (A2 : Option Addr) (n2 c2 : Nat) (ms : List Wd) (G : Option Addr) (m k : Nat) (sg : List Int), v = ofL [.slice A n c, .slice A1 n1 c1, .slice A2 n2 c2, .slice G m k] ∧ RE (fun _ => True) w A n l ∧ WRow w A1 n1 ws ∧ WRow w A2 n2 ms ∧ Sl w 1 G m (ivs sg) ∧ n ≤ 1048576 ∧ n1 ≤ 1048576 ∧ n2 ≤ 1048576 ∧ m ≤ 1048576 ∧ BdE 1048576 l := by
  obtain ⟨fuel, ht⟩ := h
  obtain ⟨cs, rfl, hcs⟩ := agg_of_struct Try.underlying56 hv
  rw [hcs] at ht
  obtain ⟨hl, ds, hd, hdl, hf⟩ := tr_struct (P := Try.prog) Try.underlying56 ht
  rw [cAg] at hl
  obtain ⟨m0, y0, t0, b0⟩ := hf 0 _ rfl
  obtain ⟨m1, y1, t1, b1⟩ := hf 1 _ rfl
  obtain ⟨m2, y2, t2, b2⟩ := hf 2 _ rfl
  obtain ⟨m3, y3, t3, b3⟩ := hf 3 _ rfl
  match cs, hl with
  | [x0, x1, x2, x3], _ =>
    have t0 : TR enc Try.prog w m0 22 [x0] y0 := t0
    have t1 : TR enc Try.prog w m1 54 [x1] y1 := t1
    have t2 : TR enc Try.prog w m2 54 [x2] y2 := t2
    have t3 : TR enc Try.prog w m3 34 [x3] y3 := t3
    obtain ⟨A, n, c, l, e0, r0, n0, d0⟩ := tr_ens t0
    obtain ⟨A1, n1, c1, l1, e1, r1, n1'⟩ := tr_wds t1
    obtain ⟨A2, n2, c2, l2, e2, r2, n2'⟩ := tr_wds t2
    obtain ⟨G, m, k, sg, e3, r3, n3⟩ := tr_ints t3
    injection e0 with e0 _; injection e1 with e1 _; injection e2 with e2 _; injection e3 with e3 _
    subst e0; subst e1; subst e2; subst e3
    have q0 := part_at b0
    have q1 := part_at b1
    have q2 := part_at b2
    have q3 := part_at b3
    have : Rows.uptoBulkAll ds ≤ Rows.uptoBulk d := by dsimp only at hd; rw [hd]; simp only [Rows.uptoBulk]; omega
    exact ⟨A, n, c, l, A1, n1, c1, l1, A2, n2, c2, l2, G, m, k, sg, rfl, r0, r1, r2, r3, by omega, by omega, by omega, by omega, d0.mono (by omega)⟩
set_option maxRecDepth 100000 in
theorem indexAgain_contract (H : Type) (enc : TypeId × Value → H) (W : World) (base : Nat) (args : Array Value) (ds gs : List (DataW H)) (before : List MemPlace)
    (hval : ∀ (j : Nat) t v, Try.f4.params[j]? = some t → args[j]? = some v → Value.okWide Try.prog W .any base t v)
    (hW : DataW.Whole enc Try.prog Try.f4.params.toList Rows.indexAgainSpec.vars false W args.toList ds gs before) (hk : Rows.uptoSmall H (ds ++ gs) = true) :
    Calls Try.prog 4 args W fun e W' => ∃ v, e = .returned v ∧ Rows.indexAgainSpec.post enc Try.prog Try.f4 false true false false W args v W' := by
  have hW' := hW
  obtain ⟨p, q, hA, hV, rfl, hfz, hnd⟩ := hW
  rw [Try.params4] at hA hval
  obtain ⟨v0, vs0, d0, ds0, p0, q0, hargs, rfl, rfl, h0, r0⟩ := trodAll_cons hA
  obtain ⟨rfl, rfl, rfl⟩ := trodAll_nil r0
  obtain rfl : args = #[v0] := by cases args; simp_all
  obtain ⟨rfl, rfl⟩ := trodVars_none hV
  have hb := small hk
  simp only [List.append_nil, Rows.uptoBulkAll] at hb
  obtain ⟨A, n, c, l, A1, n1, c1, ws, A2, n2, c2, ms, G, m, k, sg, rfl, a0, a1, a2, a3, a4, a5, a6, a7, a8⟩ := open_ag (hval 0 _ v0 rfl rfl) h0 (by omega)
  refine (again_law A n c l A1 n1 c1 ws A2 n2 c2 ms G m k sg W a0 a1 a2 a3 a4 a5 a6 a7 a8).mono fun e W' ⟨he, hf⟩ => ⟨_, he, ?_⟩
  exact close_true laid (by kernel_rfl) rfl rfl Try.underlying4 hW' rfl rfl rfl hf
set_option maxRecDepth 100000 in
theorem indexAgain_lifted (os : Os) (started : os.Started) (H : Type) (enc : TypeId × Value → H) (F : Stop.Interp) :
    ReturnsInHanded {} Try.checked os 4 .any ((Rows.OpenSpec.upto Rows.indexAgainSpec).pre6 enc Try.prog Try.f4 Rows.indexAgainUptoRow.domain false) (((Rows.OpenSpec.upto Rows.indexAgainSpec).at F).post enc Try.prog Try.f4 false true false false) := by
  refine returnsInHanded_of_cond (C := Try.checked) (s := Rows.OpenSpec.upto Rows.indexAgainSpec) (k := Rows.uptoSmall) rfl own started (by kernel_rfl) Try.func4
    (OpenSpec.witness (enc := enc) (C := Try.checked) (s := Rows.OpenSpec.upto Rows.indexAgainSpec) (k := Rows.uptoSmall) rfl false ⟨#[], #[.agg #[.slice none 0 0, .slice none 0 0, .slice none 0 0, .slice none 0 0]], []⟩ 8 (by kernel_rfl) (by kernel_rfl) (by kernel_rfl)
      (x := ([.agg [.nil, .nil, .nil, .nil]], [], [])) (by kernel_rfl) rfl (by kernel_rfl)) ?_
  intro W base args ds gs before hval hW _ hk _
  exact indexAgain_contract H enc W base args ds gs before hval hW hk
theorem indexAgain_proved : Rows.IndexAgainUptoSaid :=
  OpenClaim.holds_of_cond 4 Try.f4 rfl rfl rfl rfl rfl rfl rfl ⟨rfl, rfl, rfl, rfl, rfl⟩ rfl rfl rfl rfl rfl (by kernel_rfl) Try.func4 (by kernel_rfl)
    (of_decide_eq_true (by kernel_rfl)) (by unfold Func.isWrapper; first | (rw [if_pos (by decide +kernel)]; kernel_rfl) | (rw [if_neg (by decide +kernel)]; exact ⟨rfl, rfl⟩))
    (fun os started H enc _ F => indexAgain_lifted os started H enc F)
#print axioms indexAgain_proved
end Go.Proofs.Ytnablplljilahaa
