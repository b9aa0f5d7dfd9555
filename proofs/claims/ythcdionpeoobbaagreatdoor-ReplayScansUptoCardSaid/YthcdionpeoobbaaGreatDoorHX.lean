/- PROVED HERE: the statement ReplayScansUptoCardSaid of chapter 31 (what is found in any segment of any files, and whether its hint told it). CONDITION: what the arguments hold is of bulk at most 1048576, as the statement says. -/
import Derived.Test.YthcdionpeoobbaaGreatDoorP6
namespace Go.Proofs.YthcdionpeoobbaaGreatDoor
open Go.GV Go.ChangeShapes Go.WideShapes Go.ChangeAt Go.RowKit
set_option linter.unusedVariables false
set_option maxRecDepth 100000 in
theorem replayScans_contract (H : Type) (enc : TypeId × Value → H) (W : World) (base : Nat) (args : Array Value) (ds gs : List (DataW H)) (before : List MemPlace)
    (hval : ∀ (j : Nat) t v, Tryz.f3.params[j]? = some t → args[j]? = some v → Value.okWide Tryz.prog W .any base t v)
    (hW : DataW.Whole enc Tryz.prog Tryz.f3.params.toList Rows.replayScansSpec.vars false W args.toList ds gs before) (hL : laidMetH Tryz.prog Rows.replayScansUptoRow.laid W) (hk : Rows.uptoSmall H (ds ++ gs) = true) :
    Calls Tryz.prog 3 args W fun e W' => ∃ v, e = .returned v ∧ Rows.replayScansSpec.post enc Tryz.prog Tryz.f3 false true false false W args v W' := by
  have hW' := hW
  obtain ⟨p, q, hA, hV, rfl, hfz, hnd⟩ := hW
  rw [Tryz.params3] at hA hval
  obtain ⟨v0, vs0, d0, ds0, p0, q0, hargs, rfl, rfl, h0, r0⟩ := trodAll_cons hA
  obtain ⟨v1, vs1, d1, ds1, p1, q1, rfl, rfl, rfl, h1, r1⟩ := trodAll_cons r0
  obtain ⟨v2, vs2, d2, ds2, p2, q2, rfl, rfl, rfl, h2, r2⟩ := trodAll_cons r1
  obtain ⟨rfl, rfl, rfl⟩ := trodAll_nil r2
  obtain rfl : args = #[v0, v1, v2] := by cases args; simp_all
  obtain ⟨rfl, rfl⟩ := trodVars_none hV
  have hb := small hk
  simp only [List.append_nil, Rows.uptoBulkAll] at hb
  obtain ⟨A1, n1, c1, l1, rfl, k1, kb1, z0, z1⟩ := open_fls (hval 0 _ v0 rfl rfl) h0 (by omega)
  obtain ⟨seg, rfl, rfl, rfl, _⟩ := open_int Tryz.underlying3 (hval 1 _ v1 rfl rfl) h1
  obtain ⟨off, rfl, rfl, rfl⟩ := open_bool Tryz.underlying4 (hval 2 _ v2 rfl rfl) h2
  simp only [Rows.uptoBulk] at hb
  refine (scans_law A1 n1 c1 l1 seg off W k1 (fun x hx => (kb1 x hx).nm) (fun x hx => (kb1 x hx).data) (by omega) (vK hL)).mono fun e W' ⟨he, hf⟩ => ⟨_, he, ?_⟩
  exact close_true laid (by kernel_rfl) rfl rfl Tryz.underlying4 hW' rfl rfl rfl hf
theorem replayScans_met (os : Os) : laidMet Tryz.prog Rows.replayScansUptoRow.laid ((laidWorld os).forCall (fun _ _ => 0) ⟨#[], #[.slice none 0 0, .int .i64 0, .bool false], []⟩).memory :=
  laidMet_of_run' 8 (by kernel_rfl) (by kernel_rfl)
theorem replayScans_reads (os : Os) {H : Type} (enc : TypeId × Value → H) : ∃ places, DataW.whole enc Tryz.prog ((laidWorld os).forCall (fun _ _ => 0) ⟨#[], #[.slice none 0 0, .int .i64 0, .bool false], []⟩).memory Tryz.f3.params.toList Rows.replayScansSpec.vars false (#[.slice none 0 0, .int .i64 0, .bool false] : Array Value).toList 8 = some ([.nil, .lit (.int .i64 0), .lit (.bool false)], [], places) :=
  ⟨[], by kernel_rfl⟩
set_option maxRecDepth 100000 in
theorem replayScans_lifted (os : Os) (started : os.Started) (H : Type) (enc : TypeId × Value → H) (F : Stop.Interp) :
    ReturnsInHanded {} Tryz.checked os 3 .any ((Rows.OpenSpec.upto Rows.replayScansSpec).preRow enc Tryz.prog Tryz.f3 Rows.replayScansUptoRow.domain false Rows.replayScansUptoRow.laid) (((Rows.OpenSpec.upto Rows.replayScansSpec).at F).post enc Tryz.prog Tryz.f3 false true false false) := by
  obtain ⟨places, hx⟩ := replayScans_reads os enc
  refine returnsInHanded_of_row (C := Tryz.checked) (s := Rows.OpenSpec.upto Rows.replayScansSpec) own started (by kernel_rfl) Tryz.func3
    (witness_row_at (enc := enc) (C := Tryz.checked) false (laidWorld os) #[.slice none 0 0, .int .i64 0, .bool false] rfl (by kernel_rfl) (by kernel_rfl) (by kernel_rfl)
      (OpenSpec.preRow_of_cond 8 hx (by kernel_rfl) (fun k hk => by cases hk; kernel_rfl) (by kernel_rfl) (replayScans_met os))) ?_
  intro W base args ds gs before hval hW _ hcond _ hL _ _
  exact replayScans_contract H enc W base args ds gs before hval hW hL (hcond _ rfl)
theorem replayScans_said : Rows.ReplayScansUptoSaid :=
  OpenClaim.holds_of_cond 3 Tryz.f3 rfl rfl rfl rfl rfl rfl rfl ⟨rfl, rfl, rfl, rfl, rfl⟩ rfl rfl rfl rfl rfl (by kernel_rfl) Tryz.func3 (by kernel_rfl)
    (of_decide_eq_true (by kernel_rfl)) (by unfold Func.isWrapper; first | (rw [if_pos (by decide +kernel)]; kernel_rfl) | (rw [if_neg (by decide +kernel)]; exact ⟨rfl, rfl⟩))
    (fun os started H enc _ F => by rw [OpenClaim.pre_eq_preRow]; exact replayScans_lifted os started H enc F)
theorem replayScans_plain (f : FuncId) (fn : Func) (hf : Tryz.pinned.checked.prog.funcNamed "stillage/stillagelaw31.ReplayScans" = some f) (hfn : Tryz.pinned.checked.prog.funcs[f]? = some fn) :
    false = Tryz.pinned.checked.prog.looks [] ∧ ∀ (j : Nat) t, fn.params[j]? = some t → Tryz.pinned.checked.prog.wantsStandIn t = false := by
  obtain rfl : f = 3 := Option.some.inj ((show Tryz.prog.funcNamed "stillage/stillagelaw31.ReplayScans" = some 3 by kernel_rfl).symm.trans hf) |>.symm
  obtain rfl : fn = Tryz.f3 := (Option.some.inj (Tryz.func3.symm.trans hfn)).symm
  refine ⟨by kernel_rfl, fun j t ht => ?_⟩
  rw [Tryz.params3] at ht
  have hm := Array.mem_of_getElem? ht
  simp at hm
  rcases hm with rfl | rfl | rfl <;> exact (show Tryz.prog.wantsStandIn _ = false by kernel_rfl)
theorem replayScans_proved : Rows.ReplayScansUptoCardSaid :=
  Claim7.holds_tied_plain_at .later [] _ _ _ _ replayScans_said (fun _ h => by cases h) (by kernel_rfl) (fun _ h => by cases h) replayScansUpto_row_tie rfl ⟨rfl, rfl⟩ (by kernel_rfl) rfl replayScans_plain (by kernel_rfl)
#print axioms replayScans_proved
end Go.Proofs.YthcdionpeoobbaaGreatDoor
