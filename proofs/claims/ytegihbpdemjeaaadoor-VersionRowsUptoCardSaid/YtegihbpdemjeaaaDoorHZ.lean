/- PROVED HERE: the statement VersionRowsUptoCardSaid of chapter 51 (which row any names make, and the last ones). CONDITION: what the arguments hold is of bulk at most 1048576, as the statement says. -/
import Derived.Test.YtegihbpdemjeaaaDoorHJ
import Derived.Test.YtegihbpdemjeaaaDoorHF
import Derived.Test.YtegihbpdemjeaaaDoorG10
namespace Go.Proofs.YtegihbpdemjeaaaDoor
open Go.GV Go.ChangeShapes Go.WideShapes Go.ChangeAt Go.RowKit
open Go.ChangeMaps (open_string shut_string)
set_option linter.unusedVariables false
set_option maxRecDepth 100000 in
theorem open_strs {H : Type} {enc : TypeId × Value → H} {w : World} {v : Value} {d : DataW H} {ps : List MemPlace} (hv : Value.okWide Tryd.prog w .any 0 26 v) (h : DataW.Trod enc Tryd.prog w 0 (fun _ => true) true 26 v d ps) :
    ∃ (A : Option Addr) (n c : Nat) (r : List Bs), v = .slice A n c ∧ Sl w 1 A n (bvs r) ∧ n ≤ Rows.uptoBulk d ∧ ∀ x ∈ r, x.length ≤ Rows.uptoBulk d := by
  obtain ⟨fuel, h⟩ := h
  have c1 : Tryd.prog.cellsOf 9 = 1 := by kernel_rfl
  obtain ⟨A, n, c, vss, hcs, h1, h2, h3, h4, h5, h6⟩ := tr_slice (P := Tryd.prog) (e := 9) Tryd.underlying26 (by rw [c1]; decide) h
  have hv0 := slice_of_cells Tryd.underlying26 hv hcs
  subst hv0
  rw [c1] at h5
  rcases h6 with ⟨h7, rfl, rfl, rfl⟩ | ⟨es, sp, h7, h8, h9, h10⟩
  · exact ⟨none, 0, 0, [], rfl, Sl.nil _ _ _, Nat.zero_le _, fun x h => by cases h⟩
  · have h7 : d = .slice es sp := h7
    subst h7
    obtain ⟨r, hrl, hr⟩ := choose_list (R := fun i v (l : Bs) => v = [Value.string (ba l)] ∧ l.length ≤ Rows.uptoBulkAll es) vss (fun i v hi => by
      obtain ⟨m, y, hy, hey⟩ := h10 i v hi
      obtain ⟨s, rfl, hs, rfl⟩ := tr_string (P := Tryd.prog) Tryd.underlying9 hy
      refine ⟨s.data.toList, rfl, ?_⟩
      have h1 := part_at hey
      simp only [Rows.uptoBulk] at h1
      omega)
    have hvss : vss.flatten = bvs r := by
      have e : vss = r.map fun l => [Value.string (ba l)] := by
        apply List.ext_getElem?
        intro i
        by_cases hi : i < vss.length
        · obtain ⟨y, hl, hl2⟩ := hr i _ (List.getElem?_eq_getElem hi)
          rw [List.getElem?_map, hl, List.getElem?_eq_getElem hi, hl2.1]; rfl
        · rw [List.getElem?_eq_none (by omega), List.getElem?_eq_none (by simp; omega)]
      rw [e]
      clear e hr hrl h10 h5 h4 h1 h
      induction r with
      | nil => rfl
      | cons x r ih => rw [List.map_cons, List.flatten_cons, ih]; rfl
    rw [hvss] at h5
    have := length_le es
    refine ⟨A, n, c, r, rfl, h5, by simp only [Rows.uptoBulk]; omega, fun x hx => ?_⟩
    obtain ⟨i, hi⟩ := List.mem_iff_getElem?.1 hx
    have hil := (List.getElem?_eq_some_iff.1 hi).1
    obtain ⟨y, hl, _, hl2⟩ := hr i _ (List.getElem?_eq_getElem (l := vss) (by omega))
    rw [hi] at hl
    injection hl with hl
    subst hl
    simp only [Rows.uptoBulk]
    omega
theorem wf_rng {n : Int} (h : (Lit.int .i64 n).wf = true) : -9223372036854775808 ≤ n ∧ n ≤ 9223372036854775807 := by
  simp [Lit.wf, IntKind.min, IntKind.max, IntKind.signed, IntKind.bits] at h
  omega
set_option maxRecDepth 100000 in
theorem versionRows_contract (H : Type) (enc : TypeId × Value → H) (W : World) (base : Nat) (args : Array Value) (ds gs : List (DataW H)) (before : List MemPlace)
    (hval : ∀ (j : Nat) t v, Tryd.f5.params[j]? = some t → args[j]? = some v → Value.okWide Tryd.prog W .any base t v)
    (hW : DataW.Whole enc Tryd.prog Tryd.f5.params.toList Rows.versionRowsSpec.vars false W args.toList ds gs before) (hL : laidMetH Tryd.prog Rows.versionRowsUptoRow.laid W) (hk : Rows.uptoSmall H (ds ++ gs) = true) :
    Calls Tryd.prog 5 args W fun e W' => ∃ v, e = .returned v ∧ Rows.versionRowsSpec.post enc Tryd.prog Tryd.f5 false true false false W args v W' := by
  have hW' := hW
  obtain ⟨p, q, hA, hV, rfl, hfz, hnd⟩ := hW
  rw [Tryd.params5] at hA hval
  obtain ⟨v0, vs0, d0, ds0, p0, q0, hargs, rfl, rfl, h0, r0⟩ := trodAll_cons hA
  obtain ⟨v1, vs1, d1, ds1, p1, q1, rfl, rfl, rfl, h1, r1⟩ := trodAll_cons r0
  obtain ⟨rfl, rfl, rfl⟩ := trodAll_nil r1
  obtain rfl : args = #[v0, v1] := by cases args; simp_all
  obtain ⟨rfl, rfl⟩ := trodVars_none hV
  have hb := small hk
  simp only [List.append_nil, Rows.uptoBulkAll] at hb
  obtain ⟨A, n, c, r, rfl, hs, hn, hr⟩ := open_strs (hval 0 26 v0 rfl rfl) h0
  obtain ⟨m, rfl, rfl, rfl, hm⟩ := open_int Tryd.underlying3 (hval 1 _ v1 rfl rfl) h1
  refine (rows_law A n c r m W hs (fun x hx => by have := hr x hx; omega) (by omega) (wf_rng hm)).mono fun e W' ⟨he, hf⟩ => ⟨_, he, ?_⟩
  exact close_true laid (by kernel_rfl) rfl rfl Tryd.underlying4 hW' rfl rfl rfl hf
theorem versionRows_met (os : Os) : laidMet Tryd.prog Rows.versionRowsUptoRow.laid ((laidWorld os).forCall (fun _ _ => 0) ⟨#[], #[.slice none 0 0, .int .i64 0], []⟩).memory :=
  laidMet_of_run' 8 (by kernel_rfl) (by kernel_rfl)
theorem versionRows_reads (os : Os) {H : Type} (enc : TypeId × Value → H) : ∃ places, DataW.whole enc Tryd.prog ((laidWorld os).forCall (fun _ _ => 0) ⟨#[], #[.slice none 0 0, .int .i64 0], []⟩).memory Tryd.f5.params.toList Rows.versionRowsSpec.vars false (#[.slice none 0 0, .int .i64 0] : Array Value).toList 8 = some ([.nil, .lit (.int .i64 0)], [], places) :=
  ⟨[], by kernel_rfl⟩
set_option maxRecDepth 100000 in
theorem versionRows_lifted (os : Os) (started : os.Started) (H : Type) (enc : TypeId × Value → H) (F : Stop.Interp) :
    ReturnsInHanded {} Tryd.checked os 5 .any ((Rows.OpenSpec.upto Rows.versionRowsSpec).preRow enc Tryd.prog Tryd.f5 Rows.versionRowsUptoRow.domain false Rows.versionRowsUptoRow.laid) (((Rows.OpenSpec.upto Rows.versionRowsSpec).at F).post enc Tryd.prog Tryd.f5 false true false false) := by
  obtain ⟨places, hx⟩ := versionRows_reads os enc
  refine returnsInHanded_of_row (C := Tryd.checked) (s := Rows.OpenSpec.upto Rows.versionRowsSpec) own started (by kernel_rfl) Tryd.func5
    (witness_row_at (enc := enc) (C := Tryd.checked) false (laidWorld os) #[.slice none 0 0, .int .i64 0] rfl (by kernel_rfl) (by kernel_rfl) (by kernel_rfl)
      (OpenSpec.preRow_of_cond 8 hx (by kernel_rfl) (fun k hk => by cases hk; kernel_rfl) (by kernel_rfl) (versionRows_met os))) ?_
  intro W base args ds gs before hval hW _ hcond _ hL _ _
  exact versionRows_contract H enc W base args ds gs before hval hW hL (hcond _ rfl)
theorem versionRows_said : Rows.VersionRowsUptoSaid :=
  OpenClaim.holds_of_cond 5 Tryd.f5 rfl rfl rfl rfl rfl rfl rfl ⟨rfl, rfl, rfl, rfl, rfl⟩ rfl rfl rfl rfl rfl (by kernel_rfl) Tryd.func5 (by kernel_rfl)
    (of_decide_eq_true (by kernel_rfl)) (by unfold Func.isWrapper; first | (rw [if_pos (by decide +kernel)]; kernel_rfl) | (rw [if_neg (by decide +kernel)]; exact ⟨rfl, rfl⟩))
    (fun os started H enc _ F => by rw [OpenClaim.pre_eq_preRow]; exact versionRows_lifted os started H enc F)
theorem versionRows_plain (f : FuncId) (fn : Func) (hf : Tryd.pinned.checked.prog.funcNamed "stillage/stillagelaw51.VersionRows" = some f) (hfn : Tryd.pinned.checked.prog.funcs[f]? = some fn) :
    false = Tryd.pinned.checked.prog.looks [] ∧ ∀ (j : Nat) t, fn.params[j]? = some t → Tryd.pinned.checked.prog.wantsStandIn t = false := by
  obtain rfl : f = 5 := Option.some.inj ((show Tryd.prog.funcNamed "stillage/stillagelaw51.VersionRows" = some 5 by kernel_rfl).symm.trans hf) |>.symm
  obtain rfl : fn = Tryd.f5 := (Option.some.inj (Tryd.func5.symm.trans hfn)).symm
  refine ⟨by kernel_rfl, fun j t ht => ?_⟩
  rw [Tryd.params5] at ht
  have hm := Array.mem_of_getElem? ht
  simp at hm
  rcases hm with rfl | rfl <;> exact (show Tryd.prog.wantsStandIn _ = false by kernel_rfl)
theorem versionRows_proved : Rows.VersionRowsUptoCardSaid :=
  Claim7.holds_tied_plain_at .later [] _ _ _ _ versionRows_said (fun _ h => by cases h) (by kernel_rfl) (fun _ h => by cases h) versionRowsUpto_row_tie rfl ⟨rfl, rfl⟩ (by kernel_rfl) rfl versionRows_plain (by kernel_rfl)
#print axioms versionRows_proved
end Go.Proofs.YtegihbpdemjeaaaDoor
