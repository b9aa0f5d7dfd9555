/- PROVED HERE: the statement RosterOrderUptoCardSaid of chapter 26 (the order of names is nothing to the numbers; without what is stale nothing is). CONDITION: what the arguments hold is of bulk at most 1048576, as the statement says. -/
import Derived.Test.YtfhimpkpfelilaaDoorHG
import Derived.Test.YtfhimpkpfelilaaDoorG10
namespace Go.Proofs.YtfhimpkpfelilaaDoor
open Go.GV Go.ChangeShapes Go.WideShapes Go.ChangeAt Go.RowKit
open Go.ChangeMaps (open_string shut_string)
set_option linter.unusedVariables false
set_option maxRecDepth 100000 in
theorem open_strs {H : Type} {enc : TypeId × Value → H} {w : World} {v : Value} {d : DataW H} {ps : List MemPlace} (hv : Value.okWide Tryd.prog w .any 0 22 v) (h : DataW.Trod enc Tryd.prog w 0 (fun _ => true) true 22 v d ps) :
    ∃ (A : Option Addr) (n c : Nat) (r : List Bs), v = .slice A n c ∧ Sl w 1 A n (bvs r) ∧ n ≤ Rows.uptoBulk d ∧ ∀ x ∈ r, x.length ≤ Rows.uptoBulk d := by
  obtain ⟨fuel, h⟩ := h
  have c1 : Tryd.prog.cellsOf 9 = 1 := by kernel_rfl
  obtain ⟨A, n, c, vss, hcs, h1, h2, h3, h4, h5, h6⟩ := tr_slice (P := Tryd.prog) (e := 9) Tryd.underlying22 (by rw [c1]; decide) h
  have hv0 := slice_of_cells Tryd.underlying22 hv hcs
  subst hv0
  rw [c1] at h5
  rcases h6 with ⟨h7, rfl, rfl, rfl⟩ | ⟨es, sp, h7, h8, h9, h10⟩
  · exact ⟨none, 0, 0, [], rfl, Sl.nil _ _ _, Nat.zero_le _, fun x h => by cases h⟩
  · have h7 : d = .slice es sp := h7
    subst h7
    obtain ⟨r, hrl, hr⟩ := choose_list (R := fun i v (l : Bs) => v = [Value.string (bs l)] ∧ l.length ≤ Rows.uptoBulkAll es) vss (fun i v hi => by
      obtain ⟨m, y, hy, hey⟩ := h10 i v hi
      obtain ⟨s, rfl, hs, rfl⟩ := tr_string (P := Tryd.prog) Tryd.underlying9 hy
      refine ⟨s.data.toList, rfl, ?_⟩
      have h1 := part_at hey
      simp only [Rows.uptoBulk] at h1
      omega)
    have hvss : vss.flatten = bvs r := by
      have e : vss = r.map fun l => [Value.string (bs l)] := by
        apply List.ext_getElem?
        intro i
        by_cases hi : i < vss.length
        · obtain ⟨y, hl, hl2⟩ := hr i _ (List.getElem?_eq_getElem hi)
          rw [List.getElem?_map, hl, List.getElem?_eq_getElem hi, hl2.1]; rfl
        · rw [List.getElem?_eq_none (by omega), List.getElem?_eq_none (by simp; omega)]
      rw [e]
      clear e hr hrl h10 h5 h4 h1 h
      induction r with
      | nil => rfl
      | cons x r ih => rw [List.map_cons, List.flatten_cons, ih]; rfl
    rw [hvss] at h5
    have := length_le es
    refine ⟨A, n, c, r, rfl, h5, by simp only [Rows.uptoBulk]; omega, fun x hx => ?_⟩
    obtain ⟨i, hi⟩ := List.mem_iff_getElem?.1 hx
    have hil := (List.getElem?_eq_some_iff.1 hi).1
    obtain ⟨y, hl, _, hl2⟩ := hr i _ (List.getElem?_eq_getElem (l := vss) (by omega))
    rw [hi] at hl
    injection hl with hl
    subst hl
    simp only [Rows.uptoBulk]
    omega
set_option maxRecDepth 100000 in
theorem rosterOrder_contract (H : Type) (enc : TypeId × Value → H) (W : World) (base : Nat) (args : Array Value) (ds gs : List (DataW H)) (before : List MemPlace)
    (hval : ∀ (j : Nat) t v, Tryd.f3.params[j]? = some t → args[j]? = some v → Value.okWide Tryd.prog W .any base t v)
    (hW : DataW.Whole enc Tryd.prog Tryd.f3.params.toList Rows.rosterOrderSpec.vars false W args.toList ds gs before) (hL : laidMetH Tryd.prog Rows.rosterOrderUptoRow.laid W) (hk : Rows.uptoSmall H (ds ++ gs) = true) :
    Calls Tryd.prog 3 args W fun e W' => ∃ v, e = .returned v ∧ Rows.rosterOrderSpec.post enc Tryd.prog Tryd.f3 false true false false W args v W' := by
  have hW' := hW
  obtain ⟨p, q, hA, hV, rfl, hfz, hnd⟩ := hW
  rw [Tryd.params3] at hA hval
  obtain ⟨v0, vs0, d0, ds0, p0, q0, hargs, rfl, rfl, h0, r0⟩ := trodAll_cons hA
  obtain ⟨rfl, rfl, rfl⟩ := trodAll_nil r0
  obtain rfl : args = #[v0] := by cases args; simp_all
  obtain ⟨rfl, rfl⟩ := trodVars_none hV
  have hb := small hk
  simp only [List.append_nil, Rows.uptoBulkAll] at hb
  obtain ⟨A, n, c, r, rfl, hs, hn, hr⟩ := open_strs (hval 0 22 v0 rfl rfl) h0
  refine (order_law A n c r W hs (vK hL) (by omega) (fun x hx => by have := hr x hx; omega)).mono fun e W' ⟨he, hf⟩ => ⟨_, he, ?_⟩
  exact close_true laid (by kernel_rfl) rfl rfl Tryd.underlying4 hW' rfl rfl rfl hf
theorem rosterOrder_met (os : Os) : laidMet Tryd.prog Rows.rosterOrderUptoRow.laid ((laidWorld os).forCall (fun _ _ => 0) ⟨#[], #[.slice none 0 0], []⟩).memory :=
  laidMet_of_run' 8 (by kernel_rfl) (by kernel_rfl)
theorem rosterOrder_reads (os : Os) {H : Type} (enc : TypeId × Value → H) : ∃ places, DataW.whole enc Tryd.prog ((laidWorld os).forCall (fun _ _ => 0) ⟨#[], #[.slice none 0 0], []⟩).memory Tryd.f3.params.toList Rows.rosterOrderSpec.vars false (#[.slice none 0 0] : Array Value).toList 8 = some ([.nil], [], places) :=
  ⟨[], by kernel_rfl⟩
set_option maxRecDepth 100000 in
theorem rosterOrder_lifted (os : Os) (started : os.Started) (H : Type) (enc : TypeId × Value → H) (F : Stop.Interp) :
    ReturnsInHanded {} Tryd.checked os 3 .any ((Rows.OpenSpec.upto Rows.rosterOrderSpec).preRow enc Tryd.prog Tryd.f3 Rows.rosterOrderUptoRow.domain false Rows.rosterOrderUptoRow.laid) (((Rows.OpenSpec.upto Rows.rosterOrderSpec).at F).post enc Tryd.prog Tryd.f3 false true false false) := by
  obtain ⟨places, hx⟩ := rosterOrder_reads os enc
  refine returnsInHanded_of_row (C := Tryd.checked) (s := Rows.OpenSpec.upto Rows.rosterOrderSpec) own started (by kernel_rfl) Tryd.func3
    (witness_row_at (enc := enc) (C := Tryd.checked) false (laidWorld os) #[.slice none 0 0] rfl (by kernel_rfl) (by kernel_rfl) (by kernel_rfl)
      (OpenSpec.preRow_of_cond 8 hx (by kernel_rfl) (fun k hk => by cases hk; kernel_rfl) (by kernel_rfl) (rosterOrder_met os))) ?_
  intro W base args ds gs before hval hW _ hcond _ hL _ _
  exact rosterOrder_contract H enc W base args ds gs before hval hW hL (hcond _ rfl)
theorem rosterOrder_said : Rows.RosterOrderUptoSaid :=
  OpenClaim.holds_of_cond 3 Tryd.f3 rfl rfl rfl rfl rfl rfl rfl ⟨rfl, rfl, rfl, rfl, rfl⟩ rfl rfl rfl rfl rfl (by kernel_rfl) Tryd.func3 (by kernel_rfl)
    (of_decide_eq_true (by kernel_rfl)) (by unfold Func.isWrapper; first | (rw [if_pos (by decide +kernel)]; kernel_rfl) | (rw [if_neg (by decide +kernel)]; exact ⟨rfl, rfl⟩))
    (fun os started H enc _ F => by rw [OpenClaim.pre_eq_preRow]; exact rosterOrder_lifted os started H enc F)
theorem rosterOrder_plain (f : FuncId) (fn : Func) (hf : Tryd.pinned.checked.prog.funcNamed "stillage/stillagelaw26.RosterOrder" = some f) (hfn : Tryd.pinned.checked.prog.funcs[f]? = some fn) :
    true = Tryd.pinned.checked.prog.looks [] ∧ ∀ (j : Nat) t, fn.params[j]? = some t → Tryd.pinned.checked.prog.wantsStandIn t = false := by
  obtain rfl : f = 3 := Option.some.inj ((show Tryd.prog.funcNamed "stillage/stillagelaw26.RosterOrder" = some 3 by kernel_rfl).symm.trans hf) |>.symm
  obtain rfl : fn = Tryd.f3 := (Option.some.inj (Tryd.func3.symm.trans hfn)).symm
  refine ⟨by kernel_rfl, fun j t ht => ?_⟩
  rw [Tryd.params3] at ht
  have hm := Array.mem_of_getElem? ht
  simp at hm
  rcases hm with rfl <;> exact (show Tryd.prog.wantsStandIn _ = false by kernel_rfl)
theorem rosterOrder_proved : Rows.RosterOrderUptoCardSaid :=
  Claim7.holds_tied_plain_at .later [] _ _ _ _ rosterOrder_said (fun _ h => by cases h) (by kernel_rfl) (fun _ h => by cases h) rosterOrderUpto_row_tie rfl ⟨rfl, rfl⟩ (by kernel_rfl) rfl rosterOrder_plain (by kernel_rfl)
#print axioms rosterOrder_proved
end Go.Proofs.YtfhimpkpfelilaaDoor
