/- PROVED HERE: the statement DiskLastsUptoSaid of chapter 12 (what was synced lasts through any crash). CONDITION: what the arguments hold is of bulk at most 1048576, as the statement says. -/
import Derived.Test.YtfdhaeglhkmmpaaGreatP4
namespace Go.Proofs.YtfdhaeglhkmmpaaGreat
open Go.GV Go.ChangeShapes Go.WideShapes Go.ChangeAt Go.RowKit
set_option linter.unusedVariables false
set_option maxRecDepth 100000 in
theorem diskLasts_contract (H : Type) (enc : TypeId × Value → H) (W : World) (base : Nat) (args : Array Value) (ds gs : List (DataW H)) (before : List MemPlace)
    (hval : ∀ (j : Nat) t v, Tryz.f3.params[j]? = some t → args[j]? = some v → Value.okWide Tryz.prog W .any base t v)
    (hW : DataW.Whole enc Tryz.prog Tryz.f3.params.toList Rows.diskLastsSpec.vars false W args.toList ds gs before) (hk : Rows.uptoSmall H (ds ++ gs) = true) :
    Calls Tryz.prog 3 args W fun e W' => ∃ v, e = .returned v ∧ Rows.diskLastsSpec.post enc Tryz.prog Tryz.f3 false true false false W args v W' := by
  have hW' := hW
  obtain ⟨p, q, hA, hV, rfl, hfz, hnd⟩ := hW
  rw [Tryz.params3] at hA hval
  obtain ⟨v0, vs0, d0, ds0, p0, q0, hargs, rfl, rfl, h0, r0⟩ := trodAll_cons hA
  obtain ⟨v1, vs1, d1, ds1, p1, q1, rfl, rfl, rfl, h1, r1⟩ := trodAll_cons r0
  obtain ⟨v2, vs2, d2, ds2, p2, q2, rfl, rfl, rfl, h2, r2⟩ := trodAll_cons r1
  obtain ⟨rfl, rfl, rfl⟩ := trodAll_nil r2
  obtain rfl : args = #[v0, v1, v2] := by cases args; simp_all
  obtain ⟨rfl, rfl⟩ := trodVars_none hV
  have hb := small hk
  simp only [List.append_nil, Rows.uptoBulkAll] at hb
  obtain ⟨A0, n0, c0, l0, rfl, k0, kb0, _, z0⟩ := open_cls (hval 0 _ v0 rfl rfl) h0 (by omega)
  obtain ⟨A1, n1, c1, b1, rfl, hs1, hc1, _, hd1⟩ := open_bytesV (e := 5) Tryz.underlying23 Tryz.underlying5 cU8 (hval 1 _ v1 rfl rfl) h1
  have hn1 : n1 ≤ Rows.uptoBulk d1 := bytesN (by rcases hd1 with h | ⟨es, sp, h1, h2, _⟩; exact .inl h; exact .inr ⟨es, sp, h1, h2⟩)
  obtain ⟨A2, n2, c2, l2, rfl, k2, kb2, _, z2⟩ := open_cls (hval 2 _ v2 rfl rfl) h2 (by omega)
  refine (lasts_law A0 n0 c0 l0 A1 n1 c1 b1 A2 n2 c2 l2 W k0 kb0 k2 kb2 (by omega) hs1 (by omega) hc1).mono fun e W' ⟨he, hf⟩ => ⟨_, he, ?_⟩
  exact close_true laid (by kernel_rfl) rfl rfl Tryz.underlying4 hW' rfl rfl rfl hf
set_option maxRecDepth 100000 in
theorem diskLasts_lifted (os : Os) (started : os.Started) (H : Type) (enc : TypeId × Value → H) (F : Stop.Interp) :
    ReturnsInHanded {} Tryz.checked os 3 .any ((Rows.OpenSpec.upto Rows.diskLastsSpec).pre6 enc Tryz.prog Tryz.f3 Rows.diskLastsUptoRow.domain false) (((Rows.OpenSpec.upto Rows.diskLastsSpec).at F).post enc Tryz.prog Tryz.f3 false true false false) := by
  refine returnsInHanded_of_cond (C := Tryz.checked) (s := Rows.OpenSpec.upto Rows.diskLastsSpec) (k := Rows.uptoSmall) rfl own started (by kernel_rfl) Tryz.func3
    (OpenSpec.witness (enc := enc) (C := Tryz.checked) (s := Rows.OpenSpec.upto Rows.diskLastsSpec) (k := Rows.uptoSmall) rfl false ⟨#[], #[.slice none 0 0, .slice none 0 0, .slice none 0 0], []⟩ 8 (by kernel_rfl) (by kernel_rfl) (by kernel_rfl)
      (x := ([.nil, .nil, .nil], [], [])) (by kernel_rfl) rfl (by kernel_rfl)) ?_
  intro W base args ds gs before hval hW _ hk _
  exact diskLasts_contract H enc W base args ds gs before hval hW hk
theorem diskLasts_proved : Rows.DiskLastsUptoSaid :=
  OpenClaim.holds_of_cond 3 Tryz.f3 rfl rfl rfl rfl rfl rfl rfl ⟨rfl, rfl, rfl, rfl, rfl⟩ rfl rfl rfl rfl rfl (by kernel_rfl) Tryz.func3 (by kernel_rfl)
    (of_decide_eq_true (by kernel_rfl)) (by unfold Func.isWrapper; first | (rw [if_pos (by decide +kernel)]; kernel_rfl) | (rw [if_neg (by decide +kernel)]; exact ⟨rfl, rfl⟩))
    (fun os started H enc _ F => diskLasts_lifted os started H enc F)
#print axioms diskLasts_proved
end Go.Proofs.YtfdhaeglhkmmpaaGreat
