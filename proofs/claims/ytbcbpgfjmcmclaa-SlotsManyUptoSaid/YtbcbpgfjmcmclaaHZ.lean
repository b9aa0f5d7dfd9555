/- PROVED HERE: the statement SlotsManyUptoSaid of chapter 18 (any digests that were put are found, however many; those that were cut aren't). CONDITION: what the arguments hold is of bulk at most 1048576, as the statement says. -/
import Derived.Test.YtbcbpgfjmcmclaaHF
import Derived.Test.YtbcbpgfjmcmclaaLZ
namespace Go.Proofs.Ytbcbpgfjmcmclaa
open Go.GV Go.ChangeShapes Go.WideShapes Go.ChangeAt Go.RowKit
open Go.ChangeMaps (open_string shut_string)
set_option linter.unusedVariables false
theorem slotsMany_contract (H : Type) (enc : TypeId × Value → H) (W : World) (base : Nat) (args : Array Value) (ds gs : List (DataW H)) (before : List MemPlace)
    (hval : ∀ (j : Nat) t v, Try.f3.params[j]? = some t → args[j]? = some v → Value.okWide Try.prog W .any base t v)
    (hW : DataW.Whole enc Try.prog Try.f3.params.toList Rows.slotsManySpec.vars false W args.toList ds gs before) (hk : Rows.uptoSmall H (ds ++ gs) = true) :
    Calls Try.prog 3 args W fun e W' => ∃ v, e = .returned v ∧ Rows.slotsManySpec.post enc Try.prog Try.f3 false true false false W args v W' := by
  have hW' := hW
  obtain ⟨p, q, hA, hV, rfl, hfz, hnd⟩ := hW
  rw [Try.params3] at hA hval
  obtain ⟨v0, vs0, d0, ds0, p0, q0, hargs, rfl, rfl, h0, r0⟩ := trodAll_cons hA
  obtain ⟨v1, vs1, d1, ds1, p1, q1, rfl, rfl, rfl, h1, r1⟩ := trodAll_cons r0
  obtain ⟨v2, vs2, d2, ds2, p2, q2, rfl, rfl, rfl, h2, r2⟩ := trodAll_cons r1
  obtain ⟨rfl, rfl, rfl⟩ := trodAll_nil r2
  obtain rfl : args = #[v0, v1, v2] := by cases args; simp_all
  obtain ⟨rfl, rfl⟩ := trodVars_none hV
  obtain ⟨n0, rfl, w0, _⟩ := open_int (k := .i64) Try.underlying3 (hval 0 _ v0 rfl rfl) h0
  obtain ⟨n1, rfl, w1, _⟩ := open_int (k := .i64) Try.underlying3 (hval 1 _ v1 rfl rfl) h1
  obtain ⟨n2, rfl, _, _, w2⟩ := open_int (k := .u8) Try.underlying5 (hval 2 _ v2 rfl rfl) h2
  obtain ⟨l, hl⟩ : ∃ l : UInt8, n2 = (l.toNat : Int) := by
    have h3 : (decide (0 ≤ n2) && decide (n2 ≤ 255)) = true := w2
    have h4 : 0 ≤ n2 ∧ n2 ≤ 255 := by simpa using h3
    exact ⟨UInt8.ofNat n2.toNat, by simp; omega⟩
  subst hl
  refine (many_law n0 n1 l W).mono fun e W' ⟨he, hf⟩ => ⟨_, he, ?_⟩
  exact close_true laid (by kernel_rfl) rfl rfl Try.underlying4 hW' rfl rfl rfl hf
set_option maxRecDepth 100000 in
theorem slotsMany_lifted (os : Os) (started : os.Started) (H : Type) (enc : TypeId × Value → H) (F : Stop.Interp) :
    ReturnsInHanded {} Try.checked os 3 .any ((Rows.OpenSpec.upto Rows.slotsManySpec).pre6 enc Try.prog Try.f3 Rows.slotsManyUptoRow.domain false) (((Rows.OpenSpec.upto Rows.slotsManySpec).at F).post enc Try.prog Try.f3 false true false false) := by
  refine returnsInHanded_of_cond (C := Try.checked) (s := Rows.OpenSpec.upto Rows.slotsManySpec) (k := Rows.uptoSmall) rfl own started (by kernel_rfl) Try.func3
    (OpenSpec.witness (enc := enc) (C := Try.checked) (s := Rows.OpenSpec.upto Rows.slotsManySpec) (k := Rows.uptoSmall) rfl false ⟨#[], #[.int .i64 0, .int .i64 0, .int .u8 0], []⟩ 8 (by kernel_rfl) (by kernel_rfl) (by kernel_rfl)
      (x := ([.lit (.int .i64 0), .lit (.int .i64 0), .lit (.int .u8 0)], [], [])) (by kernel_rfl) rfl (by kernel_rfl)) ?_
  intro W base args ds gs before hval hW _ hk _
  exact slotsMany_contract H enc W base args ds gs before hval hW hk
theorem slotsMany_proved : Rows.SlotsManyUptoSaid :=
  OpenClaim.holds_of_cond 3 Try.f3 rfl rfl rfl rfl rfl rfl rfl ⟨rfl, rfl, rfl, rfl, rfl⟩ rfl rfl rfl rfl rfl (by kernel_rfl) Try.func3 (by kernel_rfl)
    (of_decide_eq_true (by kernel_rfl)) (by unfold Func.isWrapper; first | (rw [if_pos (by decide +kernel)]; kernel_rfl) | (rw [if_neg (by decide +kernel)]; exact ⟨rfl, rfl⟩))
    (fun os started H enc _ F => slotsMany_lifted os started H enc F)
#print axioms slotsMany_proved
end Go.Proofs.Ytbcbpgfjmcmclaa
