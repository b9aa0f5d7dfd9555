/- PROVED HERE: the statement UploadsWholeUptoSaid of chapter 37 (what comes in pieces, each where the one ahead ended, is there as a whole). CONDITION: what the arguments hold is of bulk at most 1048576, as the statement says. -/
import Derived.Test.YtihifmamdeafdaaHL
import Derived.Test.YtihifmamdeafdaaLZ
namespace Go.Proofs.Ytihifmamdeafdaa
open Go.GV Go.ChangeShapes Go.WideShapes Go.ChangeAt Go.RowKit
open Go.ChangeMaps (open_string shut_string)
set_option linter.unusedVariables false
theorem uploadsWhole_contract (H : Type) (enc : TypeId × Value → H) (W : World) (base : Nat) (args : Array Value) (ds gs : List (DataW H)) (before : List MemPlace)
    (hval : ∀ (j : Nat) t v, Try.f3.params[j]? = some t → args[j]? = some v → Value.okWide Try.prog W .any base t v)
    (hW : DataW.Whole enc Try.prog Try.f3.params.toList Rows.uploadsWholeSpec.vars false W args.toList ds gs before) (hk : Rows.uptoSmall H (ds ++ gs) = true) :
    Calls Try.prog 3 args W fun e W' => ∃ v, e = .returned v ∧ Rows.uploadsWholeSpec.post enc Try.prog Try.f3 false true false false W args v W' := by
  have hW' := hW
  obtain ⟨p, q, hA, hV, rfl, hfz, hnd⟩ := hW
  rw [Try.params3] at hA hval
  obtain ⟨v0, vs0, d0, ds0, p0, q0, hargs, rfl, rfl, h0, r0⟩ := trodAll_cons hA
  obtain ⟨rfl, rfl, rfl⟩ := trodAll_nil r0
  obtain rfl : args = #[v0] := by cases args; simp_all
  obtain ⟨rfl, rfl⟩ := trodVars_none hV
  have hb := small hk
  simp only [List.append_nil, Rows.uptoBulkAll] at hb
  obtain ⟨fuel, h0⟩ := h0
  obtain ⟨A, n, c, vss, hcs, h1, h2, h3, h4, h5, h6⟩ := tr_slice (P := Try.prog) (e := 28) Try.underlying22 (by rw [show Try.prog.cellsOf 28 = 1 by kernel_rfl]; decide) h0
  have hv0 := slice_of_cells Try.underlying22 (hval 0 _ v0 rfl rfl) hcs
  subst hv0
  have key : ∃ ls : List (List UInt8), n = ls.length ∧ (∀ (i : Nat) (l : List UInt8), ls[i]? = some l → ∃ (B : Option Addr) (m k : Nat), vss.flatten[i]? = some (Value.slice B m k) ∧ Sl W 1 B m (l.map bv)) ∧ ls.flatten.length ≤ Rows.uptoBulk d0 ∧ n ≤ Rows.uptoBulk d0 := by
    rcases h6 with ⟨h7, rfl, rfl, rfl⟩ | ⟨es, sp, h7, h8, h9, h10⟩
    · exact ⟨[], rfl, fun i l h => by simp at h, by simp, Nat.zero_le _⟩
    · simp only at h7
      subst h7
      obtain ⟨ls, hll, hls⟩ := choose_list (R := fun i v (l : List UInt8) => ∃ (B : Option Addr) (m k : Nat), v = [Value.slice B m k] ∧ Sl W 1 B m (l.map bv) ∧ ∀ d, es[i]? = some d → l.length ≤ Rows.uptoBulk d) vss (fun i v hi => by
        obtain ⟨m, y, hy, hd⟩ := h10 i v hi
        obtain ⟨B, m', k, l, rfl, g1, g2, g3, g4⟩ := tr_bytes (P := Try.prog) (e := 5) Try.underlying28 Try.underlying5 (by kernel_rfl) hy
        refine ⟨l, B, m', k, rfl, g1, fun d hd' => ?_⟩
        rw [hd] at hd'
        injection hd' with hd'
        subst hd'
        have := bytesN g4
        have hl := g1.1
        simp at hl
        omega)
      have fl := flatten_get h4
      rw [show Try.prog.cellsOf 28 = 1 by kernel_rfl] at fl
      refine ⟨ls, by omega, fun i l hl => ?_, ?_, ?_⟩
      · have hil := (List.getElem?_eq_some_iff.1 hl).1
        obtain ⟨l', hl', B, m, k, hv, hs, _⟩ := hls i _ (List.getElem?_eq_getElem (by omega))
        rw [hl] at hl'
        injection hl' with hl'
        subst hl'
        have := fl.2 i _ 0 (List.getElem?_eq_getElem (by omega)) (by omega)
        rw [Nat.mul_one, Nat.add_zero, hv] at this
        exact ⟨B, m, k, this, hs⟩
      · have := sumN (H := H) List.length (xs := ls) (es := es) (by omega) (fun i l d hl hd => by
          have hil := (List.getElem?_eq_some_iff.1 hl).1
          obtain ⟨l', hl', B, m, k, hv, hs, hd2⟩ := hls i _ (List.getElem?_eq_getElem (by omega))
          rw [hl] at hl'
          injection hl' with hl'
          subst hl'
          exact hd2 d hd)
        simp only [Rows.uptoBulk, List.length_flatten]
        omega
      · have := length_le es
        simp only [Rows.uptoBulk]
        omega
  obtain ⟨ls, hn, hs, hm, hn2⟩ := key
  rw [show Try.prog.cellsOf 28 = 1 by kernel_rfl] at h5
  refine (whole_law A n c _ ls W h5 hn hs (by omega) (by omega)).mono fun e W' ⟨he, hf⟩ => ⟨_, he, ?_⟩
  exact close_true laid (by kernel_rfl) rfl rfl Try.underlying4 hW' rfl rfl rfl hf
set_option maxRecDepth 100000 in
theorem uploadsWhole_lifted (os : Os) (started : os.Started) (H : Type) (enc : TypeId × Value → H) (F : Stop.Interp) :
    ReturnsInHanded {} Try.checked os 3 .any ((Rows.OpenSpec.upto Rows.uploadsWholeSpec).pre6 enc Try.prog Try.f3 Rows.uploadsWholeUptoRow.domain false) (((Rows.OpenSpec.upto Rows.uploadsWholeSpec).at F).post enc Try.prog Try.f3 false true false false) := by
  refine returnsInHanded_of_cond (C := Try.checked) (s := Rows.OpenSpec.upto Rows.uploadsWholeSpec) (k := Rows.uptoSmall) rfl own started (by kernel_rfl) Try.func3
    (OpenSpec.witness (enc := enc) (C := Try.checked) (s := Rows.OpenSpec.upto Rows.uploadsWholeSpec) (k := Rows.uptoSmall) rfl false ⟨#[], #[.slice none 0 0], []⟩ 8 (by kernel_rfl) (by kernel_rfl) (by kernel_rfl)
      (x := ([.nil], [], [])) (by kernel_rfl) rfl (by kernel_rfl)) ?_
  intro W base args ds gs before hval hW _ hk _
  exact uploadsWhole_contract H enc W base args ds gs before hval hW hk
theorem uploadsWhole_proved : Rows.UploadsWholeUptoSaid :=
  OpenClaim.holds_of_cond 3 Try.f3 rfl rfl rfl rfl rfl rfl rfl ⟨rfl, rfl, rfl, rfl, rfl⟩ rfl rfl rfl rfl rfl (by kernel_rfl) Try.func3 (by kernel_rfl)
    (of_decide_eq_true (by kernel_rfl)) (by unfold Func.isWrapper; first | (rw [if_pos (by decide +kernel)]; kernel_rfl) | (rw [if_neg (by decide +kernel)]; exact ⟨rfl, rfl⟩))
    (fun os started H enc _ F => uploadsWhole_lifted os started H enc F)
#print axioms uploadsWhole_proved
end Go.Proofs.Ytihifmamdeafdaa
