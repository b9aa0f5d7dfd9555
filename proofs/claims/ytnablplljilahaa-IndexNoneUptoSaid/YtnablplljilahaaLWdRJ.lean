/- opening rows of words -/
import Derived.Test.YtnablplljilahaaLWdJ
import Derived.Test.YtnablplljilahaaLDdR
namespace Go.Proofs.Ytnablplljilahaa
open Go.GV Go.ChangeShapes Go.WideShapes Go.ChangeAt Go.RowKit
set_option linter.unusedVariables false
set_option linter.unusedSimpArgs false
set_option maxRecDepth 100000 in
theorem tr_wds {H : Type} {enc : TypeId × Value → H} {w : World} {fuel : Nat} {cs : List Value} {x : DataW H × List MemPlace} (h : TR enc Try.prog w fuel 54 cs x) :
    ∃ (A : Option Addr) (n c : Nat) (l : List Wd), cs = [Value.slice A n c] ∧ WRow w A n l ∧ n ≤ Rows.uptoBulk x.1 := by
  obtain ⟨A, n, c, vss, hcs, h1, h2, h3, h4, h5, h6⟩ := tr_slice (P := Try.prog) (e := 33) Try.underlying54 (by rw [cWd]; decide) h
  rw [cWd] at h4 h5
  rcases h6 with ⟨h7, rfl, rfl, rfl⟩ | ⟨es, sp, h7, h8, h9, h10⟩
  · exact ⟨none, 0, 0, [], hcs, ⟨rfl, (fun x hx => by cases hx), fun h => absurd rfl h⟩, Nat.zero_le _⟩
  · have hbulk : Rows.uptoBulkAll es ≤ Rows.uptoBulk x.1 := by rw [h7]; simp only [Rows.uptoBulk]; omega
    obtain ⟨l, hll, hl⟩ := choose_list (R := fun (i : Nat) v (e : Wd) => v = e.cs ∧ e.d.length = 32) vss (fun i v hi => by
      obtain ⟨m, y, hy, hey⟩ := h10 i v hi
      exact tr_wd hy)
    obtain ⟨hf1, hf2⟩ := flatten_get h4
    have hat : ∀ (i : Nat) (e : Wd), l[i]? = some e → vss[i]? = some e.cs ∧ e.d.length = 32 := fun i e hi => by
      have hil := (List.getElem?_eq_some_iff.1 hi).1
      have hg : vss[i]? = some (vss[i]'(by omega)) := List.getElem?_eq_getElem (by omega)
      obtain ⟨e', he', hr, hd⟩ := hl i _ hg
      rw [hi] at he'
      injection he' with he'
      subst he'
      exact ⟨by rw [hg, hr], hd⟩
    refine ⟨A, n, c, l, hcs, ⟨by omega, fun e he => ?_, fun h0 => ?_⟩, ?_⟩
    · obtain ⟨i, hi⟩ := List.mem_iff_getElem?.1 he
      exact (hat i e hi).2
    · obtain ⟨b, o, hA, hc⟩ := h5.2 h0
      refine ⟨b, o, hA, fun i e hi j v hj => ?_⟩
      obtain ⟨hg, hd⟩ := hat i e hi
      have hj39 : j < 39 := by have := (List.getElem?_eq_some_iff.1 hj).1; rw [h4 i _ hg] at this; exact this
      rw [Nat.add_assoc]
      exact hc _ v (by rw [hf2 i _ j hg hj39]; exact hj)
    · have := length_le es
      omega
set_option maxRecDepth 100000 in
theorem open_wds {H : Type} {enc : TypeId × Value → H} {w : World} {v : Value} {d : DataW H} {ps : List MemPlace} (hv : Value.okWide Try.prog w .any 0 54 v) (h : DataW.Trod enc Try.prog w 0 (fun _ => true) true 54 v d ps) :
    ∃ (A : Option Addr) (n c : Nat) (l : List Wd), v = Value.slice A n c ∧ WRow w A n l ∧ n ≤ Rows.uptoBulk d := by
  obtain ⟨fuel, ht⟩ := h
  obtain ⟨A, n, c, l, hcs, h1⟩ := tr_wds ht
  exact ⟨A, n, c, l, slice_of_cells Try.underlying54 hv hcs, h1⟩
end Go.Proofs.Ytnablplljilahaa
