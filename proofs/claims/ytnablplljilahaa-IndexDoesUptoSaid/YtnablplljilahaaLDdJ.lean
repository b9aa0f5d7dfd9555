/- opening deeds -/
import Derived.Test.YtnablplljilahaaLWdJ
import Derived.Test.YtnablplljilahaaLDdR
namespace Go.Proofs.Ytnablplljilahaa
open Go.GV Go.ChangeShapes Go.WideShapes Go.ChangeAt Go.RowKit
set_option linter.unusedVariables false
set_option linter.unusedSimpArgs false
theorem cDd : Try.prog.cellsOf 36 = 41 := by kernel_rfl
set_option maxRecDepth 100000 in
theorem tr_dd {H : Type} {enc : TypeId × Value → H} {w : World} {fuel : Nat} {cs : List Value} {x : DataW H × List MemPlace} (h : TR enc Try.prog w fuel 36 cs x) (hb : Rows.uptoBulk x.1 ≤ 1048576) : ∃ d : Dd, DdAt w cs d := by
  obtain ⟨hl, ds, hd, hdl, hf⟩ := tr_struct (P := Try.prog) Try.underlying36 h
  rw [cDd] at hl
  obtain ⟨m0, y0, t0, _⟩ := hf 0 _ rfl
  obtain ⟨m1, y1, t1, _⟩ := hf 1 _ rfl
  obtain ⟨m2, y2, t2, b2⟩ := hf 2 _ rfl
  have t0 : TR enc Try.prog w m0 3 ((cs.drop 0).take (Try.prog.cellsOf 3)) y0 := t0
  have t1 : TR enc Try.prog w m1 33 ((cs.drop 1).take (Try.prog.cellsOf 33)) y1 := t1
  have t2 : TR enc Try.prog w m2 34 ((cs.drop 40).take (Try.prog.cellsOf 34)) y2 := t2
  rw [cIn] at t0
  rw [cWd] at t1
  rw [cIs] at t2
  obtain ⟨k, e0, _⟩ := tr_int (P := Try.prog) (k := .i64) Try.underlying3 t0
  obtain ⟨xw, e1, hx⟩ := tr_wd t1
  obtain ⟨A, n, c, l, e2, hs, hn⟩ := tr_ints t2
  have hcs : cs = cs.drop 0 := rfl
  rw [cut 0 1, cut 1 39, cut 40 1, e0, e1, e2, List.drop_of_length_le (l := cs) (i := 40 + 1) (by omega)] at hcs
  have h1 := part_at b2
  have : Rows.uptoBulkAll ds ≤ Rows.uptoBulk x.1 := by rw [hd]; simp only [Rows.uptoBulk]; omega
  exact ⟨⟨k, xw, l⟩, A, n, c, by simpa using hcs, hs, hx, by omega⟩
set_option maxRecDepth 100000 in
theorem open_dds {H : Type} {enc : TypeId × Value → H} {w : World} {v : Value} {d : DataW H} {ps : List MemPlace} (hv : Value.okWide Try.prog w .any 0 23 v) (h : DataW.Trod enc Try.prog w 0 (fun _ => true) true 23 v d ps) (hb : Rows.uptoBulk d ≤ 1048576) :
    ∃ (A : Option Addr) (n c : Nat) (l : List Dd), v = Value.slice A n c ∧ DRow w A n l ∧ n ≤ Rows.uptoBulk d := by
  obtain ⟨fuel, ht⟩ := h
  obtain ⟨A, n, c, vss, hcs, h1, h2, h3, h4, h5, h6⟩ := tr_slice (P := Try.prog) (e := 36) Try.underlying23 (by rw [cDd]; decide) ht
  rw [cDd] at h4 h5
  have hve := slice_of_cells Try.underlying23 hv hcs
  rcases h6 with ⟨h7, rfl, rfl, rfl⟩ | ⟨es, sp, h7, h8, h9, h10⟩
  · exact ⟨none, 0, 0, [], hve, ⟨rfl, fun h => absurd rfl h⟩, Nat.zero_le _⟩
  · dsimp only at h7
    have hbulk : Rows.uptoBulkAll es ≤ Rows.uptoBulk d := by rw [h7]; simp only [Rows.uptoBulk]; omega
    obtain ⟨l, hll, hl⟩ := choose_list (R := fun (i : Nat) v (e : Dd) => DdAt w v e) vss (fun i v hi => by
      obtain ⟨m, y, hy, hey⟩ := h10 i v hi
      exact tr_dd hy (by have := part_at hey; omega))
    obtain ⟨hf1, hf2⟩ := flatten_get h4
    refine ⟨A, n, c, l, hve, ⟨by omega, fun h0 => ?_⟩, ?_⟩
    · obtain ⟨b, o, hA, hc⟩ := h5.2 h0
      refine ⟨b, o, hA, fun i e hi => ?_⟩
      have hil := (List.getElem?_eq_some_iff.1 hi).1
      have hg : vss[i]? = some (vss[i]'(by omega)) := List.getElem?_eq_getElem (by omega)
      obtain ⟨e', he', hr⟩ := hl i _ hg
      rw [hi] at he'
      injection he' with he'
      subst he'
      refine ⟨_, hr, fun j v hj => ?_⟩
      have hj41 : j < 41 := by have := (List.getElem?_eq_some_iff.1 hj).1; rw [h4 i _ hg] at this; exact this
      rw [Nat.add_assoc]
      exact hc _ v (by rw [hf2 i _ j hg hj41]; exact hj)
    · have := length_le es
      omega
end Go.Proofs.Ytnablplljilahaa
