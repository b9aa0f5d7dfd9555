/- opening names entries -/
import Derived.Test.YtklanoocjlpemaaLWdJ
import Derived.Test.YtklanoocjlpemaaLTnF
namespace Go.Proofs.Ytklanoocjlpemaa
open Go.GV Go.ChangeShapes Go.WideShapes Go.ChangeAt Go.RowKit
set_option linter.unusedVariables false
set_option linter.unusedSimpArgs false
theorem cTn : Try.prog.cellsOf 34 = 38 := by kernel_rfl
set_option maxRecDepth 100000 in
theorem tr_tn {H : Type} {enc : TypeId × Value → H} {w : World} {fuel : Nat} {cs : List Value} {x : DataW H × List MemPlace} (h : TR enc Try.prog w fuel 34 cs x) : ∃ e : Tn, TnAt w cs e ∧ e.l.length ≤ Rows.uptoBulk x.1 := by
  obtain ⟨hl, ds, hd, hdl, hf⟩ := tr_struct (P := Try.prog) Try.underlying34 h
  rw [cTn] at hl
  obtain ⟨m0, y0, t0, _⟩ := hf 0 _ rfl
  obtain ⟨m1, y1, t1, _⟩ := hf 1 _ rfl
  obtain ⟨m2, y2, t2, _⟩ := hf 2 _ rfl
  obtain ⟨m3, y3, t3, _⟩ := hf 3 _ rfl
  obtain ⟨m4, y4, t4, b4⟩ := hf 4 _ rfl
  have t0 : TR enc Try.prog w m0 9 ((cs.drop 0).take (Try.prog.cellsOf 9)) y0 := t0
  have t1 : TR enc Try.prog w m1 29 ((cs.drop 1).take (Try.prog.cellsOf 29)) y1 := t1
  have t2 : TR enc Try.prog w m2 4 ((cs.drop 33).take (Try.prog.cellsOf 4)) y2 := t2
  have t3 : TR enc Try.prog w m3 31 ((cs.drop 34).take (Try.prog.cellsOf 31)) y3 := t3
  have t4 : TR enc Try.prog w m4 32 ((cs.drop 37).take (Try.prog.cellsOf 32)) y4 := t4
  rw [cSt] at t0
  rw [cDg] at t1
  rw [cBo] at t2
  rw [cLo] at t3
  rw [cIs] at t4
  obtain ⟨nm, e0, _⟩ := tr_string (P := Try.prog) Try.underlying9 t0
  obtain ⟨d, e1, hdl⟩ := tr_dig t1
  obtain ⟨g, e2, _⟩ := tr_bool (P := Try.prog) Try.underlying4 t2
  obtain ⟨s, o, q, e3⟩ := tr_loc t3
  obtain ⟨A, n, c, l, e4, hs, hb⟩ := tr_ints t4
  have hcs : cs = cs.drop 0 := rfl
  rw [cut 0 1, cut 1 32, cut 33 1, cut 34 3, cut 37 1, e0, e1, e2, e3, e4, List.drop_of_length_le (l := cs) (i := 37 + 1) (by omega)] at hcs
  refine ⟨⟨nm, d, g, s, o, q, l⟩, ⟨A, n, c, hcs, hs, hdl⟩, ?_⟩
  have h1 := part_at b4
  have h2 := sl_n hs
  rw [hd]
  simp only [Rows.uptoBulk]
  omega
set_option maxRecDepth 100000 in
theorem open_tn {H : Type} {enc : TypeId × Value → H} {w : World} {b0 : Nat} {v : Value} {d : DataW H} {ps : List MemPlace} (hv : Value.okWide Try.prog w .any b0 34 v) (h : DataW.Trod enc Try.prog w 0 (fun _ => true) true 34 v d ps) :
    ∃ (cs : List Value) (e : Tn), v = ofL cs ∧ TnAt w cs e ∧ e.l.length ≤ Rows.uptoBulk d := by
  obtain ⟨fuel, ht⟩ := h
  obtain ⟨cs, rfl, hcs⟩ := agg_of_struct Try.underlying34 hv
  rw [hcs] at ht
  obtain ⟨e, h1, h2⟩ := tr_tn ht
  exact ⟨cs, e, rfl, h1, h2⟩
end Go.Proofs.Ytklanoocjlpemaa
