/- opening words and rows of ints -/
import Derived.Test.YtnablplljilahaaLZ
import Derived.Test.YtnablplljilahaaG11
import Derived.Test.YtnablplljilahaaLWdF
namespace Go.Proofs.Ytnablplljilahaa
open Go.GV Go.ChangeShapes Go.WideShapes Go.ChangeAt Go.RowKit
set_option linter.unusedVariables false
set_option linter.unusedSimpArgs false
theorem cDg : Try.prog.cellsOf 29 = 32 := by kernel_rfl
theorem cU8 : Try.prog.cellsOf 5 = 1 := by kernel_rfl
theorem cIn : Try.prog.cellsOf 3 = 1 := by kernel_rfl
theorem cU64 : Try.prog.cellsOf 27 = 1 := by kernel_rfl
theorem cBo : Try.prog.cellsOf 4 = 1 := by kernel_rfl
theorem cSt : Try.prog.cellsOf 9 = 1 := by kernel_rfl
theorem cIs : Try.prog.cellsOf 34 = 1 := by kernel_rfl
theorem cLo : Try.prog.cellsOf 31 = 3 := by kernel_rfl
theorem cWd : Try.prog.cellsOf 33 = 39 := by kernel_rfl
theorem cut {cs : List Value} (o k : Nat) : cs.drop o = (cs.drop o).take k ++ cs.drop (o + k) := by
  rw [← List.drop_drop]; exact (List.take_append_drop k _).symm
theorem flat_ivs : ∀ r : List Int, (r.map (fun y => [Value.int .i64 y])).flatten = ivs r
  | [] => rfl
  | a :: b => by
    rw [List.map_cons, List.flatten_cons, flat_ivs b]; rfl
theorem tr_ints {H : Type} {enc : TypeId × Value → H} {w : World} {fuel : Nat} {cs : List Value} {x : DataW H × List MemPlace} (h : TR enc Try.prog w fuel 34 cs x) :
    ∃ (A : Option Addr) (n c : Nat) (l : List Int), cs = [Value.slice A n c] ∧ Sl w 1 A n (ivs l) ∧ n ≤ Rows.uptoBulk x.1 := by
  obtain ⟨A, n, c, vss, hcs, h1, h2, h3, h4, h5, h6⟩ := tr_slice (P := Try.prog) (e := 3) Try.underlying34 (by rw [cIn]; decide) h
  rcases h6 with ⟨h7, rfl, rfl, rfl⟩ | ⟨es, sp, h7, h8, h9, h10⟩
  · exact ⟨none, 0, 0, [], hcs, Sl.nil _ _ _, Nat.zero_le _⟩
  · obtain ⟨r, hrl, hr⟩ := choose_list (R := fun _ v (y : Int) => v = [Value.int .i64 y]) vss (fun i v hi => by
      obtain ⟨m, y, hy, _⟩ := h10 i v hi
      obtain ⟨q, e, _⟩ := tr_int (P := Try.prog) (k := .i64) Try.underlying3 hy
      exact ⟨q, e⟩)
    have hv : vss = r.map (fun y => [Value.int .i64 y]) := by
      apply List.ext_getElem?
      intro i
      by_cases hi : i < vss.length
      · obtain ⟨y, hl, hl2⟩ := hr i _ (List.getElem?_eq_getElem hi)
        rw [List.getElem?_map, hl, List.getElem?_eq_getElem hi, hl2]; rfl
      · rw [List.getElem?_eq_none (by omega), List.getElem?_eq_none (by simp; omega)]
    rw [cIn, hv, flat_ivs] at h5
    refine ⟨A, n, c, r, hcs, h5, ?_⟩
    rw [h7]
    have := length_le es
    simp only [Rows.uptoBulk]
    omega
set_option maxRecDepth 100000 in
theorem open_ints {H : Type} {enc : TypeId × Value → H} {w : World} {v : Value} {d : DataW H} {ps : List MemPlace} (hv : Value.okWide Try.prog w .any 0 34 v) (h : DataW.Trod enc Try.prog w 0 (fun _ => true) true 34 v d ps) :
    ∃ (A : Option Addr) (n c : Nat) (l : List Int), v = Value.slice A n c ∧ Sl w 1 A n (ivs l) ∧ n ≤ Rows.uptoBulk d := by
  obtain ⟨fuel, ht⟩ := h
  obtain ⟨A, n, c, l, hcs, h1, h2⟩ := tr_ints ht
  exact ⟨A, n, c, l, slice_of_cells Try.underlying34 hv hcs, h1, h2⟩
set_option maxRecDepth 100000 in
theorem tr_loc {H : Type} {enc : TypeId × Value → H} {w : World} {fuel : Nat} {cs : List Value} {x : DataW H × List MemPlace} (h : TR enc Try.prog w fuel 31 cs x) : ∃ s o q : Int, cs = [.int .i64 s, .int .i64 o, .int .i64 q] := by
  obtain ⟨hl, ds, hd, hdl, hf⟩ := tr_struct (P := Try.prog) Try.underlying31 h
  rw [cLo] at hl
  obtain ⟨m0, y0, t0, _⟩ := hf 0 _ rfl
  obtain ⟨m1, y1, t1, _⟩ := hf 1 _ rfl
  obtain ⟨m2, y2, t2, _⟩ := hf 2 _ rfl
  match cs, hl with
  | [x0, x1, x2], _ =>
    have t0 : TR enc Try.prog w m0 3 (([x0, x1, x2].drop 0).take (Try.prog.cellsOf 3)) y0 := t0
    have t1 : TR enc Try.prog w m1 3 (([x0, x1, x2].drop 1).take (Try.prog.cellsOf 3)) y1 := t1
    have t2 : TR enc Try.prog w m2 3 (([x0, x1, x2].drop 2).take (Try.prog.cellsOf 3)) y2 := t2
    simp only [cIn, List.drop_zero, List.drop_succ_cons, List.take_succ_cons, List.take_zero] at t0 t1 t2
    obtain ⟨n0, e0, _⟩ := tr_int (P := Try.prog) (k := .i64) Try.underlying3 t0
    obtain ⟨n1, e1, _⟩ := tr_int (P := Try.prog) (k := .i64) Try.underlying3 t1
    obtain ⟨n2, e2, _⟩ := tr_int (P := Try.prog) (k := .i64) Try.underlying3 t2
    simp only [List.cons.injEq, and_true] at e0 e1 e2
    subst e0; subst e1; subst e2
    exact ⟨n0, n1, n2, rfl⟩
theorem tr_dig {H : Type} {enc : TypeId × Value → H} {w : World} {fuel : Nat} {cs : List Value} {x : DataW H × List MemPlace} (h : TR enc Try.prog w fuel 29 cs x) : ∃ l : List UInt8, cs = l.map bv ∧ l.length = 32 :=
  tr_byteArray (P := Try.prog) Try.underlying29 Try.underlying5 cU8 cDg h
set_option maxRecDepth 100000 in
theorem tr_wd {H : Type} {enc : TypeId × Value → H} {w : World} {fuel : Nat} {cs : List Value} {x : DataW H × List MemPlace} (h : TR enc Try.prog w fuel 33 cs x) : ∃ e : Wd, cs = e.cs ∧ e.d.length = 32 := by
  obtain ⟨hl, ds, hd, hdl, hf⟩ := tr_struct (P := Try.prog) Try.underlying33 h
  rw [cWd] at hl
  obtain ⟨m0, y0, t0, _⟩ := hf 0 _ rfl
  obtain ⟨m1, y1, t1, _⟩ := hf 1 _ rfl
  obtain ⟨m2, y2, t2, _⟩ := hf 2 _ rfl
  obtain ⟨m3, y3, t3, _⟩ := hf 3 _ rfl
  obtain ⟨m4, y4, t4, _⟩ := hf 4 _ rfl
  obtain ⟨m5, y5, t5, _⟩ := hf 5 _ rfl
  have t0 : TR enc Try.prog w m0 3 ((cs.drop 0).take (Try.prog.cellsOf 3)) y0 := t0
  have t1 : TR enc Try.prog w m1 27 ((cs.drop 1).take (Try.prog.cellsOf 27)) y1 := t1
  have t2 : TR enc Try.prog w m2 29 ((cs.drop 2).take (Try.prog.cellsOf 29)) y2 := t2
  have t3 : TR enc Try.prog w m3 9 ((cs.drop 34).take (Try.prog.cellsOf 9)) y3 := t3
  have t4 : TR enc Try.prog w m4 3 ((cs.drop 35).take (Try.prog.cellsOf 3)) y4 := t4
  have t5 : TR enc Try.prog w m5 31 ((cs.drop 36).take (Try.prog.cellsOf 31)) y5 := t5
  rw [cIn] at t0 t4
  rw [cU64] at t1
  rw [cDg] at t2
  rw [cSt] at t3
  rw [cLo] at t5
  obtain ⟨k, e0, _⟩ := tr_int (P := Try.prog) (k := .i64) Try.underlying3 t0
  obtain ⟨sq, e1, _⟩ := tr_int (P := Try.prog) (k := .u64) Try.underlying27 t1
  obtain ⟨d, e2, hdl⟩ := tr_dig t2
  obtain ⟨nm, e3, _⟩ := tr_string (P := Try.prog) Try.underlying9 t3
  obtain ⟨z, e4, _⟩ := tr_int (P := Try.prog) (k := .i64) Try.underlying3 t4
  obtain ⟨s, o, q, e5⟩ := tr_loc t5
  have hcs : cs = cs.drop 0 := rfl
  rw [cut 0 1, cut 1 1, cut 2 32, cut 34 1, cut 35 1, cut 36 3, e0, e1, e2, e3, e4, e5, List.drop_of_length_le (l := cs) (i := 36 + 3) (by omega)] at hcs
  exact ⟨⟨k, sq, d, nm, z, s, o, q⟩, hcs, hdl⟩
set_option maxRecDepth 100000 in
theorem open_wd {H : Type} {enc : TypeId × Value → H} {w : World} {b0 : Nat} {v : Value} {d : DataW H} {ps : List MemPlace} (hv : Value.okWide Try.prog w .any b0 33 v) (h : DataW.Trod enc Try.prog w 0 (fun _ => true) true 33 v d ps) :
    ∃ e : Wd, v = ofL e.cs ∧ e.d.length = 32 := by
  obtain ⟨fuel, ht⟩ := h
  obtain ⟨cs, rfl, hcs⟩ := agg_of_struct Try.underlying33 hv
  rw [hcs] at ht
  obtain ⟨e, h1, h2⟩ := tr_wd ht
  exact ⟨e, by rw [h1], h2⟩
end Go.Proofs.Ytnablplljilahaa
