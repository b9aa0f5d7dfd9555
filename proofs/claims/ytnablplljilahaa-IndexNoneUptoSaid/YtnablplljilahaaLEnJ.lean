/- opening entries, and rows of them -/
import Derived.Test.YtnablplljilahaaLWdJ
import Derived.Test.YtnablplljilahaaLEnR
import Derived.Test.YtnablplljilahaaLIxP
namespace Go.Proofs.Ytnablplljilahaa
open Go.GV Go.ChangeShapes Go.WideShapes Go.ChangeAt Go.RowKit
set_option linter.unusedVariables false
set_option linter.unusedSimpArgs false
theorem cEn : Try.prog.cellsOf 42 = 38 := by kernel_rfl
set_option maxRecDepth 100000 in
theorem tr_en {H : Type} {enc : TypeId × Value → H} {w : World} {fuel : Nat} {cs : List Value} {x : DataW H × List MemPlace} (h : TR enc Try.prog w fuel 42 cs x) : ∃ e : En, EnAt w cs e ∧ e.l.length ≤ Rows.uptoBulk x.1 := by
  obtain ⟨hl, ds, hd, hdl, hf⟩ := tr_struct (P := Try.prog) Try.underlying42 h
  rw [cEn] at hl
  obtain ⟨m0, y0, t0, _⟩ := hf 0 _ rfl
  obtain ⟨m1, y1, t1, _⟩ := hf 1 _ rfl
  obtain ⟨m2, y2, t2, _⟩ := hf 2 _ rfl
  obtain ⟨m3, y3, t3, _⟩ := hf 3 _ rfl
  obtain ⟨m4, y4, t4, b4⟩ := hf 4 _ rfl
  have t0 : TR enc Try.prog w m0 29 ((cs.drop 0).take (Try.prog.cellsOf 29)) y0 := t0
  have t1 : TR enc Try.prog w m1 3 ((cs.drop 32).take (Try.prog.cellsOf 3)) y1 := t1
  have t2 : TR enc Try.prog w m2 3 ((cs.drop 33).take (Try.prog.cellsOf 3)) y2 := t2
  have t3 : TR enc Try.prog w m3 31 ((cs.drop 34).take (Try.prog.cellsOf 31)) y3 := t3
  have t4 : TR enc Try.prog w m4 34 ((cs.drop 37).take (Try.prog.cellsOf 34)) y4 := t4
  rw [cDg] at t0
  rw [cIn] at t1 t2
  rw [cLo] at t3
  rw [cIs] at t4
  obtain ⟨d, e0, hdl⟩ := tr_dig t0
  obtain ⟨k, e1, _⟩ := tr_int (P := Try.prog) (k := .i64) Try.underlying3 t1
  obtain ⟨z, e2, _⟩ := tr_int (P := Try.prog) (k := .i64) Try.underlying3 t2
  obtain ⟨s, o, q, e3⟩ := tr_loc t3
  obtain ⟨A, n, c, l, e4, hs, hb⟩ := tr_ints t4
  have hcs : cs = cs.drop 0 := rfl
  rw [cut 0 32, cut 32 1, cut 33 1, cut 34 3, cut 37 1, e0, e1, e2, e3, e4, List.drop_of_length_le (l := cs) (i := 37 + 1) (by omega)] at hcs
  refine ⟨⟨d, k, z, s, o, q, l⟩, ⟨A, n, c, hcs, hs, hdl⟩, ?_⟩
  have h1 := part_at b4
  have h2 := sl_n hs
  rw [hd]
  simp only [Rows.uptoBulk]
  omega
theorem chunk_flatE {vss : List (List Value)} (hk : ∀ (i : Nat) (v : List Value), vss[i]? = some v → v.length = 38) {i : Nat} {v : List Value} (hi : vss[i]? = some v) : chunk vss.flatten i = v := by
  obtain ⟨h1, h2⟩ := flatten_get hk
  have hil := (List.getElem?_eq_some_iff.1 hi).1
  have hv := hk i v hi
  apply List.ext_getElem?
  intro j
  by_cases hj : j < 38
  · rw [chunk_get hj]
    exact h2 i v j hi hj
  · rw [List.getElem?_eq_none (l := v) (by omega), List.getElem?_eq_none]
    unfold chunk
    rw [List.length_take]; omega
set_option maxRecDepth 100000 in
theorem tr_ens {H : Type} {enc : TypeId × Value → H} {w : World} {fuel : Nat} {cs : List Value} {x : DataW H × List MemPlace} (h : TR enc Try.prog w fuel 22 cs x) :
    ∃ (A : Option Addr) (n c : Nat) (l : List En), cs = [Value.slice A n c] ∧ RE (fun _ => True) w A n l ∧ n ≤ Rows.uptoBulk x.1 ∧ BdE (Rows.uptoBulk x.1) l := by
  obtain ⟨A, n, c, vss, hcs, h1, h2, h3, h4, h5, h6⟩ := tr_slice (P := Try.prog) (e := 42) Try.underlying22 (by rw [cEn]; decide) h
  rw [cEn] at h4 h5
  rcases h6 with ⟨h7, rfl, rfl, rfl⟩ | ⟨es, sp, h7, h8, h9, h10⟩
  · exact ⟨none, 0, 0, [], hcs, RE.nil _ _ _, Nat.zero_le _, fun e he => by cases he⟩
  · obtain ⟨l, hll, hl⟩ := choose_list (R := fun (i : Nat) v (e : En) => EnAt w v e ∧ e.l.length ≤ Rows.uptoBulkAll es) vss (fun i v hi => by
      obtain ⟨m, y, hy, hey⟩ := h10 i v hi
      obtain ⟨e, he, hb⟩ := tr_en hy
      exact ⟨e, he, Nat.le_trans hb (part_at hey)⟩)
    have hat : ∀ (i : Nat) (e : En), l[i]? = some e → ∃ v, vss[i]? = some v ∧ EnAt w v e ∧ e.l.length ≤ Rows.uptoBulkAll es := fun i e hi => by
      have hil := (List.getElem?_eq_some_iff.1 hi).1
      have hg : vss[i]? = some (vss[i]'(by omega)) := List.getElem?_eq_getElem (by omega)
      obtain ⟨e', he', hr⟩ := hl i _ hg
      rw [hi] at he'
      injection he' with he'
      subst he'
      exact ⟨_, hg, hr⟩
    have hbulk : Rows.uptoBulkAll es ≤ Rows.uptoBulk x.1 := by rw [h7]; simp only [Rows.uptoBulk]; omega
    refine ⟨A, n, c, l, hcs, ⟨_, h5, ?_, fun i e hi => ?_⟩, ?_, fun e he => ?_⟩
    · rw [(flatten_get h4).1]; omega
    · obtain ⟨v, hv, ⟨A, n, c, e1, e2, e3⟩, _⟩ := hat i e hi
      rw [chunk_flatE h4 hv]
      exact ⟨A, n, c, e1, e2, e3, fun _ _ _ => trivial⟩
    · have := length_le es
      omega
    · obtain ⟨i, hi⟩ := List.mem_iff_getElem?.1 he
      obtain ⟨_, _, _, hb⟩ := hat i e hi
      omega
set_option maxRecDepth 100000 in
theorem open_ens {H : Type} {enc : TypeId × Value → H} {w : World} {v : Value} {d : DataW H} {ps : List MemPlace} (hv : Value.okWide Try.prog w .any 0 22 v) (h : DataW.Trod enc Try.prog w 0 (fun _ => true) true 22 v d ps) :
    ∃ (A : Option Addr) (n c : Nat) (l : List En), v = Value.slice A n c ∧ RE (fun _ => True) w A n l ∧ n ≤ Rows.uptoBulk d ∧ BdE (Rows.uptoBulk d) l := by
  obtain ⟨fuel, ht⟩ := h
  obtain ⟨A, n, c, l, hcs, h1⟩ := tr_ens ht
  exact ⟨A, n, c, l, slice_of_cells Try.underlying22 hv hcs, h1⟩
end Go.Proofs.Ytnablplljilahaa
