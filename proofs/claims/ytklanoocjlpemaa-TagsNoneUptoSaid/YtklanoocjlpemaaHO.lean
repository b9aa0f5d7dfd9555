/- chapter 21: opening tables and deeds -/
import Derived.Test.YtklanoocjlpemaaHN
import Derived.Test.YtklanoocjlpemaaLTnJ
namespace Go.Proofs.Ytklanoocjlpemaa
open Go.GV Go.ChangeShapes Go.WideShapes Go.ChangeAt Go.RowKit
set_option linter.unusedVariables false
theorem cDd : Try.prog.cellsOf 46 = 43 := by kernel_rfl
theorem chunk_flat {vss : List (List Value)} (hk : ∀ (i : Nat) (v : List Value), vss[i]? = some v → v.length = 38) {i : Nat} {v : List Value} (hi : vss[i]? = some v) : chunk vss.flatten i = v := by
  obtain ⟨h1, h2⟩ := flatten_get hk
  have hil := (List.getElem?_eq_some_iff.1 hi).1
  have hv := hk i v hi
  apply List.ext_getElem?
  intro j
  by_cases hj : j < 38
  · rw [chunk_get hj]
    exact h2 i v j hi hj
  · rw [List.getElem?_eq_none (l := v) (by omega), List.getElem?_eq_none]
    unfold chunk
    rw [List.length_take]; omega
set_option maxRecDepth 100000 in
theorem open_tns {H : Type} {enc : TypeId × Value → H} {w : World} {v : Value} {d : DataW H} {ps : List MemPlace} (hv : Value.okWide Try.prog w .any 0 22 v) (h : DataW.Trod enc Try.prog w 0 (fun _ => true) true 22 v d ps) :
    ∃ (A : Option Addr) (n c : Nat) (l : List Tn), v = Value.slice A n c ∧ RT (fun _ => True) w A n l ∧ n ≤ Rows.uptoBulk d ∧ Bd (Rows.uptoBulk d) l := by
  obtain ⟨fuel, ht⟩ := h
  obtain ⟨A, n, c, vss, hcs, h1, h2, h3, h4, h5, h6⟩ := tr_slice (P := Try.prog) (e := 34) Try.underlying22 (by rw [cTn]; decide) ht
  rw [cTn] at h4 h5
  have hve := slice_of_cells Try.underlying22 hv hcs
  rcases h6 with ⟨h7, rfl, rfl, rfl⟩ | ⟨es, sp, h7, h8, h9, h10⟩
  · exact ⟨none, 0, 0, [], hve, RT.nil _ _ _, Nat.zero_le _, bd_nil _⟩
  · dsimp only at h7
    obtain ⟨l, hll, hl⟩ := choose_list (R := fun (i : Nat) v (e : Tn) => TnAt w v e ∧ e.l.length ≤ Rows.uptoBulkAll es) vss (fun i v hi => by
      obtain ⟨m, y, hy, hey⟩ := h10 i v hi
      obtain ⟨e, he, hb⟩ := tr_tn hy
      exact ⟨e, he, Nat.le_trans hb (part_at hey)⟩)
    have hat : ∀ (i : Nat) (e : Tn), l[i]? = some e → ∃ v, vss[i]? = some v ∧ TnAt w v e ∧ e.l.length ≤ Rows.uptoBulkAll es := fun i e hi => by
      have hil := (List.getElem?_eq_some_iff.1 hi).1
      have hg : vss[i]? = some (vss[i]'(by omega)) := List.getElem?_eq_getElem (by omega)
      obtain ⟨e', he', hr⟩ := hl i _ hg
      rw [hi] at he'
      injection he' with he'
      subst he'
      exact ⟨_, hg, hr⟩
    have hbulk : Rows.uptoBulkAll es ≤ Rows.uptoBulk d := by rw [h7]; simp only [Rows.uptoBulk]; omega
    refine ⟨A, n, c, l, hve, ⟨_, h5, ?_, fun i e hi => ?_⟩, ?_, fun e he => ?_⟩
    · rw [(flatten_get h4).1]; omega
    · obtain ⟨v, hv, ⟨A, n, c, e1, e2, e3⟩, _⟩ := hat i e hi
      rw [chunk_flat h4 hv]
      exact ⟨A, n, c, e1, e2, e3, fun _ _ _ => trivial⟩
    · have := length_le es
      omega
    · obtain ⟨i, hi⟩ := List.mem_iff_getElem?.1 he
      obtain ⟨_, _, _, hb⟩ := hat i e hi
      omega
set_option maxRecDepth 100000 in
theorem tr_dd {H : Type} {enc : TypeId × Value → H} {w : World} {fuel : Nat} {cs : List Value} {x : DataW H × List MemPlace} (h : TR enc Try.prog w fuel 46 cs x) (hb : Rows.uptoBulk x.1 ≤ 1048576) : ∃ d : Dd, DdAt w cs d := by
  obtain ⟨hl, ds, hd, hdl, hf⟩ := tr_struct (P := Try.prog) Try.underlying46 h
  rw [cDd] at hl
  obtain ⟨m0, y0, t0, _⟩ := hf 0 _ rfl
  obtain ⟨m1, y1, t1, _⟩ := hf 1 _ rfl
  obtain ⟨m2, y2, t2, b2⟩ := hf 2 _ rfl
  obtain ⟨m3, y3, t3, _⟩ := hf 3 _ rfl
  obtain ⟨m4, y4, t4, _⟩ := hf 4 _ rfl
  have t0 : TR enc Try.prog w m0 3 ((cs.drop 0).take (Try.prog.cellsOf 3)) y0 := t0
  have t1 : TR enc Try.prog w m1 44 ((cs.drop 1).take (Try.prog.cellsOf 44)) y1 := t1
  have t2 : TR enc Try.prog w m2 32 ((cs.drop 40).take (Try.prog.cellsOf 32)) y2 := t2
  have t3 : TR enc Try.prog w m3 9 ((cs.drop 41).take (Try.prog.cellsOf 9)) y3 := t3
  have t4 : TR enc Try.prog w m4 3 ((cs.drop 42).take (Try.prog.cellsOf 3)) y4 := t4
  rw [cIn] at t0 t4
  rw [cWd] at t1
  rw [cIs] at t2
  rw [cSt] at t3
  obtain ⟨k, e0, _⟩ := tr_int (P := Try.prog) (k := .i64) Try.underlying3 t0
  obtain ⟨xw, e1, hx⟩ := tr_wd t1
  obtain ⟨A, n, c, l, e2, hs, hn⟩ := tr_ints t2
  obtain ⟨nm, e3, _⟩ := tr_string (P := Try.prog) Try.underlying9 t3
  obtain ⟨z, e4, _⟩ := tr_int (P := Try.prog) (k := .i64) Try.underlying3 t4
  have hcs : cs = cs.drop 0 := rfl
  rw [cut 0 1, cut 1 39, cut 40 1, cut 41 1, cut 42 1, e0, e1, e2, e3, e4, List.drop_of_length_le (l := cs) (i := 42 + 1) (by omega)] at hcs
  have h1 := part_at b2
  have : Rows.uptoBulkAll ds ≤ Rows.uptoBulk x.1 := by rw [hd]; simp only [Rows.uptoBulk]; omega
  exact ⟨⟨k, xw, l, nm, z⟩, A, n, c, hcs, hs, hx, by omega⟩
set_option maxRecDepth 100000 in
theorem open_dds {H : Type} {enc : TypeId × Value → H} {w : World} {v : Value} {d : DataW H} {ps : List MemPlace} (hv : Value.okWide Try.prog w .any 0 40 v) (h : DataW.Trod enc Try.prog w 0 (fun _ => true) true 40 v d ps) (hb : Rows.uptoBulk d ≤ 1048576) :
    ∃ (A : Option Addr) (n c : Nat) (l : List Dd), v = Value.slice A n c ∧ DRow w A n l ∧ n ≤ Rows.uptoBulk d := by
  obtain ⟨fuel, ht⟩ := h
  obtain ⟨A, n, c, vss, hcs, h1, h2, h3, h4, h5, h6⟩ := tr_slice (P := Try.prog) (e := 46) Try.underlying40 (by rw [cDd]; decide) ht
  rw [cDd] at h4 h5
  have hve := slice_of_cells Try.underlying40 hv hcs
  rcases h6 with ⟨h7, rfl, rfl, rfl⟩ | ⟨es, sp, h7, h8, h9, h10⟩
  · exact ⟨none, 0, 0, [], hve, ⟨rfl, fun h => absurd rfl h⟩, Nat.zero_le _⟩
  · dsimp only at h7
    have hbulk : Rows.uptoBulkAll es ≤ Rows.uptoBulk d := by rw [h7]; simp only [Rows.uptoBulk]; omega
    obtain ⟨l, hll, hl⟩ := choose_list (R := fun (i : Nat) v (e : Dd) => DdAt w v e) vss (fun i v hi => by
      obtain ⟨m, y, hy, hey⟩ := h10 i v hi
      exact tr_dd hy (by have := part_at hey; omega))
    obtain ⟨hf1, hf2⟩ := flatten_get h4
    refine ⟨A, n, c, l, hve, ⟨by omega, fun h0 => ?_⟩, ?_⟩
    · obtain ⟨b, o, hA, hc⟩ := h5.2 h0
      refine ⟨b, o, hA, fun i e hi => ?_⟩
      have hil := (List.getElem?_eq_some_iff.1 hi).1
      have hg : vss[i]? = some (vss[i]'(by omega)) := List.getElem?_eq_getElem (by omega)
      obtain ⟨e', he', hr⟩ := hl i _ hg
      rw [hi] at he'
      injection he' with he'
      subst he'
      refine ⟨_, hr, fun j v hj => ?_⟩
      have hj43 : j < 43 := by have := (List.getElem?_eq_some_iff.1 hj).1; rw [h4 i _ hg] at this; exact this
      rw [Nat.add_assoc]
      exact hc _ v (by rw [hf2 i _ j hg hj43]; exact hj)
    · have := length_le es
      omega
end Go.Proofs.Ytklanoocjlpemaa
