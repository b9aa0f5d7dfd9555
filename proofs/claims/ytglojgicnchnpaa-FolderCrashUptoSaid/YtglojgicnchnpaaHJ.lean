/- chapter 11: opening folders and changes -/
import Derived.Test.YtglojgicnchnpaaHH
import Derived.Test.YtglojgicnchnpaaLZ
namespace Go.Proofs.Ytglojgicnchnpaa
open Go.GV Go.ChangeShapes Go.WideShapes Go.ChangeAt Go.RowKit
set_option linter.unusedVariables false
set_option linter.unusedSimpArgs false
theorem cIn : Try.prog.cellsOf 3 = 1 := by kernel_rfl
theorem cSt : Try.prog.cellsOf 9 = 1 := by kernel_rfl
theorem cNm : Try.prog.cellsOf 48 = 2 := by kernel_rfl
theorem cCh : Try.prog.cellsOf 27 = 4 := by kernel_rfl
theorem cFo : Try.prog.cellsOf 25 = 2 := by kernel_rfl
theorem cNs : Try.prog.cellsOf 22 = 1 := by kernel_rfl
theorem cCs : Try.prog.cellsOf 23 = 1 := by kernel_rfl
theorem length_le_k {H : Type} {k : Nat} : ∀ {l : List (DataW H)}, (∀ d ∈ l, k ≤ Rows.uptoBulk d) → k * l.length ≤ Rows.uptoBulkAll l
  | [], _ => by simp
  | x :: r, h => by
    have h1 := h x (List.mem_cons_self ..)
    have ih := length_le_k (l := r) (fun d hd => h d (List.mem_cons_of_mem _ hd))
    simp only [Rows.uptoBulkAll, List.length_cons, Nat.mul_add]
    omega
theorem one2 {α : Type} {l : List α} (h : l.length = 2) : ∃ a b, l = [a, b] := by
  match l, h with
  | [a, b], _ => exact ⟨a, b, rfl⟩
theorem one4 {α : Type} {l : List α} (h : l.length = 4) : ∃ a b c d, l = [a, b, c, d] := by
  match l, h with
  | [a, b, c, d], _ => exact ⟨a, b, c, d, rfl⟩
set_option maxRecDepth 100000 in
theorem tr_nm {H : Type} {enc : TypeId × Value → H} {w : World} {fuel : Nat} {cs : List Value} {x : DataW H × List MemPlace} (h : TR enc Try.prog w fuel 48 cs x) : ∃ y : Nm, cs = encN y ∧ 3 ≤ Rows.uptoBulk x.1 := by
  obtain ⟨hl, ds, hd, hdl, hf⟩ := tr_struct (P := Try.prog) Try.underlying48 h
  rw [cNm] at hl
  obtain ⟨a, b, rfl⟩ := one2 hl
  obtain ⟨m0, y0, t0, b0⟩ := hf 0 _ rfl
  obtain ⟨m1, y1, t1, b1⟩ := hf 1 _ rfl
  have t0 : TR enc Try.prog w m0 9 (([a, b].drop 0).take (Try.prog.cellsOf 9)) y0 := t0
  have t1 : TR enc Try.prog w m1 3 (([a, b].drop 1).take (Try.prog.cellsOf 3)) y1 := t1
  rw [cSt] at t0
  rw [cIn] at t1
  have t0 : TR enc Try.prog w m0 9 [a] y0 := t0
  have t1 : TR enc Try.prog w m1 3 [b] y1 := t1
  obtain ⟨s, e0, _⟩ := tr_string (P := Try.prog) Try.underlying9 t0
  obtain ⟨k, e1, _⟩ := tr_int (P := Try.prog) (k := .i64) Try.underlying3 t1
  injection e0 with e0 _; injection e1 with e1 _
  subst e0; subst e1
  refine ⟨(s, k), rfl, ?_⟩
  have hd2 : 2 ≤ ds.length := by rw [hdl]; decide
  have := length_le ds
  rw [hd]
  simp only [Rows.uptoBulk]
  omega
set_option maxRecDepth 100000 in
theorem tr_ch {H : Type} {enc : TypeId × Value → H} {w : World} {fuel : Nat} {cs : List Value} {x : DataW H × List MemPlace} (h : TR enc Try.prog w fuel 27 cs x) : ∃ y : Ch, cs = encC y ∧ 3 ≤ Rows.uptoBulk x.1 ∧ y.nm.size ≤ Rows.uptoBulk x.1 ∧ y.to.size ≤ Rows.uptoBulk x.1 := by
  obtain ⟨hl, ds, hd, hdl, hf⟩ := tr_struct (P := Try.prog) Try.underlying27 h
  rw [cCh] at hl
  obtain ⟨a, b, c, d, rfl⟩ := one4 hl
  obtain ⟨m0, y0, t0, b0⟩ := hf 0 _ rfl
  obtain ⟨m1, y1, t1, b1⟩ := hf 1 _ rfl
  obtain ⟨m2, y2, t2, b2⟩ := hf 2 _ rfl
  obtain ⟨m3, y3, t3, b3⟩ := hf 3 _ rfl
  have t0 : TR enc Try.prog w m0 3 (([a, b, c, d].drop 0).take (Try.prog.cellsOf 3)) y0 := t0
  have t1 : TR enc Try.prog w m1 9 (([a, b, c, d].drop 1).take (Try.prog.cellsOf 9)) y1 := t1
  have t2 : TR enc Try.prog w m2 9 (([a, b, c, d].drop 2).take (Try.prog.cellsOf 9)) y2 := t2
  have t3 : TR enc Try.prog w m3 3 (([a, b, c, d].drop 3).take (Try.prog.cellsOf 3)) y3 := t3
  rw [cIn] at t0 t3
  rw [cSt] at t1 t2
  have t0 : TR enc Try.prog w m0 3 [a] y0 := t0
  have t1 : TR enc Try.prog w m1 9 [b] y1 := t1
  have t2 : TR enc Try.prog w m2 9 [c] y2 := t2
  have t3 : TR enc Try.prog w m3 3 [d] y3 := t3
  obtain ⟨k, e0, _⟩ := tr_int (P := Try.prog) (k := .i64) Try.underlying3 t0
  obtain ⟨s1, e1, _, hx1⟩ := tr_string (P := Try.prog) Try.underlying9 t1
  obtain ⟨s2, e2, _, hx2⟩ := tr_string (P := Try.prog) Try.underlying9 t2
  obtain ⟨j, e3, _⟩ := tr_int (P := Try.prog) (k := .i64) Try.underlying3 t3
  injection e0 with e0 _; injection e1 with e1 _; injection e2 with e2 _; injection e3 with e3 _
  subst e0; subst e1; subst e2; subst e3
  have hd4 : 4 ≤ ds.length := by rw [hdl]; decide
  have hln := length_le ds
  have q1 := part_at b1
  have q2 := part_at b2
  rw [hx1] at q1
  rw [hx2] at q2
  have n1 := strN (H := H) s1
  have n2 := strN (H := H) s2
  dsimp only at q1 q2
  have hbd : Rows.uptoBulk x.1 = Rows.uptoBulkAll ds + 1 := by rw [hd]; simp only [Rows.uptoBulk]
  exact ⟨⟨k, s1, s2, j⟩, rfl, by omega, by show s1.size ≤ _; omega, by show s2.size ≤ _; omega⟩
theorem tr_row {H α : Type} {enc : TypeId × Value → H} {w : World} {fuel sz : Nat} {t e : TypeId} {ec : α → List Value} {cs : List Value} {x : DataW H × List MemPlace} (ht : Try.prog.underlying t = some (.slice e)) (hc : Try.prog.cellsOf e = sz) (h0 : sz ≠ 0) (hec : ∀ a, (ec a).length = sz)
    (hel : ∀ {fuel : Nat} {cs : List Value} {x : DataW H × List MemPlace}, TR enc Try.prog w fuel e cs x → ∃ y : α, cs = ec y ∧ 3 ≤ Rows.uptoBulk x.1) (h : TR enc Try.prog w fuel t cs x) :
    ∃ (A : Option Addr) (n c : Nat) (l : List α), cs = [Value.slice A n c] ∧ Sl w sz A n (flt ec l) ∧ l.length = n ∧ n ≤ c ∧ 3 * n ≤ Rows.uptoBulk x.1 := by
  obtain ⟨A, n, c, vss, hcs, h1, h2, h3, h4, h5, h6⟩ := tr_slice (P := Try.prog) (e := e) ht (by rw [hc]; exact h0) h
  rcases h6 with ⟨h7, rfl, rfl, rfl⟩ | ⟨es, sp, h7, h8, h9, h10⟩
  · exact ⟨none, 0, 0, [], hcs, Sl.nil _ _ _, rfl, Nat.le_refl _, Nat.zero_le _⟩
  · obtain ⟨r, hrl, hr⟩ := choose_list (R := fun (i : Nat) v (y : α) => v = ec y) vss (fun i v hi => by
      obtain ⟨m, y, hy, _⟩ := h10 i v hi
      obtain ⟨q, e, _⟩ := hel hy
      exact ⟨q, e⟩)
    have hv : vss = r.map ec := by
      apply List.ext_getElem?
      intro i
      by_cases hi : i < vss.length
      · obtain ⟨y, hl, hl2⟩ := hr i _ (List.getElem?_eq_getElem hi)
        rw [List.getElem?_map, hl, List.getElem?_eq_getElem hi, hl2]; rfl
      · rw [List.getElem?_eq_none (by omega), List.getElem?_eq_none (by simp; omega)]
    rw [hc, hv] at h5
    have hb : 3 * es.length ≤ Rows.uptoBulkAll es := length_le_k (fun d hd => by
      obtain ⟨i, hi⟩ := List.mem_iff_getElem?.1 hd
      have hil := (List.getElem?_eq_some_iff.1 hi).1
      obtain ⟨m, y, hy, hey⟩ := h10 i _ (List.getElem?_eq_getElem (by omega))
      rw [hi] at hey
      injection hey with hey
      rw [hey]
      exact (hel hy).choose_spec.2)
    refine ⟨A, n, c, r, hcs, h5, by omega, h2, ?_⟩
    rw [h7]
    simp only [Rows.uptoBulk]
    omega
set_option maxRecDepth 100000 in
theorem open_fo {H : Type} {enc : TypeId × Value → H} {w : World} {v : Value} {d : DataW H} {ps : List MemPlace} (hv : Value.okWide Try.prog w .any 0 25 v) (h : DataW.Trod enc Try.prog w 0 (fun _ => true) true 25 v d ps) (hb : Rows.uptoBulk d ≤ 1048576) :
    ∃ (cs : List Value) (F : Fo), v = ofL cs ∧ FoAt w cs F ∧ FoB F := by
  obtain ⟨fuel, ht⟩ := h
  obtain ⟨cs, rfl, hcs⟩ := agg_of_struct Try.underlying25 hv
  rw [hcs] at ht
  obtain ⟨hl, ds, hd, hdl, hf⟩ := tr_struct (P := Try.prog) Try.underlying25 ht
  rw [cFo] at hl
  obtain ⟨a, b, rfl⟩ := one2 hl
  obtain ⟨m0, y0, t0, b0⟩ := hf 0 _ rfl
  obtain ⟨m1, y1, t1, b1⟩ := hf 1 _ rfl
  have t0 : TR enc Try.prog w m0 22 (([a, b].drop 0).take (Try.prog.cellsOf 22)) y0 := t0
  have t1 : TR enc Try.prog w m1 23 (([a, b].drop 1).take (Try.prog.cellsOf 23)) y1 := t1
  rw [cNs] at t0
  rw [cCs] at t1
  have t0 : TR enc Try.prog w m0 22 [a] y0 := t0
  have t1 : TR enc Try.prog w m1 23 [b] y1 := t1
  obtain ⟨A, n, c, l, e0, s0, l0, _, n0⟩ := tr_row Try.underlying22 cNm (by decide) (fun _ => rfl) (fun h => tr_nm h) t0
  obtain ⟨A1, n1, c1, l1, e1, s1, l1', hc1, n1'⟩ := tr_row (ec := encC) Try.underlying23 cCh (by decide) (fun _ => rfl) (fun h => by obtain ⟨y, h1, h2, _⟩ := tr_ch h; exact ⟨y, h1, h2⟩) t1
  injection e0 with e0 _; injection e1 with e1 _
  subst e0; subst e1
  have hs : Rows.uptoBulkAll ds + 1 = Rows.uptoBulk d := by dsimp only at hd; rw [hd]; simp only [Rows.uptoBulk]
  have h2 : Rows.uptoBulk y0.1 + Rows.uptoBulk y1.1 ≤ Rows.uptoBulkAll ds := by
    have hd2 : ds.length = 2 := by rw [hdl]; rfl
    obtain ⟨p, q, rfl⟩ := one2 hd2
    simp only [List.getElem?_cons_zero, List.getElem?_cons_succ, Option.some.injEq] at b0 b1
    subst b0; subst b1
    simp only [Rows.uptoBulkAll]
    omega
  refine ⟨_, ⟨l, l1⟩, rfl, ⟨A, n, c, A1, n1, c1, rfl, ⟨s0, l0⟩, ⟨s1, l1'⟩, hc1⟩, ?_⟩
  show l.length + l1.length ≤ 349525
  omega
set_option maxRecDepth 100000 in
theorem open_ch {H : Type} {enc : TypeId × Value → H} {w : World} {v : Value} {d : DataW H} {ps : List MemPlace} (hv : Value.okWide Try.prog w .any 0 27 v) (h : DataW.Trod enc Try.prog w 0 (fun _ => true) true 27 v d ps) (hb : Rows.uptoBulk d ≤ 1048576) :
    ∃ y : Ch, v = ofL (encC y) ∧ ChB y := by
  obtain ⟨fuel, ht⟩ := h
  obtain ⟨cs, rfl, hcs⟩ := agg_of_struct Try.underlying27 hv
  rw [hcs] at ht
  obtain ⟨y, rfl, h1, h2, h3⟩ := tr_ch ht
  dsimp only at h2 h3
  exact ⟨y, rfl, by omega, by omega⟩
end Go.Proofs.Ytglojgicnchnpaa
