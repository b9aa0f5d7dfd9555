/- PROVED HERE: the statement UploadsDoUptoSaid of chapter 37 (what any deeds on uploads come to, deed by deed). CONDITION: what the arguments hold is of bulk at most 1048576, as the statement says. -/
import Derived.Test.YtihifmamdeafdaaHT
import Derived.Test.YtihifmamdeafdaaLZ
namespace Go.Proofs.Ytihifmamdeafdaa
open Go.GV Go.ChangeShapes Go.WideShapes Go.ChangeAt Go.RowKit
set_option linter.unusedVariables false
theorem cDe : Try.prog.cellsOf 40 = 5 := by kernel_rfl
theorem cIn : Try.prog.cellsOf 3 = 1 := by kernel_rfl
theorem cBs : Try.prog.cellsOf 28 = 1 := by kernel_rfl
set_option maxRecDepth 100000 in
theorem tr_ded {H : Type} {enc : TypeId × Value → H} {w : World} {fuel : Nat} {cs : List Value} {x : DataW H × List MemPlace} (h : TR enc Try.prog w fuel 40 cs x) : ∃ d : Ded, cs = d.cs ∧ Sl w 1 d.A d.n (d.l.map bv) ∧ d.l.length ≤ Rows.uptoBulk x.1 := by
  obtain ⟨hl, ds, hd, hdl, hf⟩ := tr_struct (P := Try.prog) Try.underlying40 h
  rw [cDe] at hl
  obtain ⟨m0, y0, t0, _⟩ := hf 0 _ rfl
  obtain ⟨m1, y1, t1, _⟩ := hf 1 _ rfl
  obtain ⟨m2, y2, t2, _⟩ := hf 2 _ rfl
  obtain ⟨m3, y3, t3, b3⟩ := hf 3 _ rfl
  obtain ⟨m4, y4, t4, _⟩ := hf 4 _ rfl
  match cs, hl with
  | [x0, x1, x2, x3, x4], _ =>
    have t0 : TR enc Try.prog w m0 3 (([x0, x1, x2, x3, x4].drop 0).take (Try.prog.cellsOf 3)) y0 := t0
    have t1 : TR enc Try.prog w m1 3 (([x0, x1, x2, x3, x4].drop 1).take (Try.prog.cellsOf 3)) y1 := t1
    have t2 : TR enc Try.prog w m2 3 (([x0, x1, x2, x3, x4].drop 2).take (Try.prog.cellsOf 3)) y2 := t2
    have t3 : TR enc Try.prog w m3 28 (([x0, x1, x2, x3, x4].drop 3).take (Try.prog.cellsOf 28)) y3 := t3
    have t4 : TR enc Try.prog w m4 3 (([x0, x1, x2, x3, x4].drop 4).take (Try.prog.cellsOf 3)) y4 := t4
    simp only [cIn, cBs, List.drop_zero, List.drop_succ_cons, List.take_succ_cons, List.take_zero] at t0 t1 t2 t3 t4
    obtain ⟨n0, e0, _⟩ := tr_int (P := Try.prog) (k := .i64) Try.underlying3 t0
    obtain ⟨n1, e1, _⟩ := tr_int (P := Try.prog) (k := .i64) Try.underlying3 t1
    obtain ⟨n2, e2, _⟩ := tr_int (P := Try.prog) (k := .i64) Try.underlying3 t2
    obtain ⟨A, n, c, l, e3, hs, _, _, hn⟩ := tr_bytes (P := Try.prog) (e := 5) Try.underlying28 Try.underlying5 (by kernel_rfl) t3
    obtain ⟨n4, e4, _⟩ := tr_int (P := Try.prog) (k := .i64) Try.underlying3 t4
    simp only [List.cons.injEq, and_true] at e0 e1 e2 e3 e4
    subst e0; subst e1; subst e2; subst e3; subst e4
    refine ⟨⟨n0, n1, n2, l, A, n, c, n4⟩, rfl, hs, ?_⟩
    have h1 := part_at b3
    have h2 := bytesN hn
    have h3 : l.length = n := by simpa using hs.1
    rw [hd]
    simp only [Rows.uptoBulk]
    omega
theorem sum_le {H : Type} : ∀ (r : List Ded) (es : List (DataW H)), (∀ (i : Nat) (d : Ded), r[i]? = some d → ∃ e, es[i]? = some e ∧ d.l.length ≤ Rows.uptoBulk e) → (r.map (fun d => d.l.length)).sum ≤ Rows.uptoBulkAll es
  | [], es, _ => by simp
  | d :: r, es, h => by
    obtain ⟨e, he, hl⟩ := h 0 d rfl
    cases es with
    | nil => cases he
    | cons e' es =>
      injection he with he
      subst he
      have ih := sum_le r es (fun i d hi => by
        obtain ⟨e, h1, h2⟩ := h (i + 1) d hi
        exact ⟨e, h1, h2⟩)
      rw [List.map_cons, List.sum_cons]
      simp only [Rows.uptoBulkAll]
      omega
set_option maxRecDepth 100000 in
theorem open_deds {H : Type} {enc : TypeId × Value → H} {w : World} {v : Value} {d : DataW H} {ps : List MemPlace} (hv : Value.okWide Try.prog w .any 0 35 v) (h : DataW.Trod enc Try.prog w 0 (fun _ => true) true 35 v d ps) :
    ∃ (A : Option Addr) (n c : Nat) (ds : List Ded), v = Value.slice A n c ∧ Sl w 5 A n (dds ds) ∧ (∀ d ∈ ds, Sl w 1 d.A d.n (d.l.map bv)) ∧ n ≤ Rows.uptoBulk d ∧ (ds.map (fun d => d.l.length)).sum ≤ Rows.uptoBulk d := by
  obtain ⟨fuel, ht⟩ := h
  obtain ⟨A, n, c, vss, hcs, h1, h2, h3, h4, h5, h6⟩ := tr_slice (P := Try.prog) (e := 40) Try.underlying35 (by rw [cDe]; decide) ht
  have hv' := slice_of_cells Try.underlying35 hv hcs
  rcases h6 with ⟨h7, rfl, rfl, rfl⟩ | ⟨es, sp, h7, h8, h9, h10⟩
  · exact ⟨none, 0, 0, [], hv', Sl.nil _ _ _, (fun d hd => by cases hd), Nat.zero_le _, Nat.zero_le _⟩
  · have h7 : d = .slice es sp := h7
    obtain ⟨r, hrl, hr⟩ := choose_list (R := fun i v (y : Ded) => v = y.cs ∧ Sl w 1 y.A y.n (y.l.map bv) ∧ ∃ e, es[i]? = some e ∧ y.l.length ≤ Rows.uptoBulk e) vss (fun i v hi => by
      obtain ⟨m, y, hy, he⟩ := h10 i v hi
      obtain ⟨d, k1, k2, k3⟩ := tr_ded hy
      exact ⟨d, k1, k2, _, he, k3⟩)
    have back : ∀ (i : Nat) (y : Ded), r[i]? = some y → ∃ v, vss[i]? = some v ∧ v = y.cs ∧ Sl w 1 y.A y.n (y.l.map bv) ∧ ∃ e, es[i]? = some e ∧ y.l.length ≤ Rows.uptoBulk e := by
      intro i y hi
      have hil := (List.getElem?_eq_some_iff.1 hi).1
      obtain ⟨y', k1, k2⟩ := hr i _ (List.getElem?_eq_getElem (show i < vss.length by omega))
      rw [hi] at k1
      injection k1 with k1
      subst k1
      exact ⟨_, List.getElem?_eq_getElem (by omega), k2⟩
    have hvs : vss = r.map Ded.cs := by
      apply List.ext_getElem?
      intro i
      by_cases hi : i < vss.length
      · obtain ⟨y, hl, hl2, _⟩ := hr i _ (List.getElem?_eq_getElem hi)
        rw [List.getElem?_map, hl, List.getElem?_eq_getElem hi, hl2]; rfl
      · rw [List.getElem?_eq_none (by omega), List.getElem?_eq_none (by simp; omega)]
    rw [cDe, hvs] at h5
    refine ⟨A, n, c, r, hv', h5, fun d hd => ?_, ?_, ?_⟩
    · obtain ⟨i, hi, hid⟩ := List.mem_iff_getElem.1 hd
      obtain ⟨_, _, _, k, _⟩ := back i d (by rw [List.getElem?_eq_getElem hi, hid])
      exact k
    · rw [h7]
      have := length_le es
      simp only [Rows.uptoBulk]
      omega
    · have := sum_le r es (fun i d hi => by obtain ⟨_, _, _, _, k⟩ := back i d hi; exact k)
      rw [h7]
      simp only [Rows.uptoBulk]
      omega
set_option maxRecDepth 100000 in
theorem uploadsDo_contract (H : Type) (enc : TypeId × Value → H) (W : World) (base : Nat) (args : Array Value) (ds gs : List (DataW H)) (before : List MemPlace)
    (hval : ∀ (j : Nat) t v, Try.f4.params[j]? = some t → args[j]? = some v → Value.okWide Try.prog W .any base t v)
    (hW : DataW.Whole enc Try.prog Try.f4.params.toList Rows.uploadsDoSpec.vars false W args.toList ds gs before) (hk : Rows.uptoSmall H (ds ++ gs) = true) :
    Calls Try.prog 4 args W fun e W' => ∃ v, e = .returned v ∧ Rows.uploadsDoSpec.post enc Try.prog Try.f4 false true false false W args v W' := by
  have hW' := hW
  obtain ⟨p, q, hA, hV, rfl, hfz, hnd⟩ := hW
  rw [Try.params4] at hA hval
  obtain ⟨v0, vs0, d0, ds0, p0, q0, hargs, rfl, rfl, h0, r0⟩ := trodAll_cons hA
  obtain ⟨rfl, rfl, rfl⟩ := trodAll_nil r0
  obtain rfl : args = #[v0] := by cases args; simp_all
  obtain ⟨rfl, rfl⟩ := trodVars_none hV
  have hb := small hk
  simp only [List.append_nil, Rows.uptoBulkAll] at hb
  obtain ⟨A, n, c, dl, rfl, hs, hd, hn, hsum⟩ := open_deds (hval 0 _ v0 rfl rfl) h0
  refine (does_law A n c dl W hs hd (by omega) (by omega)).mono fun e W' ⟨he, hf⟩ => ⟨_, he, ?_⟩
  exact close_true laid (by kernel_rfl) rfl rfl Try.underlying4 hW' rfl rfl rfl hf
set_option maxRecDepth 100000 in
theorem uploadsDo_lifted (os : Os) (started : os.Started) (H : Type) (enc : TypeId × Value → H) (F : Stop.Interp) :
    ReturnsInHanded {} Try.checked os 4 .any ((Rows.OpenSpec.upto Rows.uploadsDoSpec).pre6 enc Try.prog Try.f4 Rows.uploadsDoUptoRow.domain false) (((Rows.OpenSpec.upto Rows.uploadsDoSpec).at F).post enc Try.prog Try.f4 false true false false) := by
  refine returnsInHanded_of_cond (C := Try.checked) (s := Rows.OpenSpec.upto Rows.uploadsDoSpec) (k := Rows.uptoSmall) rfl own started (by kernel_rfl) Try.func4
    (OpenSpec.witness (enc := enc) (C := Try.checked) (s := Rows.OpenSpec.upto Rows.uploadsDoSpec) (k := Rows.uptoSmall) rfl false ⟨#[], #[.slice none 0 0], []⟩ 8 (by kernel_rfl) (by kernel_rfl) (by kernel_rfl)
      (x := ([.nil], [], [])) (by kernel_rfl) rfl (by kernel_rfl)) ?_
  intro W base args ds gs before hval hW _ hk _
  exact uploadsDo_contract H enc W base args ds gs before hval hW hk
theorem uploadsDo_proved : Rows.UploadsDoUptoSaid :=
  OpenClaim.holds_of_cond 4 Try.f4 rfl rfl rfl rfl rfl rfl rfl ⟨rfl, rfl, rfl, rfl, rfl⟩ rfl rfl rfl rfl rfl (by kernel_rfl) Try.func4 (by kernel_rfl)
    (of_decide_eq_true (by kernel_rfl)) (by unfold Func.isWrapper; first | (rw [if_pos (by decide +kernel)]; kernel_rfl) | (rw [if_neg (by decide +kernel)]; exact ⟨rfl, rfl⟩))
    (fun os started H enc _ F => uploadsDo_lifted os started H enc F)
#print axioms uploadsDo_proved
end Go.Proofs.Ytihifmamdeafdaa
