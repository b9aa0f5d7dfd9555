/- PROVED HERE: the statement LogNoneCardSaid of chapter 29 (a nil log does nothing). CONDITION: none. -/
import Derived.Test.YtadbakmblklncaaGreatDoorP4
namespace Go.Proofs.YtadbakmblklncaaGreatDoor
open Go.GV Go.ChangeShapes Go.WideShapes Go.ChangeAt Go.RowKit
set_option linter.unusedVariables false
theorem cIn : Tryz.prog.cellsOf 3 = 1 := by kernel_rfl
theorem cRs : Tryz.prog.cellsOf 22 = 1 := by kernel_rfl
theorem cRe : Tryz.prog.cellsOf 71 = 38 := by kernel_rfl
theorem cLo : Tryz.prog.cellsOf 24 = 3 := by kernel_rfl
theorem cAc : Tryz.prog.cellsOf 26 = 7 := by kernel_rfl
theorem one3 {α : Type} {l : List α} (h : l.length = 3) : ∃ a b c, l = [a, b, c] := by
  match l, h with
  | [a, b, c], _ => exact ⟨a, b, c, rfl⟩
theorem one7 {α : Type} {l : List α} (h : l.length = 7) : ∃ a b c d e f g, l = [a, b, c, d, e, f, g] := by
  match l, h with
  | [a, b, c, d, e, f, g], _ => exact ⟨a, b, c, d, e, f, g, rfl⟩
theorem tr_i {H : Type} {enc : TypeId × Value → H} {w : World} {m : Nat} {a : Value} {y : DataW H × List MemPlace} (h : TR enc Tryz.prog w m 3 [a] y) : ∃ k : Int, a = .int .i64 k := by
  obtain ⟨k, e0, _⟩ := tr_int (P := Tryz.prog) (k := .i64) Tryz.underlying3 h
  injection e0 with e0 _
  exact ⟨k, e0⟩
set_option maxRecDepth 100000 in
theorem tr_loc {H : Type} {enc : TypeId × Value → H} {w : World} {fuel : Nat} {cs : List Value} {x : DataW H × List MemPlace} (h : TR enc Tryz.prog w fuel 24 cs x) : ∃ a b c : Int, cs = [.int .i64 a, .int .i64 b, .int .i64 c] := by
  obtain ⟨hl, ds, hd, hdl, hf⟩ := tr_struct (P := Tryz.prog) Tryz.underlying24 h
  rw [cLo] at hl
  obtain ⟨a, b, c, rfl⟩ := one3 hl
  obtain ⟨m0, y0, t0, b0⟩ := hf 0 _ rfl
  obtain ⟨m1, y1, t1, b1⟩ := hf 1 _ rfl
  obtain ⟨m2, y2, t2, b2⟩ := hf 2 _ rfl
  have t0 : TR enc Tryz.prog w m0 3 (([a, b, c].drop 0).take (Tryz.prog.cellsOf 3)) y0 := t0
  have t1 : TR enc Tryz.prog w m1 3 (([a, b, c].drop 1).take (Tryz.prog.cellsOf 3)) y1 := t1
  have t2 : TR enc Tryz.prog w m2 3 (([a, b, c].drop 2).take (Tryz.prog.cellsOf 3)) y2 := t2
  rw [cIn] at t0 t1 t2
  obtain ⟨k0, rfl⟩ := tr_i t0
  obtain ⟨k1, rfl⟩ := tr_i t1
  obtain ⟨k2, rfl⟩ := tr_i t2
  exact ⟨k0, k1, k2, rfl⟩
set_option maxRecDepth 100000 in
theorem tr_act {H : Type} {enc : TypeId × Value → H} {w : World} {fuel : Nat} {cs : List Value} {x : DataW H × List MemPlace} (h : TR enc Tryz.prog w fuel 26 cs x) : ∃ (k : Int) (A : Option Addr) (n c : Nat) (p q s1 s2 s3 : Int), cs = acC k A n c p q s1 s2 s3 := by
  obtain ⟨hl, ds, hd, hdl, hf⟩ := tr_struct (P := Tryz.prog) Tryz.underlying26 h
  rw [cAc] at hl
  obtain ⟨a, b, c, d, e, f, g, rfl⟩ := one7 hl
  obtain ⟨m0, y0, t0, b0⟩ := hf 0 _ rfl
  obtain ⟨m1, y1, t1, b1⟩ := hf 1 _ rfl
  obtain ⟨m2, y2, t2, b2⟩ := hf 2 _ rfl
  obtain ⟨m3, y3, t3, b3⟩ := hf 3 _ rfl
  obtain ⟨m4, y4, t4, b4⟩ := hf 4 _ rfl
  have t0 : TR enc Tryz.prog w m0 3 (([a, b, c, d, e, f, g].drop 0).take (Tryz.prog.cellsOf 3)) y0 := t0
  have t1 : TR enc Tryz.prog w m1 22 (([a, b, c, d, e, f, g].drop 1).take (Tryz.prog.cellsOf 22)) y1 := t1
  have t2 : TR enc Tryz.prog w m2 3 (([a, b, c, d, e, f, g].drop 2).take (Tryz.prog.cellsOf 3)) y2 := t2
  have t3 : TR enc Tryz.prog w m3 3 (([a, b, c, d, e, f, g].drop 3).take (Tryz.prog.cellsOf 3)) y3 := t3
  have t4 : TR enc Tryz.prog w m4 24 (([a, b, c, d, e, f, g].drop 4).take (Tryz.prog.cellsOf 24)) y4 := t4
  rw [cIn] at t0 t2 t3
  rw [cRs] at t1
  rw [cLo] at t4
  obtain ⟨k0, rfl⟩ := tr_i t0
  obtain ⟨k2, rfl⟩ := tr_i t2
  obtain ⟨k3, rfl⟩ := tr_i t3
  obtain ⟨l1, l2, l3, e4⟩ := tr_loc t4
  have t1 : TR enc Tryz.prog w m1 22 [b] y1 := t1
  obtain ⟨A, n, c', vss, hcs, _⟩ := tr_slice (P := Tryz.prog) (e := 71) Tryz.underlying22 (by rw [cRe]; omega) t1
  injection hcs with hb _
  have q4 : [e, f, g] = [Value.int .i64 l1, Value.int .i64 l2, Value.int .i64 l3] := e4
  simp only [List.cons.injEq, and_true] at q4
  obtain ⟨rfl, rfl, rfl⟩ := q4
  subst hb
  exact ⟨k0, A, n, c', k2, k3, l1, l2, l3, rfl⟩
set_option maxRecDepth 100000 in
theorem logNone_contract (H : Type) (enc : TypeId × Value → H) (W : World) (base : Nat) (args : Array Value) (ds gs : List (DataW H)) (before : List MemPlace)
    (hval : ∀ (j : Nat) t v, Tryz.f3.params[j]? = some t → args[j]? = some v → Value.okWide Tryz.prog W .any base t v)
    (hW : DataW.Whole enc Tryz.prog Tryz.f3.params.toList Rows.logNoneSpec.vars false W args.toList ds gs before) (hL : laidMetH Tryz.prog Rows.logNoneRow.laid W) :
    Calls Tryz.prog 3 args W fun e W' => ∃ v, e = .returned v ∧ Rows.logNoneSpec.post enc Tryz.prog Tryz.f3 false true false false W args v W' := by
  have hW' := hW
  obtain ⟨p, q, hA, hV, rfl, hfz, hnd⟩ := hW
  rw [Tryz.params3] at hA hval
  obtain ⟨v0, vs0, d0, ds0, p0, q0, hargs, rfl, rfl, h0, r0⟩ := trodAll_cons hA
  obtain ⟨rfl, rfl, rfl⟩ := trodAll_nil r0
  obtain rfl : args = #[v0] := by cases args; simp_all
  obtain ⟨rfl, rfl⟩ := trodVars_none hV
  obtain ⟨fuel, ht⟩ := h0
  obtain ⟨cs, rfl, hcs⟩ := agg_of_struct Tryz.underlying26 (hval 0 _ v0 rfl rfl)
  rw [hcs] at ht
  obtain ⟨k, A, n, c, a, b, s1, s2, s3, rfl⟩ := tr_act ht
  refine (none_law k A n c a b s1 s2 s3 W (vK hL)).mono fun e W' ⟨he, hf⟩ => ⟨_, he, ?_⟩
  exact close_true laid (by kernel_rfl) rfl rfl Tryz.underlying4 hW' rfl rfl rfl hf
theorem logNone_met (os : Os) : laidMet Tryz.prog Rows.logNoneRow.laid ((laidWorld os).forCall (fun _ _ => 0) ⟨#[], #[.agg #[.int .i64 0, .slice none 0 0, .int .i64 0, .int .i64 0, .int .i64 0, .int .i64 0, .int .i64 0]], []⟩).memory :=
  laidMet_of_run' 8 (by kernel_rfl) (by kernel_rfl)
theorem logNone_reads (os : Os) {H : Type} (enc : TypeId × Value → H) : ∃ places, DataW.whole enc Tryz.prog ((laidWorld os).forCall (fun _ _ => 0) ⟨#[], #[.agg #[.int .i64 0, .slice none 0 0, .int .i64 0, .int .i64 0, .int .i64 0, .int .i64 0, .int .i64 0]], []⟩).memory Tryz.f3.params.toList Rows.logNoneSpec.vars false (#[.agg #[.int .i64 0, .slice none 0 0, .int .i64 0, .int .i64 0, .int .i64 0, .int .i64 0, .int .i64 0]] : Array Value).toList 8 = some ([.agg [.lit (.int .i64 0), .nil, .lit (.int .i64 0), .lit (.int .i64 0), .agg [.lit (.int .i64 0), .lit (.int .i64 0), .lit (.int .i64 0)]]], [], places) :=
  ⟨[], by kernel_rfl⟩
set_option maxRecDepth 100000 in
theorem logNone_lifted (os : Os) (started : os.Started) (H : Type) (enc : TypeId × Value → H) (F : Stop.Interp) :
    ReturnsInHanded {} Tryz.checked os 3 .any ((OpenSpec.ofChange Rows.logNoneSpec).preRow enc Tryz.prog Tryz.f3 Rows.logNoneRow.domain false Rows.logNoneRow.laid) (((OpenSpec.ofChange Rows.logNoneSpec).at F).post enc Tryz.prog Tryz.f3 false true false false) := by
  obtain ⟨places, hx⟩ := logNone_reads os enc
  refine returnsInHanded_of_row (C := Tryz.checked) (s := OpenSpec.ofChange Rows.logNoneSpec) own started (by kernel_rfl) Tryz.func3
    (witness_row_at (enc := enc) (C := Tryz.checked) false (laidWorld os) #[.agg #[.int .i64 0, .slice none 0 0, .int .i64 0, .int .i64 0, .int .i64 0, .int .i64 0, .int .i64 0]] rfl (by kernel_rfl) (by kernel_rfl) (by kernel_rfl)
      (OpenSpec.preRow_of_cond 8 hx (by kernel_rfl) (fun k hk => by cases hk) (by kernel_rfl) (logNone_met os))) ?_
  intro W base args ds gs before hval hW _ hcond _ hL _ _
  exact logNone_contract H enc W base args ds gs before hval hW hL
theorem logNone_said : Rows.LogNoneSaid :=
  OpenClaim.holds_of_cond 3 Tryz.f3 rfl rfl rfl rfl rfl rfl rfl ⟨rfl, rfl, rfl, rfl, rfl⟩ rfl rfl rfl rfl rfl (by kernel_rfl) Tryz.func3 (by kernel_rfl)
    (of_decide_eq_true (by kernel_rfl)) (by unfold Func.isWrapper; first | (rw [if_pos (by decide +kernel)]; kernel_rfl) | (rw [if_neg (by decide +kernel)]; exact ⟨rfl, rfl⟩))
    (fun os started H enc _ F => by rw [OpenClaim.pre_eq_preRow]; exact logNone_lifted os started H enc F)
theorem logNone_plain (f : FuncId) (fn : Func) (hf : Tryz.pinned.checked.prog.funcNamed "stillage/stillagelaw29.LogNone" = some f) (hfn : Tryz.pinned.checked.prog.funcs[f]? = some fn) :
    false = Tryz.pinned.checked.prog.looks [] ∧ ∀ (j : Nat) t, fn.params[j]? = some t → Tryz.pinned.checked.prog.wantsStandIn t = false := by
  obtain rfl : f = 3 := Option.some.inj ((show Tryz.prog.funcNamed "stillage/stillagelaw29.LogNone" = some 3 by kernel_rfl).symm.trans hf) |>.symm
  obtain rfl : fn = Tryz.f3 := (Option.some.inj (Tryz.func3.symm.trans hfn)).symm
  refine ⟨by kernel_rfl, fun j t ht => ?_⟩
  rw [Tryz.params3] at ht
  have hm := Array.mem_of_getElem? ht
  simp at hm
  rcases hm with rfl <;> exact (show Tryz.prog.wantsStandIn _ = false by kernel_rfl)
theorem logNone_proved : Rows.LogNoneCardSaid :=
  Claim7.holds_tied_plain_at .later [] _ _ _ _ logNone_said (fun _ h => by cases h) (by kernel_rfl) (fun _ h => by cases h) logNone_row_tie rfl ⟨rfl, rfl⟩ (by kernel_rfl) rfl logNone_plain (by kernel_rfl)
#print axioms logNone_proved
end Go.Proofs.YtadbakmblklncaaGreatDoor
