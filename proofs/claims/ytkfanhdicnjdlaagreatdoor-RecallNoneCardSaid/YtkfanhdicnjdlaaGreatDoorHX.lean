/- PROVED HERE: the statement RecallNoneCardSaid of chapter 30 (of a nil log nothing). CONDITION: none. -/
import Derived.Test.YtkfanhdicnjdlaaGreatDoorP5
namespace Go.Proofs.YtkfanhdicnjdlaaGreatDoor
open Go.GV Go.ChangeShapes Go.WideShapes Go.ChangeAt Go.RowKit
set_option linter.unusedVariables false
theorem cIn : Tryz.prog.cellsOf 3 = 1 := by kernel_rfl
theorem cU6 : Tryz.prog.cellsOf 22 = 1 := by kernel_rfl
theorem cSt : Tryz.prog.cellsOf 9 = 1 := by kernel_rfl
theorem cDi : Tryz.prog.cellsOf 24 = 32 := by kernel_rfl
theorem cLo : Tryz.prog.cellsOf 26 = 3 := by kernel_rfl
theorem cWo : Tryz.prog.cellsOf 28 = 39 := by kernel_rfl
theorem cEn : Tryz.prog.cellsOf 31 = 38 := by kernel_rfl
theorem one2 {α : Type} {l : List α} (h : l.length = 2) : ∃ a b, l = [a, b] := by
  match l, h with
  | [a, b], _ => exact ⟨a, b, rfl⟩
theorem one3 {α : Type} {l : List α} (h : l.length = 3) : ∃ a b c, l = [a, b, c] := by
  match l, h with
  | [a, b, c], _ => exact ⟨a, b, c, rfl⟩
theorem one5 {α : Type} {l : List α} (h : l.length = 5) : ∃ a b c d e, l = [a, b, c, d, e] := by
  match l, h with
  | [a, b, c, d, e], _ => exact ⟨a, b, c, d, e, rfl⟩
theorem tr_i {H : Type} {enc : TypeId × Value → H} {w : World} {m : Nat} {a : Value} {y : DataW H × List MemPlace} (h : TR enc Tryz.prog w m 3 [a] y) : ∃ k : Int, a = .int .i64 k := by
  obtain ⟨k, e0, _⟩ := tr_int (P := Tryz.prog) (k := .i64) Tryz.underlying3 h
  injection e0 with e0 _
  exact ⟨k, e0⟩
theorem tr_u {H : Type} {enc : TypeId × Value → H} {w : World} {m : Nat} {a : Value} {y : DataW H × List MemPlace} (h : TR enc Tryz.prog w m 22 [a] y) : ∃ k : Nat, a = .int .u64 k := by
  obtain ⟨k, e0, hw, _⟩ := tr_int (P := Tryz.prog) (k := .u64) Tryz.underlying22 h
  injection e0 with e0 _
  have : 0 ≤ k := by
    simp only [Lit.wf, IntKind.has, Bool.and_eq_true, decide_eq_true_eq] at hw
    have e1 : IntKind.u64.min = 0 := by decide
    omega
  exact ⟨k.toNat, by rw [e0, Int.toNat_of_nonneg this]⟩
set_option maxRecDepth 100000 in
theorem tr_loc {H : Type} {enc : TypeId × Value → H} {w : World} {fuel : Nat} {cs : List Value} {x : DataW H × List MemPlace} (h : TR enc Tryz.prog w fuel 26 cs x) : ∃ a b c : Int, cs = [.int .i64 a, .int .i64 b, .int .i64 c] := by
  obtain ⟨hl, ds, hd, hdl, hf⟩ := tr_struct (P := Tryz.prog) Tryz.underlying26 h
  rw [cLo] at hl
  obtain ⟨a, b, c, rfl⟩ := one3 hl
  obtain ⟨m0, y0, t0, b0⟩ := hf 0 _ rfl
  obtain ⟨m1, y1, t1, b1⟩ := hf 1 _ rfl
  obtain ⟨m2, y2, t2, b2⟩ := hf 2 _ rfl
  have t0 : TR enc Tryz.prog w m0 3 (([a, b, c].drop 0).take (Tryz.prog.cellsOf 3)) y0 := t0
  have t1 : TR enc Tryz.prog w m1 3 (([a, b, c].drop 1).take (Tryz.prog.cellsOf 3)) y1 := t1
  have t2 : TR enc Tryz.prog w m2 3 (([a, b, c].drop 2).take (Tryz.prog.cellsOf 3)) y2 := t2
  rw [cIn] at t0 t1 t2
  obtain ⟨k0, rfl⟩ := tr_i t0
  obtain ⟨k1, rfl⟩ := tr_i t1
  obtain ⟨k2, rfl⟩ := tr_i t2
  exact ⟨k0, k1, k2, rfl⟩
set_option maxRecDepth 100000 in
theorem tr_word {H : Type} {enc : TypeId × Value → H} {w : World} {fuel : Nat} {cs : List Value} {x : DataW H × List MemPlace} (h : TR enc Tryz.prog w fuel 28 cs x) : ∃ y : Wo, cs = woC y ∧ y.d.length = 32 := by
  obtain ⟨hl, ds, hd, hdl, hf⟩ := tr_struct (P := Tryz.prog) Tryz.underlying28 h
  rw [cWo] at hl
  obtain ⟨m0, y0, t0, b0⟩ := hf 0 _ rfl
  obtain ⟨m1, y1, t1, b1⟩ := hf 1 _ rfl
  obtain ⟨m2, y2, t2, b2⟩ := hf 2 _ rfl
  obtain ⟨m3, y3, t3, b3⟩ := hf 3 _ rfl
  obtain ⟨m4, y4, t4, b4⟩ := hf 4 _ rfl
  obtain ⟨m5, y5, t5, b5⟩ := hf 5 _ rfl
  have t0 : TR enc Tryz.prog w m0 3 ((cs.drop 0).take (Tryz.prog.cellsOf 3)) y0 := t0
  have t1 : TR enc Tryz.prog w m1 22 ((cs.drop 1).take (Tryz.prog.cellsOf 22)) y1 := t1
  have t2 : TR enc Tryz.prog w m2 24 ((cs.drop 2).take (Tryz.prog.cellsOf 24)) y2 := t2
  have t3 : TR enc Tryz.prog w m3 9 ((cs.drop 34).take (Tryz.prog.cellsOf 9)) y3 := t3
  have t4 : TR enc Tryz.prog w m4 3 ((cs.drop 35).take (Tryz.prog.cellsOf 3)) y4 := t4
  have t5 : TR enc Tryz.prog w m5 26 ((cs.drop 36).take (Tryz.prog.cellsOf 26)) y5 := t5
  rw [cIn] at t0 t4
  rw [cU6] at t1
  rw [cDi] at t2
  rw [cSt] at t3
  rw [cLo] at t5
  obtain ⟨D, hD, hDl⟩ := tr_byteArray (P := Tryz.prog) Tryz.underlying24 Tryz.underlying5 (by kernel_rfl) (by kernel_rfl) t2
  obtain ⟨a, b, hab⟩ := one2 (l := cs.take 2) (by rw [List.length_take]; omega)
  obtain ⟨s, z, u, v, q, h5⟩ := one5 (l := cs.drop 34) (by rw [List.length_drop]; omega)
  have e0 : (cs.drop 0).take 1 = [a] := by
    have : (cs.drop 0).take 1 = (cs.take 2).take 1 := by rw [List.take_take, List.drop_zero]; rfl
    rw [this, hab]; rfl
  have e1 : (cs.drop 1).take 1 = [b] := by
    have : (cs.drop 1).take 1 = (cs.take 2).drop 1 := by rw [List.drop_take]
    rw [this, hab]; rfl
  have e3 : (cs.drop 34).take 1 = [s] := by rw [h5]; rfl
  have e4 : (cs.drop 35).take 1 = [z] := by
    have : cs.drop 35 = (cs.drop 34).drop 1 := by rw [List.drop_drop]
    rw [this, h5]; rfl
  have e5 : (cs.drop 36).take 3 = [u, v, q] := by
    have : cs.drop 36 = (cs.drop 34).drop 2 := by rw [List.drop_drop]
    rw [this, h5]; rfl
  rw [e0] at t0
  rw [e1] at t1
  rw [e3] at t3
  rw [e4] at t4
  rw [e5] at t5
  obtain ⟨k0, rfl⟩ := tr_i t0
  obtain ⟨k1, rfl⟩ := tr_u t1
  obtain ⟨k4, rfl⟩ := tr_i t4
  obtain ⟨sn, hs, _⟩ := tr_string (P := Tryz.prog) Tryz.underlying9 t3
  injection hs with hs _
  obtain ⟨l1, l2, l3, he⟩ := tr_loc t5
  simp only [List.cons.injEq, and_true] at he
  obtain ⟨rfl, rfl, rfl⟩ := he
  refine ⟨⟨k0, k1, D, sn.data.toList, k4, l1, l2, l3⟩, ?_, hDl⟩
  have ec : cs = cs.take 2 ++ ((cs.drop 2).take 32 ++ cs.drop 34) := by
    have : cs.drop 34 = (cs.drop 2).drop 32 := by rw [List.drop_drop]
    rw [this, List.take_append_drop, List.take_append_drop]
  rw [ec, hab, hD, h5]
  unfold woC
  subst hs
  simp
set_option maxRecDepth 100000 in
theorem recallNone_contract (H : Type) (enc : TypeId × Value → H) (W : World) (base : Nat) (args : Array Value) (ds gs : List (DataW H)) (before : List MemPlace)
    (hval : ∀ (j : Nat) t v, Tryz.f3.params[j]? = some t → args[j]? = some v → Value.okWide Tryz.prog W .any base t v)
    (hW : DataW.Whole enc Tryz.prog Tryz.f3.params.toList Rows.recallNoneSpec.vars false W args.toList ds gs before) (hL : laidMetH Tryz.prog Rows.recallNoneRow.laid W) :
    Calls Tryz.prog 3 args W fun e W' => ∃ v, e = .returned v ∧ Rows.recallNoneSpec.post enc Tryz.prog Tryz.f3 false true false false W args v W' := by
  have hW' := hW
  obtain ⟨p, q, hA, hV, rfl, hfz, hnd⟩ := hW
  rw [Tryz.params3] at hA hval
  obtain ⟨v0, vs0, d0, ds0, p0, q0, hargs, rfl, rfl, h0, r0⟩ := trodAll_cons hA
  obtain ⟨v1, vs1, d1, ds1, p1, q1, rfl, rfl, rfl, h1, r1⟩ := trodAll_cons r0
  obtain ⟨rfl, rfl, rfl⟩ := trodAll_nil r1
  obtain rfl : args = #[v0, v1] := by cases args; simp_all
  obtain ⟨rfl, rfl⟩ := trodVars_none hV
  obtain ⟨fuel, ht⟩ := h0
  obtain ⟨cs, rfl, hcs⟩ := agg_of_struct Tryz.underlying28 (hval 0 _ v0 rfl rfl)
  rw [hcs] at ht
  obtain ⟨y, rfl, hy⟩ := tr_word ht
  obtain ⟨fuel1, ht1⟩ := h1
  obtain ⟨es, rfl, hes⟩ := agg_of_struct Tryz.underlying31 (hval 1 _ v1 rfl rfl)
  rw [hes] at ht1
  have hel := (tr_struct (P := Tryz.prog) Tryz.underlying31 ht1).1
  rw [cEn] at hel
  refine (none_law y es W hy hel (vK hL) (kAt hL)).mono fun e W' ⟨he, hf⟩ => ⟨_, he, ?_⟩
  exact close_true laid (by kernel_rfl) rfl rfl Tryz.underlying4 hW' rfl rfl rfl hf
def wA : Value := .agg #[.int .i64 0, .int .u64 0, .int .u8 0, .int .u8 0, .int .u8 0, .int .u8 0, .int .u8 0, .int .u8 0, .int .u8 0, .int .u8 0, .int .u8 0, .int .u8 0, .int .u8 0, .int .u8 0, .int .u8 0, .int .u8 0, .int .u8 0, .int .u8 0, .int .u8 0, .int .u8 0, .int .u8 0, .int .u8 0, .int .u8 0, .int .u8 0, .int .u8 0, .int .u8 0, .int .u8 0, .int .u8 0, .int .u8 0, .int .u8 0, .int .u8 0, .int .u8 0, .int .u8 0, .int .u8 0, .string ⟨#[]⟩, .int .i64 0, .int .i64 0, .int .i64 0, .int .i64 0]
def eA : Value := .agg #[.int .u8 0, .int .u8 0, .int .u8 0, .int .u8 0, .int .u8 0, .int .u8 0, .int .u8 0, .int .u8 0, .int .u8 0, .int .u8 0, .int .u8 0, .int .u8 0, .int .u8 0, .int .u8 0, .int .u8 0, .int .u8 0, .int .u8 0, .int .u8 0, .int .u8 0, .int .u8 0, .int .u8 0, .int .u8 0, .int .u8 0, .int .u8 0, .int .u8 0, .int .u8 0, .int .u8 0, .int .u8 0, .int .u8 0, .int .u8 0, .int .u8 0, .int .u8 0, .int .i64 0, .int .i64 0, .int .i64 0, .int .i64 0, .int .i64 0, .slice none 0 0]
def wD {H : Type} : DataW H := .agg [.lit (.int .i64 0), .lit (.int .u64 0), .agg [.lit (.int .u8 0), .lit (.int .u8 0), .lit (.int .u8 0), .lit (.int .u8 0), .lit (.int .u8 0), .lit (.int .u8 0), .lit (.int .u8 0), .lit (.int .u8 0), .lit (.int .u8 0), .lit (.int .u8 0), .lit (.int .u8 0), .lit (.int .u8 0), .lit (.int .u8 0), .lit (.int .u8 0), .lit (.int .u8 0), .lit (.int .u8 0), .lit (.int .u8 0), .lit (.int .u8 0), .lit (.int .u8 0), .lit (.int .u8 0), .lit (.int .u8 0), .lit (.int .u8 0), .lit (.int .u8 0), .lit (.int .u8 0), .lit (.int .u8 0), .lit (.int .u8 0), .lit (.int .u8 0), .lit (.int .u8 0), .lit (.int .u8 0), .lit (.int .u8 0), .lit (.int .u8 0), .lit (.int .u8 0)], .lit (.string []), .lit (.int .i64 0), .agg [.lit (.int .i64 0), .lit (.int .i64 0), .lit (.int .i64 0)]]
def eD {H : Type} : DataW H := .agg [.agg [.lit (.int .u8 0), .lit (.int .u8 0), .lit (.int .u8 0), .lit (.int .u8 0), .lit (.int .u8 0), .lit (.int .u8 0), .lit (.int .u8 0), .lit (.int .u8 0), .lit (.int .u8 0), .lit (.int .u8 0), .lit (.int .u8 0), .lit (.int .u8 0), .lit (.int .u8 0), .lit (.int .u8 0), .lit (.int .u8 0), .lit (.int .u8 0), .lit (.int .u8 0), .lit (.int .u8 0), .lit (.int .u8 0), .lit (.int .u8 0), .lit (.int .u8 0), .lit (.int .u8 0), .lit (.int .u8 0), .lit (.int .u8 0), .lit (.int .u8 0), .lit (.int .u8 0), .lit (.int .u8 0), .lit (.int .u8 0), .lit (.int .u8 0), .lit (.int .u8 0), .lit (.int .u8 0), .lit (.int .u8 0)], .lit (.int .i64 0), .lit (.int .i64 0), .agg [.lit (.int .i64 0), .lit (.int .i64 0), .lit (.int .i64 0)], .nil]
theorem recallNone_met (os : Os) : laidMet Tryz.prog Rows.recallNoneRow.laid ((laidWorld os).forCall (fun _ _ => 0) ⟨#[], #[wA, eA], []⟩).memory :=
  laidMet_of_run' 8 (by kernel_rfl) (by kernel_rfl)
theorem recallNone_reads (os : Os) {H : Type} (enc : TypeId × Value → H) : ∃ places, DataW.whole enc Tryz.prog ((laidWorld os).forCall (fun _ _ => 0) ⟨#[], #[wA, eA], []⟩).memory Tryz.f3.params.toList Rows.recallNoneSpec.vars false (#[wA, eA] : Array Value).toList 8 = some ([wD, eD], [], places) :=
  ⟨[], by kernel_rfl⟩
set_option maxRecDepth 100000 in
theorem recallNone_lifted (os : Os) (started : os.Started) (H : Type) (enc : TypeId × Value → H) (F : Stop.Interp) :
    ReturnsInHanded {} Tryz.checked os 3 .any ((OpenSpec.ofChange Rows.recallNoneSpec).preRow enc Tryz.prog Tryz.f3 Rows.recallNoneRow.domain false Rows.recallNoneRow.laid) (((OpenSpec.ofChange Rows.recallNoneSpec).at F).post enc Tryz.prog Tryz.f3 false true false false) := by
  obtain ⟨places, hx⟩ := recallNone_reads os enc
  refine returnsInHanded_of_row (C := Tryz.checked) (s := OpenSpec.ofChange Rows.recallNoneSpec) own started (by kernel_rfl) Tryz.func3
    (witness_row_at (enc := enc) (C := Tryz.checked) false (laidWorld os) #[wA, eA] rfl (by kernel_rfl) (by kernel_rfl) (by kernel_rfl)
      (OpenSpec.preRow_of_cond 8 hx (by kernel_rfl) (fun k hk => by cases hk) (by kernel_rfl) (recallNone_met os))) ?_
  intro W base args ds gs before hval hW _ hcond _ hL _ _
  exact recallNone_contract H enc W base args ds gs before hval hW hL
theorem recallNone_said : Rows.RecallNoneSaid :=
  OpenClaim.holds_of_cond 3 Tryz.f3 rfl rfl rfl rfl rfl rfl rfl ⟨rfl, rfl, rfl, rfl, rfl⟩ rfl rfl rfl rfl rfl (by kernel_rfl) Tryz.func3 (by kernel_rfl)
    (of_decide_eq_true (by kernel_rfl)) (by unfold Func.isWrapper; first | (rw [if_pos (by decide +kernel)]; kernel_rfl) | (rw [if_neg (by decide +kernel)]; exact ⟨rfl, rfl⟩))
    (fun os started H enc _ F => by rw [OpenClaim.pre_eq_preRow]; exact recallNone_lifted os started H enc F)
theorem recallNone_plain (f : FuncId) (fn : Func) (hf : Tryz.pinned.checked.prog.funcNamed "stillage/stillagelaw30.RecallNone" = some f) (hfn : Tryz.pinned.checked.prog.funcs[f]? = some fn) :
    false = Tryz.pinned.checked.prog.looks [] ∧ ∀ (j : Nat) t, fn.params[j]? = some t → Tryz.pinned.checked.prog.wantsStandIn t = false := by
  obtain rfl : f = 3 := Option.some.inj ((show Tryz.prog.funcNamed "stillage/stillagelaw30.RecallNone" = some 3 by kernel_rfl).symm.trans hf) |>.symm
  obtain rfl : fn = Tryz.f3 := (Option.some.inj (Tryz.func3.symm.trans hfn)).symm
  refine ⟨by kernel_rfl, fun j t ht => ?_⟩
  rw [Tryz.params3] at ht
  have hm := Array.mem_of_getElem? ht
  simp at hm
  rcases hm with rfl | rfl <;> exact (show Tryz.prog.wantsStandIn _ = false by kernel_rfl)
theorem recallNone_proved : Rows.RecallNoneCardSaid :=
  Claim7.holds_tied_plain_at .later [] _ _ _ _ recallNone_said (fun _ h => by cases h) (by kernel_rfl) (fun _ h => by cases h) recallNone_row_tie rfl ⟨rfl, rfl⟩ (by kernel_rfl) rfl recallNone_plain (by kernel_rfl)
#print axioms recallNone_proved
end Go.Proofs.YtkfanhdicnjdlaaGreatDoor
