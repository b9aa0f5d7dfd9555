/- digest: the digest of bytes, its text, the order of two -/
import Derived.Test.YtmjdcgphahdhbaaDoorLShaX
import Derived.Test.YtmjdcgphahdhbaaDoorLHex
import Derived.Test.YtmjdcgphahdhbaaDoorG11
namespace Go.Proofs.YtmjdcgphahdhbaaDoor
open Go.GV Go.RowKit
set_option linter.unusedVariables false
set_option linter.unusedSimpArgs false
theorem of_calls (A : Option Addr) (n c : Nat) (l : List UInt8) (w : World) (h : Sl w 1 A n (l.map bv)) (hK : KAt w) (hlen : l.length ≤ 70368744177664) :
    Calls Tryd.prog 12 #[.slice A n c] w fun e w' => e = .returned (ofL ((shaP l).map bv)) ∧ Fr (fun _ => False) w w' := by
  refine (F12.of A n c w (Q := fun v w' => v = ofL ((shaP l).map bv) ∧ Fr (fun _ => False) w w') ?_).mono (fun e w' ⟨v, he, hv, h⟩ => ⟨by rw [he, hv], h⟩)
  have hZd : Z23.length = 32 := by decide +kernel
  refine nw_mk ?_
  have f1 : Fr (fun _ => False) w (w.alloc (.cells Z23.toArray 23)) := Fr.alloc _ _ _
  have r1 : RecAt (w.alloc (.cells Z23.toArray 23)) w.heap.size 23 Z23 := RecAt.new w _ _
  generalize w.alloc (.cells Z23.toArray 23) = w1 at f1 r1 ⊢
  refine (sum_calls A n c l w1 (f1.sl h (fun _ _ _ h => h)) (hK.fr f1 (fun h => h)) hlen).mono ?_
  rintro e w4 ⟨rfl, f4⟩
  have hl : ((shaP l).map bv).length = 32 := by rw [List.length_map, shaP_len]
  refine ⟨_, rfl, gd_mk (by rw [hl]; rfl) ((r1.fr f4 (fun h => h)).st_mk (o := 0) (by rw [hl, hZd]; omega) (bvs_one _) (fun r f => ?_))⟩
  rw [splice_whole (by rw [hl, hZd])] at r
  exact ⟨_, hl, r.cells (o := 0) (fun q v hq => by simpa using hq), rfl, (f1.trans1 f4).trans f (fun _ _ h => h) (fun k hk h => by omega)⟩
def kindB : List UInt8 := [115, 104, 97, 50, 53, 54, 58]
theorem dtext_calls (d : List UInt8) (w : World) (hd : d.length = 32) :
    Calls Tryd.prog 14 #[ofL (d.map bv)] w fun e w' => e = .returned (.string ⟨(kindB ++ enc d).toArray⟩) ∧ Fr (fun _ => False) w w' := by
  refine (F14.of (d.map bv) w (Q := fun v w' => v = .string ⟨(kindB ++ enc d).toArray⟩ ∧ Fr (fun _ => False) w w') ?_).mono (fun e w' ⟨v, he, hv, h⟩ => ⟨by rw [he, hv], h⟩)
  refine nw_mk ?_
  have f1 : Fr (fun _ => False) w (w.alloc (.cells (d.map bv).toArray 23)) := Fr.alloc _ _ _
  have r1 : RecAt (w.alloc (.cells (d.map bv).toArray 23)) w.heap.size 23 (d.map bv) := RecAt.new w _ _
  generalize w.alloc (.cells (d.map bv).toArray 23) = w1 at f1 r1 ⊢
  have hs : Sl w1 1 (some ⟨w.heap.size, 0, none⟩) 32 (d.map bv) := ⟨by simp [hd], fun _ => ⟨_, 0, rfl, r1.cells (o := 0) (fun q v hq => by simpa using hq)⟩⟩
  refine (text_calls _ 32 32 d w1 hs (by omega)).mono ?_
  rintro e w2 ⟨rfl, f2⟩
  have he : (⟨(enc d).toArray⟩ : ByteArray).size = 64 := by
    show (enc d).toArray.size = 64
    rw [List.size_toArray, enc_length, hd]
  refine ⟨_, rfl, gd_mk (decide_eq_true ?_) ⟨?_, f1.trans1 f2⟩⟩
  · rw [he]; decide
  · congr 1
theorem eqAB_bytes {n : Nat} {a b : List UInt8} {K : Bool → Prop} (ha : a.length = n) (hb : b.length = n) (hK : K (a == b)) : eqAB n (a.map bv) (b.map bv) K := ⟨a, b, ha, hb, rfl, rfl, hK⟩
open Lib in
theorem cmp_calls (a b : List UInt8) (w : World) (ha : a.length = 32) (hb : b.length = 32) :
    Calls Tryd.prog 7 #[ofL (a.map bv), ofL (b.map bv)] w fun e w' => e = .returned (.int .i64 (compareBytes a b)) ∧ Fr (fun _ => False) w w' := by
  refine (F7.of (a.map bv) (b.map bv) w (Q := fun v w' => v = .int .i64 (compareBytes a b) ∧ Fr (fun _ => False) w w') ?_).mono (fun e w' ⟨v, he, hv, h⟩ => ⟨by rw [he, hv], h⟩)
  refine nw_mk (nw_mk ?_)
  have f1 : Fr (fun _ => False) w (w.alloc (.cells (a.map bv).toArray 23)) := Fr.alloc _ _ _
  have r1 : RecAt (w.alloc (.cells (a.map bv).toArray 23)) w.heap.size 23 (a.map bv) := RecAt.new w _ _
  generalize w.alloc (.cells (a.map bv).toArray 23) = w1 at f1 r1 ⊢
  have f2 : Fr (fun _ => False) w1 (w1.alloc (.cells (b.map bv).toArray 23)) := Fr.alloc _ _ _
  have r2 : RecAt (w1.alloc (.cells (b.map bv).toArray 23)) w1.heap.size 23 (b.map bv) := RecAt.new w1 _ _
  have r12 := r1.fr f2 (fun h => h)
  generalize w1.alloc (.cells (b.map bv).toArray 23) = w2 at f2 r2 r12 ⊢
  have cell : ∀ {l : List UInt8} {u : World} {g : Nat} {ty : TypeId}, RecAt u g ty (l.map bv) → cellsAt u g 0 (l.map bv) := fun r => r.cells (o := 0) (fun q v hq => by simpa using hq)
  refine ⟨a.map bv, by simp [ha], cell r12, b.map bv, by simp [hb], cell r2, eqAB_bytes ha hb (vIf_mk (fun he => ?_) (fun hne => ?_))⟩
  · have he : a = b := by simpa using he
    subst he
    exact ⟨by rw [cmp_self], f1.trans1 f2⟩
  · have s1 : Sl w2.drew 1 (some ⟨w.heap.size, 0, none⟩) 32 (a.map bv) := ⟨by simp [ha], fun _ => ⟨_, 0, rfl, cell (show RecAt w2.drew _ _ _ from r12)⟩⟩
    have s2 : Sl w2.drew 1 (some ⟨w1.heap.size, 0, none⟩) 32 (b.map bv) := ⟨by simp [hb], fun _ => ⟨_, 0, rfl, cell (show RecAt w2.drew _ _ _ from r2)⟩⟩
    refine (F21.of _ 32 32 _ 32 32 w2.drew (Q := fun v w' => v = .int .i64 (compareBytes a b) ∧ w' = w2.drew) (compare_ext Tryd.func35 (by kernel_rfl) (by kernel_rfl) (by kernel_rfl) s1 s2 ⟨_, rfl, rfl, rfl⟩)).mono ?_
    rintro e w3 ⟨v, rfl, rfl, rfl⟩
    exact ⟨_, rfl, rfl, (f1.trans1 f2).trans1 (Fr.drew _ _)⟩
end Go.Proofs.YtmjdcgphahdhbaaDoor
