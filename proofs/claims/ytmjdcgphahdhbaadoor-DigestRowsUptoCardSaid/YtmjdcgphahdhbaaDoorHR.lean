/- chapter 06: the law of rows -/
import Derived.Test.YtmjdcgphahdhbaaDoorHL
import Derived.Test.YtmjdcgphahdhbaaDoorLDRowG
import Derived.Test.YtmjdcgphahdhbaaDoorLDRefB
import Derived.Test.YtmjdcgphahdhbaaDoorLDHas
namespace Go.Proofs.YtmjdcgphahdhbaaDoor
open Go.GV Go.RowKit Go.Lib
set_option linter.unusedVariables false
set_option linter.unusedSimpArgs false
theorem rows_law (A : Option Addr) (n c : Nat) (r : List Dig) (d : Dig) (w : World) (h : Sl w 32 A n (dcs r)) (hw : W32 r) (hd : d.length = 32) (hn : n ≤ 1099511627775) (hK : KAt w) :
    Calls Tryd.prog 6 #[.slice A n c, ofL (d.map bv)] w fun e w' => e = .returned (.bool true) ∧ Fr (fun _ => False) w w' := by
  refine (F6.of A n c (d.map bv) w (Q := fun v w' => v = .bool true ∧ Fr (fun _ => False) w w') ?_).mono (fun e w' ⟨v, he, hv, h⟩ => ⟨by rw [he, hv], h⟩)
  have hrl := sl_len h hw
  have ld : (d.map bv).length = 32 := by simp [hd]
  refine nw_mk ?_
  have f1 : Fr (fun _ => False) w (w.alloc (.cells (d.map bv).toArray 23)) := Fr.alloc _ _ _
  have r1 : RecAt (w.alloc (.cells (d.map bv).toArray 23)) w.heap.size 23 (d.map bv) := RecAt.new w _ _
  generalize w.alloc (.cells (d.map bv).toArray 23) = w1 at f1 r1 ⊢
  generalize w.heap.size = b1 at r1 ⊢
  refine (row_calls A n c r w1 (f1.sl h (fun _ _ _ h => h)) hw (by omega)).mono ?_
  rintro e w2 ⟨f2, A2, c2, r2, rfl, hr2, hw2, ha2, hlen, hm2⟩
  have fd : Fr (fun _ => False) w2 w2.drew := Fr.drew _ _
  have f12 := f1.trans1 (f2.trans1 fd)
  refine ⟨_, _, _, rfl, (rrow_calls A n c r w2.drew (f12.sl h (fun _ _ _ h => h)) hw hn).mono ?_⟩
  rintro e w3 ⟨f3, A3, c3, r3, rfl, hr3, hw3, ha3, _, hm3⟩
  have e23 : r2 = r3 := ha2.unique ha3 (fun x => (hm2 x).trans (hm3 x).symm)
  subst e23
  have hs2 : Sl w3 32 A2 r2.length (dcs r2) := (fd.trans1 f3).sl hr2.sl (fun _ _ _ h => h)
  refine ⟨_, _, _, rfl, (same_dig A2 _ c2 r2 A3 _ c3 r2 w3 hs2 hw2 hr3.sl hw3 (by omega)).mono ?_⟩
  rintro e w4 ⟨rfl, f4⟩
  have f14 : Fr (fun _ => False) w1 w4 := (f2.trans1 fd).trans1 (f3.trans1 f4)
  have r14 := r1.fr f14 (fun h => h)
  refine ⟨_, rfl, vIf_t (by simp) ⟨_, ld, cellsB r14, _, ld, cellsB r14, (has_calls A2 _ c2 r2 d w4 (f4.sl hs2 (fun _ _ _ h => h)) hw2 ha2 hd (by omega)).mono ?_⟩⟩
  rintro e w5 ⟨rfl, f5⟩
  refine ⟨_, rfl, kp_mk f5 r14.lt (fun h => h) ((rhas_calls A n c r d w5 ((f1.trans1 (f14.trans1 f5)).sl h (fun _ _ _ h => h)) hw hd (by omega)).mono ?_)⟩
  rintro e w6 ⟨rfl, f6⟩
  have f06 : Fr (fun _ => False) w w6 := f1.trans1 (f14.trans1 (f5.trans1 f6))
  have hb : decide (d ∈ r2) = decide (d ∈ r) := by
    by_cases hdr : d ∈ r
    · rw [decide_eq_true hdr, decide_eq_true ((hm2 d).2 hdr)]
    · rw [decide_eq_false hdr, decide_eq_false (fun h' => hdr ((hm2 d).1 h'))]
  refine ⟨_, rfl, vIf_t (by rw [hb]; simp) ?_⟩
  refine (lives_calls w6 (hK.fr f06 (fun h => h))).mono ?_
  rintro e w7 ⟨rfl, f7⟩
  exact ⟨_, rfl, rfl, f06.trans1 f7⟩
end Go.Proofs.YtmjdcgphahdhbaaDoor
