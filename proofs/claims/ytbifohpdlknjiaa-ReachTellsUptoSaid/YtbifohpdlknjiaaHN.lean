/- chapter 33: the law that what is told agrees -/
import Derived.Test.YtbifohpdlknjiaaHM
import Derived.Test.YtbifohpdlknjiaaHL
namespace Go.Proofs.Ytbifohpdlknjiaa
open Go.GV Go.RowKit Go.Lib
set_option linter.unusedVariables false
set_option linter.unusedSimpArgs false
set_option maxHeartbeats 1000000 in
theorem tells_law (A : Option Addr) (n c : Nat) (a : List Dig) (R : Option Addr) (nr cr : Nat) (r : List Dig) (L : Option Addr) (nl cl : Nat) (l : List Lnk) (w : World) (ha : Sl w 32 A n (dcs a)) (hwa : W32 a) (h : Sl w 32 R nr (dcs r)) (hw : W32 r) (hl : Sl w 64 L nl (lks l)) (hwl : WL l) (hna : n ≤ 17179869184) (hn : nr ≤ 17179869184) (hnl : nl ≤ 17179869184) :
    Calls Try.prog 5 #[.slice A n c, .slice R nr cr, .slice L nl cl] w fun e w' => e = .returned (.bool true) ∧ Fr (fun _ => False) w w' := by
  refine (F5.of A n c R nr cr L nl cl w (Q := fun v w' => v = .bool true ∧ Fr (fun _ => False) w w') ?_).mono (fun e w' ⟨v, he, hv, h⟩ => ⟨by rw [he, hv], h⟩)
  have hrl := sl_len ha hwa
  have nF : ∀ _ : Nat, False → False := fun _ h => h
  refine jnC_mk (loop_rule (fun s u => Fr (fun _ => False) w u ∧ ∃ (i : Nat), i ≤ n ∧ s = ((A, n, c), (R, nr, cr), (L, nl, cl), (i : Int), ()))
    (fun s _ => (n - s.2.2.2.1).toNat) ?_ _ _ ⟨Fr.refl _ _, 0, by omega, rfl⟩)
  rintro s u C ⟨hf, i, hi, rfl⟩ hC _
  refine vIf_mk (fun hlt => ?_) (fun hge => ?_)
  · have hlt2 : (i : Int) < (n : Int) := of_decide_eq_true hlt
    have gi : a[i]? = some (a[i]'(by omega)) := List.getElem?_eq_getElem (by omega)
    have li := hwa.at gi
    have fd : Fr (fun _ => False) u u.drew := Fr.drew _ _
    have fwd := hf.trans1 fd
    obtain ⟨b, o', hA, hcell⟩ := sl_dig (fwd.sl ha (fun _ _ _ h => h)) hwa (i := i) (by omega)
    subst hA
    generalize hx : a[i]'(by omega) = x at gi li
    have lx : (x.map bv).length = 32 := by simp [li]
    have ci : cellsAt u.drew b (o' + ((i : Int)).toNat * 32) (x.map bv) := by rw [Int.toNat_natCast]; exact hcell i x gi
    have hc0 := ci 0 (bv (x[0]'(by omega))) (by rw [List.getElem?_map, List.getElem?_eq_getElem (by omega)]; rfl)
    have d0 : decide (0 ≤ (i : Int)) = true := decide_eq_true (by omega)
    have hmeas : ((n : Int) - IntKind.wrap .i64 ((i : Int) + 1)).toNat < ((n : Int) - (i : Int)).toNat := by rw [ei64 i (by omega)]; omega
    refine dr_mk (gd_mk d0 (gd_mk (decide_eq_true hlt2) ⟨x.map bv, lx, ci, dr_mk (gd_mk d0 (gd_mk (decide_eq_true hlt2) ⟨x.map bv, lx, ci, (users_calls x L nl cl l u.drew li (fwd.sl hl (fun _ _ _ h => h)) hwl hnl).mono ?_⟩))⟩))
    rintro e u2 ⟨f2, A1, c1, m1, rfl, hr1, hw1, ha1, hl1, hm1⟩
    refine ⟨_, _, _, rfl, kp_mk f2 (cellAt_lt hc0) (fun h => h) ?_⟩
    refine (rusers_calls x L nl cl l u2 li ((fwd.trans1 f2).sl hl (fun _ _ _ h => h)) hwl hnl).mono ?_
    rintro e u3 ⟨f3, A2, c2, m2, rfl, hr2, hw2, ha2, hl2, hm2⟩
    refine ⟨_, _, _, rfl, ?_⟩
    have hmm : m1 = m2 := ha1.unique ha2 (fun d => by rw [hm1, hm2])
    subst hmm
    refine (same_dig A1 m1.length c1 m1 A2 m1.length c2 m1 u3 ((f3.row hr1 (fun _ _ h => h)).sl) hw1 hr2.sl hw2 (by omega)).mono ?_
    rintro e u4 ⟨rfl, f4⟩
    rw [decide_eq_true (rfl : m1 = m1)]
    exact ⟨_, rfl, vIf_f rfl (jnC_mk (hC _ _ ⟨((fwd.trans1 f2).trans1 f3).trans1 f4, i + 1, by omega, by rw [ei64 i (by omega)]⟩ hmeas))⟩
  · refine (of_calls R nr cr r L nl cl l u (hf.sl h (fun _ _ _ h => h)) hw (hf.sl hl (fun _ _ _ h => h)) hwl hn hnl).mono ?_
    rintro e u2 ⟨f2, A1, c1, m1, rfl, hr1, hw1, ha1, hl1, hm1⟩
    have g2 := hf.trans1 f2
    refine ⟨_, _, _, rfl, (rof_calls R nr cr r L nl cl l u2 (g2.sl h (fun _ _ _ h => h)) hw (g2.sl hl (fun _ _ _ h => h)) hwl hn hnl).mono ?_⟩
    rintro e u3 ⟨f3, A2, c2, m2, rfl, hr2, hw2, ha2, hl2, hm2⟩
    have g3 := g2.trans1 f3
    have hmm : m1 = m2 := ha1.unique ha2 (fun d => by rw [hm1, hm2])
    subst hmm
    refine ⟨_, _, _, rfl, (same_dig A1 m1.length c1 m1 A2 m1.length c2 m1 u3 ((f3.row hr1 (fun _ _ h => h)).sl) hw1 hr2.sl hw2 (by omega)).mono ?_⟩
    rintro e u4 ⟨rfl, f4⟩
    have g4 := g3.trans1 f4
    rw [decide_eq_true (rfl : m1 = m1)]
    refine ⟨_, rfl, vIf_t rfl ?_⟩
    refine (missing_calls A n c a R nr cr r L nl cl l u4 (g4.sl ha (fun _ _ _ h => h)) hwa (g4.sl h (fun _ _ _ h => h)) hw (g4.sl hl (fun _ _ _ h => h)) hwl hna hn hnl).mono ?_
    rintro e u5 ⟨f5, A3, c3, m3, rfl, hr3, hw3, ha3, hl3, hm3⟩
    have g5 := g4.trans1 f5
    refine ⟨_, _, _, rfl, (rmissing_calls A n c a R nr cr r L nl cl l u5 (g5.sl ha (fun _ _ _ h => h)) hwa (g5.sl h (fun _ _ _ h => h)) hw (g5.sl hl (fun _ _ _ h => h)) hwl hna hn hnl).mono ?_⟩
    rintro e u6 ⟨f6, A4, c4, m4, rfl, hr4, hw4, ha4, hl4, hm4⟩
    have g6 := g5.trans1 f6
    have hmm : m3 = m4 := ha3.unique ha4 (fun d => by rw [hm3, hm4])
    subst hmm
    refine ⟨_, _, _, rfl, (same_dig A3 m3.length c3 m3 A4 m3.length c4 m3 u6 ((f6.row hr3 (fun _ _ h => h)).sl) hw3 hr4.sl hw4 (by omega)).mono ?_⟩
    rintro e u7 ⟨rfl, f7⟩
    have g7 := g6.trans1 f7
    rw [decide_eq_true (rfl : m3 = m3)]
    refine ⟨_, rfl, vIf_t rfl ((lives_calls u7).mono ?_)⟩
    rintro e u8 ⟨rfl, f8⟩
    exact ⟨_, rfl, rfl, g7.trans1 f8⟩
end Go.Proofs.Ytbifohpdlknjiaa
