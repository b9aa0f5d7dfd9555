/- chapter 51: Cmp; the laws of the order and of the parts -/
import Derived.Test.YtegihbpdemjeaaaDoorHD
namespace Go.Proofs.YtegihbpdemjeaaaDoor
open Go.GV Go.RowKit Go.Lib
set_option linter.unusedVariables false
set_option linter.unusedSimpArgs false
theorem cmp_calls (a b : Bs) (w : World) (ha : a.length ≤ 4294967296) (hb : b.length ≤ 4294967296) :
    Calls Tryd.prog 6 #[.string (ba a), .string (ba b)] w fun e w' => e = .returned (.int .i64 (verC a b)) ∧ Gr w w' := by
  refine (F6.of (ba a) (ba b) w (Q := fun v w' => v = .int .i64 (verC a b) ∧ Gr w w') ?_).mono (fun e w' ⟨v, he, hv, h⟩ => ⟨by rw [he, hv], h⟩)
  refine (parts_calls a w ha).mono ?_
  rintro r w1 ⟨f1, A, c, rfl, h1⟩
  refine ⟨_, _, _, rfl, (parts_calls b w1 hb).mono ?_⟩
  rintro r w2 ⟨f2, A', c', rfl, h2⟩
  have h1 := f2.fr.row h1 (fun _ _ h => h)
  have pa := prt_len a
  have pb := prt_len b
  refine ⟨_, _, _, rfl, (cmpF_calls A _ c A' _ c' (prt a) (prt b) w2 h1.sl h2.sl (prt_ne a) (prt_ne b) (by omega) (by omega)).mono ?_⟩
  rintro r w3 ⟨rfl, f3⟩
  exact ⟨_, rfl, rfl, (f1.trans f2).trans f3⟩
theorem prt2 (a b c : UInt8) (h1 : fig b ≠ fig a) (h2 : fig c = fig b) : prt [a, b, c] = [[a], [b, c]] := by
  rw [prt_cons, run, if_neg h1, List.take_zero, List.drop_zero, prt_cons, run, if_pos h2]
  simp [run, prt_nil]
theorem prt1 (a b : UInt8) (h1 : fig b ≠ fig a) : prt [a, b] = [[a], [b]] := by
  rw [prt_cons, run, if_neg h1, List.take_zero, List.drop_zero, prt_cons]
  simp [run, prt_nil]
theorem prt3 (a b c d : UInt8) (h1 : fig b ≠ fig a) (h2 : fig c = fig b) (h3 : fig d ≠ fig b) : prt [a, b, c, d] = [[a], [b, c], [d]] := by
  rw [prt_cons, run, if_neg h1, List.take_zero, List.drop_zero, prt_cons, run, if_pos h2, run, if_neg h3]
  simp [prt_cons, run, prt_nil]
theorem liv1 : verC [118, 50] [118, 49, 48] = -1 := by
  unfold verC
  rw [prt1 _ _ (by decide), prt2 _ _ _ (by decide) (by decide)]
  decide
theorem liv2 : verC [118, 49, 48] [118, 49, 48] = 0 := (verC_ord.ze _ _).2 rfl
theorem liv3 : verC [118, 49, 48, 97] [118, 49, 48] = 1 := by
  unfold verC
  rw [prt3 _ _ _ _ (by decide) (by decide) (by decide), prt2 _ _ _ (by decide) (by decide)]
  decide
theorem lives_calls (w : World) : Calls Tryd.prog 8 #[] w fun e w' => e = .returned (.bool true) ∧ Fr (fun _ => False) w w' := by
  refine (F8.of w (Q := fun v w' => v = .bool true ∧ Fr (fun _ => False) w w') ?_).mono (fun e w' ⟨v, he, hv, h⟩ => ⟨by rw [he, hv], h⟩)
  refine (cmp_calls [118, 50] [118, 49, 48] w (by decide) (by decide)).mono ?_
  rintro r w1 ⟨rfl, f1⟩
  refine ⟨_, rfl, vIf_t (by rw [liv1]; rfl) ((cmp_calls [118, 49, 48] [118, 49, 48] w1 (by decide) (by decide)).mono ?_)⟩
  rintro r w2 ⟨rfl, f2⟩
  refine ⟨_, rfl, vIf_t (by rw [liv2]; rfl) ((cmp_calls [118, 49, 48, 97] [118, 49, 48] w2 (by decide) (by decide)).mono ?_)⟩
  rintro r w3 ⟨rfl, f3⟩
  exact ⟨_, rfl, by rw [liv3]; rfl, ((f1.trans f2).trans f3).fr⟩
theorem order_law (a b c : Bs) (w : World) (ha : a.length ≤ 4294967296) (hb : b.length ≤ 4294967296) (hc : c.length ≤ 4294967296) :
    Calls Tryd.prog 3 #[.string (ba a), .string (ba b), .string (ba c)] w fun e w' => e = .returned (.bool true) ∧ Fr (fun _ => False) w w' := by
  refine (F3.of (ba a) (ba b) (ba c) w (Q := fun v w' => v = .bool true ∧ Fr (fun _ => False) w w') ?_).mono (fun e w' ⟨v, he, hv, h⟩ => ⟨by rw [he, hv], h⟩)
  have an := verC_ord.an a b
  have rg := verC_ord.rg a b
  have ze := verC_ord.ze a b
  have tr := verC_ord.tr a b c
  refine (cmp_calls a b w ha hb).mono ?_
  rintro r w1 ⟨rfl, f1⟩
  refine ⟨_, rfl, (cmp_calls b a w1 hb ha).mono ?_⟩
  rintro r w2 ⟨rfl, f2⟩
  have f2 := (f1.trans f2).fr
  have e1 : IntKind.wrap .i64 (0 - verC b a) = verC a b := by rw [i64_id (by omega) (by omega)]; omega
  refine ⟨_, rfl, vIf_f (by rw [e1]; simp) (vIf_f ?_ ((rLess_calls a b w2 ha hb).mono ?_))⟩
  · rw [ba_beq]
    have : (verC a b == 0) = decide (a = b) := by rw [Bool.eq_iff_iff, beq_iff_eq, decide_eq_true_iff, ze]
    rw [this]; simp
  rintro r w3 ⟨rfl, f3⟩
  have f3 := f2.trans1 f3
  refine ⟨_, rfl, vIf_f (by simp) (vIf_f (decide_eq_false (by omega)) (vIf_f (decide_eq_false (by omega)) (jnC_mk (fun _ => vIf_mk (fun h1 => (lives_calls w3).mono ?_) (fun h1 => (cmp_calls b c w3 hb hc).mono ?_)))))⟩
  · rintro r w4 ⟨rfl, f4⟩
    exact ⟨_, rfl, rfl, f3.trans1 f4⟩
  · have h1 : ¬ verC a b > 0 := of_decide_eq_false h1
    rintro r w4 ⟨rfl, f4⟩
    have f4 := f3.trans1 f4.fr
    refine ⟨_, rfl, vIf_mk (fun h2 => (lives_calls w4).mono ?_) (fun h2 => (cmp_calls a c w4 ha hc).mono ?_)⟩
    · rintro r w5 ⟨rfl, f5⟩
      exact ⟨_, rfl, rfl, f4.trans1 f5⟩
    · have h2 : ¬ verC b c > 0 := of_decide_eq_false h2
      rintro r w5 ⟨rfl, f5⟩
      have f5 := f4.trans1 f5.fr
      refine ⟨_, rfl, vIf_t (decide_eq_true (tr (by omega) (by omega))) ((lives_calls w5).mono ?_)⟩
      rintro r w6 ⟨rfl, f6⟩
      exact ⟨_, rfl, rfl, f5.trans1 f6⟩
theorem join_step {l : List Bs} {i : Nat} {x : Bs} (h : l[i]? = some x) : (l.take (i + 1)).flatten = (l.take i).flatten ++ x := by
  rw [List.take_add_one, h, Option.toList_some, List.flatten_append]; simp
theorem join_len (l : List Bs) (i : Nat) : (l.take i).flatten.length ≤ l.flatten.length := by
  conv => rhs; rw [← List.take_append_drop i l]
  rw [List.flatten_append, List.length_append]; omega
theorem parts_law (l : Bs) (w : World) (hn : l.length ≤ 1048576) :
    Calls Tryd.prog 4 #[.string (ba l)] w fun e w' => e = .returned (.bool true) ∧ Fr (fun _ => False) w w' := by
  refine (F4.of (ba l) w (Q := fun v w' => v = .bool true ∧ Fr (fun _ => False) w w') ?_).mono (fun e w' ⟨v, he, hv, h⟩ => ⟨by rw [he, hv], h⟩)
  refine (parts_calls l w (by omega)).mono ?_
  rintro r w1 ⟨f1, A, c, rfl, h1⟩
  have h1 := h1.sl
  have hne := prt_ne l
  have hj := prt_join l
  have hpl := prt_len l
  have hsame : ∀ p, p = prt l → p = prt l := fun _ h => h
  generalize hp : prt l = p at h1 hne hj hpl hsame
  refine ⟨_, _, _, rfl, jnC_mk (loop_rule (fun s u => Fr (fun _ => False) w1 u ∧ ∃ i : Nat, i ≤ p.length ∧ s = (ba l, (A, p.length, c), ba (p.take i).flatten, (i : Int), ())) (fun s _ => (p.length - s.2.2.2.1).toNat) ?_ _ _ ⟨Fr.refl _ _, 0, by omega, rfl⟩)⟩
  rintro s u C ⟨hf, i, hi, rfl⟩ hC _
  refine vIf_mk (fun hlt => ?_) (fun hge => ?_)
  · have hlt : (i : Int) < (p.length : Int) := of_decide_eq_true hlt
    have gi : p[i]? = some (p[i]'(by omega)) := List.getElem?_eq_getElem (by omega)
    generalize p[i]'(by omega) = x at gi
    have hs := hf.sl h1 (fun _ _ _ h => h)
    have hx : x ≠ [] := hne x (List.mem_of_getElem? gi)
    have hjl := join_len p (i + 1)
    rw [hj, join_step gi, List.length_append] at hjl
    refine ss_rd hs (by omega) (map_at gi) (vIf_f (by show ((ba x).toList == (ba []).toList) = false; rw [ba_beq]; exact decide_eq_false hx) (ss_rd hs (by omega) (map_at gi) (gd_mk (decide_eq_true (by rw [ba_size, ba_size]; omega)) (jnC_mk (hC _ _ ⟨hf, i + 1, by omega, ?_⟩ ?_)))))
    · rw [ei i (by omega), join_step gi, ba_app]
    · show ((p.length : Int) - IntKind.wrap .i64 ((i : Int) + 1)).toNat < ((p.length : Int) - (i : Int)).toNat
      rw [ei i (by omega)]; omega
  · have hge : ¬ (i : Int) < (p.length : Int) := of_decide_eq_false hge
    refine (rparts_calls l u (by omega)).mono ?_
    rintro r u2 ⟨f2, A2, c2, rfl, h2⟩
    rw [hp] at h2 ⊢
    have hs := (hf.trans1 f2).sl h1 (fun _ _ _ h => h)
    have key := texts_calls A (p.length) c A2 (p.length) c2 (p.map ba) u2 hs h2.sl (by omega)
    refine ⟨_, _, _, rfl, key.mono ?_⟩
    rintro r u3 ⟨rfl, f3⟩
    refine ⟨_, rfl, vIf_t rfl (vIf_t (by rw [ba_beq, List.take_of_length_le (by omega), hj]; simp) ((lives_calls u3).mono ?_))⟩
    rintro r u4 ⟨rfl, f4⟩
    exact ⟨_, rfl, rfl, (((f1.fr.trans1 hf).trans1 f2).trans1 f3).trans1 f4⟩
end Go.Proofs.YtegihbpdemjeaaaDoor
