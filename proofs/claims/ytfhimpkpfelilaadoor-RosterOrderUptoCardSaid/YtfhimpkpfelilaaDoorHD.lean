/- chapter 26: Stale, same, Next; the law -/
import Derived.Test.YtfhimpkpfelilaaDoorHC
namespace Go.Proofs.YtfhimpkpfelilaaDoor
open Go.GV Go.RowKit Go.Lib
set_option linter.unusedVariables false
set_option linter.unusedSimpArgs false
structure Sz (r : Ros) : Prop where
  sg : r.sg.length ≤ 1048576
  ht : r.ht.length ≤ 1048576
  pt : r.pt.length ≤ 1048576
  ot : r.ot.length ≤ 1048576
theorem ros_sz {l : List Bs} (h : l.length ≤ 1048576) : Sz (ros l) :=
  ⟨Nat.le_trans (norm_nums_len _ _) h, Nat.le_trans (norm_nums_len _ _) h, Nat.le_trans (norm_nums_len _ _) h, Nat.le_trans (oth_len _) h⟩
def st0 (r : Ros) : List Bs := if tmpB ∈ r.ot then [tmpB] else []
def st1 (r : Ros) (i : Nat) : List Bs := st0 r ++ ((r.ht.take i).filter fun n => decide (n ∉ r.sg)).map (fileL 2)
def st2 (r : Ros) (i : Nat) : List Bs := st1 r r.ht.length ++ (r.pt.take (min i (r.pt.length - 1))).map (fileL 3)
theorem st0_len (r : Ros) : (st0 r).length ≤ 1 := by unfold st0; split <;> simp
theorem st1_len (r : Ros) (i : Nat) : (st1 r i).length ≤ 1 + i := by
  have := st0_len r
  have h := List.length_filter_le (fun n => decide (n ∉ r.sg)) (r.ht.take i)
  rw [List.length_take] at h
  unfold st1
  rw [List.length_append, List.length_map]; omega
theorem st2_len (r : Ros) (i : Nat) : (st2 r i).length ≤ 1 + r.ht.length + i := by
  have := st1_len r r.ht.length
  unfold st2
  rw [List.length_append, List.length_map, List.length_take]; omega
theorem st2_end (r : Ros) : st2 r r.pt.length = r.stale := by
  unfold st2 st1 st0 Ros.stale stale
  rw [List.take_length, show min r.pt.length (r.pt.length - 1) = r.pt.length - 1 by omega]
set_option maxHeartbeats 1000000 in
theorem stale_calls (cs : List Value) (r : Ros) (w : World) (h : RosAt w cs r) (hv : VK w) (hz : Sz r) :
    Calls Tryd.prog 5 #[ofL cs] w fun e w' => Fr (fun _ => False) w w' ∧ ∃ A' c', e = .returned (.slice A' r.stale.length c') ∧ Row w' w.heap.size 9 1 A' r.stale.length c' (bvs r.stale) := by
  refine (F5.of cs w (Q := fun v w' => Fr (fun _ => False) w w' ∧ ∃ A' c', v = .slice A' r.stale.length c' ∧ Row w' w.heap.size 9 1 A' r.stale.length c' (bvs r.stale)) ?_).mono (fun e w' ⟨v, he, hf, a, b, hv, h⟩ => ⟨hf, a, b, by rw [he, hv], h⟩)
  obtain ⟨A1, c1, A2, c2, A3, c3, A4, c4, rfl, h1, h2, h3, h4⟩ := h
  refine nw_mk ?_
  have g1 : Fr (fun _ => False) w (w.alloc (.cells ([.slice A1 r.sg.length c1, .slice A2 r.ht.length c2, .slice A3 r.pt.length c3, .slice A4 r.ot.length c4] : List Value).toArray 25)) := Fr.alloc _ _ _
  have q := RecAt.new w ([.slice A1 r.sg.length c1, .slice A2 r.ht.length c2, .slice A3 r.pt.length c3, .slice A4 r.ot.length c4] : List Value) 25
  generalize hb : w.heap.size = b at q ⊢
  generalize w.alloc (.cells ([.slice A1 r.sg.length c1, .slice A2 r.ht.length c2, .slice A3 r.pt.length c3, .slice A4 r.ot.length c4] : List Value).toArray 25) = w2 at g1 q ⊢
  refine ⟨_, _, _, q.cell (o := 0 + 3) rfl, (containsS_calls A4 r.ot.length c4 r.ot tmpB w2 (g1.sl h4 (fun _ _ _ h => h)) hz.ot).mono ?_⟩
  rintro e w6 ⟨rfl, rfl⟩
  have hs2 := g1.size
  -- the second loop, then the end
  have loop2 : ∀ (u : World) (A : Option Addr) (c : Nat), Fr (fun _ => False) w u → Row u b 9 1 A (st1 r r.ht.length).length c (bvs (st1 r r.ht.length)) → RecAt u b 25 [.slice A1 r.sg.length c1, .slice A2 r.ht.length c2, .slice A3 r.pt.length c3, .slice A4 r.ot.length c4] → blkOf A ≠ some b →
      jnC (F5.l11 (fun v w' => Fr (fun _ => False) w w' ∧ ∃ A' c', v = .slice A' r.stale.length c' ∧ Row w' b 9 1 A' r.stale.length c' (bvs r.stale))) ((b, 0), (A, (st1 r r.ht.length).length, c), (A3, r.pt.length, c3), ((r.pt.length : Nat) : Int), (0), ()) u := by
    intro u A c fu hr hq hA
    refine jnC_mk (loop_rule (fun s v => Fr (fun _ => False) w v ∧ RecAt v b 25 [.slice A1 r.sg.length c1, .slice A2 r.ht.length c2, .slice A3 r.pt.length c3, .slice A4 r.ot.length c4] ∧ ∃ (i : Nat) (A : Option Addr) (c : Nat), i ≤ r.pt.length ∧ s = ((b, 0), (A, (st2 r i).length, c), (A3, r.pt.length, c3), ((r.pt.length : Nat) : Int), (i : Int), ()) ∧ Row v b 9 1 A (st2 r i).length c (bvs (st2 r i)) ∧ blkOf A ≠ some b)
      (fun s _ => (r.pt.length - s.2.2.2.2.1).toNat) ?_ _ _ ⟨fu, hq, 0, A, c, by omega, by unfold st2; simp, by unfold st2; simpa using hr, hA⟩)
    clear hr hA
    rintro s v C ⟨hf, hq, i, A, c, hi, rfl, hr, hA⟩ hC _
    have hol := st2_len r i
    have hpt := hz.pt
    have hht := hz.ht
    have ms : ((r.pt.length : Int) - IntKind.wrap .i64 ((i : Int) + 1)).toNat < ((r.pt.length : Int) - (i : Int)).toNat ∨ ¬ i < r.pt.length := by
      by_cases h : i < r.pt.length
      · left; rw [ei i (by omega)]; omega
      · exact .inr h
    refine vIf_mk (fun hlt => ?_) (fun hge => ?_)
    · have hlt2 : (i : Int) < (r.pt.length : Int) := of_decide_eq_true hlt
      have gi : r.pt[i]? = some (r.pt[i]'(by omega)) := List.getElem?_eq_getElem (by omega)
      generalize r.pt[i]'(by omega) = x at gi
      refine sl_rd (hf.sl h3 (fun _ _ _ h => h)) (by omega) gi ⟨_, _, _, hq.cell (o := 0 + 2) rfl, vIf_mk (fun hl => ?_) (fun hl => ?_)⟩
      · have hl := of_decide_eq_true hl
        rw [i64_id (by omega) (by omega)] at hl
        have hl : (i : Int) < (r.pt.length : Int) - 1 := hl
        refine (file_calls 3 x v (hv.fr hf)).mono ?_
        rintro e v2 ⟨rfl, g2⟩
        have hf2 := hf.trans1 g2
        have hq2 := hq.fr g2 (fun h => h)
        have en : st2 r (i + 1) = st2 r i ++ [fileL 3 x] := by
          unfold st2
          rw [show min (i + 1) (r.pt.length - 1) = i + 1 by omega, show min i (r.pt.length - 1) = i by omega, take_succ_at gi, List.map_append, List.append_assoc]; rfl
        have hub := hf2.size
        refine ⟨_, rfl, push_v2 (g2.row hr (fun _ _ h => h)) (by omega) (by show (st2 r i).length ≤ _; omega) (fun A' c' v3 q1 q2 q3 => jnC_mk (hC _ _ ⟨?_, ?_, i + 1, A', c', by omega, ?_, ?_, ?_⟩ (ms.resolve_right (by omega))))⟩
        · exact fr_own hf2 q2 (fun k hk h => by have := (hr.blt h).1; omega)
        · exact hq2.fr q2 (fun h => hA h)
        · rw [ei i (by omega), en, List.length_append]; rfl
        · rw [en, List.length_append]; exact q1
        · intro h
          rcases q3 b h with h' | h'
          · exact hA h'
          · have := hq2.lt; omega
      · have hl := of_decide_eq_false hl
        rw [i64_id (by omega) (by omega)] at hl
        have hl : ¬ (i : Int) < (r.pt.length : Int) - 1 := hl
        have en : st2 r (i + 1) = st2 r i := by
          unfold st2
          rw [show min (i + 1) (r.pt.length - 1) = min i (r.pt.length - 1) by omega]
        exact jnC_mk (hC _ _ ⟨hf, hq, i + 1, A, c, by omega, by rw [ei i (by omega), en], by rw [en]; exact hr, hA⟩ (ms.resolve_right (by omega)))
    · have hge2 : ¬ (i : Int) < (r.pt.length : Int) := of_decide_eq_false hge
      obtain rfl : i = r.pt.length := by omega
      rw [st2_end] at hr ⊢
      exact ⟨hf, A, c, rfl, hr⟩
  -- both loops
  have loops : ∀ (u : World) (A : Option Addr) (c : Nat), Fr (fun _ => False) w u → Row u b 9 1 A (st0 r).length c (bvs (st0 r)) → RecAt u b 25 [.slice A1 r.sg.length c1, .slice A2 r.ht.length c2, .slice A3 r.pt.length c3, .slice A4 r.ot.length c4] → blkOf A ≠ some b →
      jnC (F5.k4 (fun v w' => Fr (fun _ => False) w w' ∧ ∃ A' c', v = .slice A' r.stale.length c' ∧ Row w' b 9 1 A' r.stale.length c' (bvs r.stale))) ((b, 0), (A, (st0 r).length, c), ()) u := by
    intro u A c fu hr hq hA
    refine jnC_mk (fun _ => ⟨_, _, _, hq.cell (o := 0 + 1) rfl, ?_⟩)
    refine jnC_mk (loop_rule (fun s v => Fr (fun _ => False) w v ∧ RecAt v b 25 [.slice A1 r.sg.length c1, .slice A2 r.ht.length c2, .slice A3 r.pt.length c3, .slice A4 r.ot.length c4] ∧ ∃ (i : Nat) (A : Option Addr) (c : Nat), i ≤ r.ht.length ∧ s = ((b, 0), (A, (st1 r i).length, c), (A2, r.ht.length, c2), ((r.ht.length : Nat) : Int), (i : Int), ()) ∧ Row v b 9 1 A (st1 r i).length c (bvs (st1 r i)) ∧ blkOf A ≠ some b)
      (fun s _ => (r.ht.length - s.2.2.2.2.1).toNat) ?_ _ _ ⟨fu, hq, 0, A, c, by omega, by unfold st1; simp, by unfold st1; simpa using hr, hA⟩)
    clear hr hA
    rintro s v C ⟨hf, hq, i, A, c, hi, rfl, hr, hA⟩ hC _
    have hol := st1_len r i
    have hht := hz.ht
    have ms : ((r.ht.length : Int) - IntKind.wrap .i64 ((i : Int) + 1)).toNat < ((r.ht.length : Int) - (i : Int)).toNat ∨ ¬ i < r.ht.length := by
      by_cases h : i < r.ht.length
      · left; rw [ei i (by omega)]; omega
      · exact .inr h
    refine vIf_mk (fun hlt => ?_) (fun hge => ?_)
    · have hlt2 : (i : Int) < (r.ht.length : Int) := of_decide_eq_true hlt
      have gi : r.ht[i]? = some (r.ht[i]'(by omega)) := List.getElem?_eq_getElem (by omega)
      generalize r.ht[i]'(by omega) = x at gi
      refine sl_rd (hf.sl h2 (fun _ _ _ h => h)) (by omega) gi ⟨_, _, _, hq.cell (o := 0) rfl, (containsI_calls A1 r.sg.length c1 r.sg x v (hf.sl h1 (fun _ _ _ h => h)) hz.sg).mono ?_⟩
      rintro e v1 ⟨rfl, rfl⟩
      refine ⟨_, rfl, vIf_mk (fun hl => ?_) (fun hl => ?_)⟩
      · have hl : x ∉ r.sg := by simpa using hl
        refine (file_calls 2 x v1 (hv.fr hf)).mono ?_
        rintro e v2 ⟨rfl, g2⟩
        have hf2 := hf.trans1 g2
        have hq2 := hq.fr g2 (fun h => h)
        have en : st1 r (i + 1) = st1 r i ++ [fileL 2 x] := by
          unfold st1
          rw [take_succ_at gi, List.filter_append, List.filter_cons_of_pos (by simpa using hl), List.filter_nil, List.map_append, List.append_assoc]; rfl
        have hub := hf2.size
        refine ⟨_, rfl, push_v2 (g2.row hr (fun _ _ h => h)) (by omega) (by show (st1 r i).length ≤ _; omega) (fun A' c' v3 q1 q2 q3 => jnC_mk (hC _ _ ⟨?_, ?_, i + 1, A', c', by omega, ?_, ?_, ?_⟩ (ms.resolve_right (by omega))))⟩
        · exact fr_own hf2 q2 (fun k hk h => by have := (hr.blt h).1; omega)
        · exact hq2.fr q2 (fun h => hA h)
        · rw [ei i (by omega), en, List.length_append]; rfl
        · rw [en, List.length_append]; exact q1
        · intro h
          rcases q3 b h with h' | h'
          · exact hA h'
          · have := hq2.lt; omega
      · have hl : x ∈ r.sg := by simpa using hl
        have en : st1 r (i + 1) = st1 r i := by
          unfold st1
          rw [take_succ_at gi, List.filter_append, List.filter_cons_of_neg (by simpa using hl), List.filter_nil, List.append_nil]
        exact jnC_mk (hC _ _ ⟨hf, hq, i + 1, A, c, by omega, by rw [ei i (by omega), en], by rw [en]; exact hr, hA⟩ (ms.resolve_right (by omega)))
    · have hge2 : ¬ (i : Int) < (r.ht.length : Int) := of_decide_eq_false hge
      obtain rfl : i = r.ht.length := by omega
      exact ⟨_, _, _, hq.cell (o := 0 + 2) rfl, loop2 v A c hf hr hq hA⟩
  refine ⟨_, rfl, vIf_mk (fun ht => ?_) (fun ht => ?_)⟩
  · have ht : tmpB ∈ r.ot := of_decide_eq_true ht
    have e0 : st0 r = [tmpB] := if_pos ht
    refine push_v2 (x := tmpB) (out := []) (Row.nil w6 b 9 1) (by omega) (by omega) (fun A' c' v3 q1 q2 q3 => ?_)
    have hh := loops v3 A' c' (fr_own g1 q2 (fun k hk h => by cases h)) (by rw [e0]; exact q1) (q.fr q2 (fun h => by cases h)) (fun h => by
      rcases q3 b h with h' | h'
      · cases h'
      · have := q.lt; omega)
    rw [e0] at hh
    exact hh
  · have ht : tmpB ∉ r.ot := of_decide_eq_false ht
    have e0 : st0 r = [] := if_neg ht
    have hh := loops w6 none 0 g1 (by rw [e0]; exact Row.nil _ _ _ _) q (fun h => by cases h)
    rw [e0] at hh
    exact hh
end Go.Proofs.YtfhimpkpfelilaaDoor
