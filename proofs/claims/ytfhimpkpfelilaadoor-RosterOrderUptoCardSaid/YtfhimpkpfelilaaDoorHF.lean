/- chapter 26: the law -/
import Derived.Test.YtfhimpkpfelilaaDoorHE
namespace Go.Proofs.YtfhimpkpfelilaaDoor
open Go.GV Go.RowKit Go.Lib
set_option linter.unusedVariables false
set_option linter.unusedSimpArgs false
def leftOf (st p : List Bs) : List Bs := p.filter fun s => decide (s ∉ st)
theorem leftOf_snoc (st p : List Bs) (x : Bs) : leftOf st (p ++ [x]) = if x ∈ st then leftOf st p else leftOf st p ++ [x] := by
  unfold leftOf
  rw [List.filter_append]
  by_cases h : x ∈ st
  · rw [if_pos h, List.filter_cons_of_neg (by simpa using h), List.filter_nil, List.append_nil]
  · rw [if_neg h, List.filter_cons_of_pos (by simpa using h), List.filter_nil]
theorem leftOf_len (st p : List Bs) : (leftOf st p).length ≤ p.length := List.length_filter_le _ _
theorem rev_at {l : List Bs} {m n : Nat} (hl : l.length = n) (hm : m < n) {x : Bs} (h : l[n - 1 - m]? = some x) : l.reverse.take (m + 1) = l.reverse.take m ++ [x] := by
  have e : l.reverse[m]? = some x := by rw [List.getElem?_reverse (by omega), hl]; exact h
  exact take_snoc e
set_option maxHeartbeats 2000000 in
theorem order_law (A : Option Addr) (n c : Nat) (l : List Bs) (w : World) (h : Sl w 1 A n (bvs l)) (hv : VK w) (hn : n ≤ 1048576) (hx : ∀ x ∈ l, x.length ≤ 1048576) :
    Calls Tryd.prog 3 #[.slice A n c] w fun e w' => e = .returned (.bool true) ∧ Fr (fun _ => False) w w' := by
  refine (F3.of A n c w (Q := fun v w' => v = .bool true ∧ Fr (fun _ => False) w w') ?_).mono (fun e w' ⟨v, he, hv, h⟩ => ⟨by rw [he, hv], h⟩)
  have hl := bs_n h
  have hln : l.length ≤ 1048576 := by omega
  refine (of_calls A n c l w h hv hn hx).mono ?_
  rintro e w3 ⟨f3, cs, rfl, hR⟩
  have hR0 := hR
  have hlen : cs.length = 4 := by obtain ⟨A1, c1, A2, c2, A3, c3, A4, c4, rfl, _⟩ := hR; rfl
  have hone : ∀ v ∈ cs, v.oneCell' = true := by
    obtain ⟨A1, c1, A2, c2, A3, c3, A4, c4, rfl, _⟩ := hR
    intro v hv
    simp only [List.mem_cons, List.not_mem_nil, or_false] at hv
    rcases hv with rfl | rfl | rfl | rfl <;> rfl
  clear hR
  refine ⟨_, rfl, nw_mk (gd_mk (by rw [hlen]; rfl) ?_)⟩
  have g4 : Fr (fun _ => False) w3 (w3.alloc (.cells Z25.toArray 25)) := Fr.alloc _ _ _
  have q := RecAt.new w3 Z25 25
  generalize w3.alloc (.cells Z25.toArray 25) = w4 at g4 q ⊢
  generalize hb4 : w3.heap.size = b4 at q ⊢
  refine q.st_mk (o := 0) (by show 0 + cs.length ≤ 4; omega) hone (fun q f5 => ?_)
  rw [splice_full (by rw [hlen]; rfl)] at q
  have f35 : Fr (fun _ => False) w3 (stB w4 b4 0 cs) := fr_own g4 f5 (fun k hk h => by
    have h : k = b4 := h
    omega)
  generalize stB w4 b4 0 cs = w5 at q f35 ⊢
  have f05 := f3.trans1 f35
  refine ⟨cs, hlen, q.cells (fun j v hj => by rw [Nat.zero_add]; exact hj), (stale_calls cs (ros l) w5 (hR0.fr f35) (hv.fr f05) (ros_sz hln)).mono ?_⟩
  rintro e w8 ⟨f6, A10, c12, rfl, h10⟩
  have q := q.fr f6 (fun h => h)
  have f08 := f05.trans1 f6
  have hR8 := (hR0.fr f35).fr f6
  have h8 := f08.sl h (fun _ _ _ h => h)
  have hv8 := hv.fr f08
  have h10s := h10.sl
  generalize hst : (ros l).stale = st at h10 h10s ⊢
  have hst_len : st.length ≤ 1 + 1048576 + 1048576 := by
    rw [← hst, ← st2_end]
    have := st2_len (ros l) (ros l).pt.length
    have z := ros_sz hln
    have := z.ht
    have := z.pt
    omega
  clear h10 hR0 f35 g4 f6 f05
  generalize hB : w8.heap.size = B
  have e0 : IntKind.wrap .i64 (((n : Nat) : Int) - 1) = (n : Int) - 1 := i64_id (by omega) (by omega)
  rw [e0]
  refine ⟨_, _, _, rfl, jnC_mk (loop_rule (fun s v => Fr (fun _ => False) w8 v ∧ ∃ (m : Nat) (Ab Al : Option Addr) (cb cl : Nat), m ≤ n ∧
      s = ((A, n, c), (Ab, m, cb), (Al, (leftOf st (l.reverse.take m)).length, cl), (b4, 0), (A10, st.length, c12), (n : Int) - 1 - m, ()) ∧
      Row v B 9 1 Ab m cb (bvs (l.reverse.take m)) ∧ Row v B 9 1 Al (leftOf st (l.reverse.take m)).length cl (bvs (leftOf st (l.reverse.take m))) ∧ (∀ k, blkOf Ab = some k → blkOf Al ≠ some k))
    (fun s _ => (s.2.2.2.2.2.1 + 1).toNat) ?_ _ _ ⟨Fr.refl _ _, 0, none, none, 0, 0, by omega, by simp [leftOf], by simp; exact Row.nil _ _ _ _, by simp [leftOf]; exact Row.nil _ _ _ _, fun k hk => by cases hk⟩)⟩
  rintro s v C ⟨hf, m, Ab, Al, cb, cl, hm, rfl, hrb, hrl, hd⟩ hC _
  have hBv : B ≤ v.heap.size := by have := hf.size; omega
  refine vIf_mk (fun hlt => ?_) (fun hge => ?_)
  · have hlt2 : (n : Int) - 1 - m ≥ 0 := of_decide_eq_true hlt
    have hi : (n : Int) - 1 - m = ((n - 1 - m : Nat) : Int) := by omega
    have gi : l[n - 1 - m]? = some (l[n - 1 - m]'(by omega)) := List.getElem?_eq_getElem (by omega)
    generalize l[n - 1 - m]'(by omega) = x at gi
    have hrev := rev_at hl (by omega) gi
    have enext : IntKind.wrap .i64 (((n - 1 - m : Nat) : Int) - 1) = (n : Int) - 1 - ((m + 1 : Nat) : Int) := by rw [i64_id (by omega) (by omega)]; omega
    have hll := leftOf_len st (l.reverse.take m)
    rw [List.length_take] at hll
    dsimp only
    rw [hi]
    refine bs_rd (hf.sl h8 (fun _ _ _ h => h)) (by omega) gi (push_v2 hrb hBv (by omega) (fun Ab' cb' v1 q1 q2 q3 => jnC_mk ?_))
    rw [← hrev] at q1
    have hBb : ∀ k, blkOf Ab = some k → B ≤ k := fun k hk => (hrb.blt hk).1
    have hBl : ∀ k, blkOf Al = some k → B ≤ k ∧ k < v.heap.size := fun k hk => hrl.blt hk
    have hf1 : Fr (fun _ => False) w8 v1 := fr_own hf q2 (fun k hk h => by have := hBb k h; omega)
    have hrl1 := q2.row hrl (fun k hk h => hd k h hk)
    have hd1 : ∀ k, blkOf Ab' = some k → blkOf Al ≠ some k := fun k hk hl' => by
      rcases q3 k hk with h' | h'
      · exact hd k h' hl'
      · have := (hBl k hl').2; omega
    refine loop_rule (fun s u => Fr (fun _ => False) v1 u ∧ ∃ (k : Nat) (t : Bool), k ≤ st.length ∧ s = ((A, n, c), (Ab', m + 1, cb'), (Al, (leftOf st (l.reverse.take m)).length, cl), (b4, 0), (A10, st.length, c12), ((n - 1 - m : Nat) : Int), t, (k : Int), ()) ∧ t = decide (x ∈ st.take k))
      (fun s _ => (st.length - s.2.2.2.2.2.2.2.1).toNat) ?_ _ _ ⟨Fr.refl _ _, 0, false, by omega, rfl, by simp⟩
    rintro s u C10 ⟨hu, k, t, hk, rfl, ht⟩ hC10 _
    have ms : ((st.length : Int) - IntKind.wrap .i64 ((k : Int) + 1)).toNat < ((st.length : Int) - (k : Int)).toNat ∨ ¬ k < st.length := by
      by_cases h : k < st.length
      · left; rw [ei k (by omega)]; omega
      · exact .inr h
    refine vIf_mk (fun hkl => ?_) (fun hkg => ?_)
    · have hkl2 : (k : Int) < (st.length : Int) := of_decide_eq_true hkl
      have gk : st[k]? = some (st[k]'(by omega)) := List.getElem?_eq_getElem (by omega)
      generalize st[k]'(by omega) = y at gk
      have hud := hu.trans1 (Fr.drew (fun _ => False) u)
      refine vIf_mk (fun htt => jnC_mk (hC10 _ _ ⟨hud, k + 1, true, by omega, by rw [ei k (by omega)], ?_⟩ (ms.resolve_right (by omega)))) (fun htf => ?_)
      · have htt : t = true := htt
        rw [htt] at ht
        have := of_decide_eq_true ht.symm
        rw [eq_comm, decide_eq_true_iff, take_snoc gk]
        exact List.mem_append_left _ this
      · have htf : t = false := htf
        rw [htf] at ht
        have hno := of_decide_eq_false ht.symm
        have hf1u := hf1.trans1 hud
        refine bs_rd (hf1u.sl h10s (fun _ _ _ h => h)) (by omega) gk (bs_rd (hf1u.sl h8 (fun _ _ _ h => h)) (by omega) gi (jnC_mk (hC10 _ _ ⟨hud, k + 1, _, by omega, by rw [ei k (by omega)], ?_⟩ (ms.resolve_right (by omega)))))
        rw [eq_iff, take_snoc gk, Bool.eq_iff_iff, decide_eq_true_iff, decide_eq_true_iff, List.mem_append, List.mem_singleton]
        exact ⟨fun e => .inr e.symm, fun e => e.elim (fun h => absurd h hno) (fun h => h.symm)⟩
    · have hkg2 : ¬ (k : Int) < (st.length : Int) := of_decide_eq_false hkg
      obtain rfl : k = st.length := by omega
      rw [List.take_length] at ht
      have hf1u := hf1.trans1 hu
      have q1u := hu.row q1 (fun _ _ h => h)
      have hrlu := hu.row hrl1 (fun _ _ h => h)
      have ms2 : (((n : Int) - 1 - ((m + 1 : Nat) : Int)) + 1).toNat < (((n : Int) - 1 - (m : Int)) + 1).toNat := by omega
      refine vIf_mk (fun hn' => ?_) (fun hn' => ?_)
      · have hno : x ∉ st := by
          have h1 : t = false := by simpa using hn'
          rw [h1] at ht
          exact of_decide_eq_false ht.symm
        have el : leftOf st (l.reverse.take (m + 1)) = leftOf st (l.reverse.take m) ++ [x] := by rw [hrev, leftOf_snoc, if_neg hno]
        have hBu : B ≤ u.heap.size := by have := hf1u.size; omega
        refine bs_rd (hf1u.sl h8 (fun _ _ _ h => h)) (by omega) gi (push_v2 hrlu hBu (by show (leftOf st (l.reverse.take m)).length ≤ _; omega) (fun Al' cl' v2 p1 p2 p3 => jnC_mk (hC _ _ ⟨?_, m + 1, Ab', Al', cb', cl', by omega, ?_, ?_, ?_, ?_⟩ (by show (IntKind.wrap .i64 (((n - 1 - m : Nat) : Int) - 1) + 1).toNat < _; rw [enext]; exact ms2))))
        · exact fr_own hf1u p2 (fun k hk h => by have := (hBl k h).1; omega)
        · rw [enext, el, List.length_append]; rfl
        · exact p2.row q1u (fun k hk h => hd1 k hk h)
        · rw [el, List.length_append]; exact p1
        · intro k hk hl'
          rcases p3 k hl' with h' | h'
          · exact hd1 k hk h'
          · have := (q1u.blt hk).2; omega
      · have hin : x ∈ st := by
          have h1 : t = true := by simpa using hn'
          rw [h1] at ht
          exact of_decide_eq_true ht.symm
        have el : leftOf st (l.reverse.take (m + 1)) = leftOf st (l.reverse.take m) := by rw [hrev, leftOf_snoc, if_pos hin]
        refine jnC_mk (hC _ _ ⟨hf1u, m + 1, Ab', Al, cb', cl, by omega, by rw [enext, el], q1u, by rw [el]; exact hrlu, hd1⟩ (by show (IntKind.wrap .i64 (((n - 1 - m : Nat) : Int) - 1) + 1).toNat < _; rw [enext]; exact ms2))
  · have hge2 : ¬ (n : Int) - 1 - m ≥ 0 := of_decide_eq_false hge
    obtain rfl : m = n := by omega
    have erev : l.reverse.take m = l.reverse := List.take_of_length_le (by simp; omega)
    rw [erev] at hrb hrl ⊢
    have hll := leftOf_len st l.reverse
    rw [List.length_reverse] at hll
    have hd0 : Fr (fun _ => False) v v.drew := Fr.drew _ _
    have hfd := hf.trans1 hd0
    have qd := q.fr hfd (fun h => h)
    refine ⟨cs, hlen, qd.cells (fun j v hj => by rw [Nat.zero_add]; exact hj), (of_calls Ab m cb l.reverse v.drew (hd0.sl hrb.sl (fun _ _ _ h => h)) (hv8.fr hfd) hn (fun x hx' => hx x (by simpa using hx'))).mono ?_⟩
    rintro e u1 ⟨g1, cs1, rfl, hR1⟩
    obtain ⟨r1, r2, r3⟩ := ros_rev l
    have f1 := hfd.trans1 g1
    refine ⟨_, rfl, kp_mk g1 qd.lt (fun h => h) ((same_calls cs cs1 (ros l) (ros l.reverse) u1 (hR8.fr f1) hR1 (ros_sz hln) r1.symm r2.symm r3.symm).mono ?_)⟩
    rintro e u2 ⟨rfl, g2⟩
    have f2 := f1.trans1 g2
    have hleft : ∀ s, s ∈ leftOf st l.reverse ↔ s ∈ l ∧ s ∉ (ros l).stale := fun s => by
      unfold leftOf
      rw [List.mem_filter, List.mem_reverse, hst]; simp
    have fv2 := (hd0.trans1 g1).trans1 g2
    refine ⟨_, rfl, vIf_t rfl ((of_calls Al _ cl (leftOf st l.reverse) u2 (fv2.sl hrl.sl (fun _ _ _ h => h)) (hv8.fr f2) (by omega) (fun x hx' => hx x ((hleft x).1 hx').1)).mono ?_)⟩
    rintro e u3 ⟨g3, cs3, rfl, hR3⟩
    have f3' := f2.trans1 g3
    refine ⟨_, rfl, (stale_calls cs3 (ros (leftOf st l.reverse)) u3 hR3 (hv8.fr f3') (ros_sz (by omega))).mono ?_⟩
    rintro e u4 ⟨g4', A', c', rfl, _⟩
    have f4' := f3'.trans1 g4'
    rw [stale_left l hleft]
    refine ⟨_, _, _, rfl, vIf_t rfl ((lives_calls u4 (hv8.fr f4')).mono ?_)⟩
    rintro e u5 ⟨rfl, g5⟩
    exact ⟨_, rfl, rfl, (f08.trans1 f4').trans1 g5⟩
end Go.Proofs.YtfhimpkpfelilaaDoor
