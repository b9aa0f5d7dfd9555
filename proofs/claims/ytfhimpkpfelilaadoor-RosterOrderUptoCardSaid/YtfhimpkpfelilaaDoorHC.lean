/- chapter 26: a roster of names; what is stale -/
import Derived.Test.YtfhimpkpfelilaaDoorHB
namespace Go.Proofs.YtfhimpkpfelilaaDoor
open Go.GV Go.RowKit Go.Lib
set_option linter.unusedVariables false
set_option linter.unusedSimpArgs false
theorem fr_own {S : Nat → Prop} {w u v : World} (f : Fr (fun _ => False) w u) (g : Fr S u v) (hb : ∀ k, k < w.heap.size → ¬ S k) : Fr (fun _ => False) w v := f.trans g (fun _ _ h => h) (fun k hk h' => hb k hk h')
/-- a roster as it lies -/
def RosAt (w : World) (cs : List Value) (r : Ros) : Prop := ∃ (A1 : Option Addr) (c1 : Nat) (A2 : Option Addr) (c2 : Nat) (A3 : Option Addr) (c3 : Nat) (A4 : Option Addr) (c4 : Nat),
  cs = [.slice A1 r.sg.length c1, .slice A2 r.ht.length c2, .slice A3 r.pt.length c3, .slice A4 r.ot.length c4] ∧ Sl w 1 A1 r.sg.length (ivs r.sg) ∧ Sl w 1 A2 r.ht.length (ivs r.ht) ∧ Sl w 1 A3 r.pt.length (ivs r.pt) ∧ Sl w 1 A4 r.ot.length (bvs r.ot)
theorem RosAt.fr {w w' : World} {cs : List Value} {r : Ros} (h : RosAt w cs r) (f : Fr (fun _ => False) w w') : RosAt w' cs r := by
  obtain ⟨A1, c1, A2, c2, A3, c3, A4, c4, h0, h1, h2, h3, h4⟩ := h
  exact ⟨A1, c1, A2, c2, A3, c3, A4, c4, h0, f.sl h1 (fun _ _ _ h => h), f.sl h2 (fun _ _ _ h => h), f.sl h3 (fun _ _ _ h => h), f.sl h4 (fun _ _ _ h => h)⟩
theorem norm_nums_len (k : Int) (l : List Bs) : (norm (nums k l)).length ≤ l.length := Nat.le_trans (norm_len _) (nums_len k l)
set_option maxHeartbeats 2000000 in
theorem of_calls (A : Option Addr) (n c : Nat) (l : List Bs) (w : World) (h : Sl w 1 A n (bvs l)) (hv : VK w) (hn : n ≤ 1048576) (hx : ∀ x ∈ l, x.length ≤ 1048576) :
    Calls Tryd.prog 4 #[.slice A n c] w fun e w' => Fr (fun _ => False) w w' ∧ ∃ cs, e = .returned (ofL cs) ∧ RosAt w' cs (ros l) := by
  refine (F4.of A n c w (Q := fun v w' => Fr (fun _ => False) w w' ∧ ∃ cs, v = ofL cs ∧ RosAt w' cs (ros l)) ?_).mono (fun e w' ⟨v, he, hf, cs, hv, h⟩ => ⟨hf, cs, by rw [he, hv], h⟩)
  have hl := bs_n h
  refine nw_mk (nw_mk ?_)
  have hN := VK.to w hv
  have e1 : (w.alloc (.cells Z25.toArray 25)).heap.size = w.heap.size + 1 := alloc_size _ _
  have q1 : RecAt (w.alloc (.cells Z25.toArray 25)) w.heap.size 25 Z25 := RecAt.new w _ _
  have g1 : Fr (fun _ => False) w (w.alloc (.cells Z25.toArray 25)) := Fr.alloc _ _ _
  generalize w.alloc (.cells Z25.toArray 25) = wa at e1 q1 g1 ⊢
  have e2 : (wa.alloc (.cells Z32.toArray 32)).heap.size = wa.heap.size + 1 := alloc_size _ _
  have q2 : RecAt (wa.alloc (.cells Z32.toArray 32)) wa.heap.size 32 (rw4 (fun _ => none) (fun _ => 0) (fun _ => 0)) := RecAt.new wa _ _
  have g2 : Fr (fun _ => False) wa (wa.alloc (.cells Z32.toArray 32)) := Fr.alloc _ _ _
  generalize wa.alloc (.cells Z32.toArray 32) = wb at e2 q2 g2 ⊢
  have q1 := q1.fr g2 (fun h => h)
  rw [e1] at q2 e2 ⊢
  generalize hb : w.heap.size + 1 = b at q2 e2 ⊢
  have g12 := g1.trans1 g2
  refine (clone_v A n c l wb (g12.sl h (fun _ _ _ h => h)) (by omega)).mono ?_
  rintro e w5 ⟨A7, c9, rfl, g5, h7⟩
  have q1 := q1.fr g5 (fun h => h)
  have q2 := q2.fr g5 (fun h => h)
  have g125 := g12.trans1 g5
  have s5 := g5.size
  have h7b : ∀ k, blkOf A7 = some k → wb.heap.size ≤ k ∧ k < w5.heap.size := fun k hk => h7.blt hk
  have hR0 : RS w5.heap.size b w5 (rowsOf []) := by
    refine ⟨fun _ => none, fun _ => 0, ⟨?_, fun k hk => ?_, fun i k hi hk => (by cases hk), by omega, Nat.le_refl _⟩⟩
    · have e : (fun k => (rowsOf [] k).length) = fun _ => 0 := by
        funext k
        have := rowsOf_len [] k
        simp at this ⊢; exact this
      rw [e]; exact q2
    · have e : rowsOf [] k = [] := by
        have := rowsOf_len [] k
        exact List.length_eq_zero_iff.1 (by simpa using this)
      rw [e]; exact Row.nil _ _ _ _
  refine ⟨_, _, _, rfl, (delete_calls w.heap.size w5.heap.size b _ _ A7 n c9 l w5 h7 (fun k hk => by have := h7b k hk; omega) hR0 (hN.fr0 g125) (by omega) hn hx).mono ?_⟩
  rintro e w10 ⟨c14, rfl, g10, ⟨RA, Rc, hR⟩, h10⟩
  have g0_10 : Fr (fun _ => False) w w10 := fr_own g125 g10 (fun k hk hS => by
    rcases hS with (h | h) | h
    · omega
    · omega
    · have := h7b k h; omega)
  have q1 := q1.fr g10 (fun hS => by
    rcases hS with (h | h) | h
    · omega
    · omega
    · have := h7b _ h; omega)
  have gd0 : Fr (fun _ => False) w10 w10.drew := Fr.drew _ _
  have hcell : ∀ k : Nat, k < 4 → cellAt w10.drew b (0 + k) = some (.slice (RA k) (rowsOf l k).length (Rc k)) := fun k hk => by
    rw [Nat.zero_add]
    exact (hR.rcd.fr gd0 (fun h => h)).cell (rw4_at hk)
  have hrow : ∀ k : Nat, k < 4 → Row w10.drew w5.heap.size 3 1 (RA k) (rowsOf l k).length (Rc k) (ivs (rowsOf l k)) := fun k hk => gd0.row (hR.row k hk) (fun _ _ h => h)
  have hbl : ∀ i, i < 4 → ∀ k, blkOf (RA i) = some k → w5.heap.size ≤ k := fun i hi k hk => ((hR.row i hi).blt hk).1
  have hdis := hR.dis
  have h10d := gd0.row h10 (fun _ _ h => h)
  have q1d := q1.fr gd0 (fun h => h)
  have g0d := g0_10.trans1 gd0
  have hbd : RecAt w10.drew b 32 (rw4 RA (fun k => (rowsOf l k).length) Rc) := hR.rcd.fr gd0 (fun h => h)
  generalize w10.drew = u at hcell hrow h10d q1d g0d hbd ⊢
  have hrl : ∀ k, (rowsOf l k).length ≤ n := fun k => by have := rowsOf_len l k; omega
  refine ⟨_, _, _, rfl, _, _, _, hcell 1 (by omega), _, _, _, hcell 2 (by omega), _, _, _, hcell 3 (by omega), ?_⟩
  have nb : ∀ i, i < 4 → ¬ blkOf (RA i) = some b := fun i hi h => by have := hbl i hi b h; omega
  refine (rowI_calls _ _ _ _ _ u (hrow 1 (by omega)) (by have := hrl 1; omega)).mono ?_
  rintro e u1 ⟨rfl, k1, r1⟩
  have r2 := k1.row (hrow 2 (by omega)) (fun k hk h => hdis 1 k (by omega) h 2 (by omega) (by omega) hk)
  have r3 := k1.row (hrow 3 (by omega)) (fun k hk h => hdis 1 k (by omega) h 3 (by omega) (by omega) hk)
  refine ⟨_, _, _, rfl, kp_mk k1 hbd.lt (nb 1 (by omega)) (kp_mk k1 hbd.lt (nb 1 (by omega)) ((rowI_calls _ _ _ _ _ u1 r2 (by have := hrl 2; omega)).mono ?_))⟩
  rintro e u2 ⟨rfl, k2, r2⟩
  have k12 : Fr (fun k => blkOf (RA 1) = some k ∨ blkOf (RA 2) = some k) u u2 := k1.trans k2 (fun _ _ h => .inl h) (fun _ _ h => .inr h)
  have r1 := k2.row r1 (fun k hk h => hdis 2 k (by omega) h 1 (by omega) (by omega) hk)
  have r3 := k2.row r3 (fun k hk h => hdis 2 k (by omega) h 3 (by omega) (by omega) hk)
  refine ⟨_, _, _, rfl, kp_mk k12 hbd.lt (fun h => h.elim (nb 1 (by omega)) (nb 2 (by omega))) ((rowI_calls _ _ _ _ _ u2 r3 (by have := hrl 3; omega)).mono ?_)⟩
  rintro e u3 ⟨rfl, k3, r3⟩
  have k123 : Fr (fun k => w5.heap.size ≤ k) u u3 := k12.trans k3 (fun k _ h => h.elim (hbl 1 (by omega) k) (hbl 2 (by omega) k)) (fun k _ h => hbl 3 (by omega) k h)
  have r1 := k3.row r1 (fun k hk h => hdis 3 k (by omega) h 1 (by omega) (by omega) hk)
  have r2 := k3.row r2 (fun k hk h => hdis 3 k (by omega) h 2 (by omega) (by omega) hk)
  have r4 := k123.row h10d (fun k hk h => by have := h7b k hk; omega)
  have q1 := q1d.fr k123 (fun h => by omega)
  have g0u : Fr (fun _ => False) w u3 := fr_own g0d k123 (fun k hk h => by omega)
  refine ⟨_, _, _, rfl, gd_mk rfl ?_⟩
  refine q1.st_mk (o := 0) (by show 0 + 4 ≤ 4; omega) (fun v hv => by
    simp only [List.cons_append, List.nil_append, List.mem_cons, List.not_mem_nil, or_false] at hv
    rcases hv with rfl | rfl | rfl | rfl <;> rfl) (fun q1 k4 => ?_)
  rw [splice_full (by rfl)] at q1
  refine ⟨[Value.slice (RA 1) (norm (rowsOf l 1)).length (Rc 1), Value.slice (RA 2) (norm (rowsOf l 2)).length (Rc 2), Value.slice (RA 3) (norm (rowsOf l 3)).length (Rc 3), Value.slice A7 (oth l).length c14], rfl, q1.cells (fun j v hj => by rw [Nat.zero_add]; exact hj), fr_own g0u k4 (fun k hk h => by
    have h : k = w.heap.size := h
    omega), _, rfl, ?_⟩
  have e1 : ∀ k : Nat, k ≠ 0 → rowsOf l k = nums (k : Int) l := fun k hk => by unfold rowsOf; rw [if_neg hk]
  rw [e1 1 (by omega)] at r1
  rw [e1 2 (by omega)] at r2
  rw [e1 3 (by omega)] at r3
  rw [e1 1 (by omega), e1 2 (by omega), e1 3 (by omega)]
  have far : ∀ {A : Option Addr} {m : Nat} {vs : List Value}, (∀ k, blkOf A = some k → w.heap.size + 2 ≤ k) → Sl u3 1 A m vs → Sl (stB u3 w.heap.size 0 ([Value.slice (RA 1) (norm (rowsOf l 1)).length (Rc 1)] ++ ([Value.slice (RA 2) (norm (rowsOf l 2)).length (Rc 2)] ++ ([Value.slice (RA 3) (norm (rowsOf l 3)).length (Rc 3)] ++ ([Value.slice A7 (oth l).length c14] ++ []))))) 1 A m vs := fun hk hs => k4.sl hs (fun _ k hk' h => by
    have h : k = w.heap.size := h
    have := hk k hk'
    omega)
  exact ⟨_, _, _, _, _, _, _, _, rfl, far (fun k hk => by have := hbl 1 (by omega) k hk; omega) r1.sl, far (fun k hk => by have := hbl 2 (by omega) k hk; omega) r2.sl, far (fun k hk => by have := hbl 3 (by omega) k hk; omega) r3.sl, far (fun k hk => by have := h7b k hk; omega) r4.sl⟩
/-- a text is put behind; what is told of the new row's block -/
theorem push_v2 {w : World} {B : Nat} {A : Option Addr} {n c : Nat} {out : List Bs} {x : Bs} {K : Option Addr → Nat → Nat → World → Prop} (hr : Row w B 9 1 A n c (bvs out)) (hB : B ≤ w.heap.size) (hn : n ≤ 1099511627776)
    (hK : ∀ A' c' w', Row w' B 9 1 A' (n + 1) c' (bvs (out ++ [x])) → Fr (fun k => blkOf A = some k) w w' → (∀ k, blkOf A' = some k → blkOf A = some k ∨ w.heap.size ≤ k) → K A' (n + 1) c' w') : nw w ([Value.string (bs x)] ++ []) 9 fun b w' => app w' 1 16 [Value.string (⟨#[]⟩ : ByteArray)] 9 A n c (.slice (some ⟨b, 0, none⟩) 1 1) K := by
  refine nw_mk ?_
  rw [List.append_nil]
  have f1 : Fr (fun _ => False) w (w.alloc (.cells [Value.string (bs x)].toArray 9)) := Fr.alloc _ _ _
  have r1 : Row (w.alloc (.cells [Value.string (bs x)].toArray 9)) 0 9 1 (some ⟨w.heap.size, 0, none⟩) 1 1 (bvs [x]) := Row.new (Nat.zero_le _) rfl
  have hs : (w.alloc (.cells [Value.string (bs x)].toArray 9)).heap.size = w.heap.size + 1 := alloc_size _ _
  generalize w.alloc (.cells [Value.string (bs x)].toArray 9) = w1 at f1 r1 hs ⊢
  refine app_row2 (f1.row hr (fun _ _ h => h)) r1.sl.src (svs_one _) rfl (by omega) (by omega) (by omega) (fun A' c' w' hr' f' hA' => hK A' c' w' (by rw [bvs_app]; exact hr') ?_ (fun k hk => (hA' k hk).imp id (fun h => by omega)))
  exact f1.trans f' (fun _ _ h => h.elim) (fun _ _ h => h)
/-! ### is it in a row? -/
theorem indexS_calls (A : Option Addr) (n c : Nat) (r : List Bs) (x : Bs) (w : World) (h : Sl w 1 A n (bvs r)) (hn : n ≤ 1048576) :
    Calls Tryd.prog 22 #[.slice A n c, .string (bs x)] w fun e w' => ∃ i : Int, e = .returned (.int .i64 i) ∧ decide (i ≥ 0) = decide (x ∈ r) ∧ w' = w := by
  refine (F22.of A n c (bs x) w (Q := fun v w' => ∃ i : Int, v = .int .i64 i ∧ decide (i ≥ 0) = decide (x ∈ r) ∧ w' = w) ?_).mono (fun e w' ⟨v, he, i, hv, h⟩ => ⟨i, by rw [he, hv], h⟩)
  have hl := bs_n h
  refine jnC_mk (loop_rule (fun s u => u = w ∧ ∃ i : Nat, i ≤ n ∧ s = ((A, n, c), bs x, (n : Int), (i : Int), ()) ∧ x ∉ r.take i) (fun s _ => (n - s.2.2.2.1).toNat) ?_ _ _ ⟨rfl, 0, by omega, rfl, by simp⟩)
  rintro s u C ⟨rfl, i, hi, rfl, hno⟩ hC _
  refine vIf_mk (fun hlt => ?_) (fun hge => ?_)
  · have hlt2 : (i : Int) < (n : Int) := of_decide_eq_true hlt
    have gi : r[i]? = some (r[i]'(by omega)) := List.getElem?_eq_getElem (by omega)
    generalize r[i]'(by omega) = y at gi
    refine bs_rd h (by omega) gi ?_
    rw [eq_iff]
    refine vIf_mk (fun he => ⟨_, rfl, ?_, rfl⟩) (fun hne => jnC_mk (hC _ _ ⟨rfl, i + 1, by omega, by rw [ei i (by omega)], ?_⟩ ?_))
    · have he : x = y := of_decide_eq_true he
      subst he
      rw [decide_eq_true (show (i : Int) ≥ 0 by omega), decide_eq_true (List.mem_of_getElem? gi)]
    · have hne : x ≠ y := of_decide_eq_false hne
      rw [take_snoc gi, List.mem_append, List.mem_singleton]
      exact fun h => h.elim hno hne
    · show ((n : Int) - IntKind.wrap .i64 ((i : Int) + 1)).toNat < ((n : Int) - (i : Int)).toNat
      rw [ei i (by omega)]; omega
  · have hge2 : ¬ (i : Int) < (n : Int) := of_decide_eq_false hge
    rw [List.take_of_length_le (by omega)] at hno
    exact ⟨_, rfl, by rw [decide_eq_false (show ¬ (-1 : Int) ≥ 0 by omega), decide_eq_false hno], rfl⟩
theorem containsS_calls (A : Option Addr) (n c : Nat) (r : List Bs) (x : Bs) (w : World) (h : Sl w 1 A n (bvs r)) (hn : n ≤ 1048576) :
    Calls Tryd.prog 12 #[.slice A n c, .string (bs x)] w fun e w' => e = .returned (.bool (decide (x ∈ r))) ∧ w' = w := by
  refine (F12.of A n c (bs x) w (Q := fun v w' => v = .bool (decide (x ∈ r)) ∧ w' = w) ?_).mono (fun e w' ⟨v, he, hv, h⟩ => ⟨by rw [he, hv], h⟩)
  refine (indexS_calls A n c r x w h hn).mono ?_
  rintro e w1 ⟨i, rfl, hi, rfl⟩
  exact ⟨_, rfl, by rw [hi], rfl⟩
theorem indexI_calls (A : Option Addr) (n c : Nat) (r : List Int) (x : Int) (w : World) (h : Sl w 1 A n (ivs r)) (hn : n ≤ 1048576) :
    Calls Tryd.prog 23 #[.slice A n c, .int .i64 x] w fun e w' => ∃ i : Int, e = .returned (.int .i64 i) ∧ decide (i ≥ 0) = decide (x ∈ r) ∧ w' = w := by
  refine (F23.of A n c x w (Q := fun v w' => ∃ i : Int, v = .int .i64 i ∧ decide (i ≥ 0) = decide (x ∈ r) ∧ w' = w) ?_).mono (fun e w' ⟨v, he, i, hv, h⟩ => ⟨i, by rw [he, hv], h⟩)
  have hl := sl_n h
  refine jnC_mk (loop_rule (fun s u => u = w ∧ ∃ i : Nat, i ≤ n ∧ s = ((A, n, c), x, (n : Int), (i : Int), ()) ∧ x ∉ r.take i) (fun s _ => (n - s.2.2.2.1).toNat) ?_ _ _ ⟨rfl, 0, by omega, rfl, by simp⟩)
  rintro s u C ⟨rfl, i, hi, rfl, hno⟩ hC _
  refine vIf_mk (fun hlt => ?_) (fun hge => ?_)
  · have hlt2 : (i : Int) < (n : Int) := of_decide_eq_true hlt
    have gi : r[i]? = some (r[i]'(by omega)) := List.getElem?_eq_getElem (by omega)
    generalize r[i]'(by omega) = y at gi
    refine sl_rd h (by omega) gi (vIf_mk (fun he => ⟨_, rfl, ?_, rfl⟩) (fun hne => jnC_mk (hC _ _ ⟨rfl, i + 1, by omega, by rw [ei i (by omega)], ?_⟩ ?_)))
    · have he : x = y := by simpa using he
      subst he
      rw [decide_eq_true (show (i : Int) ≥ 0 by omega), decide_eq_true (List.mem_of_getElem? gi)]
    · have hne : x ≠ y := by simpa using hne
      rw [take_succ_at gi, List.mem_append, List.mem_singleton]
      exact fun h => h.elim hno hne
    · show ((n : Int) - IntKind.wrap .i64 ((i : Int) + 1)).toNat < ((n : Int) - (i : Int)).toNat
      rw [ei i (by omega)]; omega
  · have hge2 : ¬ (i : Int) < (n : Int) := of_decide_eq_false hge
    rw [List.take_of_length_le (by omega)] at hno
    exact ⟨_, rfl, by rw [decide_eq_false (show ¬ (-1 : Int) ≥ 0 by omega), decide_eq_false hno], rfl⟩
theorem containsI_calls (A : Option Addr) (n c : Nat) (r : List Int) (x : Int) (w : World) (h : Sl w 1 A n (ivs r)) (hn : n ≤ 1048576) :
    Calls Tryd.prog 13 #[.slice A n c, .int .i64 x] w fun e w' => e = .returned (.bool (decide (x ∈ r))) ∧ w' = w := by
  refine (F13.of A n c x w (Q := fun v w' => v = .bool (decide (x ∈ r)) ∧ w' = w) ?_).mono (fun e w' ⟨v, he, hv, h⟩ => ⟨by rw [he, hv], h⟩)
  refine (indexI_calls A n c r x w h hn).mono ?_
  rintro e w1 ⟨i, rfl, hi, rfl⟩
  exact ⟨_, rfl, by rw [hi], rfl⟩
end Go.Proofs.YtfhimpkpfelilaaDoor
