/- chapter 33: what isn't reached -/
import Derived.Test.YtbifohpdlknjiaaHT
namespace Go.Proofs.Ytbifohpdlknjiaa
open Go.GV Go.RowKit Go.Lib
set_option linter.unusedVariables false
set_option linter.unusedSimpArgs false
/-- the closure's variable: a row that rises -/
structure Held (w : World) (b : Nat) (met : List Dig) : Prop where
  hold : ∃ A c e, RecAt w b e [.slice A met.length c] ∧ Sl w 32 A met.length (dcs met)
  w32 : W32 met
  asc : Asc met
  len : met.length ≤ 34359738368
theorem Held.fr {D : Nat → Prop} {w w' : World} {b : Nat} {met : List Dig} (f : Fr D w w') (h : Held w b met) (h1 : ¬ D b) (h2 : ∀ A c e, RecAt w b e [.slice A met.length c] → met.length ≠ 0 → ∀ k, blkOf A = some k → ¬ D k) : Held w' b met := by
  obtain ⟨A, c, e, hr, hs⟩ := h.hold
  exact ⟨⟨A, c, e, hr.fr f h1, f.sl hs (h2 A c e hr)⟩, h.w32, h.asc, h.len⟩
theorem Held.frF {w w' : World} {b : Nat} {met : List Dig} (f : Fr (fun _ => False) w w') (h : Held w b met) : Held w' b met := h.fr f (fun h => h) (fun _ _ _ _ _ _ _ h => h)
theorem clos_calls (d : Dig) (b : Nat) (met : List Dig) (w : World) (hd : d.length = 32) (h : Held w b met) :
    Calls Try.prog 21 #[ofL (d.map bv), .pointer (some ⟨b, 0, none⟩)] w fun e w' => e = .returned (.bool (decide (d ∈ met))) ∧ Fr (fun _ => False) w w' := by
  refine (F21.of (d.map bv) (b, 0) w (Q := fun v w' => v = .bool (decide (d ∈ met)) ∧ Fr (fun _ => False) w w') ?_).mono (fun e w' ⟨v, he, hv, h⟩ => ⟨by rw [he, hv], h⟩)
  have ld : (d.map bv).length = 32 := by simp [hd]
  refine nw_mk ?_
  have f1 : Fr (fun _ => False) w (w.alloc (.cells (d.map bv).toArray 27)) := Fr.alloc _ _ _
  have r1 : RecAt (w.alloc (.cells (d.map bv).toArray 27)) w.heap.size 27 (d.map bv) := RecAt.new w _ _
  generalize w.alloc (.cells (d.map bv).toArray 27) = w1 at f1 r1 ⊢
  have h1 := h.frF f1
  obtain ⟨A, c, e, hr, hs⟩ := h1.hold
  refine ⟨A, met.length, c, hr.cell rfl, _, ld, cellsB r1, (has_calls A met.length c met d w1 hs h1.w32 h1.asc hd (by have := h1.len; omega)).mono ?_⟩
  rintro e w2 ⟨rfl, f2⟩
  exact ⟨_, rfl, rfl, f1.trans1 f2⟩
def keep (met : List Dig) (r : List Dig) : List Dig := r.filter (fun d => !decide (d ∈ met))
theorem keep_snoc {met r : List Dig} {i : Nat} {d : Dig} (h : r[i]? = some d) : keep met (r.take (i + 1)) = keep met (r.take i) ++ (if d ∈ met then [] else [d]) := by
  rw [List.take_add_one, h, Option.toList_some]
  unfold keep
  rw [List.filter_append]
  congr 1
  by_cases hd : d ∈ met
  · rw [if_pos hd]; simp [hd]
  · rw [if_neg hd]; simp [hd]
theorem keep_len (met r : List Dig) : (keep met r).length ≤ r.length := List.length_filter_le _ _
theorem index_calls (A : Option Addr) (n c : Nat) (r : List Dig) (b : Nat) (met : List Dig) (w : World) (hs : Sl w 32 A n (dcs r)) (hw : W32 r) (h : Held w b met) (hn : n ≤ 17179869184) :
    Calls Try.prog 27 #[.slice A n c, .func (.func 21) #[] #[.pointer (some ⟨b, 0, none⟩)]] w fun e w' => Fr (fun _ => False) w w' ∧ ((∃ i : Nat, i < n ∧ e = .returned (.int .i64 i) ∧ keep met (r.take i) = r.take i ∧ ∃ d, r[i]? = some d ∧ d ∈ met) ∨ (e = .returned (.int .i64 (-1)) ∧ keep met r = r)) := by
  refine (F27s.of A n c (b, 0) w (Q := fun v w' => Fr (fun _ => False) w w' ∧ ((∃ i : Nat, i < n ∧ v = .int .i64 i ∧ keep met (r.take i) = r.take i ∧ ∃ d, r[i]? = some d ∧ d ∈ met) ∨ (v = .int .i64 (-1) ∧ keep met r = r))) ?_).mono (fun e w' ⟨v, he, hf, hv⟩ => ⟨hf, by
    rcases hv with ⟨i, h1, h2, h3⟩ | ⟨h1, h2⟩
    · exact .inl ⟨i, h1, by rw [he, h2], h3⟩
    · exact .inr ⟨by rw [he, h1], h2⟩⟩)
  have hrl := sl_len hs hw
  refine jnC_mk (loop_rule (fun s u => Fr (fun _ => False) w u ∧ ∃ i : Nat, i ≤ n ∧ s = ((A, n, c), (b, 0), (n : Int), (i : Int), ()) ∧ keep met (r.take i) = r.take i)
    (fun s _ => (n - s.2.2.2.1).toNat) ?_ _ _ ⟨Fr.refl _ _, 0, by omega, rfl, rfl⟩)
  rintro s u C ⟨hf, i, hi, rfl, hk⟩ hC _
  refine vIf_mk (fun hlt => ?_) (fun hge => ?_)
  · have hlt2 : (i : Int) < (n : Int) := of_decide_eq_true hlt
    have gi : r[i]? = some (r[i]'(by omega)) := List.getElem?_eq_getElem (by omega)
    have li := hw.at gi
    have hsn := keep_snoc (met := met) gi
    obtain ⟨b', o', hA, hcell⟩ := sl_dig (hf.sl hs (fun _ _ _ h => h)) hw (i := i) (by omega)
    subst hA
    generalize r[i]'(by omega) = x at gi li hsn
    have lx : (x.map bv).length = 32 := by simp [li]
    refine dr_mk (gd_mk (decide_eq_true (by show (0 : Int) ≤ (i : Int); omega)) (gd_mk (decide_eq_true hlt2) ⟨x.map bv, lx, by show cellsAt u b' (o' + ((i : Int)).toNat * 32) _; rw [Int.toNat_natCast]; exact hcell i x gi, (clos_calls x b met u li (h.frF hf)).mono ?_⟩))
    rintro e u2 ⟨rfl, f2⟩
    refine ⟨_, rfl, vIf_mk (fun hin => ?_) (fun hout => ?_)⟩
    · exact ⟨hf.trans1 f2, .inl ⟨i, by omega, rfl, hk, x, gi, of_decide_eq_true hin⟩⟩
    · have hout : x ∉ met := of_decide_eq_false hout
      rw [if_neg hout, hk] at hsn
      refine jnC_mk (hC _ _ ⟨hf.trans1 f2, i + 1, by omega, ?_, ?_⟩ ?_)
      · show (_, _, _, IntKind.wrap .i64 ((i : Int) + 1), ()) = _
        rw [ei64 i (by omega)]
      · rw [hsn, List.take_add_one, gi]; rfl
      · show ((n : Int) - IntKind.wrap .i64 ((i : Int) + 1)).toNat < ((n : Int) - (i : Int)).toNat
        rw [ei64 i (by omega)]; omega
  · have hge2 : ¬ (i : Int) < (n : Int) := of_decide_eq_false hge
    rw [List.take_of_length_le (by omega)] at hk
    exact ⟨hf, .inr ⟨rfl, hk⟩⟩
set_option maxHeartbeats 1000000 in
theorem delete_calls (B : Nat) (e : TypeId) (A : Option Addr) (n c : Nat) (r : List Dig) (b : Nat) (met : List Dig) (w : World) (hr : Row w B e 32 A n c (dcs r)) (hw : W32 r) (h : Held w b met) (hn : n ≤ 17179869184) (hB : ∀ k, b = k → k < B) (hB2 : ∀ A c e, RecAt w b e [.slice A met.length c] → ∀ k, blkOf A = some k → k < B) :
    Calls Try.prog 20 #[.slice A n c, .func (.func 21) #[] #[.pointer (some ⟨b, 0, none⟩)]] w fun e' w' => e' = .returned (.slice A (keep met r).length c) ∧ Fr (fun k => blkOf A = some k) w w' ∧ Row w' B e 32 A (keep met r).length c (dcs (keep met r)) := by
  refine (F20s.of A n c (b, 0) w (Q := fun v w' => v = .slice A (keep met r).length c ∧ Fr (fun k => blkOf A = some k) w w' ∧ Row w' B e 32 A (keep met r).length c (dcs (keep met r))) ?_).mono (fun e w' ⟨v, he, hv, h⟩ => ⟨by rw [he, hv], h⟩)
  have hrl := sl_len hr.sl hw
  have hle := hr.le
  have hZ : Z27.length = 32 := by decide +kernel
  refine (index_calls A n c r b met w hr.sl hw h hn).mono ?_
  rintro e1 w1 ⟨f1, h1⟩
  rcases h1 with ⟨i0, hi0, rfl, hk0, d0, g0, hd0⟩ | ⟨rfl, hk⟩
  rotate_left
  · refine ⟨_, rfl, vIf_t rfl ⟨by rw [hk, hrl], f1.mono (fun _ _ h => h.elim), ?_⟩⟩
    rw [hk, hrl]
    exact f1.row hr (fun _ _ h => h)
  refine ⟨_, rfl, vIf_f (by simp) (jnC_mk ?_)⟩
  obtain ⟨ba, hA⟩ : ∃ ba, A = some ⟨ba, 0, none⟩ := by
    rcases hr.at_ with ⟨_, h0, _⟩ | ⟨ba, _, hA, _⟩
    · omega
    · exact ⟨ba, hA⟩
  subst hA
  have hBa := (hr.blt (b := ba) rfl).1
  have hi1 : keep met (r.take (i0 + 1)) = r.take i0 := by rw [keep_snoc g0, if_pos hd0, List.append_nil, hk0]
  -- what a world of this walk keeps of the closure's variable
  have hHeld : ∀ v, Fr (fun k => blkOf (some (⟨ba, 0, none⟩ : Addr)) = some k) w v → Held v b met := fun v fv => by
    refine h.fr fv (fun h' => ?_) (fun A' c' e' hr' _ k hk h' => ?_)
    · simp only [blkOf, Option.some.injEq] at h'
      have := hB b rfl
      omega
    · simp only [blkOf, Option.some.injEq] at h'
      have := hB2 A' c' e' hr' k hk
      omega
  refine loop_rule (fun s u => Fr (fun k => blkOf (some (⟨ba, 0, none⟩ : Addr)) = some k) w u ∧ ∃ (j : Nat) (P : List Dig), i0 + 1 ≤ j ∧ j ≤ n ∧ W32 P ∧ P.length = n ∧ Row u B e 32 (some ⟨ba, 0, none⟩) n c (dcs P) ∧ (keep met (r.take j)).length < j ∧ P.take (keep met (r.take j)).length = keep met (r.take j) ∧ (∀ q, j ≤ q → P[q]? = r[q]?) ∧
      s = ((some ⟨ba, 0, none⟩, n, c), (b, 0), (((keep met (r.take j)).length : Nat) : Int), (j : Int), ()))
    (fun s _ => (n - s.2.2.2.1).toNat) ?_ _ _ ⟨f1.mono (fun _ _ h => h.elim), i0 + 1, r, by omega, by omega, hw, hrl, f1.row hr (fun _ _ h => h), ?_, ?_, fun q _ => rfl, ?_⟩
  rotate_left
  · rw [hi1, List.length_take]; omega
  · rw [hi1, List.length_take, Nat.min_eq_left (by omega)]
  · rw [hi1, List.length_take, Nat.min_eq_left (by omega), ei64 i0 (by omega)]
  rintro s u C ⟨hf, j, P, hj1, hjn, hP, hPl, hru, hk, htk, hdp, rfl⟩ hC _
  generalize hkk : (keep met (r.take j)).length = k at hk htk
  refine vIf_mk (fun hlt => ?_) (fun hge => ?_)
  · have hlt2 : (j : Int) < (n : Int) := of_decide_eq_true hlt
    have gj : r[j]? = some (r[j]'(by omega)) := List.getElem?_eq_getElem (by omega)
    have lj := hw.at gj
    have hsn := keep_snoc (met := met) gj
    obtain ⟨b', o', hA, hcell⟩ := sl_dig hru.sl hP (i := j) (by omega)
    cases hA
    generalize r[j]'(by omega) = x at gj lj hsn
    have lx : (x.map bv).length = 32 := by simp [lj]
    have cj := hcell j x ((hdp j (Nat.le_refl _)).trans gj)
    refine dr_mk (gd_mk (decide_eq_true (by show (0 : Int) ≤ (j : Int); omega)) (gd_mk (decide_eq_true hlt2) ⟨x.map bv, lx, by show cellsAt u ba (0 + ((j : Int)).toNat * 32) _; rw [Int.toNat_natCast]; exact cj, nw_mk (gd_mk (by rw [lx]; rfl) ?_)⟩))
    have k1 : Fr (fun _ => False) u (u.alloc (.cells Z27.toArray 27)) := Fr.alloc _ _ _
    refine (RecAt.new u Z27 27).st_mk (o := 0) (by rw [lx, hZ]; omega) (bvs_one _) (fun r20 k2 => ?_)
    rw [splice_full (by rw [lx, hZ])] at r20
    generalize stB (u.alloc (.cells Z27.toArray 27)) u.heap.size 0 (x.map bv) = u3 at r20 k2 ⊢
    have k12 : Fr (fun _ => False) u u3 := k1.trans k2 (fun _ _ h => h) (fun q hq h' => by omega)
    have hwu3 := hf.trans k12 (fun _ _ h => h) (fun _ _ h => h.elim)
    refine ⟨_, lx, cellsB r20, (clos_calls x b met u3 lj (hHeld u3 hwu3)).mono ?_⟩
    rintro e4 u4 ⟨rfl, f4⟩
    have k14 := k12.trans1 f4
    have hwu4 := hf.trans k14 (fun _ _ h => h) (fun _ _ h => h.elim)
    have hmeas : ((n : Int) - IntKind.wrap .i64 ((j : Int) + 1)).toNat < ((n : Int) - (j : Int)).toNat := by rw [ei64 j (by omega)]; omega
    refine ⟨_, rfl, vIf_mk (fun hnd => ?_) (fun hde => ?_)⟩
    · have hout : x ∉ met := fun h' => by rw [decide_eq_true h'] at hnd; cases hnd
      rw [if_neg hout] at hsn
      refine ⟨_, lx, cellsB (r20.fr f4 (fun h => h)), dr_mk (gd_mk (decide_eq_true (by show (0 : Int) ≤ (k : Int); omega)) (gd_mk (decide_eq_true (by show (k : Int) < (n : Int); omega)) (gd_mk (by rw [lx]; rfl) ?_)))⟩
      show st u4 ba (0 + ((k : Int)).toNat * 32) _ _
      rw [Int.toNat_natCast]
      refine row_splice (A := some ⟨ba, 0, none⟩) (o' := k * 32) (k14.row hru (fun _ _ h => h)) (by omega) (by rw [lx]; omega) (bvs_one _) (fun u5 hr5 f5 => jnC_mk (hC _ _ ⟨hwu4.trans1 f5, j + 1, P.set k x, by omega, by omega, ?_, by simpa using hPl, ?_, ?_, ?_, ?_, ?_⟩ hmeas))
      · intro y hy
        rcases List.mem_or_eq_of_mem_set hy with h1 | h1
        · exact hP y h1
        · subst h1; exact lj
      · rw [dcs_set hP lj (by omega)]; exact hr5
      · rw [hsn, List.length_append, hkk]; simp; omega
      · rw [hsn, List.length_append, hkk]
        show (P.set k x).take (k + 1) = _
        rw [List.take_add_one, List.getElem?_set_self (by omega), Option.toList_some, List.take_set_of_le (Nat.le_refl k), htk]
      · intro q hq
        rw [List.getElem?_set_ne (by omega)]
        exact hdp q (by omega)
      · rw [hsn, List.length_append, hkk, ei64 j (by omega)]
        show (_, _, IntKind.wrap .i64 ((k : Int) + 1), _, ()) = _
        rw [ei64 k (by omega)]; rfl
    · have hin : x ∈ met := by
        by_cases h' : x ∈ met
        · exact h'
        · rw [decide_eq_false h'] at hde; cases hde
      rw [if_pos hin, List.append_nil] at hsn
      refine jnC_mk (hC _ _ ⟨hwu4, j + 1, P, by omega, by omega, hP, hPl, k14.row hru (fun _ _ h => h), by rw [hsn, hkk]; omega, by rw [hsn, hkk]; exact htk, fun q hq => hdp q (by omega), by rw [hsn, hkk, ei64 j (by omega)]⟩ hmeas)
  · have hge2 : ¬ (j : Int) < (n : Int) := of_decide_eq_false hge
    have hjn2 : j = n := by omega
    subst hjn2
    have hta : r.take j = r := List.take_of_length_le (by omega)
    rw [hta] at hkk htk
    have hsk : slA (some (⟨ba, 0, none⟩ : Addr)) c k 32 = some ⟨ba, 0 + k * 32, none⟩ := by
      unfold slA
      rw [if_neg (by omega), Option.map_some, add_none]
    dsimp only
    simp only [Int.toNat_natCast]
    rw [hsk]
    refine gd_mk (decide_eq_true (by omega)) (gd_mk (decide_eq_true (by omega)) (vIf_f (by simp; omega) ?_))
    refine row_splice (A := some ⟨ba, 0, none⟩) (o' := k * 32) hru (by omega) (by rw [zeros_length, hZ, ← Nat.add_mul]; exact Nat.mul_le_mul_right _ (by omega)) (fun v hv => ?_) (fun u2 hr2 f2 => jnC_mk (fun _ => ?_))
    · simp only [zeros, List.mem_flatten, List.mem_replicate] at hv
      obtain ⟨l, ⟨_, rfl⟩, hv⟩ := hv
      revert v
      decide +kernel
    · refine gd_mk (decide_eq_true (by show (0 : Int) ≤ (k : Int); omega)) (gd_mk (decide_eq_true (by show (k : Int) ≤ (c : Int); omega)) ⟨?_, hf.trans1 f2, ?_⟩)
      · show Value.slice (slA (some ⟨ba, 0, none⟩) c 0 32) ((k : Int).toNat) c = _
        rw [Int.toNat_natCast, hkk]
        congr 1
        unfold slA
        split
        · rfl
        · rw [Option.map_some, add_none, Nat.zero_mul, Nat.add_zero]
      · have hcut := row_cut hr2 (k := k) (by omega)
        have hpl : (dcs P).length = j * 32 := by rw [dcs_len hP, hPl]
        have ee : (splice (dcs P) (k * 32) (zeros (j - k) Z27)).take (k * 32) = dcs (keep met r) := by
          unfold splice
          rw [List.append_assoc, List.take_append_of_le_length (by rw [List.length_take, hpl]; have := Nat.mul_le_mul_right 32 (show k ≤ j by omega); omega), List.take_take, Nat.min_self, ← dcs_take hP, htk]
        rw [ee] at hcut
        rw [hkk]; exact hcut
end Go.Proofs.Ytbifohpdlknjiaa
