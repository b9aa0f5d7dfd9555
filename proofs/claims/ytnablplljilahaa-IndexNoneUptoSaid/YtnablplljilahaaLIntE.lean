/- ints: left -/
import Derived.Test.YtnablplljilahaaLIntD
namespace Go.Proofs.Ytnablplljilahaa
open Go.GV Go.RowKit Go.Lib
set_option linter.unusedVariables false
set_option linter.unusedSimpArgs false
/-! ### left -/
structure SegAt (w : World) (b : Nat) (S : Option Addr) (m cs : Nat) (sg : List Int) : Prop where
  rc : RecAt w b 34 [.slice S m cs]
  sl : Sl w 1 S m (ivs sg)
  hm : m ≤ 17179869184
theorem SegAt.fr {D : Nat → Prop} {w w' : World} {b : Nat} {S : Option Addr} {m cs : Nat} {sg : List Int} (f : Fr D w w') (h : SegAt w b S m cs sg) (h1 : ¬ D b) (h2 : m ≠ 0 → ∀ k, blkOf S = some k → ¬ D k) : SegAt w' b S m cs sg :=
  ⟨h.rc.fr f h1, f.sl h.sl h2, h.hm⟩
theorem lclos_calls (y : Int) (b : Nat) (S : Option Addr) (m cs : Nat) (sg : List Int) (w : World) (h : SegAt w b S m cs sg) :
    Calls Try.prog 52 #[.int .i64 y, .pointer (some ⟨b, 0, none⟩)] w fun e w' => e = .returned (.bool (!(decide (y ∈ sg)))) ∧ w' = w := by
  refine (F52.of y (b, 0) w (Q := fun v w' => v = .bool (!(decide (y ∈ sg))) ∧ w' = w) ?_).mono (fun e w' ⟨v, he, hv, h⟩ => ⟨by rw [he, hv], h⟩)
  refine ⟨_, _, _, h.rc.cell rfl, (contains_calls S m cs sg y w h.sl h.hm).mono ?_⟩
  rintro e w2 ⟨rfl, rfl⟩
  exact ⟨_, rfl, rfl, rfl⟩
def keep (sg l : List Int) : List Int := l.filter (fun y => decide (y ∈ sg))
theorem keep_snoc {sg l : List Int} {i : Nat} {x : Int} (h : l[i]? = some x) : keep sg (l.take (i + 1)) = keep sg (l.take i) ++ (if x ∈ sg then [x] else []) := by
  unfold keep
  rw [take_succ_at h, List.filter_append]
  by_cases hx : x ∈ sg
  · rw [if_pos hx, List.filter_cons_of_pos (by simpa using hx)]; rfl
  · rw [if_neg hx, List.filter_cons_of_neg (by simpa using hx)]; rfl
theorem lindex_calls (A : Option Addr) (n c : Nat) (l : List Int) (b : Nat) (S : Option Addr) (m cs : Nat) (sg : List Int) (w : World) (hs : Sl w 1 A n (ivs l)) (h : SegAt w b S m cs sg) (hn : n ≤ 17179869184) :
    Calls Try.prog 61 #[.slice A n c, .func (.func 52) #[] #[.pointer (some ⟨b, 0, none⟩)]] w fun e w' => w' = w ∧ ((∃ i : Nat, i < n ∧ e = .returned (.int .i64 i) ∧ keep sg (l.take i) = l.take i ∧ ∃ y, l[i]? = some y ∧ y ∉ sg) ∨ (e = .returned (.int .i64 (-1)) ∧ keep sg l = l)) := by
  refine (F61t.of A n c (b, 0) w (Q := fun v w' => w' = w ∧ ((∃ i : Nat, i < n ∧ v = .int .i64 i ∧ keep sg (l.take i) = l.take i ∧ ∃ y, l[i]? = some y ∧ y ∉ sg) ∨ (v = .int .i64 (-1) ∧ keep sg l = l))) ?_).mono (fun e w' ⟨v, he, hf, hv⟩ => ⟨hf, by
    rcases hv with ⟨i, h1, h2, h3⟩ | ⟨h1, h2⟩
    · exact .inl ⟨i, h1, by rw [he, h2], h3⟩
    · exact .inr ⟨by rw [he, h1], h2⟩⟩)
  have hl := sl_n hs
  refine jnC_mk (loop_rule (fun s u => u = w ∧ ∃ i : Nat, i ≤ n ∧ s = ((A, n, c), (b, 0), (n : Int), (i : Int), ()) ∧ keep sg (l.take i) = l.take i) (fun s _ => (n - s.2.2.2.1).toNat) ?_ _ _ ⟨rfl, 0, by omega, rfl, rfl⟩)
  rintro s u C ⟨rfl, i, hi, rfl, hk⟩ hC _
  refine vIf_mk (fun hlt => ?_) (fun hge => ?_)
  · have hlt2 : (i : Int) < (n : Int) := of_decide_eq_true hlt
    have gi := at_lt (l := l) (i := i) (by omega)
    have hsn := keep_snoc (sg := sg) gi
    refine sl_rd hs (by omega) gi ((lclos_calls _ b S m cs sg u h).mono ?_)
    rintro e u2 ⟨rfl, rfl⟩
    refine ⟨_, rfl, vIf_mk (fun hout => ?_) (fun hin => ?_)⟩
    · have hout : l[i]'(by omega) ∉ sg := by simpa using hout
      exact ⟨rfl, .inl ⟨i, by omega, rfl, hk, _, gi, hout⟩⟩
    · have hin : l[i]'(by omega) ∈ sg := by simpa using hin
      rw [if_pos hin, hk] at hsn
      refine jnC_mk (hC _ _ ⟨rfl, i + 1, by omega, by rw [ei i (by omega)], by rw [hsn, take_succ_at gi]⟩ ?_)
      show ((n : Int) - IntKind.wrap .i64 ((i : Int) + 1)).toNat < ((n : Int) - (i : Int)).toNat
      rw [ei i (by omega)]; omega
  · have hge2 : ¬ (i : Int) < (n : Int) := of_decide_eq_false hge
    rw [List.take_of_length_le (by omega)] at hk
    exact ⟨rfl, .inr ⟨rfl, hk⟩⟩
set_option maxHeartbeats 1000000 in
theorem delete_calls (B : Nat) (e : TypeId) (A : Option Addr) (n c : Nat) (l : List Int) (b : Nat) (S : Option Addr) (m cs : Nat) (sg : List Int) (w : World) (hr : Row w B e 1 A n c (ivs l)) (h : SegAt w b S m cs sg) (hn : n ≤ 17179869184) (hB : b < B) (hB2 : m ≠ 0 → ∀ k, blkOf S = some k → k < B) :
    Calls Try.prog 51 #[.slice A n c, .func (.func 52) #[] #[.pointer (some ⟨b, 0, none⟩)]] w fun e' w' => e' = .returned (.slice A (keep sg l).length c) ∧ Fr (fun k => blkOf A = some k) w w' ∧ Row w' B e 1 A (keep sg l).length c (ivs (keep sg l)) := by
  refine (F51s.of A n c (b, 0) w (Q := fun v w' => v = .slice A (keep sg l).length c ∧ Fr (fun k => blkOf A = some k) w w' ∧ Row w' B e 1 A (keep sg l).length c (ivs (keep sg l))) ?_).mono (fun e w' ⟨v, he, hv, h⟩ => ⟨by rw [he, hv], h⟩)
  have hrl := sl_n hr.sl
  have hle := hr.le
  refine (lindex_calls A n c l b S m cs sg w hr.sl h hn).mono ?_
  rintro e1 w1 ⟨rfl, h1⟩
  rcases h1 with ⟨i0, hi0, rfl, hk0, d0, g0, hd0⟩ | ⟨rfl, hk⟩
  rotate_left
  · refine ⟨_, rfl, vIf_t rfl ⟨by rw [hk, hrl], Fr.refl _ _, ?_⟩⟩
    rw [hk, hrl]
    exact hr
  refine ⟨_, rfl, vIf_f (by simp) (jnC_mk ?_)⟩
  obtain ⟨ba, hA⟩ : ∃ ba, A = some ⟨ba, 0, none⟩ := by
    rcases hr.at_ with ⟨_, h0, _⟩ | ⟨ba, _, hA, _⟩
    · omega
    · exact ⟨ba, hA⟩
  subst hA
  have hBa := (hr.blt (b := ba) rfl).1
  have hi1 : keep sg (l.take (i0 + 1)) = l.take i0 := by rw [keep_snoc g0, if_neg hd0, List.append_nil, hk0]
  have hHeld : ∀ v, Fr (fun k => blkOf (some (⟨ba, 0, none⟩ : Addr)) = some k) w1 v → SegAt v b S m cs sg := fun v fv => by
    refine h.fr fv (fun h' => ?_) (fun hm0 k hk h' => ?_)
    · simp only [blkOf, Option.some.injEq] at h'
      omega
    · simp only [blkOf, Option.some.injEq] at h'
      have := hB2 hm0 k hk
      omega
  refine loop_rule (fun s u => Fr (fun k => blkOf (some (⟨ba, 0, none⟩ : Addr)) = some k) w1 u ∧ ∃ (j : Nat) (P : List Int), i0 + 1 ≤ j ∧ j ≤ n ∧ P.length = n ∧ Row u B e 1 (some ⟨ba, 0, none⟩) n c (ivs P) ∧ (keep sg (l.take j)).length < j ∧ P.take (keep sg (l.take j)).length = keep sg (l.take j) ∧ (∀ q, j ≤ q → P[q]? = l[q]?) ∧
      s = ((some ⟨ba, 0, none⟩, n, c), (b, 0), (((keep sg (l.take j)).length : Nat) : Int), (j : Int), ()))
    (fun s _ => (n - s.2.2.2.1).toNat) ?_ _ _ ⟨Fr.refl _ _, i0 + 1, l, by omega, by omega, hrl, hr, ?_, ?_, fun q _ => rfl, ?_⟩
  rotate_left
  · rw [hi1, List.length_take]; omega
  · rw [hi1, List.length_take, Nat.min_eq_left (by omega)]
  · rw [hi1, List.length_take, Nat.min_eq_left (by omega), ei i0 (by omega)]
  rintro s u C ⟨hf, j, P, hj1, hjn, hPl, hru, hk, htk, hdp, rfl⟩ hC _
  generalize hkk : (keep sg (l.take j)).length = k at hk htk
  refine vIf_mk (fun hlt => ?_) (fun hge => ?_)
  · have hlt2 : (j : Int) < (n : Int) := of_decide_eq_true hlt
    have gj := at_lt (l := l) (i := j) (by omega)
    have hsn := keep_snoc (sg := sg) gj
    generalize l[j]'(by omega) = x at gj hsn
    have hmeas : ((n : Int) - IntKind.wrap .i64 ((j : Int) + 1)).toNat < ((n : Int) - (j : Int)).toNat := by rw [ei j (by omega)]; omega
    refine sl_rd hru.sl (by omega) ((hdp j (Nat.le_refl _)).trans gj) ((lclos_calls x b S m cs sg u (hHeld u hf)).mono ?_)
    rintro e4 u4 ⟨rfl, rfl⟩
    refine ⟨_, rfl, vIf_mk (fun hnd => ?_) (fun hde => ?_)⟩
    · have hin : x ∈ sg := by simpa using hnd
      rw [if_pos hin] at hsn
      refine dr_mk (gd_mk (decide_eq_true (by show (0 : Int) ≤ (k : Int); omega)) (gd_mk (decide_eq_true (by show (k : Int) < (n : Int); omega)) ?_))
      show st u4 ba (0 + ((k : Int)).toNat * 1) _ _
      rw [Int.toNat_natCast]
      refine row_put (A := some ⟨ba, 0, none⟩) (o' := k * 1) hru (by omega) (by simp; omega) (fun v hv => by simp at hv; subst hv; rfl) (fun u5 hr5 f5 => jnC_mk (hC _ _ ⟨hf.trans1 f5, j + 1, P.set k x, by omega, by omega, by simpa using hPl, ?_, ?_, ?_, ?_, ?_⟩ hmeas))
      · rw [ivs_set (by omega)]; exact hr5
      · rw [hsn, List.length_append, hkk]; simp; omega
      · rw [hsn, List.length_append, hkk]
        show (P.set k x).take (k + 1) = _
        rw [List.take_add_one, List.getElem?_set_self (by omega), Option.toList_some, List.take_set_of_le (Nat.le_refl k), htk]
      · intro q hq
        rw [List.getElem?_set_ne (by omega)]
        exact hdp q (by omega)
      · rw [hsn, List.length_append, hkk, ei j (by omega)]
        show (_, _, IntKind.wrap .i64 ((k : Int) + 1), _, ()) = _
        rw [ei k (by omega)]; rfl
    · have hout : x ∉ sg := by simpa using hde
      rw [if_neg hout, List.append_nil] at hsn
      refine jnC_mk (hC _ _ ⟨hf, j + 1, P, by omega, by omega, hPl, hru, by rw [hsn, hkk]; omega, by rw [hsn, hkk]; exact htk, fun q hq => hdp q (by omega), by rw [hsn, hkk, ei j (by omega)]⟩ hmeas)
  · have hge2 : ¬ (j : Int) < (n : Int) := of_decide_eq_false hge
    have hjn2 : j = n := by omega
    subst hjn2
    have hta : l.take j = l := List.take_of_length_le (by omega)
    rw [hta] at hkk htk
    dsimp only
    simp only [Int.toNat_natCast]
    refine gd_mk (decide_eq_true (by omega)) (gd_mk (decide_eq_true (by omega)) (vIf_f (by simp; omega) ?_))
    refine row_clear hru (by omega) (fun u2 hr2 f2 => jnC_mk (fun _ => ?_))
    refine gd_mk (decide_eq_true (by show (0 : Int) ≤ (k : Int); omega)) (gd_mk (decide_eq_true (by show (k : Int) ≤ (c : Int); omega)) ⟨?_, hf.trans1 (f2.mono (fun q _ hq => by subst hq; rfl)), ?_⟩)
    · show Value.slice (slA (some ⟨ba, 0, none⟩) c 0 1) ((k : Int).toNat) c = _
      rw [Int.toNat_natCast, hkk, slA_zero]
    · rw [hkk]
      rw [htk] at hr2
      exact hr2
theorem keep_norm (sg l : List Int) : keep sg (norm l) = both l sg := by
  refine AscI.unique ((norm_asc l).sublist List.filter_sublist) (norm_asc _) (fun y => ?_)
  unfold keep both
  rw [norm_mem, List.mem_filter, List.mem_filter, norm_mem]
theorem left_calls (A : Option Addr) (n c : Nat) (l : List Int) (S : Option Addr) (m cs : Nat) (sg : List Int) (w : World) (hs : Sl w 1 A n (ivs l)) (hsg : Sl w 1 S m (ivs sg)) (hn : n ≤ 17179869184) (hm : m ≤ 17179869184) :
    Calls Try.prog 41 #[.slice A n c, .slice S m cs] w fun e w' => Fr (fun _ => False) w w' ∧ ∃ A' c', e = .returned (.slice A' (both l sg).length c') ∧ Row w' w.heap.size 3 1 A' (both l sg).length c' (ivs (both l sg)) := by
  refine (F41.of A n c S m cs w (Q := fun v w' => Fr (fun _ => False) w w' ∧ ∃ A' c', v = .slice A' (both l sg).length c' ∧ Row w' w.heap.size 3 1 A' (both l sg).length c' (ivs (both l sg))) ?_).mono (fun e w' ⟨v, he, hf, A', c', hv, h⟩ => ⟨hf, A', c', by rw [he, hv], h⟩)
  have hrl := sl_n hs
  refine nw_mk (nw_mk ?_)
  have f1 : Fr (fun _ => False) w (w.alloc (.cells [Value.slice S m cs].toArray 34)) := Fr.alloc _ _ _
  have r1 := RecAt.new w [Value.slice S m cs] 34
  generalize w.alloc (.cells [Value.slice S m cs].toArray 34) = w1 at f1 r1 ⊢
  rw [List.append_nil]
  have f2 : Fr (fun _ => False) w1 (w1.alloc (.cells [Value.slice A n c].toArray 34)) := Fr.alloc _ _ _
  have r2 : Row (w1.alloc (.cells [Value.slice A n c].toArray 34)) 0 34 1 (some ⟨w1.heap.size, 0, none⟩) 1 1 [Value.slice A n c] := Row.new (Nat.zero_le _) rfl
  have r12 := r1.fr f2 (fun h => h)
  generalize w1.alloc (.cells [Value.slice A n c].toArray 34) = w2 at f2 r2 r12 ⊢
  have g2 := f1.trans1 f2
  have hsg2 : SegAt w2 w.heap.size S m cs sg := ⟨r12, g2.sl hsg (fun _ _ _ h => h), hm⟩
  refine (row_calls _ 1 1 _ [l] w2 r2.sl rfl (fun i x hi => ?_) (by simp; omega) (by omega)).mono ?_
  · cases i with
    | zero =>
      injection hi with hi
      subst hi
      exact ⟨A, n, c, rfl, g2.sl hs (fun _ _ _ h => h)⟩
    | succ i => cases hi
  rintro e w3 ⟨f3, A3, c3, rfl, h3⟩
  have hfl : [l].flatten = l := by simp
  rw [hfl] at h3 ⊢
  refine ⟨_, _, _, rfl, ?_⟩
  have hnl := norm_len l
  refine (delete_calls w2.heap.size _ A3 _ c3 (norm l) w.heap.size S m cs sg w3 h3 (hsg2.fr f3 (fun h => h) (fun _ _ _ h => h)) (by omega) r12.lt (fun hm0 k hk => hsg2.sl.blt (by decide) hm0 hk)).mono ?_
  rintro e w4 ⟨rfl, f4, h4⟩
  rw [keep_norm] at h4 ⊢
  exact ⟨_, _, _, rfl, g2.trans1 (own_fr f3 h3 f4), A3, c3, rfl, row_low g2.size h4⟩
end Go.Proofs.Ytnablplljilahaa
