/- rows of digests: Compact, Row, Has -/
import Derived.Test.YtnablplljilahaaLDRowE
namespace Go.Proofs.Ytnablplljilahaa.Dg
open Go.GV Go.RowKit Go.Lib
set_option linter.unusedVariables false
set_option linter.unusedSimpArgs false
theorem dcs_set {P : List Dig} {k : Nat} {d : Dig} (h : W32 P) (hd : d.length = 32) (hk : k < P.length) : dcs (P.set k d) = splice (dcs P) (k * 32) (d.map bv) := by
  have h' : W32 (P.set k d) := by
    intro x hx
    rcases List.mem_or_eq_of_mem_set hx with h1 | h1
    · exact h x h1
    · subst h1; exact hd
  have hl := dcs_len h
  have hl' := dcs_len h'
  rw [List.length_set] at hl'
  have hfit : k * 32 + (d.map bv).length ≤ (dcs P).length := by rw [hl, List.length_map, hd]; omega
  apply List.ext_getElem?
  intro t
  rw [splice_get hfit]
  by_cases ht : t < P.length * 32
  · have e : t / 32 * 32 + t % 32 = t := by omega
    have hi : t / 32 < P.length := by omega
    by_cases hkt : k = t / 32
    · have h1 := (dcs_flat h').2 (t / 32) d (t % 32) (by rw [hkt, List.getElem?_set_self hi]) (by omega)
      rw [e] at h1
      rw [h1, if_neg (by omega), if_pos (by rw [List.length_map, hd]; omega)]
      congr 1; omega
    · have h1 := (dcs_flat h').2 (t / 32) (P[t / 32]'hi) (t % 32) (by rw [List.getElem?_set_ne hkt, List.getElem?_eq_getElem hi]) (by omega)
      have h2 := (dcs_flat h).2 (t / 32) (P[t / 32]'hi) (t % 32) (List.getElem?_eq_getElem hi) (by omega)
      rw [e] at h1 h2
      rw [h1, ← h2, List.length_map, hd]
      by_cases h3 : t < k * 32
      · rw [if_pos h3]
      · rw [if_neg h3, if_neg (by omega)]
  · rw [List.getElem?_eq_none (by omega), List.length_map, hd, if_neg (by omega), if_neg (by omega), List.getElem?_eq_none (by omega)]
theorem eqAB_dig {a b : Dig} {K : Bool → Prop} (ha : a.length = 32) (hb : b.length = 32) (hK : K (a == b)) : eqAB 32 (a.map bv) (b.map bv) K := eqAB_bytes ha hb hK
set_option maxHeartbeats 1000000 in
theorem compact_dig (B : Nat) (e : TypeId) (A : Option Addr) (c : Nat) (r : List Dig) (n : Nat) (w : World) (h : Row w B e 32 A n c (dcs r)) (hw : W32 r) (hn : n ≤ 1099511627776) :
    Calls Try.prog 57 #[.slice A n c] w fun e' w' => e' = .returned (.slice A (cpt r n).length c) ∧ Fr (fun k => blkOf A = some k) w w' ∧ Row w' B e 32 A (cpt r n).length c (dcs (cpt r n)) := by
  refine (F57.of A n c w (Q := fun v w' => v = .slice A (cpt r n).length c ∧ Fr (fun k => blkOf A = some k) w w' ∧ Row w' B e 32 A (cpt r n).length c (dcs (cpt r n))) ?_).mono (fun e w' ⟨v, he, hv, h⟩ => ⟨by rw [he, hv], h⟩)
  have hrl := sl_len h.sl hw
  have whole : ∀ i, i ≤ n → cpt r i = r.take i → i = n → ∀ u, Fr (fun k => blkOf A = some k) w u → Row u B e 32 A n c (dcs r) → (Value.slice A n c = .slice A (cpt r n).length c ∧ Fr (fun k => blkOf A = some k) w u ∧ Row u B e 32 A (cpt r n).length c (dcs (cpt r n))) := by
    intro i hi hc he u hf hr
    subst he
    rw [hc, List.take_of_length_le (by omega), hrl]
    exact ⟨rfl, hf, hr⟩
  refine vIf_mk (fun h2 => ?_) (fun h2 => jnC_mk ?_)
  · have h2 : (n : Int) < 2 := of_decide_eq_true h2
    refine whole n (Nat.le_refl _) ?_ rfl w (Fr.refl _ _) h
    match n, h2 with
    | 0, _ => rfl
    | 1, _ => simp [cpt, List.take_one, List.head?_eq_getElem?]
    | n + 2, h2 => omega
  have h2 : ¬ (n : Int) < 2 := of_decide_eq_false h2
  have hle := h.le
  obtain ⟨b, hA⟩ : ∃ b, A = some ⟨b, 0, none⟩ := by
    rcases h.at_ with ⟨_, h0, _⟩ | ⟨b, _, hA, _⟩
    · omega
    · exact ⟨b, hA⟩
  subst hA
  refine loop_rule (fun s u => Fr (fun k => blkOf (some (⟨b, 0, none⟩ : Addr)) = some k) w u ∧ Row u B e 32 (some ⟨b, 0, none⟩) n c (dcs r) ∧ ∃ i : Nat, 1 ≤ i ∧ i ≤ n ∧ s = ((some ⟨b, 0, none⟩, n, c), (i : Int), ()) ∧ cpt r i = r.take i)
    (fun s _ => (n - s.2.1).toNat) ?_ _ _ ⟨Fr.refl _ _, h, 1, by omega, by omega, rfl, by simp [cpt, List.take_one, List.head?_eq_getElem?]⟩
  rintro s u C4 ⟨hf, hr, i, hi1, hi, rfl, hc⟩ hC4 _
  refine vIf_mk (fun hlt => ?_) (fun hge => ?_)
  · have hlt2 : (i : Int) < (n : Int) := of_decide_eq_true hlt
    have hrd := (Fr.drew (fun _ => False) u).row hr (fun _ _ h => h)
    obtain ⟨b', o', hA, hcell⟩ := sl_dig hrd.sl hw (i := i) (by omega)
    cases hA
    have ei : IntKind.wrap .i64 ((i : Int) - 1) = ((i - 1 : Nat) : Int) := by rw [i64_id (by omega) (by omega)]; omega
    have gi : r[i]? = some (r[i]'(by omega)) := List.getElem?_eq_getElem (by omega)
    have gp : r[i - 1]? = some (r[i - 1]'(by omega)) := List.getElem?_eq_getElem (by omega)
    have li := hw.at gi
    have lp := hw.at gp
    dsimp only
    rw [ei]
    simp only [Int.toNat_natCast]
    refine dr_mk (gd_mk (decide_eq_true (by omega)) (gd_mk (decide_eq_true (by omega)) ⟨_, by rw [List.length_map]; exact li, hcell i _ gi, dr_mk (gd_mk (decide_eq_true (by omega)) (gd_mk (decide_eq_true (by omega)) ⟨_, by rw [List.length_map]; exact lp, hcell (i - 1) _ gp, eqAB_dig li lp ?_⟩))⟩))
    refine vIf_mk (fun he => ?_) (fun hne => ?_)
    · have he : r[i]'(by omega) = r[i - 1]'(by omega) := by simpa using he
      have hsame : cpt r (i + 1) = r.take i := by
        rw [cpt, if_pos ⟨by omega, by rw [gi, gp, he]⟩, List.append_nil, hc]
      refine gd_mk (decide_eq_true (by omega)) (gd_mk (decide_eq_true (by omega)) (jnC_mk ?_))
      have hsl : slA (some (⟨b, 0, none⟩ : Addr)) c i 32 = some ⟨b, 0 + i * 32, none⟩ := by
        unfold slA
        rw [if_neg (by omega), Option.map_some, add_none]
      rw [hsl]
      refine loop_rule (fun s u => Fr (fun k => blkOf (some (⟨b, 0, none⟩ : Addr)) = some k) w u ∧ ∃ (j : Nat) (P : List Dig), 1 ≤ j ∧ i + j ≤ n ∧ W32 P ∧ P.length = n ∧ Row u B e 32 (some ⟨b, 0, none⟩) n c (dcs P) ∧ (cpt r (i + j)).length < i + j ∧ P.take (cpt r (i + j)).length = cpt r (i + j) ∧ P.drop (cpt r (i + j)).length = r.drop (cpt r (i + j)).length ∧
          s = ((some ⟨b, 0, none⟩, n, c), (((cpt r (i + j)).length : Nat) : Int), (some ⟨b, 0 + i * 32, none⟩, n - i, c - i), (j : Int), ()))
        (fun s _ => (n - s.2.2.2.1).toNat) ?_ _ _ ⟨hf.trans (Fr.drew (fun _ => False) u) (fun _ _ h => h) (fun _ _ h => h.elim), 1, r, by omega, by omega, hw, hrl, hrd, ?_, ?_, ?_, ?_⟩
      rotate_left
      · rw [hsame, List.length_take]; omega
      · rw [hsame, List.length_take, Nat.min_eq_left (by omega)]
      · rfl
      · rw [hsame, List.length_take, Nat.min_eq_left (by omega)]; rfl
      clear hC4 hf hr hrd hcell
      rintro s u C9 ⟨hf, j, P, hj1, hjn, hP, hPl, hr, hk, htk, hdp, rfl⟩ hC9 _
      generalize hkk : (cpt r (i + j)).length = k at hk htk hdp
      have hrd := (Fr.drew (fun _ => False) u).row hr (fun _ _ h => h)
      have hget : ∀ q, k ≤ q → P[q]? = r[q]? := by
        intro q hq
        have h1 : (P.drop k)[q - k]? = (r.drop k)[q - k]? := by rw [hdp]
        rw [List.getElem?_drop, List.getElem?_drop, show k + (q - k) = q by omega] at h1
        exact h1
      refine vIf_mk (fun hlt => ?_) (fun hge => ?_)
      · have hlt3 : (j : Int) < ((n - i : Nat) : Int) := of_decide_eq_true hlt
        obtain ⟨b', o', hA, hcell⟩ := sl_dig hrd.sl hP (i := i + j) (by omega)
        cases hA
        have ej : IntKind.wrap .i64 ((j : Int) - 1) = ((j - 1 : Nat) : Int) := by rw [i64_id (by omega) (by omega)]; omega
        have gi : r[i + j]? = some (r[i + j]'(by omega)) := List.getElem?_eq_getElem (by omega)
        have gp : r[i + j - 1]? = some (r[i + j - 1]'(by omega)) := List.getElem?_eq_getElem (by omega)
        have li := hw.at gi
        have lp := hw.at gp
        have ci := hcell (i + j) _ ((hget _ (by omega)).trans gi)
        have cp := hcell (i + j - 1) _ ((hget _ (by omega)).trans gp)
        have oi : 0 + i * 32 + j * 32 = 0 + (i + j) * 32 := by omega
        have op : 0 + i * 32 + (j - 1) * 32 = 0 + (i + j - 1) * 32 := by omega
        rw [← oi] at ci
        rw [← op] at cp
        dsimp only
        rw [ej]
        simp only [Int.toNat_natCast]
        refine dr_mk (gd_mk (decide_eq_true (by omega)) (gd_mk (decide_eq_true hlt3) ⟨_, by rw [List.length_map]; exact li, ci, dr_mk (gd_mk (decide_eq_true (by omega)) (gd_mk (decide_eq_true (by omega)) ⟨_, by rw [List.length_map]; exact lp, cp, eqAB_dig li lp ?_⟩))⟩))
        have enext : IntKind.wrap .i64 ((j : Int) + 1) = ((j + 1 : Nat) : Int) := by rw [i64_id (by omega) (by omega)]; rfl
        refine vIf_mk (fun hne => ?_) (fun he => ?_)
        · have hne2 : r[i + j]'(by omega) ≠ r[i + j - 1]'(by omega) := by
            intro he; rw [he] at hne; simp at hne
          have hnx : cpt r (i + (j + 1)) = cpt r (i + j) ++ [r[i + j]'(by omega)] := by
            rw [← Nat.add_assoc, cpt, if_neg, gi, Option.toList_some]
            rintro ⟨_, h'⟩
            rw [gi, gp] at h'
            exact hne2 (Option.some.inj h')
          refine dr_mk (gd_mk (decide_eq_true (by omega)) (gd_mk (decide_eq_true hlt3) ⟨_, by rw [List.length_map]; exact li, ci, dr_mk (gd_mk (decide_eq_true (by omega)) (gd_mk (decide_eq_true (by omega)) (gd_mk (by rw [List.length_map, li]; rfl) ?_)))⟩))
          refine row_splice (A := some ⟨b, 0, none⟩) (o' := k * 32) hrd (by omega) (by rw [List.length_map, li]; omega) (bvs_one _) (fun u2 hr2 f2 => jnC_mk (hC9 _ _ ⟨?_, j + 1, P.set k (r[i + j]'(by omega)), by omega, by omega, ?_, by simpa using hPl, ?_, ?_, ?_, ?_, ?_⟩ ?_))
          · exact (hf.trans (Fr.drew (fun _ => False) u) (fun _ _ h => h) (fun _ _ h => h.elim)).trans1 f2
          · intro x hx
            rcases List.mem_or_eq_of_mem_set hx with h1 | h1
            · exact hP x h1
            · subst h1; exact li
          · rw [dcs_set hP li (by omega)]; exact hr2
          · rw [hnx, List.length_append, hkk]; simp; omega
          · rw [hnx, List.length_append, hkk]
            show (P.set k _).take (k + 1) = _
            rw [List.take_add_one, List.getElem?_set_self (by omega), Option.toList_some, List.take_set_of_le (Nat.le_refl k), htk]
          · rw [hnx, List.length_append, hkk]
            show (P.set k _).drop (k + 1) = r.drop (k + 1)
            rw [List.drop_set_of_lt (by omega)]
            have h3 := congrArg (List.drop 1) hdp
            rw [List.drop_drop, List.drop_drop] at h3
            exact h3
          · rw [hnx, List.length_append, hkk, enext]
            show (_, IntKind.wrap .i64 ((k : Int) + 1), _, _, ()) = _
            rw [i64_id (by omega) (by omega)]; rfl
          · show ((n : Int) - IntKind.wrap .i64 ((j : Int) + 1)).toNat < ((n : Int) - (j : Int)).toNat
            rw [enext]; omega
        · have he2 : r[i + j]'(by omega) = r[i + j - 1]'(by omega) := by simpa using he
          have hnx : cpt r (i + (j + 1)) = cpt r (i + j) := by
            rw [← Nat.add_assoc, cpt, if_pos ⟨by omega, by rw [gi, gp, he2]⟩, List.append_nil]
          refine jnC_mk (hC9 _ _ ⟨hf.trans (Fr.drew (fun _ => False) u) (fun _ _ h => h) (fun _ _ h => h.elim), j + 1, P, by omega, by omega, hP, hPl, hrd, by rw [hnx, hkk]; omega, by rw [hnx, hkk]; exact htk, by rw [hnx, hkk]; exact hdp, ?_⟩ ?_)
          · rw [hnx, hkk, enext]
          · show ((n : Int) - IntKind.wrap .i64 ((j : Int) + 1)).toNat < ((n : Int) - (j : Int)).toNat
            rw [enext]; omega
      · have hge3 : ¬ (j : Int) < ((n - i : Nat) : Int) := of_decide_eq_false hge
        have hij : i + j = n := by omega
        rw [hij] at hkk htk
        have hsk : slA (some (⟨b, 0, none⟩ : Addr)) c k 32 = some ⟨b, 0 + k * 32, none⟩ := by
          unfold slA
          rw [if_neg (by omega), Option.map_some, add_none]
        dsimp only
        simp only [Int.toNat_natCast]
        rw [hsk]
        refine gd_mk (decide_eq_true (by omega)) (gd_mk (decide_eq_true (by omega)) (vIf_f (by simp; omega) ?_))
        have hZ : Z29.length = 32 := by decide +kernel
        refine row_splice (A := some ⟨b, 0, none⟩) (o' := k * 32) hr (by omega) (by rw [zeros_length, hZ, ← Nat.add_mul]; exact Nat.mul_le_mul_right _ (by omega)) (fun v hv => ?_) (fun u2 hr2 f2 => jnC_mk (fun _ => ?_))
        · simp only [zeros, List.mem_flatten, List.mem_replicate] at hv
          obtain ⟨l, ⟨_, rfl⟩, hv⟩ := hv
          revert v
          decide +kernel
        · refine gd_mk (decide_eq_true (by show (0 : Int) ≤ (k : Int); omega)) (gd_mk (decide_eq_true (by show (k : Int) ≤ (c : Int); omega)) ⟨?_, hf.trans1 f2, ?_⟩)
          · show Value.slice (slA (some ⟨b, 0, none⟩) c 0 32) ((k : Int).toNat) c = _
            rw [Int.toNat_natCast, hkk]
            congr 1
            unfold slA
            split
            · rfl
            · rw [Option.map_some, add_none, Nat.zero_mul, Nat.add_zero]
          · have hcut := row_cut hr2 (k := k) (by omega)
            have hpl : (dcs P).length = n * 32 := by rw [dcs_len hP, hPl]
            have e : (splice (dcs P) (k * 32) (zeros (n - k) Z29)).take (k * 32) = dcs (cpt r n) := by
              unfold splice
              rw [List.append_assoc, List.take_append_of_le_length (by rw [List.length_take, hpl]; have := Nat.mul_le_mul_right 32 (show k ≤ n by omega); omega), List.take_take, Nat.min_self, ← dcs_take hP, htk]
            rw [e] at hcut
            rw [hkk]; exact hcut
    · have hne2 : r[i]'(by omega) ≠ r[i - 1]'(by omega) := by
        intro he; rw [he] at hne; simp at hne
      refine jnC_mk (hC4 _ _ ⟨hf.trans (Fr.drew (fun _ => False) u) (fun _ _ h => h) (fun _ _ h => h.elim), hrd, i + 1, by omega, by omega, ?_, ?_⟩ ?_)
      · show (_, IntKind.wrap .i64 ((i : Int) + 1), ()) = _
        rw [i64_id (by omega) (by omega)]; rfl
      · rw [cpt, if_neg, hc, List.take_add_one]
        rintro ⟨_, h'⟩
        rw [gi, gp] at h'
        exact hne2 (Option.some.inj h')
      · show ((n : Int) - IntKind.wrap .i64 ((i : Int) + 1)).toNat < ((n : Int) - (i : Int)).toNat
        rw [i64_id (by omega) (by omega)]; omega
  · have hge2 : ¬ (i : Int) < (n : Int) := of_decide_eq_false hge
    exact whole i hi hc (by omega) u hf hr
end Go.Proofs.Ytnablplljilahaa.Dg
