/- chapter 51: Compact, the rows -/
import Derived.Test.YtegihbpdemjeaaaDoorHH
namespace Go.Proofs.YtegihbpdemjeaaaDoor
open Go.GV Go.RowKit Go.Lib
set_option linter.unusedVariables false
set_option linter.unusedSimpArgs false
theorem bs_rdA {w : World} {b n i j : Nat} {r : List Bs} (h : Sl w 1 (some (⟨b, 0, none⟩ : Addr)) n (bvs r)) (hi : i + j < n) {x : Bs} (hx : r[i + j]? = some x) {K : ByteArray → Prop} (hK : K (ba x)) :
    dr (some (⟨b, 0 + i * 1, none⟩ : Addr)) fun b o => gd (decide (0 ≤ (j : Int))) (gd (decide ((j : Int) < ((n - i : Nat) : Int))) (ldS w b (o + ((j : Int)).toNat * 1) K)) := by
  obtain ⟨b', o', hA, hc⟩ := bs_cell h (i := i + j) hi
  cases hA
  refine dr_mk (gd_mk (decide_eq_true (by omega)) (gd_mk (decide_eq_true (by omega)) ⟨ba x, ?_, hK⟩))
  rw [Int.toNat_natCast, Nat.mul_one, Nat.mul_one, Nat.add_assoc]
  exact hc (i + j) _ hx
theorem ba_ne (a b : Bs) : (!((ba a).toList == (ba b).toList)) = !decide (a = b) := by rw [ba_beq]
/-- writing one text of a row, at a place told by a number -/
theorem row_splice_gd {w : World} {B : Nat} {e : TypeId} {A : Option Addr} {n c k k' : Nat} {vs : List Value} {v : Value} {K : World → Prop} (hr : Row w B e 1 A n c vs) (hk : k < n) (hkk : k' = k) (h1 : ∀ u ∈ [v], u.oneCell' = true)
    (hK : ∀ w', Row w' B e 1 A n c (splice vs k [v]) → Fr (fun k => blkOf A = some k) w w' → K w') : dr A fun b o => gd (decide (0 ≤ ((k' : Nat) : Int))) (gd (decide (((k' : Nat) : Int) < ((n : Nat) : Int))) (st w b (o + (((k' : Nat) : Int)).toNat * 1) [v] K)) := by
  subst hkk
  obtain ⟨b, o, rfl, _⟩ := hr.sl.2 (by omega)
  have h := row_splice (o' := k') hr (by omega) (by simp; omega) h1 hK
  refine dr_mk (gd_mk (decide_eq_true (by omega)) (gd_mk (decide_eq_true (by omega)) ?_))
  rw [Int.toNat_natCast, Nat.mul_one]
  exact h
set_option maxHeartbeats 1000000 in
theorem compact_v (B : Nat) (e : TypeId) (A : Option Addr) (c : Nat) (r : List Bs) (n : Nat) (w : World) (h : Row w B e 1 A n c (bvs r)) (hn : n ≤ 1099511627776) :
    Calls Tryd.prog 29 #[.slice A n c] w fun e' w' => e' = .returned (.slice A (cpt r n).length c) ∧ Fr (fun k => blkOf A = some k) w w' ∧ Row w' B e 1 A (cpt r n).length c (bvs (cpt r n)) := by
  refine (F29.of A n c w (Q := fun v w' => v = .slice A (cpt r n).length c ∧ Fr (fun k => blkOf A = some k) w w' ∧ Row w' B e 1 A (cpt r n).length c (bvs (cpt r n))) ?_).mono (fun e w' ⟨v, he, hv, h⟩ => ⟨by rw [he, hv], h⟩)
  have hrl := bs_n h.sl
  have whole : ∀ i, i ≤ n → cpt r i = r.take i → i = n → ∀ u, Fr (fun k => blkOf A = some k) w u → Row u B e 1 A n c (bvs r) → (Value.slice A n c = .slice A (cpt r n).length c ∧ Fr (fun k => blkOf A = some k) w u ∧ Row u B e 1 A (cpt r n).length c (bvs (cpt r n))) := by
    intro i hi hc he u hf hr
    subst he
    rw [hc, List.take_of_length_le (by omega), hrl]
    exact ⟨rfl, hf, hr⟩
  refine vIf_mk (fun h2 => ?_) (fun h2 => jnC_mk ?_)
  · have h2 : (n : Int) < 2 := of_decide_eq_true h2
    refine whole n (Nat.le_refl _) ?_ rfl w (Fr.refl _ _) h
    match n, h2 with
    | 0, _ => rfl
    | 1, _ => simp [cpt, List.take_one, List.head?_eq_getElem?]
    | n + 2, h2 => omega
  have h2 : ¬ (n : Int) < 2 := of_decide_eq_false h2
  have hle := h.le
  obtain ⟨b, hA⟩ : ∃ b, A = some ⟨b, 0, none⟩ := by
    rcases h.at_ with ⟨_, h0, _⟩ | ⟨b, _, hA, _⟩
    · omega
    · exact ⟨b, hA⟩
  subst hA
  refine loop_rule (fun s u => Fr (fun k => blkOf (some (⟨b, 0, none⟩ : Addr)) = some k) w u ∧ Row u B e 1 (some ⟨b, 0, none⟩) n c (bvs r) ∧ ∃ i : Nat, 1 ≤ i ∧ i ≤ n ∧ s = ((some ⟨b, 0, none⟩, n, c), (i : Int), ()) ∧ cpt r i = r.take i)
    (fun s _ => (n - s.2.1).toNat) ?_ _ _ ⟨Fr.refl _ _, h, 1, by omega, by omega, rfl, by simp [cpt, List.take_one, List.head?_eq_getElem?]⟩
  rintro s u C4 ⟨hf, hr, i, hi1, hi, rfl, hc⟩ hC4 _
  refine vIf_mk (fun hlt => ?_) (fun hge => ?_)
  · have hlt2 : (i : Int) < (n : Int) := of_decide_eq_true hlt
    have hrd := (Fr.drew (fun _ => False) u).row hr (fun _ _ h => h)
    have ei1 : IntKind.wrap .i64 ((i : Int) - 1) = ((i - 1 : Nat) : Int) := by rw [i64_id (by omega) (by omega)]; omega
    have gi : r[i]? = some (r[i]'(by omega)) := List.getElem?_eq_getElem (by omega)
    have gp : r[i - 1]? = some (r[i - 1]'(by omega)) := List.getElem?_eq_getElem (by omega)
    generalize hxi : r[i]'(by omega) = xi at gi
    generalize hxp : r[i - 1]'(by omega) = xp at gp
    have fdu := hf.trans (Fr.drew (fun _ => False) u) (fun _ _ h => h) (fun _ _ h => h.elim)
    dsimp only
    rw [ei1]
    refine bs_rd hrd.sl (by omega) gi (bs_rd hrd.sl (by omega) gp ?_)
    rw [ba_beq]
    refine vIf_mk (fun he => ?_) (fun hne => ?_)
    · have he : xi = xp := of_decide_eq_true he
      have hsame : cpt r (i + 1) = r.take i := by
        rw [cpt, if_pos ⟨by omega, by rw [gi, gp, he]⟩, List.append_nil, hc]
      refine gd_mk (decide_eq_true (by omega)) (gd_mk (decide_eq_true (by omega)) (jnC_mk ?_))
      have hsl : slA (some (⟨b, 0, none⟩ : Addr)) c ((i : Int)).toNat 1 = some ⟨b, 0 + i * 1, none⟩ := by
        unfold slA
        rw [if_neg (by omega), Option.map_some, add_none, Int.toNat_natCast]
      rw [hsl, Int.toNat_natCast]
      refine loop_rule (fun s u => Fr (fun k => blkOf (some (⟨b, 0, none⟩ : Addr)) = some k) w u ∧ ∃ (j : Nat) (P : List Bs), 1 ≤ j ∧ i + j ≤ n ∧ P.length = n ∧ Row u B e 1 (some ⟨b, 0, none⟩) n c (bvs P) ∧ (cpt r (i + j)).length < i + j ∧ P.take (cpt r (i + j)).length = cpt r (i + j) ∧ P.drop (cpt r (i + j)).length = r.drop (cpt r (i + j)).length ∧
          s = ((some ⟨b, 0, none⟩, n, c), (((cpt r (i + j)).length : Nat) : Int), (some ⟨b, 0 + i * 1, none⟩, n - i, c - i), (j : Int), ()))
        (fun s _ => (n - s.2.2.2.1).toNat) ?_ _ _ ⟨fdu, 1, r, by omega, by omega, hrl, hrd, ?_, ?_, ?_, ?_⟩
      rotate_left
      · rw [hsame, List.length_take]; omega
      · rw [hsame, List.length_take, Nat.min_eq_left (by omega)]
      · rfl
      · rw [hsame, List.length_take, Nat.min_eq_left (by omega)]; rfl
      clear hC4 hf hr hrd fdu
      rintro s u C9 ⟨hf, j, P, hj1, hjn, hPl, hr, hk, htk, hdp, rfl⟩ hC9 _
      generalize hkk : (cpt r (i + j)).length = k at hk htk hdp
      have hrd := (Fr.drew (fun _ => False) u).row hr (fun _ _ h => h)
      have fdu := hf.trans (Fr.drew (fun _ => False) u) (fun _ _ h => h) (fun _ _ h => h.elim)
      have hget : ∀ q, k ≤ q → P[q]? = r[q]? := by
        intro q hq
        have h1 : (P.drop k)[q - k]? = (r.drop k)[q - k]? := by rw [hdp]
        rw [List.getElem?_drop, List.getElem?_drop, show k + (q - k) = q by omega] at h1
        exact h1
      refine vIf_mk (fun hlt => ?_) (fun hge => ?_)
      · have hlt3 : (j : Int) < ((n - i : Nat) : Int) := of_decide_eq_true hlt
        have ej : IntKind.wrap .i64 ((j : Int) - 1) = ((j - 1 : Nat) : Int) := by rw [i64_id (by omega) (by omega)]; omega
        have gi : r[i + j]? = some (r[i + j]'(by omega)) := List.getElem?_eq_getElem (by omega)
        have gp : r[i + j - 1]? = some (r[i + j - 1]'(by omega)) := List.getElem?_eq_getElem (by omega)
        generalize r[i + j]'(by omega) = yi at gi
        generalize r[i + j - 1]'(by omega) = yp at gp
        have pi : P[i + j]? = some yi := (hget _ (by omega)).trans gi
        have pp : P[i + (j - 1)]? = some yp := by rw [show i + (j - 1) = i + j - 1 by omega]; exact (hget _ (by omega)).trans gp
        have enext : IntKind.wrap .i64 ((j : Int) + 1) = ((j + 1 : Nat) : Int) := by rw [i64_id (by omega) (by omega)]; rfl
        dsimp only
        rw [ej]
        refine bs_rdA hrd.sl (by omega) pi (bs_rdA hrd.sl (by omega) pp ?_)
        rw [ba_ne]
        refine vIf_mk (fun hne => ?_) (fun he => ?_)
        · have hne2 : yi ≠ yp := by simpa using hne
          have hnx : cpt r (i + (j + 1)) = cpt r (i + j) ++ [yi] := by
            rw [← Nat.add_assoc, cpt, if_neg, gi, Option.toList_some]
            rintro ⟨_, h'⟩
            rw [gi, gp] at h'
            exact hne2 (Option.some.inj h')
          refine bs_rdA hrd.sl (by omega) pi ?_
          refine row_splice_gd (A := some ⟨b, 0, none⟩) (k := k) hrd (by omega) rfl (fun v hv => by simp at hv; subst hv; rfl) (fun u2 hr2 f2 => jnC_mk (hC9 _ _ ⟨?_, j + 1, P.set k yi, by omega, by omega, by simpa using hPl, ?_, ?_, ?_, ?_, ?_⟩ ?_))
          · exact fdu.trans1 f2
          · rw [bvs_set P k yi (by omega)]; exact hr2
          · rw [hnx, List.length_append, hkk]; simp; omega
          · rw [hnx, List.length_append, hkk]
            show (P.set k _).take (k + 1) = _
            rw [List.take_add_one, List.getElem?_set_self (by omega), Option.toList_some, List.take_set_of_le (Nat.le_refl k), htk]
          · rw [hnx, List.length_append, hkk]
            show (P.set k _).drop (k + 1) = r.drop (k + 1)
            rw [List.drop_set_of_lt (by omega)]
            have h3 := congrArg (List.drop 1) hdp
            rw [List.drop_drop, List.drop_drop] at h3
            exact h3
          · rw [hnx, List.length_append, hkk, enext]
            show (_, IntKind.wrap .i64 ((k : Int) + 1), _, _, ()) = _
            rw [i64_id (by omega) (by omega)]; rfl
          · show ((n : Int) - IntKind.wrap .i64 ((j : Int) + 1)).toNat < ((n : Int) - (j : Int)).toNat
            rw [enext]; omega
        · have he2 : yi = yp := by simpa using he
          have hnx : cpt r (i + (j + 1)) = cpt r (i + j) := by
            rw [← Nat.add_assoc, cpt, if_pos ⟨by omega, by rw [gi, gp, he2]⟩, List.append_nil]
          refine jnC_mk (hC9 _ _ ⟨fdu, j + 1, P, by omega, by omega, hPl, hrd, by rw [hnx, hkk]; omega, by rw [hnx, hkk]; exact htk, by rw [hnx, hkk]; exact hdp, ?_⟩ ?_)
          · rw [hnx, hkk, enext]
          · show ((n : Int) - IntKind.wrap .i64 ((j : Int) + 1)).toNat < ((n : Int) - (j : Int)).toNat
            rw [enext]; omega
      · have hge3 : ¬ (j : Int) < ((n - i : Nat) : Int) := of_decide_eq_false hge
        have hij : i + j = n := by omega
        rw [hij] at hkk htk
        have hsk : slA (some (⟨b, 0, none⟩ : Addr)) c k 1 = some ⟨b, 0 + k * 1, none⟩ := by
          unfold slA
          rw [if_neg (by omega), Option.map_some, add_none]
        dsimp only
        simp only [Int.toNat_natCast]
        rw [hsk]
        refine gd_mk (decide_eq_true (by omega)) (gd_mk (decide_eq_true (by omega)) (vIf_f (by simp; omega) ?_))
        have hsp := row_splice (A := some ⟨b, 0, none⟩) (o' := k * 1) (us := zeros (n - k) [Value.string (⟨#[]⟩ : ByteArray)]) (K := fun w19 => jnC (F29.k15 (fun v w' => v = .slice (some ⟨b, 0, none⟩) (cpt r n).length c ∧ Fr (fun k => blkOf (some (⟨b, 0, none⟩ : Addr)) = some k) w w' ∧ Row w' B e 1 (some ⟨b, 0, none⟩) (cpt r n).length c (bvs (cpt r n))) C4) ((some ⟨b, 0, none⟩, n, c), (k : Int), ()) w19) hr (by omega) (by rw [zeros_length]; simp; omega) (fun v hv => ?_) (fun u2 hr2 f2 => jnC_mk (fun _ => ?_))
        · exact hsp
        · simp only [zeros, List.mem_flatten, List.mem_replicate] at hv
          obtain ⟨l, ⟨_, rfl⟩, hv⟩ := hv
          simp at hv
          subst hv; rfl
        · refine gd_mk (decide_eq_true (by show (0 : Int) ≤ (k : Int); omega)) (gd_mk (decide_eq_true (by show (k : Int) ≤ (c : Int); omega)) ⟨?_, hf.trans1 f2, ?_⟩)
          · show Value.slice (slA (some ⟨b, 0, none⟩) c 0 1) ((k : Int).toNat) c = _
            rw [Int.toNat_natCast, hkk]
            congr 1
            unfold slA
            split
            · rfl
            · rw [Option.map_some, add_none, Nat.zero_mul, Nat.add_zero]
          · have hcut := row_cut hr2 (k := k) (by omega)
            have hpl : (bvs P).length = n := by rw [bvs_len, hPl]
            have e : (splice (bvs P) (k * 1) (zeros (n - k) [Value.string (⟨#[]⟩ : ByteArray)])).take (k * 1) = bvs (cpt r n) := by
              unfold splice
              rw [Nat.mul_one, List.append_assoc, List.take_append_of_le_length (by rw [List.length_take, hpl]; omega), List.take_take, Nat.min_self, ← bvs_take, htk]
            rw [e] at hcut
            rw [hkk]; exact hcut
    · have hne2 : xi ≠ xp := of_decide_eq_false hne
      refine jnC_mk (hC4 _ _ ⟨fdu, hrd, i + 1, by omega, by omega, ?_, ?_⟩ ?_)
      · show (_, IntKind.wrap .i64 ((i : Int) + 1), ()) = _
        rw [i64_id (by omega) (by omega)]; rfl
      · rw [cpt, if_neg, hc, List.take_add_one]
        rintro ⟨_, h'⟩
        rw [gi, gp] at h'
        exact hne2 (Option.some.inj h')
      · show ((n : Int) - IntKind.wrap .i64 ((i : Int) + 1)).toNat < ((n : Int) - (i : Int)).toNat
        rw [i64_id (by omega) (by omega)]; omega
  · have hge2 : ¬ (i : Int) < (n : Int) := of_decide_eq_false hge
    exact whole i hi hc (by omega) u hf hr
end Go.Proofs.YtegihbpdemjeaaaDoor
