/- stable sorting, walked: merging, the sort: rows of api.Named -/
import Derived.Test.YtglojgicnchnpaaLStbWNm
namespace Go.Proofs.Ytglojgicnchnpaa.StbNm
open Go.GV Go.RowKit Go.Stb
set_option linter.unusedVariables false
set_option linter.unusedSimpArgs false
section
variable {β : Type} {enc : β → List Value} {cmp : β → β → Int}
/-- what a merge leaves -/
def Mrg (enc : β → List Value) (cmp : β → β → Int) (w w' : World) (B : Nat) (A : Option Addr) (n c : Nat) (P X Y S : List (β × Nat)) : Prop :=
  Fr (fun k => blkOf A = some k) w w' ∧ ∃ M, M.Perm (X ++ Y) ∧ Sorted cmp M ∧ RS enc w' B A n c (P ++ M ++ S)
theorem le_lt_le (h : OrdC cmp) {X Y : List (β × Nat)} (hX : Sorted cmp X) (hY : Sorted cmp Y) {k k' l l' : Nat} {u u' v v' : β × Nat} (hu : X[k]? = some u) (hu' : X[k']? = some u') (hk : k ≤ k') (hv : Y[l]? = some v) (hv' : Y[l']? = some v') (hl : l' ≤ l) (hlt : lt cmp u' v') : lt cmp u v := by
  have h1 : lt cmp u v' := by
    rcases Nat.lt_or_ge k k' with h' | h'
    · exact lt_trans h (sorted_get h hX hu hu' h') hlt
    · have : k = k' := by omega
      subst this
      rw [hu] at hu'; injection hu' with hu'; subst hu'; exact hlt
  rcases Nat.lt_or_ge l' l with h' | h'
  · exact lt_trans h h1 (sorted_get h hY hv' hv h')
  · have : l = l' := by omega
    subst this
    rw [hv] at hv'; injection hv' with hv'; subst hv'; exact h1
theorem mem_take_at {l : List (β × Nat)} {i : Nat} {x : β × Nat} (h : x ∈ l.take i) : ∃ j, j < i ∧ l[j]? = some x := by
  obtain ⟨j, hj⟩ := List.mem_iff_getElem?.1 h
  rw [List.getElem?_take] at hj
  split at hj
  · exact ⟨j, by assumption, hj⟩
  · cases hj
theorem mem_drop_at {l : List (β × Nat)} {i : Nat} {x : β × Nat} (h : x ∈ l.drop i) : ∃ j, i ≤ j ∧ l[j]? = some x := by
  obtain ⟨j, hj⟩ := List.mem_iff_getElem?.1 h
  rw [List.getElem?_drop] at hj
  exact ⟨i + j, by omega, hj⟩
/-- one element goes up into a row -/
theorem merge_one (h0 : Srt β enc cmp) (B : Nat) (A : Option Addr) (n c : Nat) (P Y S : List (β × Nat)) (x : β × Nat) (w : World) (h : RS enc w B A n c (P ++ x :: Y ++ S)) (hY : Sorted cmp Y) (hb : ∀ y ∈ Y, bef x y) (hn : n < 549755813888) :
    F69s.l3 (fun v w' => v = .tuple #[] ∧ Mrg enc cmp w w' B A n c P [x] Y S) ((A, n, c), ((P.length : Nat) : Int), (), ((P.length + 1 : Nat) : Int), ((P.length + 1 + Y.length : Nat) : Int), ()) w := by
  have hlen := h.2
  simp only [List.length_append, List.length_cons] at hlen
  have gx : (P ++ x :: Y ++ S)[P.length]? = some x := by rw [List.append_assoc]; exact get_mid rfl
  refine loop_rule (fun s u => Fr (fun k => blkOf A = some k) w u ∧ RS enc u B A n c (P ++ x :: Y ++ S) ∧ ∃ p q : Nat, p ≤ q ∧ q ≤ Y.length ∧ (∀ y ∈ Y.take p, lt cmp y x) ∧ (∀ y ∈ Y.drop q, lt cmp x y) ∧ s = ((A, n, c), ((P.length : Nat) : Int), (), ((P.length + 1 + p : Nat) : Int), ((P.length + 1 + q : Nat) : Int), ()))
    (fun s _ => (s.2.2.2.2.1 - s.2.2.2.1).toNat) ?_ _ _ ⟨Fr.refl _ _, h, 0, Y.length, by omega, by omega, by simp, by simp, rfl⟩
  rintro s u C ⟨hf, hr, p, q, hpq, hqY, hlo, hhi, rfl⟩ hC _
  refine vIf_mk (fun hlt => ?_) (fun hge => ?_)
  · have hlt2 : ((P.length + 1 + p : Nat) : Int) < ((P.length + 1 + q : Nat) : Int) := of_decide_eq_true hlt
    have emm := em (P.length + 1 + p) (P.length + 1 + q) (by omega) (by omega)
    have hh : (P.length + 1 + p + (P.length + 1 + q)) / 2 = P.length + 1 + (p + q) / 2 := by omega
    rw [hh] at emm
    have gi : Y[(p + q) / 2]? = some (Y[(p + q) / 2]'(by omega)) := List.getElem?_eq_getElem (by omega)
    generalize Y[(p + q) / 2]'(by omega) = y at gi
    have gy : (P ++ x :: Y ++ S)[P.length + 1 + (p + q) / 2]? = some y := by
      have : P ++ x :: Y ++ S = (P ++ [x]) ++ (Y ++ S) := by simp
      rw [this, List.getElem?_append_right (by simp), List.getElem?_append_left (by simp; omega)]
      rw [show P.length + 1 + (p + q) / 2 - (P ++ [x]).length = (p + q) / 2 by simp]; exact gi
    have hym : y ∈ Y := List.mem_of_getElem? gi
    dsimp only
    rw [emm]
    refine rs_rd h0 hr.drew gy rfl (rs_rd h0 hr.drew gx rfl ((h0.call y.1 x.1 u.drew).mono ?_))
    rintro r u2 ⟨rfl, f2⟩
    have hf2 : Fr (fun k => blkOf A = some k) w u2 := (hf.trans1 (Fr.drew _ _)).trans1 (f2.mono (fun _ _ h => h.elim))
    refine ⟨_, rfl, vIf_mk (fun h1 => jnC_mk (hC _ _ ⟨hf2, hr.drew.fr0 f2, (p + q) / 2 + 1, q, by omega, hqY, fun z hz => ?_, hhi, by rw [ep _ (by omega)]; rfl⟩ ?_)) (fun h1 => jnC_mk (hC _ _ ⟨hf2, hr.drew.fr0 f2, p, (p + q) / 2, by omega, by omega, hlo, fun z hz => ?_, rfl⟩ ?_))⟩
    · have h1 := bef_yes h0.ord (hb y hym) (of_decide_eq_true h1)
      obtain ⟨j, hj, hz⟩ := mem_take_at hz
      by_cases hjm : j = (p + q) / 2
      · subst hjm; rw [gi] at hz; injection hz with hz; subst hz; exact h1
      · exact lt_trans h0.ord (sorted_get h0.ord hY hz gi (by omega)) h1
    · show (((P.length + 1 + q : Nat) : Int) - IntKind.wrap .i64 (((P.length + 1 + (p + q) / 2 : Nat) : Int) + 1)).toNat < (((P.length + 1 + q : Nat) : Int) - ((P.length + 1 + p : Nat) : Int)).toNat
      rw [ep _ (by omega)]; omega
    · have h1 := bef_no h0.ord (hb y hym) (of_decide_eq_false h1)
      obtain ⟨j, hj, hz⟩ := mem_drop_at hz
      by_cases hjm : j = (p + q) / 2
      · subst hjm; rw [gi] at hz; injection hz with hz; subst hz; exact h1
      · exact lt_trans h0.ord h1 (sorted_get h0.ord hY gi hz (by omega))
    · show (((P.length + 1 + (p + q) / 2 : Nat) : Int) - ((P.length + 1 + p : Nat) : Int)).toNat < (((P.length + 1 + q : Nat) : Int) - ((P.length + 1 + p : Nat) : Int)).toNat
      omega
  · have hge2 : ¬ ((P.length + 1 + p : Nat) : Int) < ((P.length + 1 + q : Nat) : Int) := of_decide_eq_false hge
    have hpq2 : q = p := by omega
    subst hpq2
    clear hC
    have hYs := List.take_append_drop q Y
    have hs2 := hY
    rw [← hYs] at hs2
    obtain ⟨hs21, hs22, hs23⟩ := sorted_of_app hs2
    have htl : (Y.take q).length = q := by rw [List.length_take]; omega
    refine jnC_mk (loop_rule (fun s v => Fr (fun k => blkOf A = some k) w v ∧ ∃ U V : List (β × Nat), U ++ V = Y.take q ∧ s = ((A, n, c), ((P.length + 1 + q : Nat) : Int), ((P.length + U.length : Nat) : Int), ()) ∧ RS enc v B A n c (P ++ U ++ x :: V ++ Y.drop q ++ S))
      (fun s _ => (P.length + 1 + q - s.2.2.1).toNat) ?_ _ _ ⟨hf, [], Y.take q, rfl, rfl, by
        have : P ++ [] ++ x :: Y.take q ++ Y.drop q ++ S = P ++ x :: Y ++ S := by
          conv => rhs; rw [← hYs]
          simp
        rw [this]; exact hr⟩)
    rintro s v C ⟨hfv, U, V, hUV, rfl, hrv⟩ hC _
    have hUVl : U.length + V.length = q := by rw [← htl, ← hUV, List.length_append]
    have e0 : IntKind.wrap .i64 (((P.length + 1 + q : Nat) : Int) - 1) = ((P.length + q : Nat) : Int) := by rw [e1 _ (by omega) (by omega)]; congr 1; omega
    refine vIf_mk (fun hlt => ?_) (fun hge => ?_)
    · have hlt2 : ((P.length + U.length : Nat) : Int) < IntKind.wrap .i64 (((P.length + 1 + q : Nat) : Int) - 1) := of_decide_eq_true hlt
      rw [e0] at hlt2
      obtain ⟨y, V', rfl⟩ : ∃ y V', V = y :: V' := by
        cases V with
        | nil => simp at hUVl; omega
        | cons y r => exact ⟨y, r, rfl⟩
      have l1 : P ++ U ++ x :: (y :: V') ++ Y.drop q ++ S = (P ++ U) ++ x :: (y :: V' ++ Y.drop q ++ S) := by simp
      have l2 : P ++ U ++ x :: (y :: V') ++ Y.drop q ++ S = (P ++ U ++ [x]) ++ y :: (V' ++ Y.drop q ++ S) := by simp
      have ek : IntKind.wrap .i64 (((P.length + U.length : Nat) : Int) + 1) = ((P.length + U.length + 1 : Nat) : Int) := ep _ (by omega)
      refine rs_rd h0 hrv.drew (i := P.length + U.length + 1) (x := y) (by rw [l2]; exact get_mid (by simp; omega)) ek (rs_rd h0 hrv.drew (i := P.length + U.length) (x := x) (by rw [l1]; exact get_mid (by simp)) rfl ?_)
      refine rs_swap h0 hrv.drew (i := P.length + U.length) (j := P.length + U.length + 1) (by omega) (by omega) rfl ek (fun w' hr' f' => jnC_mk (hC _ _ ⟨(hfv.trans1 (Fr.drew _ _)).trans1 f', U ++ [y], V', by rw [← hUV]; simp, ?_, ?_⟩ ?_))
      · show (_, _, IntKind.wrap .i64 (((P.length + U.length : Nat) : Int) + 1), ()) = _
        rw [ek]; simp; omega
      · rw [l1, set_mid (by simp)] at hr'
        have l3 : (P ++ U) ++ y :: (y :: V' ++ Y.drop q ++ S) = (P ++ U ++ [y]) ++ y :: (V' ++ Y.drop q ++ S) := by simp
        rw [l3, set_mid (by simp; omega)] at hr'
        have l4 : (P ++ U ++ [y]) ++ x :: (V' ++ Y.drop q ++ S) = P ++ (U ++ [y]) ++ x :: V' ++ Y.drop q ++ S := by simp
        rw [l4] at hr'; exact hr'
      · show (((P.length : Nat) : Int) + 1 + ((q : Nat) : Int) - IntKind.wrap .i64 (((P.length + U.length : Nat) : Int) + 1)).toNat < (((P.length : Nat) : Int) + 1 + ((q : Nat) : Int) - ((P.length + U.length : Nat) : Int)).toNat
        rw [ek]; omega
    · have hge2 : ¬ ((P.length + U.length : Nat) : Int) < IntKind.wrap .i64 (((P.length + 1 + q : Nat) : Int) - 1) := of_decide_eq_false hge
      rw [e0] at hge2
      have hV : V = [] := List.length_eq_zero_iff.1 (by omega)
      subst hV
      rw [List.append_nil] at hUV
      subst hUV
      refine ⟨rfl, hfv, Y.take q ++ ([x] ++ Y.drop q), ?_, sorted_app hs21 (sorted_app (List.pairwise_singleton _ _) hs22 (fun u hu v hv => by simp at hu; subst hu; exact hhi v hv)) (fun u hu v hv => ?_), by simpa using hrv⟩
      · conv => rhs; rw [← hYs]
        exact List.perm_append_comm_assoc _ _ _
      · rcases List.mem_append.1 hv with hv | hv
        · simp at hv; subst hv; exact hlo u hu
        · exact hs23 u hu v hv
/-- one element goes down into a row -/
theorem merge_last (h0 : Srt β enc cmp) (B : Nat) (A : Option Addr) (n c : Nat) (P X S : List (β × Nat)) (y : β × Nat) (w : World) (h : RS enc w B A n c (P ++ X ++ y :: S)) (hX : Sorted cmp X) (hb : ∀ x ∈ X, bef x y) (hn : n < 549755813888) :
    F69s.l15 (fun v w' => v = .tuple #[] ∧ Mrg enc cmp w w' B A n c P X [y] S) ((A, n, c), ((P.length + X.length : Nat) : Int), (), ((P.length : Nat) : Int), ((P.length + X.length : Nat) : Int), ()) w := by
  have hlen := h.2
  simp only [List.length_append, List.length_cons] at hlen
  have gy : (P ++ X ++ y :: S)[P.length + X.length]? = some y := get_mid (by simp)
  refine loop_rule (fun s u => Fr (fun k => blkOf A = some k) w u ∧ RS enc u B A n c (P ++ X ++ y :: S) ∧ ∃ p q : Nat, p ≤ q ∧ q ≤ X.length ∧ (∀ x ∈ X.take p, lt cmp x y) ∧ (∀ x ∈ X.drop q, lt cmp y x) ∧ s = ((A, n, c), ((P.length + X.length : Nat) : Int), (), ((P.length + p : Nat) : Int), ((P.length + q : Nat) : Int), ()))
    (fun s _ => (s.2.2.2.2.1 - s.2.2.2.1).toNat) ?_ _ _ ⟨Fr.refl _ _, h, 0, X.length, by omega, by omega, by simp, by simp, rfl⟩
  rintro s u C ⟨hf, hr, p, q, hpq, hqX, hlo, hhi, rfl⟩ hC _
  refine vIf_mk (fun hlt => ?_) (fun hge => ?_)
  · have hlt2 : ((P.length + p : Nat) : Int) < ((P.length + q : Nat) : Int) := of_decide_eq_true hlt
    have emm := em (P.length + p) (P.length + q) (by omega) (by omega)
    have hh : (P.length + p + (P.length + q)) / 2 = P.length + (p + q) / 2 := by omega
    rw [hh] at emm
    have gi : X[(p + q) / 2]? = some (X[(p + q) / 2]'(by omega)) := List.getElem?_eq_getElem (by omega)
    generalize X[(p + q) / 2]'(by omega) = x at gi
    have gx : (P ++ X ++ y :: S)[P.length + (p + q) / 2]? = some x := by
      rw [List.append_assoc, List.getElem?_append_right (by omega), List.getElem?_append_left (by omega), Nat.add_sub_cancel_left]; exact gi
    have hxm : x ∈ X := List.mem_of_getElem? gi
    dsimp only
    rw [emm]
    refine rs_rd h0 hr.drew gy rfl (rs_rd h0 hr.drew gx rfl ((h0.call y.1 x.1 u.drew).mono ?_))
    rintro r u2 ⟨rfl, f2⟩
    have hf2 : Fr (fun k => blkOf A = some k) w u2 := (hf.trans1 (Fr.drew _ _)).trans1 (f2.mono (fun _ _ h => h.elim))
    refine ⟨_, rfl, vIf_mk (fun h1 => jnC_mk (hC _ _ ⟨hf2, hr.drew.fr0 f2, (p + q) / 2 + 1, q, by omega, hqX, fun z hz => ?_, hhi, by rw [ep _ (by omega)]; rfl⟩ ?_)) (fun h1 => jnC_mk (hC _ _ ⟨hf2, hr.drew.fr0 f2, p, (p + q) / 2, by omega, by omega, hlo, fun z hz => ?_, rfl⟩ ?_))⟩
    · have h1 : ¬ cmp y.1 x.1 < 0 := by simpa using h1
      have h1 := bef_no h0.ord (hb x hxm) h1
      obtain ⟨j, hj, hz⟩ := mem_take_at hz
      by_cases hjm : j = (p + q) / 2
      · subst hjm; rw [gi] at hz; injection hz with hz; subst hz; exact h1
      · exact lt_trans h0.ord (sorted_get h0.ord hX hz gi (by omega)) h1
    · show (((P.length + q : Nat) : Int) - IntKind.wrap .i64 (((P.length + (p + q) / 2 : Nat) : Int) + 1)).toNat < (((P.length + q : Nat) : Int) - ((P.length + p : Nat) : Int)).toNat
      rw [ep _ (by omega)]; omega
    · have h1 : cmp y.1 x.1 < 0 := by simpa using h1
      have h1 := bef_yes h0.ord (hb x hxm) h1
      obtain ⟨j, hj, hz⟩ := mem_drop_at hz
      by_cases hjm : j = (p + q) / 2
      · subst hjm; rw [gi] at hz; injection hz with hz; subst hz; exact h1
      · exact lt_trans h0.ord h1 (sorted_get h0.ord hX gi hz (by omega))
    · show (((P.length + (p + q) / 2 : Nat) : Int) - ((P.length + p : Nat) : Int)).toNat < (((P.length + q : Nat) : Int) - ((P.length + p : Nat) : Int)).toNat
      omega
  · have hge2 : ¬ ((P.length + p : Nat) : Int) < ((P.length + q : Nat) : Int) := of_decide_eq_false hge
    have hpq2 : q = p := by omega
    subst hpq2
    clear hC
    have hXs := List.take_append_drop q X
    have hs2 := hX
    rw [← hXs] at hs2
    obtain ⟨hs21, hs22, hs23⟩ := sorted_of_app hs2
    have htl : (X.take q).length = q := by rw [List.length_take]; omega
    have hdl : (X.drop q).length = X.length - q := List.length_drop
    refine jnC_mk (loop_rule (fun s v => Fr (fun k => blkOf A = some k) w v ∧ ∃ U V : List (β × Nat), U ++ V = X.drop q ∧ s = ((A, n, c), ((P.length + q : Nat) : Int), ((P.length + q + U.length : Nat) : Int), ()) ∧ RS enc v B A n c (P ++ X.take q ++ U ++ y :: V ++ S))
      (fun s _ => s.2.2.1.toNat) ?_ _ _ ⟨hf, X.drop q, [], by simp, by rw [hdl]; simp; omega, by
        have : P ++ X.take q ++ X.drop q ++ [y] ++ S = P ++ X ++ y :: S := by
          conv => rhs; rw [← hXs]
          simp
        rw [this]; exact hr⟩)
    rintro s v C ⟨hfv, U, V, hUV, rfl, hrv⟩ hC _
    have hUVl : U.length + V.length = X.length - q := by rw [← hdl, ← hUV, List.length_append]
    refine vIf_mk (fun hlt => ?_) (fun hge => ?_)
    · have hlt2 : ((P.length + q + U.length : Nat) : Int) > ((P.length + q : Nat) : Int) := of_decide_eq_true hlt
      obtain ⟨U', z, rfl⟩ : ∃ U' z, U = U' ++ [z] := by
        have hne : U ≠ [] := by intro h; subst h; simp at hlt2
        exact ⟨U.dropLast, U.getLast hne, (List.dropLast_concat_getLast hne).symm⟩
      simp only [List.length_append, List.length_cons, List.length_nil] at hUVl hlt2
      have l1 : P ++ X.take q ++ (U' ++ [z]) ++ y :: V ++ S = (P ++ X.take q ++ U') ++ z :: (y :: V ++ S) := by simp
      have l2 : P ++ X.take q ++ (U' ++ [z]) ++ y :: V ++ S = (P ++ X.take q ++ (U' ++ [z])) ++ y :: (V ++ S) := by simp
      have ek : IntKind.wrap .i64 (((P.length + q + (U' ++ [z]).length : Nat) : Int) - 1) = ((P.length + q + U'.length : Nat) : Int) := by rw [e1 _ (by simp; omega) (by simp; omega)]; simp only [List.length_append, List.length_cons, List.length_nil]; omega
      refine rs_rd h0 hrv.drew (i := P.length + q + U'.length) (x := z) (by rw [l1]; exact get_mid (by simp; omega)) ek (rs_rd h0 hrv.drew (i := P.length + q + (U' ++ [z]).length) (x := y) (by rw [l2]; exact get_mid (by simp; omega)) rfl ?_)
      refine rs_swap h0 hrv.drew (i := P.length + q + (U' ++ [z]).length) (j := P.length + q + U'.length) (x := y) (y := z) (by simp; omega) (by omega) rfl ek (fun w' hr' f' => jnC_mk (hC _ _ ⟨(hfv.trans1 (Fr.drew _ _)).trans1 f', U', z :: V, by rw [← hUV]; simp, ?_, ?_⟩ ?_))
      · show (_, _, IntKind.wrap .i64 (((P.length + q + (U' ++ [z]).length : Nat) : Int) - 1), ()) = _
        rw [ek]
      · rw [l2, set_mid (by simp; omega)] at hr'
        have l3 : (P ++ X.take q ++ (U' ++ [z])) ++ z :: (V ++ S) = (P ++ X.take q ++ U') ++ z :: (z :: (V ++ S)) := by simp
        rw [l3, set_mid (by simp; omega)] at hr'
        have l4 : (P ++ X.take q ++ U') ++ y :: (z :: (V ++ S)) = P ++ X.take q ++ U' ++ y :: (z :: V) ++ S := by simp
        rw [l4] at hr'; exact hr'
      · show (IntKind.wrap .i64 (((P.length + q + (U' ++ [z]).length : Nat) : Int) - 1)).toNat < (((P.length + q + (U' ++ [z]).length : Nat) : Int)).toNat
        rw [ek]; simp only [List.length_append, List.length_cons, List.length_nil]; omega
    · have hge2 : ¬ ((P.length + q + U.length : Nat) : Int) > ((P.length + q : Nat) : Int) := of_decide_eq_false hge
      have hU : U = [] := List.length_eq_zero_iff.1 (by omega)
      subst hU
      rw [List.nil_append] at hUV
      subst hUV
      refine ⟨rfl, hfv, X.take q ++ ([y] ++ X.drop q), ?_, sorted_app hs21 (sorted_app (List.pairwise_singleton _ _) hs22 (fun u hu v hv => by simp at hu; subst hu; exact hhi v hv)) (fun u hu v hv => ?_), by simpa using hrv⟩
      · conv => rhs; rw [← hXs, List.append_assoc]
        exact (List.perm_append_comm).append_left _
      · rcases List.mem_append.1 hv with hv | hv
        · simp at hv; subst hv; exact hlo u hu
        · exact hs23 u hu v hv
end
end Go.Proofs.Ytglojgicnchnpaa.StbNm
