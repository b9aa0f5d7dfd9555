/- stable sorting, walked: rows of api.Named -/
import Derived.Test.YtglojgicnchnpaaV
import Derived.Test.YtglojgicnchnpaaG13
import Derived.Test.YtglojgicnchnpaaLStbP
namespace Go.Proofs.Ytglojgicnchnpaa.StbNm
open Go.GV Go.RowKit Go.Stb
set_option linter.unusedVariables false
set_option linter.unusedSimpArgs false
/-- what is asked of the elements and their comparison -/
structure Srt (β : Type) (enc : β → List Value) (cmp : β → β → Int) : Prop where
  len : ∀ x, (enc x).length = 2
  one : ∀ x, ∀ v ∈ enc x, v.oneCell' = true
  ord : OrdC cmp
  call : ∀ x y w, Calls Try.prog 42 #[ofL (enc x), ofL (enc y)] w fun e w' => e = .returned (.int .i64 (cmp x y)) ∧ Fr (fun _ => False) w w'
def cf : Value := .func (.func 42) #[] #[]
section
variable {β : Type} {enc : β → List Value} {cmp : β → β → Int}
abbrev encT (enc : β → List Value) : β × Nat → List Value := fun x => enc x.1
theorem Srt.lenT (h : Srt β enc cmp) {l : List (β × Nat)} : ∀ x ∈ l, (encT enc x).length = 2 := fun x _ => h.len x.1
/-- the row holds these -/
def RS (enc : β → List Value) (w : World) (B : Nat) (A : Option Addr) (n c : Nat) (l : List (β × Nat)) : Prop := Row w B 48 2 A n c (flt (encT enc) l) ∧ l.length = n
theorem RS.fr0 {w w' : World} {B : Nat} {A : Option Addr} {n c : Nat} {l : List (β × Nat)} (h : RS enc w B A n c l) (f : Fr (fun _ => False) w w') : RS enc w' B A n c l := ⟨f.row h.1 (fun _ _ h => h), h.2⟩
theorem RS.drew {w : World} {B : Nat} {A : Option Addr} {n c : Nat} {l : List (β × Nat)} (h : RS enc w B A n c l) : RS enc w.drew B A n c l := h.fr0 (Fr.drew _ _)
theorem rs_rd (h0 : Srt β enc cmp) {w : World} {B : Nat} {A : Option Addr} {n c : Nat} {l : List (β × Nat)} (h : RS enc w B A n c l) {i : Nat} {x : β × Nat} (hi : l[i]? = some x) {ii : Int} (hii : ii = (i : Int)) {K : List Value → Prop} (hK : K (enc x.1)) :
    dr A fun b o => gd (decide (0 ≤ ii)) (gd (decide (ii < ((n : Nat) : Int))) (ldA 2 w b (o + ii.toNat * 2) K)) :=
  el_rd h.1.sl h0.lenT hi hii h.2 (fun b o hA hc => ⟨enc x.1, h0.len x.1, hc, hK⟩)
/-- two elements change their places -/
theorem rs_swap (h0 : Srt β enc cmp) {w : World} {B : Nat} {A : Option Addr} {n c : Nat} {l : List (β × Nat)} (h : RS enc w B A n c l) {i j : Nat} {x y : β × Nat} (hi : i < n) (hj : j < n) {ii jj : Int} (hii : ii = (i : Int)) (hjj : jj = (j : Int)) {K : World → Prop}
    (hK : ∀ w', RS enc w' B A n c ((l.set i y).set j x) → Fr (fun k => blkOf A = some k) w w' → K w') :
    dr A fun b o => gd (decide (0 ≤ ii)) (gd (decide (ii < ((n : Nat) : Int))) (gd ((enc y.1).length == 2) (st w b (o + ii.toNat * 2) (enc y.1) fun w1 =>
      dr A fun b o => gd (decide (0 ≤ jj)) (gd (decide (jj < ((n : Nat) : Int))) (gd ((enc x.1).length == 2) (st w1 b (o + jj.toNat * 2) (enc x.1) K)))))) :=
  el_put (enc := encT enc) h.1 h0.lenT h.2 hi hii (h0.len y.1) (h0.one y.1) (fun w1 hr1 f1 =>
    el_put (enc := encT enc) hr1 h0.lenT (by rw [List.length_set]; exact h.2) hj hjj (h0.len x.1) (h0.one x.1) (fun w2 hr2 f2 => hK w2 ⟨hr2, by rw [List.length_set, List.length_set]; exact h.2⟩ (f1.trans1 f2)))
theorem em (i j : Nat) (h1 : i < 1099511627776) (h2 : j < 1099511627776) : IntKind.wrap .i64 (Int.fdiv (IntKind.wrap .u64 (IntKind.wrap .i64 ((i : Int) + (j : Int)))) (2 ^ 1)) = (((i + j) / 2 : Nat) : Int) := by
  rw [i64_id (n := (i : Int) + (j : Int)) (by omega) (by omega), IntKind.wrap_u64, Int.fdiv_eq_ediv_of_nonneg _ (by decide), i64_id (by omega) (by omega)]; omega
theorem ep (i : Nat) (h : i < 1099511627776) : IntKind.wrap .i64 ((i : Int) + 1) = ((i + 1 : Nat) : Int) := by rw [i64_id (by omega) (by omega)]; rfl
theorem ea (i j : Nat) (h1 : i < 1099511627776) (h2 : j < 1099511627776) : IntKind.wrap .i64 ((i : Int) + (j : Int)) = ((i + j : Nat) : Int) := by rw [i64_id (by omega) (by omega)]; rfl
theorem es (i j : Nat) (h1 : i < 1099511627776) (h2 : j ≤ i) : IntKind.wrap .i64 ((i : Int) - (j : Int)) = ((i - j : Nat) : Int) := by rw [i64_id (by omega) (by omega)]; omega
theorem e1 (i : Nat) (h1 : i < 1099511627776) (h2 : 1 ≤ i) : IntKind.wrap .i64 ((i : Int) - 1) = ((i - 1 : Nat) : Int) := by rw [i64_id (by omega) (by omega)]; omega
/-! ### two ranges change their places -/
theorem swapRange_calls (h0 : Srt β enc cmp) (B : Nat) (A : Option Addr) (n c : Nat) (P X Y Z S : List (β × Nat)) (w : World) (h : RS enc w B A n c (P ++ X ++ Y ++ Z ++ S)) (hXZ : X.length = Z.length) (hn : n < 549755813888) {a b m : Int} (ha : a = ((P.length : Nat) : Int)) (hb : b = ((P.length + X.length + Y.length : Nat) : Int)) (hm : m = ((X.length : Nat) : Int)) :
    Calls Try.prog 75 #[.slice A n c, .int .i64 a, .int .i64 b, .int .i64 m, cf] w fun e w' => e = .returned (.tuple #[]) ∧ Fr (fun k => blkOf A = some k) w w' ∧ RS enc w' B A n c (P ++ Z ++ Y ++ X ++ S) := by
  subst ha; subst hb; subst hm
  refine (F75s.of A n c _ _ _ w (Q := fun v w' => v = .tuple #[] ∧ Fr (fun k => blkOf A = some k) w w' ∧ RS enc w' B A n c (P ++ Z ++ Y ++ X ++ S)) ?_).mono (fun e w' ⟨v, he, hv, h⟩ => ⟨by rw [he, hv], h⟩)
  have hlen := h.2
  simp only [List.length_append] at hlen
  refine jnC_mk (loop_rule (fun s u => Fr (fun k => blkOf A = some k) w u ∧ ∃ (k : Nat) (X1 X2 Z1 Z2 : List (β × Nat)), X = X1 ++ X2 ∧ Z = Z1 ++ Z2 ∧ X1.length = k ∧ Z1.length = k ∧ s = ((A, n, c), ((P.length : Nat) : Int), ((P.length + X.length + Y.length : Nat) : Int), ((X.length : Nat) : Int), (k : Int), ()) ∧ RS enc u B A n c (P ++ Z1 ++ X2 ++ Y ++ X1 ++ Z2 ++ S))
    (fun s _ => (X.length - s.2.2.2.2.1).toNat) ?_ _ _ ⟨Fr.refl _ _, 0, [], X, [], Z, rfl, rfl, rfl, rfl, rfl, by simpa using h⟩)
  rintro s u C ⟨hf, k, X1, X2, Z1, Z2, hX, hZ, hx1, hz1, rfl, hr⟩ hC _
  have hXl : X.length = X1.length + X2.length := by rw [hX, List.length_append]
  have hZl : Z.length = Z1.length + Z2.length := by rw [hZ, List.length_append]
  refine vIf_mk (fun hlt => ?_) (fun hge => ?_)
  · have hlt2 : (k : Int) < (X.length : Int) := of_decide_eq_true hlt
    obtain ⟨x, X2', rfl⟩ : ∃ x X2', X2 = x :: X2' := by
      cases X2 with
      | nil => simp at hXl; omega
      | cons x r => exact ⟨x, r, rfl⟩
    obtain ⟨z, Z2', rfl⟩ : ∃ z Z2', Z2 = z :: Z2' := by
      cases Z2 with
      | nil => simp at hZl; omega
      | cons x r => exact ⟨x, r, rfl⟩
    simp only [List.length_cons] at hXl hZl
    have ea1 : IntKind.wrap .i64 (((P.length : Nat) : Int) + (k : Int)) = ((P.length + k : Nat) : Int) := ea _ _ (by omega) (by omega)
    have eb1 : IntKind.wrap .i64 (((P.length + X.length + Y.length : Nat) : Int) + (k : Int)) = ((P.length + X.length + Y.length + k : Nat) : Int) := ea _ _ (by omega) (by omega)
    have hr := hr.drew
    have fd : Fr (fun k => blkOf A = some k) w u.drew := hf.trans1 (Fr.drew _ _)
    have hl1 : P ++ Z1 ++ (x :: X2') ++ Y ++ X1 ++ (z :: Z2') ++ S = (P ++ Z1) ++ x :: (X2' ++ Y ++ X1 ++ (z :: Z2') ++ S) := by simp
    have hl2 : P ++ Z1 ++ (x :: X2') ++ Y ++ X1 ++ (z :: Z2') ++ S = (P ++ Z1 ++ (x :: X2') ++ Y ++ X1) ++ z :: (Z2' ++ S) := by simp
    dsimp only
    refine rs_rd h0 hr (i := P.length + X.length + Y.length + k) (x := z) (by rw [hl2]; exact get_mid (by simp; omega)) eb1 ?_
    refine rs_rd h0 hr (i := P.length + k) (x := x) (by rw [hl1]; exact get_mid (by simp; omega)) ea1 ?_
    refine rs_swap h0 hr (i := P.length + k) (j := P.length + X.length + Y.length + k) (x := x) (y := z) (by omega) (by omega) ea1 eb1 (fun w' hr' f' => jnC_mk (hC _ _ ⟨fd.trans1 f', k + 1, X1 ++ [x], X2', Z1 ++ [z], Z2', by rw [hX]; simp, by rw [hZ]; simp, by simp [hx1], by simp [hz1], by rw [ep k (by omega)], ?_⟩ ?_))
    · rw [hl1, set_mid (by simp; omega)] at hr'
      have hl3 : (P ++ Z1) ++ z :: (X2' ++ Y ++ X1 ++ (z :: Z2') ++ S) = (P ++ Z1 ++ z :: (X2' ++ Y ++ X1)) ++ z :: (Z2' ++ S) := by simp
      rw [hl3, set_mid (by simp; omega)] at hr'
      have hl4 : (P ++ Z1 ++ z :: (X2' ++ Y ++ X1)) ++ x :: (Z2' ++ S) = P ++ (Z1 ++ [z]) ++ X2' ++ Y ++ (X1 ++ [x]) ++ Z2' ++ S := by simp
      rw [hl4] at hr'
      exact hr'
    · show ((X.length : Int) - IntKind.wrap .i64 ((k : Int) + 1)).toNat < ((X.length : Int) - (k : Int)).toNat
      rw [ep k (by omega)]; omega
  · have hge2 : ¬ (k : Int) < (X.length : Int) := of_decide_eq_false hge
    have hx2 : X2 = [] := List.length_eq_zero_iff.1 (by omega)
    have hz2 : Z2 = [] := List.length_eq_zero_iff.1 (by omega)
    subst hx2; subst hz2
    simp only [List.append_nil] at hX hZ hr
    subst hX; subst hZ
    exact ⟨rfl, hf, hr⟩
/-! ### rotation -/
theorem rotate_calls (h0 : Srt β enc cmp) (B : Nat) (A : Option Addr) (n c : Nat) (P X Y S : List (β × Nat)) (w : World) (h : RS enc w B A n c (P ++ X ++ Y ++ S)) (hX : X ≠ []) (hY : Y ≠ []) (hn : n < 549755813888) {a m b : Int} (ha : a = ((P.length : Nat) : Int)) (hm : m = ((P.length + X.length : Nat) : Int)) (hb : b = ((P.length + X.length + Y.length : Nat) : Int)) :
    Calls Try.prog 73 #[.slice A n c, .int .i64 a, .int .i64 m, .int .i64 b, cf] w fun e w' => e = .returned (.tuple #[]) ∧ Fr (fun k => blkOf A = some k) w w' ∧ RS enc w' B A n c (P ++ Y ++ X ++ S) := by
  subst ha; subst hm; subst hb
  refine (F73s.of A n c _ _ _ w (Q := fun v w' => v = .tuple #[] ∧ Fr (fun k => blkOf A = some k) w w' ∧ RS enc w' B A n c (P ++ Y ++ X ++ S)) ?_).mono (fun e w' ⟨v, he, hv, h⟩ => ⟨by rw [he, hv], h⟩)
  have hlen := h.2
  simp only [List.length_append] at hlen
  have hX0 : X.length ≠ 0 := fun h => hX (List.length_eq_zero_iff.1 h)
  have hY0 : Y.length ≠ 0 := fun h => hY (List.length_eq_zero_iff.1 h)
  have eX : IntKind.wrap .i64 (((P.length + X.length : Nat) : Int) - ((P.length : Nat) : Int)) = ((X.length : Nat) : Int) := by rw [es _ _ (by omega) (by omega), Nat.add_sub_cancel_left]
  have eY : IntKind.wrap .i64 (((P.length + X.length + Y.length : Nat) : Int) - ((P.length + X.length : Nat) : Int)) = ((Y.length : Nat) : Int) := by rw [es _ _ (by omega) (by omega), Nat.add_sub_cancel_left]
  refine jnC_mk (loop_rule (fun s u => Fr (fun k => blkOf A = some k) w u ∧ ∃ (P' X' Y' S' : List (β × Nat)), X' ≠ [] ∧ Y' ≠ [] ∧ P'.length + X'.length = P.length + X.length ∧ P' ++ Y' ++ X' ++ S' = P ++ Y ++ X ++ S ∧ s = ((A, n, c), ((P.length + X.length : Nat) : Int), (), ((X'.length : Nat) : Int), ((Y'.length : Nat) : Int), ()) ∧ RS enc u B A n c (P' ++ X' ++ Y' ++ S'))
    (fun s _ => (s.2.2.2.1 + s.2.2.2.2.1).toNat) ?_ _ _ ⟨Fr.refl _ _, P, X, Y, S, hX, hY, rfl, rfl, by rw [eX, eY], h⟩)
  rintro s u C ⟨hf, P', X', Y', S', hX', hY', hpx, htot, rfl, hr⟩ hC _
  have hX1 : X'.length ≠ 0 := fun h => hX' (List.length_eq_zero_iff.1 h)
  have hY1 : Y'.length ≠ 0 := fun h => hY' (List.length_eq_zero_iff.1 h)
  have hl := hr.2
  simp only [List.length_append] at hl
  have em1 : IntKind.wrap .i64 (((P.length + X.length : Nat) : Int) - ((X'.length : Nat) : Int)) = ((P'.length : Nat) : Int) := by rw [es _ _ (by omega) (by omega)]; congr 1; omega
  refine vIf_mk (fun hne => vIf_mk (fun hgt => ?_) (fun hle => ?_)) (fun heq => ?_)
  · have hgt2 : (X'.length : Int) > (Y'.length : Int) := of_decide_eq_true hgt
    -- X' = U V, U as long as Y'
    obtain ⟨U, V, hUV, hU⟩ : ∃ U V, X' = U ++ V ∧ U.length = Y'.length := ⟨X'.take Y'.length, X'.drop Y'.length, (List.take_append_drop _ _).symm, by rw [List.length_take]; omega⟩
    have hVl : X'.length = U.length + V.length := by rw [hUV, List.length_append]
    have hr2 : RS enc u B A n c (P' ++ U ++ V ++ Y' ++ S') := by
      rw [hUV] at hr
      simpa using hr
    refine (swapRange_calls h0 B A n c P' U V Y' S' u hr2 hU hn em1 (by rw [Nat.add_assoc P'.length, ← hVl]; exact congrArg _ hpx.symm) (by rw [hU])).mono ?_
    rintro r u2 ⟨rfl, f2, hr3⟩
    refine ⟨rfl, jnC_mk (hC _ _ ⟨hf.trans1 f2, P' ++ Y', V, U, S', ?_, ?_, ?_, ?_, ?_, ?_⟩ ?_)⟩
    · intro h; rw [h] at hVl; simp at hVl; omega
    · intro h; rw [h] at hU; simp at hU; omega
    · simp only [List.length_append]; omega
    · rw [← htot, hUV]; simp
    · show (_, _, _, IntKind.wrap .i64 ((X'.length : Int) - (Y'.length : Int)), _, ()) = _
      rw [es _ _ (by omega) (by omega), hU, show X'.length - Y'.length = V.length by omega]
    · exact hr3
    · show (IntKind.wrap .i64 ((X'.length : Int) - (Y'.length : Int)) + (Y'.length : Int)).toNat < ((X'.length : Int) + (Y'.length : Int)).toNat
      rw [es _ _ (by omega) (by omega)]; omega
  · have hle2 : ¬ (X'.length : Int) > (Y'.length : Int) := of_decide_eq_false hle
    have hne2 : X'.length ≠ Y'.length := by
      have hne : ((X'.length : Int) != (Y'.length : Int)) = true := hne
      intro h; rw [h] at hne; simp at hne
    -- Y' = U V, V as long as X'
    obtain ⟨U, V, hUV, hV⟩ : ∃ U V, Y' = U ++ V ∧ V.length = X'.length := ⟨Y'.take (Y'.length - X'.length), Y'.drop (Y'.length - X'.length), (List.take_append_drop _ _).symm, by rw [List.length_drop]; omega⟩
    have hUl : Y'.length = U.length + V.length := by rw [hUV, List.length_append]
    have hr2 : RS enc u B A n c (P' ++ X' ++ U ++ V ++ S') := by
      rw [hUV] at hr
      simpa using hr
    have eb2 : IntKind.wrap .i64 (IntKind.wrap .i64 (((P.length + X.length : Nat) : Int) + ((Y'.length : Nat) : Int)) - ((X'.length : Nat) : Int)) = ((P'.length + X'.length + U.length : Nat) : Int) := by
      rw [ea _ _ (by omega) (by omega), es _ _ (by omega) (by omega)]; congr 1; omega
    refine (swapRange_calls h0 B A n c P' X' U V S' u hr2 hV.symm hn em1 eb2 rfl).mono ?_
    rintro r u2 ⟨rfl, f2, hr3⟩
    refine ⟨rfl, jnC_mk (hC _ _ ⟨hf.trans1 f2, P', V, U, X' ++ S', ?_, ?_, ?_, ?_, ?_, ?_⟩ ?_)⟩
    · intro h; rw [h] at hV; simp at hV; omega
    · intro h; rw [h] at hUl; simp at hUl; omega
    · omega
    · rw [← htot, hUV]; simp
    · show (_, _, _, _, IntKind.wrap .i64 ((Y'.length : Int) - (X'.length : Int)), ()) = _
      rw [es _ _ (by omega) (by omega), hV, show Y'.length - X'.length = U.length by omega]
    · simpa using hr3
    · show ((X'.length : Int) + IntKind.wrap .i64 ((Y'.length : Int) - (X'.length : Int))).toNat < ((X'.length : Int) + (Y'.length : Int)).toNat
      rw [es _ _ (by omega) (by omega)]; omega
  · have heq2 : X'.length = Y'.length := by
      have heq : ((X'.length : Int) != (Y'.length : Int)) = false := heq
      have : (X'.length : Int) = (Y'.length : Int) := by simpa using heq
      omega
    refine (swapRange_calls h0 B A n c P' X' [] Y' S' u (by simpa using hr) heq2 hn em1 (by simp; omega) rfl).mono ?_
    rintro r u2 ⟨rfl, f2, hr3⟩
    rw [List.append_nil, htot] at hr3
    exact ⟨rfl, rfl, hf.trans1 f2, hr3⟩
end
end Go.Proofs.Ytglojgicnchnpaa.StbNm
