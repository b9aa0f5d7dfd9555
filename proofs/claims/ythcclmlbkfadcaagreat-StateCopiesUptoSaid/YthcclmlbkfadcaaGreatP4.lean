import Derived.Test.YthcclmlbkfadcaaGreatRows
import Derived.WalkKit
import Derived.ProofKit
import Derived.OpenShut
import Derived.JoinedCond
import Derived.Test.YthcclmlbkfadcaaGreatP3
/- stable sorting, walked: symMerge, insertionSort, the sort: rows of api.Word -/
namespace Go.Proofs.YthcclmlbkfadcaaGreat.StbWd
open Go.GV Go.RowKit Go.Stb
set_option linter.unusedVariables false
set_option linter.unusedSimpArgs false
section
variable {β : Type} {enc : β → List Value} {cmp : β → β → Int}
theorem take_len {l : List (β × Nat)} {k : Nat} (h : k ≤ l.length) : (l.take k).length = k := by rw [List.length_take]; omega
theorem get_in {P X R : List (β × Nat)} {i j : Nat} {x : β × Nat} (hi : i = P.length + j) (hx : X[j]? = some x) : (P ++ X ++ R)[i]? = some x := by
  have hj := (List.getElem?_eq_some_iff.1 hx).1
  subst hi
  rw [List.append_assoc, List.getElem?_append_right (by omega), List.getElem?_append_left (by omega), Nat.add_sub_cancel_left]; exact hx
set_option maxHeartbeats 1000000 in
/-- two sorted rows, the one ahead of the other, are merged -/
theorem symMerge_calls (h0 : Srt β enc cmp) (B : Nat) (A : Option Addr) (n c : Nat) (hn : n < 549755813888) : ∀ (K : Nat) (P X Y S : List (β × Nat)) (w : World), X.length + Y.length ≤ K → RS enc w B A n c (P ++ X ++ Y ++ S) → Sorted cmp X → Sorted cmp Y → befC X Y → X ≠ [] → Y ≠ [] → ∀ (a m b : Int), a = ((P.length : Nat) : Int) → m = ((P.length + X.length : Nat) : Int) → b = ((P.length + X.length + Y.length : Nat) : Int) →
    Calls Tryz.prog 122 #[.slice A n c, .int .i64 a, .int .i64 m, .int .i64 b, cf] w fun e w' => e = .returned (.tuple #[]) ∧ Mrg enc cmp w w' B A n c P X Y S
  | 0, P, X, Y, S, w, hK, _, _, _, _, hX, _, _, _, _, _, _, _ => absurd (List.length_eq_zero_iff.1 (by omega)) hX
  | K + 1, P, X, Y, S, w, hK, h, sX, sY, hb, hX, hY, a, m, b, ha, hm, hbb => by
    subst ha; subst hm; subst hbb
    have ih := symMerge_calls h0 B A n c hn K
    refine (F122s.of A n c _ _ _ w (Q := fun v w' => v = .tuple #[] ∧ Mrg enc cmp w w' B A n c P X Y S) ?_).mono (fun e w' ⟨v, he, hv, h⟩ => ⟨by rw [he, hv], h⟩)
    have hlen := h.2
    simp only [List.length_append] at hlen
    have hX0 : X.length ≠ 0 := fun h => hX (List.length_eq_zero_iff.1 h)
    have hY0 : Y.length ≠ 0 := fun h => hY (List.length_eq_zero_iff.1 h)
    have eX : IntKind.wrap .i64 (((P.length + X.length : Nat) : Int) - ((P.length : Nat) : Int)) = ((X.length : Nat) : Int) := by rw [es _ _ (by omega) (by omega), Nat.add_sub_cancel_left]
    have eY : IntKind.wrap .i64 (((P.length + X.length + Y.length : Nat) : Int) - ((P.length + X.length : Nat) : Int)) = ((Y.length : Nat) : Int) := by rw [es _ _ (by omega) (by omega), Nat.add_sub_cancel_left]
    have eM := em P.length (P.length + X.length + Y.length) (by omega) (by omega)
    unfold F122s.vc
    rw [eX, eY, eM]
    generalize hmid : (P.length + (P.length + X.length + Y.length)) / 2 = mid at eM ⊢
    have eN : IntKind.wrap .i64 ((mid : Int) + ((P.length + X.length : Nat) : Int)) = ((mid + (P.length + X.length) : Nat) : Int) := ea _ _ (by omega) (by omega)
    rw [eN]
    generalize hN : mid + (P.length + X.length) = N at eN ⊢
    refine vIf_mk (fun h1 => ?_) (fun h1 => vIf_mk (fun h2 => ?_) (fun h2 => ?_))
    · have h1 : X.length = 1 := by
        have : ((X.length : Nat) : Int) = 1 := by simpa using h1
        omega
      obtain ⟨x, rfl⟩ := List.length_eq_one_iff.1 h1
      refine jnC_mk ?_
      have := merge_one h0 B A n c P Y S x w (by simpa using h) sY (fun y hy => hb x (by simp) y hy) hn
      simpa using this
    · have h2 : Y.length = 1 := by
        have : ((Y.length : Nat) : Int) = 1 := by simpa using h2
        omega
      obtain ⟨y, rfl⟩ := List.length_eq_one_iff.1 h2
      refine jnC_mk ?_
      exact merge_last h0 B A n c P X S y w (by simpa using h) sX (fun x hx => hb x hx y (by simp)) hn
    · have h1 : X.length ≠ 1 := fun h => by rw [h] at h1; simp at h1
      have h2 : Y.length ≠ 1 := fun h => by rw [h] at h2; simp at h2
      -- from any bounds of the search
      have fin : ∀ s0 r0 : Nat, P.length ≤ s0 → s0 ≤ r0 → r0 ≤ P.length + X.length → r0 ≤ mid → N ≤ s0 + (P.length + X.length + Y.length) → (s0 = P.length ∨ N = s0 + (P.length + X.length + Y.length)) → (r0 = P.length + X.length ∨ r0 = mid) →
          jnC (F122s.k32 (fun v w' => v = .tuple #[] ∧ Mrg enc cmp w w' B A n c P X Y S)) ((A, n, c), ((P.length : Nat) : Int), ((P.length + X.length : Nat) : Int), ((P.length + X.length + Y.length : Nat) : Int), (), (mid : Int), (N : Int), (s0 : Int), (r0 : Int), ()) w := by
        intro s0 r0 q1 q2 q3 q4 q5 q6 q7
        refine jnC_mk (fun _ => jnC_mk ?_)
        have eP : IntKind.wrap .i64 ((N : Int) - 1) = ((N - 1 : Nat) : Int) := e1 _ (by omega) (by omega)
        dsimp only
        rw [eP]
        refine loop_rule (fun s u => Fr (fun _ => False) w u ∧ ∃ st r : Nat, s0 ≤ st ∧ st ≤ r ∧ r ≤ r0 ∧ (∀ c, s0 ≤ c → c < st → ∀ u v, X[c - P.length]? = some u → Y[N - 1 - c - (P.length + X.length)]? = some v → lt cmp u v) ∧ (∀ c, r ≤ c → c < r0 → ∀ u v, X[c - P.length]? = some u → Y[N - 1 - c - (P.length + X.length)]? = some v → lt cmp v u) ∧
            s = ((A, n, c), ((P.length : Nat) : Int), ((P.length + X.length : Nat) : Int), ((P.length + X.length + Y.length : Nat) : Int), (), (mid : Int), (N : Int), (st : Int), (r : Int), ((N - 1 : Nat) : Int), ()))
          (fun s _ => (s.2.2.2.2.2.2.2.2.1 - s.2.2.2.2.2.2.2.1).toNat) ?_ _ _ ⟨Fr.refl _ _, s0, r0, by omega, q2, by omega, fun c h1 h2 => by omega, fun c h1 h2 => by omega, rfl⟩
        rintro s u C ⟨hf, st, r, p1, p2, p3, hlo, hhi, rfl⟩ hC _
        have hru := h.fr0 hf
        refine vIf_mk (fun hlt => ?_) (fun hge => ?_)
        · have hlt2 : (st : Int) < (r : Int) := of_decide_eq_true hlt
          have emm := em st r (by omega) (by omega)
          generalize hcc : (st + r) / 2 = cc at emm
          have epc : IntKind.wrap .i64 (((N - 1 : Nat) : Int) - (cc : Int)) = ((N - 1 - cc : Nat) : Int) := es _ _ (by omega) (by omega)
          have gu : X[cc - P.length]? = some (X[cc - P.length]'(by omega)) := List.getElem?_eq_getElem (by omega)
          have gv : Y[N - 1 - cc - (P.length + X.length)]? = some (Y[N - 1 - cc - (P.length + X.length)]'(by omega)) := List.getElem?_eq_getElem (by omega)
          generalize X[cc - P.length]'(by omega) = x at gu
          generalize Y[N - 1 - cc - (P.length + X.length)]'(by omega) = y at gv
          have hbxy := hb x (List.mem_of_getElem? gu) y (List.mem_of_getElem? gv)
          dsimp only
          rw [emm, epc]
          refine rs_rd h0 hru.drew (i := N - 1 - cc) (x := y) (get_in (P := P ++ X) (X := Y) (R := S) (j := N - 1 - cc - (P.length + X.length)) (by simp; omega) gv) rfl (rs_rd h0 hru.drew (i := cc) (x := x) (by
            have : P ++ X ++ Y ++ S = P ++ X ++ (Y ++ S) := by simp
            rw [this]; exact get_in (j := cc - P.length) (by omega) gu) rfl ((h0.call y.1 x.1 u.drew).mono ?_))
          rintro q u2 ⟨rfl, f2⟩
          have hf2 : Fr (fun _ => False) w u2 := (hf.trans1 (Fr.drew _ _)).trans1 f2
          refine ⟨_, rfl, vIf_mk (fun hc => jnC_mk (hC _ _ ⟨hf2, cc + 1, r, by omega, by omega, p3, fun d d1 d2 u v hu hv => ?_, hhi, by rw [ep _ (by omega)]⟩ ?_)) (fun hc => jnC_mk (hC _ _ ⟨hf2, st, cc, p1, by omega, by omega, hlo, fun d d1 d2 u v hu hv => ?_, rfl⟩ ?_))⟩
          · have hc : ¬ cmp y.1 x.1 < 0 := by simpa using hc
            exact le_lt_le h0.ord sX sY hu gu (by omega) hv gv (by omega) (bef_no h0.ord hbxy hc)
          · show ((r : Int) - IntKind.wrap .i64 ((cc : Int) + 1)).toNat < ((r : Int) - (st : Int)).toNat
            rw [ep _ (by omega)]; omega
          · have hc : cmp y.1 x.1 < 0 := by simpa using hc
            exact le_lt_le h0.ord sY sX hv gv (by omega) hu gu (by omega) (bef_yes h0.ord hbxy hc)
          · show ((cc : Int) - (st : Int)).toNat < ((r : Int) - (st : Int)).toNat
            omega
        · have hge2 : ¬ (st : Int) < (r : Int) := of_decide_eq_false hge
          have hst : r = st := by omega
          subst hst
          clear hC
          have eE : IntKind.wrap .i64 ((N : Int) - (r : Int)) = ((N - r : Nat) : Int) := es _ _ (by omega) (by omega)
          dsimp only
          rw [eE]
          -- the four parts
          have hXs := List.take_append_drop (r - P.length) X
          have hYs := List.take_append_drop (N - r - (P.length + X.length)) Y
          have lX1 : (X.take (r - P.length)).length = r - P.length := take_len (by omega)
          have lX2 : (X.drop (r - P.length)).length = P.length + X.length - r := by rw [List.length_drop]; omega
          have lY1 : (Y.take (N - r - (P.length + X.length))).length = N - r - (P.length + X.length) := take_len (by omega)
          have lY2 : (Y.drop (N - r - (P.length + X.length))).length = P.length + X.length + Y.length - (N - r) := by rw [List.length_drop]; omega
          have D1 : ∀ x ∈ X.take (r - P.length), ∀ y ∈ Y.drop (N - r - (P.length + X.length)), lt cmp x y := fun x hx y hy => by
            obtain ⟨k, hk, hx⟩ := mem_take_at hx
            obtain ⟨l, hl, hy⟩ := mem_drop_at hy
            have hl2 := (List.getElem?_eq_some_iff.1 hy).1
            have hr0 : s0 < r := by
              rcases q6 with q6 | q6 <;> omega
            have gu : X[r - 1 - P.length]? = some (X[r - 1 - P.length]'(by omega)) := List.getElem?_eq_getElem (by omega)
            have gv : Y[N - 1 - (r - 1) - (P.length + X.length)]? = some (Y[N - 1 - (r - 1) - (P.length + X.length)]'(by omega)) := List.getElem?_eq_getElem (by omega)
            exact le_lt_le h0.ord sX sY hx gu (by omega) hy gv (by omega) (hlo (r - 1) (by omega) (by omega) _ _ gu gv)
          have D2 : ∀ y ∈ Y.take (N - r - (P.length + X.length)), ∀ x ∈ X.drop (r - P.length), lt cmp y x := fun y hy x hx => by
            obtain ⟨k, hk, hx⟩ := mem_drop_at hx
            obtain ⟨l, hl, hy⟩ := mem_take_at hy
            have hk2 := (List.getElem?_eq_some_iff.1 hx).1
            have hr0 : r < r0 := by
              rcases q7 with q7 | q7 <;> omega
            have gu : X[r - P.length]? = some (X[r - P.length]'(by omega)) := List.getElem?_eq_getElem (by omega)
            have gv : Y[N - 1 - r - (P.length + X.length)]? = some (Y[N - 1 - r - (P.length + X.length)]'(by omega)) := List.getElem?_eq_getElem (by omega)
            exact le_lt_le h0.ord sY sX hy gv (by omega) hx gu (by omega) (hhi r (by omega) (by omega) _ _ gu gv)
          have sX2 := sX
          have sY2 := sY
          rw [← hXs] at sX2
          rw [← hYs] at sY2
          obtain ⟨sA1, sA2, sA⟩ := sorted_of_app sX2
          obtain ⟨sB1, sB2, sB⟩ := sorted_of_app sY2
          have hb11 : befC (X.take (r - P.length)) (Y.take (N - r - (P.length + X.length))) := fun x hx y hy => hb x (List.mem_of_mem_take hx) y (List.mem_of_mem_take hy)
          have hb22 : befC (X.drop (r - P.length)) (Y.drop (N - r - (P.length + X.length))) := fun x hx y hy => hb x (List.mem_of_mem_drop hx) y (List.mem_of_mem_drop hy)
          have hru2 : RS enc u B A n c (P ++ X.take (r - P.length) ++ X.drop (r - P.length) ++ Y.take (N - r - (P.length + X.length)) ++ (Y.drop (N - r - (P.length + X.length)) ++ S)) := by
            have : P ++ X.take (r - P.length) ++ X.drop (r - P.length) ++ Y.take (N - r - (P.length + X.length)) ++ (Y.drop (N - r - (P.length + X.length)) ++ S) = P ++ X ++ Y ++ S := by
              simp only [List.append_assoc]
              rw [← List.append_assoc (X.take (r - P.length)), hXs, ← List.append_assoc (Y.take (N - r - (P.length + X.length))), hYs]
            rw [this]; exact hru
          have hperm : (X.take (r - P.length) ++ Y.take (N - r - (P.length + X.length)) ++ (X.drop (r - P.length) ++ Y.drop (N - r - (P.length + X.length)))).Perm (X ++ Y) := by
            conv => rhs; rw [← hXs, ← hYs]
            simp only [List.append_assoc]
            exact (List.perm_append_comm_assoc _ _ _).append_left _
          generalize X.take (r - P.length) = A1 at lX1 D1 sA1 sA hb11 hru2 hperm hXs
          generalize X.drop (r - P.length) = A2 at lX2 D2 sA2 sA hb22 hru2 hperm hXs
          generalize Y.take (N - r - (P.length + X.length)) = B1 at lY1 D2 sB1 sB hb11 hru2 hperm hYs
          generalize Y.drop (N - r - (P.length + X.length)) = B2 at lY2 D1 sB2 sB hb22 hru2 hperm hYs
          -- behind the merges of both halves
          have last : ∀ (v : World) (M1 M2 : List (β × Nat)), Fr (fun k => blkOf A = some k) w v → M1.Perm (A1 ++ B1) → Sorted cmp M1 → M2.Perm (A2 ++ B2) → Sorted cmp M2 → RS enc v B A n c (P ++ M1 ++ M2 ++ S) → Value.tuple #[] = Value.tuple #[] ∧ Mrg enc cmp w v B A n c P X Y S := by
            intro v M1 M2 fv m1 s1 m2 s2 hv
            refine ⟨rfl, fv, M1 ++ M2, (m1.append m2).trans hperm, sorted_app s1 s2 (fun x hx y hy => ?_), by simpa using hv⟩
            rcases List.mem_append.1 (m1.mem_iff.1 hx) with hx | hx <;> rcases List.mem_append.1 (m2.mem_iff.1 hy) with hy | hy
            · exact sA x hx y hy
            · exact D1 x hx y hy
            · exact D2 x hx y hy
            · exact sB x hx y hy
          -- the right half
          have right : ∀ (v : World) (M1 : List (β × Nat)), Fr (fun k => blkOf A = some k) w v → M1.Perm (A1 ++ B1) → Sorted cmp M1 → RS enc v B A n c (P ++ M1 ++ (A2 ++ B2) ++ S) →
              jnC (F122s.k43 (fun v w' => v = .tuple #[] ∧ Mrg enc cmp w w' B A n c P X Y S)) ((A, n, c), ((P.length + X.length + Y.length : Nat) : Int), (), (mid : Int), ((N - r : Nat) : Int), ()) v := by
            intro v M1 fv m1 s1 hv
            have lM1 : M1.length = mid - P.length := by rw [m1.length_eq, List.length_append]; omega
            have k44 : ∀ bb : Bool, bb = decide (mid < N - r ∧ N - r < P.length + X.length + Y.length) → jnC (F122s.k44 (fun v w' => v = .tuple #[] ∧ Mrg enc cmp w w' B A n c P X Y S)) ((A, n, c), ((P.length + X.length + Y.length : Nat) : Int), (), (mid : Int), ((N - r : Nat) : Int), bb, ()) v := by
              intro bb hbb
              refine jnC_mk (fun _ => vIf_mk (fun h1 => ?_) (fun h1 => ?_))
              · have h1 : bb = true := h1
                rw [h1] at hbb
                have hh := of_decide_eq_true hbb.symm
                refine (ih (P ++ M1) A2 B2 S v (by omega) (by simpa using hv) sA2 sB2 hb22 (fun h => by rw [h] at lX2; simp at lX2; omega) (fun h => by rw [h] at lY2; simp at lY2; omega) (mid : Int) ((N - r : Nat) : Int) ((P.length + X.length + Y.length : Nat) : Int) (by rw [List.length_append]; omega) (by rw [List.length_append]; omega) (by rw [List.length_append]; omega)).mono ?_
                rintro q v2 ⟨rfl, f2, M2, m2, s2, hv2⟩
                exact ⟨rfl, last v2 M1 M2 (fv.trans1 f2) m1 s1 m2 s2 (by simpa using hv2)⟩
              · have h1 : bb = false := h1
                rw [h1] at hbb
                have hh := of_decide_eq_false hbb.symm
                refine last v M1 (A2 ++ B2) fv m1 s1 (List.Perm.refl _) ?_ (by simpa using hv)
                rcases Nat.lt_or_ge mid (N - r) with hh2 | hh2
                · have : B2 = [] := List.length_eq_zero_iff.1 (by omega)
                  rw [this, List.append_nil]; exact sA2
                · have : A2 = [] := List.length_eq_zero_iff.1 (by omega)
                  rw [this, List.nil_append]; exact sB2
            refine jnC_mk (fun _ => vIf_mk (fun h1 => k44 _ ?_) (fun h1 => k44 _ ?_))
            · have h1 : (mid : Int) < ((N - r : Nat) : Int) := of_decide_eq_true h1
              apply decide_eq_decide.2
              show ((N - r : Nat) : Int) < ((P.length + X.length + Y.length : Nat) : Int) ↔ _
              omega
            · have h1 : ¬ (mid : Int) < ((N - r : Nat) : Int) := of_decide_eq_false h1
              rw [decide_eq_false (fun h => h1 (by omega))]
          -- the left half
          have left : ∀ (v : World), Fr (fun k => blkOf A = some k) w v → RS enc v B A n c (P ++ (A1 ++ B1) ++ (A2 ++ B2) ++ S) →
              jnC (F122s.k41 (fun v w' => v = .tuple #[] ∧ Mrg enc cmp w w' B A n c P X Y S)) ((A, n, c), ((P.length : Nat) : Int), ((P.length + X.length + Y.length : Nat) : Int), (), (mid : Int), (r : Int), ((N - r : Nat) : Int), ()) v := by
            intro v fv hv
            have k42 : ∀ bb : Bool, bb = decide (P.length < r ∧ r < mid) → jnC (F122s.k42 (fun v w' => v = .tuple #[] ∧ Mrg enc cmp w w' B A n c P X Y S)) ((A, n, c), ((P.length : Nat) : Int), ((P.length + X.length + Y.length : Nat) : Int), (), (mid : Int), (r : Int), ((N - r : Nat) : Int), bb, ()) v := by
              intro bb hbb
              refine jnC_mk (fun _ => vIf_mk (fun h1 => ?_) (fun h1 => ?_))
              · have h1 : bb = true := h1
                rw [h1] at hbb
                have hh := of_decide_eq_true hbb.symm
                refine (ih P A1 B1 (A2 ++ B2 ++ S) v (by omega) (by simpa using hv) sA1 sB1 hb11 (fun h => by rw [h] at lX1; simp at lX1; omega) (fun h => by rw [h] at lY1; simp at lY1; omega) ((P.length : Nat) : Int) (r : Int) (mid : Int) rfl (by omega) (by omega)).mono ?_
                rintro q v2 ⟨rfl, f2, M1, m1, s1, hv2⟩
                exact ⟨rfl, right v2 M1 (fv.trans1 f2) m1 s1 (by simpa using hv2)⟩
              · have h1 : bb = false := h1
                rw [h1] at hbb
                have hh := of_decide_eq_false hbb.symm
                refine right v (A1 ++ B1) fv (List.Perm.refl _) ?_ hv
                rcases Nat.lt_or_ge P.length r with hh2 | hh2
                · have : B1 = [] := List.length_eq_zero_iff.1 (by omega)
                  rw [this, List.append_nil]; exact sA1
                · have : A1 = [] := List.length_eq_zero_iff.1 (by omega)
                  rw [this, List.nil_append]; exact sB1
            refine jnC_mk (fun _ => vIf_mk (fun h1 => k42 _ ?_) (fun h1 => k42 _ ?_))
            · have h1 : ((P.length : Nat) : Int) < (r : Int) := of_decide_eq_true h1
              apply decide_eq_decide.2
              show (r : Int) < (mid : Int) ↔ _
              omega
            · have h1 : ¬ ((P.length : Nat) : Int) < (r : Int) := of_decide_eq_false h1
              rw [decide_eq_false (fun h => h1 (by omega))]
          have k40 : ∀ bb : Bool, bb = decide (r < P.length + X.length ∧ P.length + X.length < N - r) → jnC (F122s.k40 (fun v w' => v = .tuple #[] ∧ Mrg enc cmp w w' B A n c P X Y S)) ((A, n, c), ((P.length : Nat) : Int), ((P.length + X.length : Nat) : Int), ((P.length + X.length + Y.length : Nat) : Int), (), (mid : Int), (r : Int), ((N - r : Nat) : Int), bb, ()) u := by
            intro bb hbb
            have fu : Fr (fun k => blkOf A = some k) w u := hf.mono (fun _ _ h => h.elim)
            refine jnC_mk (fun _ => vIf_mk (fun h1 => ?_) (fun h1 => ?_))
            · have h1 : bb = true := h1
              rw [h1] at hbb
              have hh := of_decide_eq_true hbb.symm
              refine (rotate_calls (a := (r : Int)) (m := ((P.length + X.length : Nat) : Int)) (b := ((N - r : Nat) : Int)) h0 B A n c (P ++ A1) A2 B1 (B2 ++ S) u hru2 (fun h => by rw [h] at lX2; simp at lX2; omega) (fun h => by rw [h] at lY1; simp at lY1; omega) hn (by rw [List.length_append]; omega) (by rw [List.length_append]; omega) (by rw [List.length_append]; omega)).mono ?_
              rintro q v ⟨rfl, f2, hv⟩
              exact ⟨rfl, left v (fu.trans1 f2) (by simpa using hv)⟩
            · have h1 : bb = false := h1
              rw [h1] at hbb
              have hh := of_decide_eq_false hbb.symm
              refine left u fu ?_
              rcases Nat.lt_or_ge r (P.length + X.length) with hh2 | hh2
              · have : B1 = [] := List.length_eq_zero_iff.1 (by omega)
                rw [this] at hru2 ⊢
                simpa using hru2
              · have : A2 = [] := List.length_eq_zero_iff.1 (by omega)
                rw [this] at hru2 ⊢
                simpa using hru2
          refine vIf_mk (fun h1 => k40 _ ?_) (fun h1 => k40 _ ?_)
          · have h1 : (r : Int) < ((P.length + X.length : Nat) : Int) := of_decide_eq_true h1
            apply decide_eq_decide.2
            omega
          · have h1 : ¬ (r : Int) < ((P.length + X.length : Nat) : Int) := of_decide_eq_false h1
            rw [decide_eq_false (fun h => h1 (by omega))]
      refine vIf_mk (fun h3 => ?_) (fun h3 => ?_)
      · have h3 : ((P.length + X.length : Nat) : Int) > (mid : Int) := of_decide_eq_true h3
        have eS : IntKind.wrap .i64 ((N : Int) - ((P.length + X.length + Y.length : Nat) : Int)) = ((N - (P.length + X.length + Y.length) : Nat) : Int) := es _ _ (by omega) (by omega)
        rw [eS]
        exact fin _ _ (by omega) (by omega) (by omega) (by omega) (by omega) (.inr (by omega)) (.inr rfl)
      · have h3 : ¬ ((P.length + X.length : Nat) : Int) > (mid : Int) := of_decide_eq_false h3
        exact fin _ _ (by omega) (by omega) (by omega) (by omega) (by omega) (.inl rfl) (.inl rfl)
end
end Go.Proofs.YthcclmlbkfadcaaGreat.StbWd
/- stable sorting, walked: insertionSort, the sort: rows of api.Word -/
namespace Go.Proofs.YthcclmlbkfadcaaGreat.StbWd
open Go.GV Go.RowKit Go.Stb
set_option linter.unusedVariables false
set_option linter.unusedSimpArgs false
section
variable {β : Type} {enc : β → List Value} {cmp : β → β → Int}
/-- what a sort of a part leaves -/
def Srted (enc : β → List Value) (cmp : β → β → Int) (w w' : World) (B : Nat) (A : Option Addr) (n c : Nat) (P X S : List (β × Nat)) : Prop :=
  Fr (fun k => blkOf A = some k) w w' ∧ ∃ M, M.Perm X ∧ Sorted cmp M ∧ RS enc w' B A n c (P ++ M ++ S)
set_option maxHeartbeats 1000000 in
theorem insSort_calls (h0 : Srt β enc cmp) (B : Nat) (A : Option Addr) (n c : Nat) (P X S : List (β × Nat)) (w : World) (h : RS enc w B A n c (P ++ X ++ S)) (hb : X.Pairwise bef) (hn : n < 549755813888) {a b : Int} (ha : a = ((P.length : Nat) : Int)) (hbb : b = ((P.length + X.length : Nat) : Int)) :
    Calls Tryz.prog 121 #[.slice A n c, .int .i64 a, .int .i64 b, cf] w fun e w' => e = .returned (.tuple #[]) ∧ Srted enc cmp w w' B A n c P X S := by
  subst ha; subst hbb
  refine (F121s.of A n c _ _ w (Q := fun v w' => v = .tuple #[] ∧ Srted enc cmp w w' B A n c P X S) ?_).mono (fun e w' ⟨v, he, hv, h⟩ => ⟨by rw [he, hv], h⟩)
  have hlen := h.2
  simp only [List.length_append] at hlen
  by_cases hX0 : X = []
  · subst hX0
    refine jnC_mk (loop_rule (fun s u => u = w ∧ s = ((A, n, c), ((P.length : Nat) : Int), ((P.length + ([] : List (β × Nat)).length : Nat) : Int), (), ((P.length + 1 : Nat) : Int), ())) (fun _ _ => 0) ?_ _ _ ⟨rfl, by rw [ep _ (by omega)]⟩)
    rintro s u C ⟨rfl, rfl⟩ hC _
    refine vIf_f (decide_eq_false ?_) ⟨rfl, Fr.refl _ _, [], List.Perm.refl _, List.Pairwise.nil, h⟩
    show ¬ ((P.length + 1 : Nat) : Int) < ((P.length + ([] : List (β × Nat)).length : Nat) : Int)
    simp only [List.length_nil]
    omega
  obtain ⟨x0, X0, rfl⟩ : ∃ x r, X = x :: r := by
    cases X with
    | nil => exact absurd rfl hX0
    | cons x r => exact ⟨x, r, rfl⟩
  refine jnC_mk (loop_rule (fun s u => Fr (fun k => blkOf A = some k) w u ∧ ∃ X1 M X2 : List (β × Nat), X1 ++ X2 = x0 :: X0 ∧ M.Perm X1 ∧ Sorted cmp M ∧ M ≠ [] ∧ s = ((A, n, c), ((P.length : Nat) : Int), ((P.length + (x0 :: X0).length : Nat) : Int), (), ((P.length + M.length : Nat) : Int), ()) ∧ RS enc u B A n c (P ++ M ++ X2 ++ S))
    (fun s _ => (P.length + (x0 :: X0).length - s.2.2.2.2.1).toNat) ?_ _ _ ⟨Fr.refl _ _, [x0], [x0], X0, rfl, List.Perm.refl _, List.pairwise_singleton _ _, by simp, by rw [ep _ (by omega)]; rfl, by simpa using h⟩)
  rintro s u C1 ⟨hf, X1, M, X2, hX, hM, sM, hM0, rfl, hr⟩ hC1 _
  have hXl : X1.length + X2.length = (x0 :: X0).length := by rw [← hX, List.length_append]
  have hMl := hM.length_eq
  refine vIf_mk (fun hlt => ?_) (fun hge => ?_)
  · have hlt2 : ((P.length + M.length : Nat) : Int) < ((P.length + (x0 :: X0).length : Nat) : Int) := of_decide_eq_true hlt
    obtain ⟨x, X2', rfl⟩ : ∃ x r, X2 = x :: r := by
      cases X2 with
      | nil => simp at hXl hlt2; omega
      | cons x r => exact ⟨x, r, rfl⟩
    simp only [List.length_cons] at hXl hlt2 hlen
    have hbx : ∀ y ∈ M, bef y x := fun y hy => by
      rw [← hX] at hb
      exact (List.pairwise_append.1 hb).2.2 y (hM.mem_iff.1 hy) x (List.mem_cons_self ..)
    have hM1 : M.length ≠ 0 := fun h => hM0 (List.length_eq_zero_iff.1 h)
    -- x goes down
    refine jnC_mk (loop_rule (fun s v => Fr (fun k => blkOf A = some k) w v ∧ ∃ U V : List (β × Nat), U ++ V = M ∧ (∀ y ∈ V, lt cmp x y) ∧ s = ((A, n, c), ((P.length : Nat) : Int), ((P.length + (x0 :: X0).length : Nat) : Int), (), ((P.length + M.length : Nat) : Int), ((P.length + U.length : Nat) : Int), ()) ∧ RS enc v B A n c (P ++ U ++ x :: V ++ X2' ++ S))
      (fun s _ => s.2.2.2.2.2.1.toNat) ?_ _ _ ⟨hf, M, [], by simp, by simp, rfl, by simpa using hr⟩)
    rintro s v C ⟨hfv, U, V, hUV, hVx, rfl, hrv⟩ hC _
    have hUVl : U.length + V.length = M.length := by rw [← hUV, List.length_append]
    have sUV := sM
    rw [← hUV] at sUV
    obtain ⟨sU, sV, sUV2⟩ := sorted_of_app sUV
    have next : ∀ u2 : World, Fr (fun k => blkOf A = some k) w u2 → RS enc u2 B A n c (P ++ U ++ x :: V ++ X2' ++ S) → (∀ y ∈ U, lt cmp y x) → C1 ((A, n, c), ((P.length : Nat) : Int), ((P.length + (x0 :: X0).length : Nat) : Int), (), IntKind.wrap .i64 (((P.length + M.length : Nat) : Int) + 1), ()) u2 := by
      intro u2 f2 h2 hUx
      refine hC1 _ _ ⟨f2, X1 ++ [x], U ++ x :: V, X2', by rw [← hX]; simp, ?_, ?_, by simp, ?_, by simpa using h2⟩ ?_
      · refine List.perm_middle.trans ?_
        rw [hUV]
        exact (hM.cons x).trans (List.perm_append_singleton _ _).symm
      · refine sorted_app sU (List.pairwise_cons.2 ⟨hVx, sV⟩) (fun y hy z hz => ?_)
        rcases List.mem_cons.1 hz with rfl | hz
        · exact hUx y hy
        · exact sUV2 y hy z hz
      · have : (U ++ x :: V).length = M.length + 1 := by simp; omega
        rw [ep _ (by omega), this]; rfl
      · show (((P.length : Nat) : Int) + (((x0 :: X0).length : Nat) : Int) - IntKind.wrap .i64 (((P.length + M.length : Nat) : Int) + 1)).toNat < (((P.length : Nat) : Int) + (((x0 :: X0).length : Nat) : Int) - ((P.length + M.length : Nat) : Int)).toNat
        rw [ep _ (by omega), List.length_cons]; omega
    have hvd := hrv.drew
    have fvd : Fr (fun k => blkOf A = some k) w v.drew := hfv.trans1 (Fr.drew _ _)
    refine vIf_mk (fun hj => ?_) (fun hj => ?_)
    · have hj2 : ((P.length + U.length : Nat) : Int) > ((P.length : Nat) : Int) := of_decide_eq_true hj
      obtain ⟨U', z, rfl⟩ : ∃ U' z, U = U' ++ [z] := by
        have hne : U ≠ [] := by intro h; subst h; simp at hj2
        exact ⟨U.dropLast, U.getLast hne, (List.dropLast_concat_getLast hne).symm⟩
      simp only [List.length_append, List.length_cons, List.length_nil] at hUVl hj2
      have l1 : P ++ (U' ++ [z]) ++ x :: V ++ X2' ++ S = (P ++ U') ++ z :: (x :: V ++ X2' ++ S) := by simp
      have l2 : P ++ (U' ++ [z]) ++ x :: V ++ X2' ++ S = (P ++ (U' ++ [z])) ++ x :: (V ++ X2' ++ S) := by simp
      have ek : IntKind.wrap .i64 (((P.length + (U' ++ [z]).length : Nat) : Int) - 1) = ((P.length + U'.length : Nat) : Int) := by rw [e1 _ (by simp; omega) (by simp; omega)]; simp only [List.length_append, List.length_cons, List.length_nil]; omega
      have gx := fun (t : World) (ht : RS enc t B A n c (P ++ (U' ++ [z]) ++ x :: V ++ X2' ++ S)) {K : List Value → Prop} (hK : K (enc x.1)) => rs_rd h0 ht (i := P.length + (U' ++ [z]).length) (x := x) (by rw [l2]; exact get_mid (by simp)) rfl hK
      have gz := fun (t : World) (ht : RS enc t B A n c (P ++ (U' ++ [z]) ++ x :: V ++ X2' ++ S)) {K : List Value → Prop} (hK : K (enc z.1)) => rs_rd h0 ht (i := P.length + U'.length) (x := z) (by rw [l1]; exact get_mid (by simp)) ek hK
      refine gx _ hvd (gz _ hvd ((h0.call x.1 z.1 v.drew).mono ?_))
      rintro r v2 ⟨rfl, f2⟩
      have fv2 := fvd.trans1 (f2.mono (T := fun k => blkOf A = some k) (fun _ _ h => h.elim))
      have hv2 := hvd.fr0 f2
      have hzM : z ∈ M := by rw [← hUV]; simp
      have hbz := hbx z hzM
      refine ⟨_, rfl, vIf_mk (fun hc => jnC_mk (fun _ => ?_)) (fun hc => jnC_mk (next v2 fv2 hv2 (fun y hy => ?_)))⟩
      · have hxz := bef_yes h0.ord hbz (of_decide_eq_true hc)
        have hv3 := hv2.drew
        refine gz _ hv3 (gx _ hv3 ?_)
        refine rs_swap h0 hv3 (i := P.length + (U' ++ [z]).length) (j := P.length + U'.length) (x := x) (y := z) (by simp; omega) (by omega) rfl ek (fun w' hr' f' => jnC_mk (hC _ _ ⟨(fv2.trans1 (Fr.drew _ _)).trans1 f', U', z :: V, by rw [← hUV]; simp, fun y hy => ?_, ?_, ?_⟩ ?_))
        · rcases List.mem_cons.1 hy with rfl | hy
          · exact hxz
          · exact hVx y hy
        · show (_, _, _, _, _, IntKind.wrap .i64 (((P.length + (U' ++ [z]).length : Nat) : Int) - 1), ()) = _
          rw [ek]
        · rw [l2, set_mid (by simp)] at hr'
          have l3 : (P ++ (U' ++ [z])) ++ z :: (V ++ X2' ++ S) = (P ++ U') ++ z :: (z :: (V ++ X2' ++ S)) := by simp
          rw [l3, set_mid (by simp)] at hr'
          have l4 : (P ++ U') ++ x :: (z :: (V ++ X2' ++ S)) = P ++ U' ++ x :: (z :: V) ++ X2' ++ S := by simp
          rw [l4] at hr'; exact hr'
        · show (IntKind.wrap .i64 (((P.length + (U' ++ [z]).length : Nat) : Int) - 1)).toNat < (((P.length + (U' ++ [z]).length : Nat) : Int)).toNat
          rw [ek]; simp only [List.length_append, List.length_cons, List.length_nil]; omega
      · have hzx := bef_no h0.ord hbz (of_decide_eq_false hc)
        rcases List.mem_append.1 hy with hy | hy
        · refine lt_trans h0.ord ?_ hzx
          exact (sorted_of_app sU).2.2 y hy z (by simp)
        · simp at hy; subst hy; exact hzx
    · have hj2 : ¬ ((P.length + U.length : Nat) : Int) > ((P.length : Nat) : Int) := of_decide_eq_false hj
      have hU : U = [] := List.length_eq_zero_iff.1 (by omega)
      exact jnC_mk (next v.drew fvd hvd (fun y hy => by rw [hU] at hy; cases hy))
  · have hge2 : ¬ ((P.length + M.length : Nat) : Int) < ((P.length + (x0 :: X0).length : Nat) : Int) := of_decide_eq_false hge
    have hX2 : X2 = [] := List.length_eq_zero_iff.1 (by omega)
    subst hX2
    rw [List.append_nil] at hX hr
    subst hX
    exact ⟨rfl, hf, M, hM, sM, hr⟩
/-! ### the sort -/
/-- sorted blocks of k, and less than k behind them -/
structure Blk (cmp : β → β → Int) (k : Nat) (Fs : List (List (β × Nat))) (t : List (β × Nat)) : Prop where
  len : ∀ f ∈ Fs, f.length = k
  srt : ∀ f ∈ Fs, Sorted cmp f
  tl : t.length < k
  ts : Sorted cmp t
  bf : (Fs ++ [t]).Pairwise befC
set_option maxHeartbeats 2000000 in
theorem stable_calls (h0 : Srt β enc cmp) (B : Nat) (A : Option Addr) (n c : Nat) (X : List (β × Nat)) (w : World) (h : RS enc w B A n c X) (hb : X.Pairwise bef) (hn : n < 68719476736) :
    Calls Tryz.prog 93 #[.slice A n c, .int .i64 (n : Nat), cf] w fun e w' => e = .returned (.tuple #[]) ∧ Srted enc cmp w w' B A n c [] X [] := by
  refine (F93s.of A n c _ w (Q := fun v w' => v = .tuple #[] ∧ Srted enc cmp w w' B A n c [] X []) ?_).mono (fun e w' ⟨v, he, hv, h⟩ => ⟨by rw [he, hv], h⟩)
  have hXl := h.2
  -- the merges
  have merges : ∀ (u : World) (Fs : List (List (β × Nat))) (t : List (β × Nat)), Fr (fun k => blkOf A = some k) w u → (Fs.flatten ++ t).Perm X → Blk cmp 20 Fs t → RS enc u B A n c (Fs.flatten ++ t) →
      jnC (F93s.l7 (fun v w' => v = .tuple #[] ∧ Srted enc cmp w w' B A n c [] X [])) ((A, n, c), (n : Int), (), 20, ()) u := by
    intro u Fs t hf hp hB hr
    refine jnC_mk (loop_rule (fun s u => Fr (fun k => blkOf A = some k) w u ∧ ∃ (k : Nat) (Fs : List (List (β × Nat))) (t : List (β × Nat)), 20 ≤ k ∧ k ≤ 2 * n + 20 ∧ s = ((A, n, c), (n : Int), (), (k : Int), ()) ∧ (Fs.flatten ++ t).Perm X ∧ Blk cmp k Fs t ∧ RS enc u B A n c (Fs.flatten ++ t))
      (fun s _ => (2 * (n : Int) + 20 - s.2.2.2.1).toNat) ?_ _ _ ⟨hf, 20, Fs, t, by omega, by omega, rfl, hp, hB, hr⟩)
    clear hr hB hp hf
    rintro s u C7 ⟨hf, k, Fs, t, hk1, hk2, rfl, hp, hB, hr⟩ hC7 _
    refine vIf_mk (fun hlt => ?_) (fun hge => ?_)
    · have hlt2 : (k : Int) < (n : Int) := of_decide_eq_true hlt
      have e2k : IntKind.wrap .i64 (2 * (k : Int)) = ((2 * k : Nat) : Int) := by rw [i64_id (by omega) (by omega)]; omega
      have ek2 : IntKind.wrap .i64 ((k : Int) * 2) = ((2 * k : Nat) : Int) := by rw [i64_id (by omega) (by omega)]; omega
      dsimp only
      rw [e2k]
      -- behind the last merge of a round
      have done : ∀ (v : World) (Ds : List (List (β × Nat))) (t' : List (β × Nat)), Fr (fun k => blkOf A = some k) w v → (Ds.flatten ++ t').Perm X → Blk cmp (2 * k) Ds t' → RS enc v B A n c (Ds.flatten ++ t') → C7 ((A, n, c), (n : Int), (), IntKind.wrap .i64 ((k : Int) * 2), ()) v := by
        intro v Ds t' fv hp' hB' hr'
        refine hC7 _ _ ⟨fv, 2 * k, Ds, t', by omega, by omega, by rw [ek2], hp', hB', hr'⟩ ?_
        show (2 * (n : Int) + 20 - IntKind.wrap .i64 ((k : Int) * 2)).toNat < (2 * (n : Int) + 20 - (k : Int)).toNat
        rw [ek2]; omega
      refine jnC_mk (loop_rule (fun s v => Fr (fun k => blkOf A = some k) w v ∧ ∃ (Ds Fs : List (List (β × Nat))), (Ds.flatten ++ (Fs.flatten ++ t)).Perm X ∧ (∀ d ∈ Ds, d.length = 2 * k ∧ Sorted cmp d) ∧ (∀ f ∈ Fs, f.length = k ∧ Sorted cmp f) ∧ (Ds ++ (Fs ++ [t])).Pairwise befC ∧ s = ((A, n, c), (n : Int), (), (k : Int), ((Ds.flatten.length : Nat) : Int), ((Ds.flatten.length + 2 * k : Nat) : Int), ()) ∧ RS enc v B A n c (Ds.flatten ++ (Fs.flatten ++ t)))
        (fun s _ => ((n : Int) - s.2.2.2.2.1).toNat) ?_ _ _ ⟨hf, [], Fs, by simpa using hp, by simp, fun f hf => ⟨hB.len f hf, hB.srt f hf⟩, hB.bf, by simp, by simpa using hr⟩)
      have ht := hB.tl
      have hts := hB.ts
      clear hr hB hp hf
      rintro s v C9 ⟨hf, Ds, Fs, hp, hD, hF, hbf, rfl, hr⟩ hC9 _
      have hl := hr.2
      simp only [List.length_append] at hl
      have hFl := flat_len (fun f hf => (hF f hf).1)
      have eAk : IntKind.wrap .i64 (((Ds.flatten.length : Nat) : Int) + (k : Int)) = ((Ds.flatten.length + k : Nat) : Int) := ea _ _ (by omega) (by omega)
      refine vIf_mk (fun hlt => ?_) (fun hge => ?_)
      · have hlt2 : ((Ds.flatten.length + 2 * k : Nat) : Int) ≤ (n : Int) := of_decide_eq_true hlt
        obtain ⟨f1, f2, Fs', rfl⟩ : ∃ f1 f2 r, Fs = f1 :: f2 :: r := by
          match Fs, hFl with
          | [], hFl => simp only [List.flatten_nil, List.length_nil] at hFl hl; omega
          | [f], hFl => simp only [List.length_cons, List.length_nil] at hFl; omega
          | f1 :: f2 :: r, _ => exact ⟨f1, f2, r, rfl⟩
        have q1 := hF f1 (List.mem_cons_self ..)
        have q2 := hF f2 (List.mem_cons_of_mem _ (List.mem_cons_self ..))
        have hfl : Ds.flatten ++ ((f1 :: f2 :: Fs').flatten ++ t) = Ds.flatten ++ f1 ++ f2 ++ (Fs'.flatten ++ t) := by simp
        rw [hfl] at hr hp
        dsimp only
        rw [eAk]
        refine (symMerge_calls h0 B A n c (by omega) _ Ds.flatten f1 f2 (Fs'.flatten ++ t) v (Nat.le_refl _) hr q1.2 q2.2 (befC_two (Ds := Ds) (R := Fs' ++ [t]) (by simpa using hbf)) (fun h => by rw [h] at q1; have := q1.1; simp only [List.length_nil] at this; omega) (fun h => by rw [h] at q2; have := q2.1; simp only [List.length_nil] at this; omega) ((Ds.flatten.length : Nat) : Int) ((Ds.flatten.length + k : Nat) : Int) ((Ds.flatten.length + 2 * k : Nat) : Int) rfl (by rw [q1.1]) (by rw [q1.1, q2.1]; omega)).mono ?_
        rintro r v2 ⟨rfl, f', M, mM, sM, hr'⟩
        have lM : M.length = 2 * k := by rw [mM.length_eq, List.length_append, q1.1, q2.1]; omega
        have hfl2 : Ds.flatten ++ M ++ (Fs'.flatten ++ t) = (Ds ++ [M]).flatten ++ (Fs'.flatten ++ t) := by simp
        rw [hfl2] at hr'
        have lD2 : (Ds ++ [M]).flatten.length = Ds.flatten.length + 2 * k := by rw [List.flatten_append, List.flatten_cons, List.flatten_nil, List.append_nil, List.length_append, lM]
        refine ⟨rfl, jnC_mk (hC9 _ _ ⟨hf.trans1 f', Ds ++ [M], Fs', ?_, fun d hd => ?_, fun f hf => hF f (List.mem_cons_of_mem _ (List.mem_cons_of_mem _ hf)), ?_, ?_, hr'⟩ ?_)⟩
        · rw [← hfl2]
          refine List.Perm.trans ?_ hp
          simp only [List.append_assoc]
          exact (((mM.append_right _).trans (by simp)).append_left _)
        · rcases List.mem_append.1 hd with hd | hd
          · exact hD d hd
          · simp at hd; subst hd; exact ⟨lM, sM⟩
        · have := befC_merge (Ds := Ds) (R := Fs' ++ [t]) (by simpa using hbf) mM
          simpa using this
        · show (_, _, _, _, ((Ds.flatten.length + 2 * k : Nat) : Int), IntKind.wrap .i64 (((Ds.flatten.length + 2 * k : Nat) : Int) + IntKind.wrap .i64 (2 * (k : Int))), ()) = _
          rw [e2k, ea _ _ (by omega) (by omega), lD2]
        · show ((n : Int) - ((Ds.flatten.length + 2 * k : Nat) : Int)).toNat < ((n : Int) - ((Ds.flatten.length : Nat) : Int)).toNat
          omega
      · have hge2 : ¬ ((Ds.flatten.length + 2 * k : Nat) : Int) ≤ (n : Int) := of_decide_eq_false hge
        clear hC9
        dsimp only
        rw [eAk]
        have hFs : Fs.length ≤ 1 := by
          rcases Nat.lt_or_ge Fs.length 2 with h' | h'
          · omega
          · have : 2 * k ≤ Fs.length * k := Nat.mul_le_mul_right _ h'
            omega
        match Fs, hFs with
        | [], _ =>
          simp only [List.flatten_nil, List.nil_append, List.length_nil] at hr hp hl hbf
          refine vIf_f (decide_eq_false (by omega)) (jnC_mk (done v Ds t hf hp ⟨fun d hd => (hD d hd).1, fun d hd => (hD d hd).2, by omega, hts, hbf⟩ hr))
        | [f], _ =>
          have q1 := hF f (List.mem_cons_self ..)
          simp only [List.flatten_cons, List.flatten_nil, List.append_nil] at hr hp hl
          have hbf2 : (Ds ++ f :: t :: []).Pairwise befC := by simpa using hbf
          refine vIf_mk (fun hm => ?_) (fun hm => ?_)
          · have hm2 : ((Ds.flatten.length + k : Nat) : Int) < (n : Int) := of_decide_eq_true hm
            have hr2 : RS enc v B A n c (Ds.flatten ++ f ++ t ++ []) := by simpa using hr
            refine (symMerge_calls h0 B A n c (by omega) _ Ds.flatten f t [] v (Nat.le_refl _) hr2 q1.2 hts (befC_two hbf2) (fun h => by rw [h] at q1; have := q1.1; simp only [List.length_nil] at this; omega) (fun h => by rw [h] at hl; simp only [List.length_nil] at hl; omega) ((Ds.flatten.length : Nat) : Int) ((Ds.flatten.length + k : Nat) : Int) (n : Int) rfl (by rw [q1.1]) (by omega)).mono ?_
            rintro r v2 ⟨rfl, f', M, mM, sM, hr'⟩
            have lM : M.length = k + t.length := by rw [mM.length_eq, List.length_append, q1.1]
            refine ⟨rfl, jnC_mk (done v2 Ds M (hf.trans1 f') ((mM.append_left _).trans hp) ⟨fun d hd => (hD d hd).1, fun d hd => (hD d hd).2, by omega, sM, ?_⟩ (by simpa using hr'))⟩
            exact befC_merge hbf2 mM
          · have hm2 : ¬ ((Ds.flatten.length + k : Nat) : Int) < (n : Int) := of_decide_eq_false hm
            have ht0 : t = [] := List.length_eq_zero_iff.1 (by omega)
            rw [ht0, List.append_nil] at hr hp
            refine jnC_mk (done v Ds f hf hp ⟨fun d hd => (hD d hd).1, fun d hd => (hD d hd).2, by omega, q1.2, ?_⟩ hr)
            exact befC_merge hbf2 (by rw [ht0, List.append_nil])
    · have hge2 : ¬ (k : Int) < (n : Int) := of_decide_eq_false hge
      have hl := hr.2
      simp only [List.length_append] at hl
      have hFl := flat_len hB.len
      have hFs : Fs.length ≤ 1 := by
        rcases Nat.lt_or_ge Fs.length 2 with h' | h'
        · omega
        · have : 2 * k ≤ Fs.length * k := Nat.mul_le_mul_right _ h'
          omega
      match Fs, hFs with
      | [], _ =>
        simp only [List.flatten_nil, List.nil_append] at hr hp
        exact ⟨rfl, hf, t, hp, hB.ts, by simpa using hr⟩
      | [f], _ =>
        have q1 := hB.len f (List.mem_cons_self ..)
        have q2 := hB.srt f (List.mem_cons_self ..)
        simp only [List.flatten_cons, List.flatten_nil, List.append_nil] at hr hp hl
        have ht0 : t = [] := List.length_eq_zero_iff.1 (by omega)
        rw [ht0, List.append_nil] at hr hp
        exact ⟨rfl, hf, f, hp, q2, by simpa using hr⟩
  -- the blocks
  refine jnC_mk (loop_rule (fun s u => Fr (fun k => blkOf A = some k) w u ∧ ∃ (X1 X2 : List (β × Nat)) (Fs : List (List (β × Nat))), X1 ++ X2 = X ∧ Fs.flatten.Perm X1 ∧ (∀ f ∈ Fs, f.length = 20 ∧ Sorted cmp f) ∧ Fs.Pairwise befC ∧ s = ((A, n, c), (n : Int), (), 20, ((Fs.flatten.length : Nat) : Int), ((Fs.flatten.length + 20 : Nat) : Int), ()) ∧ RS enc u B A n c (Fs.flatten ++ X2))
    (fun s _ => ((n : Int) - s.2.2.2.2.1).toNat) ?_ _ _ ⟨Fr.refl _ _, [], X, [], rfl, List.Perm.refl _, by simp, List.Pairwise.nil, rfl, by simpa using h⟩)
  rintro s u C ⟨hf, X1, X2, Fs, hX, hp, hF, hbf, rfl, hr⟩ hC _
  have hl := hr.2
  simp only [List.length_append] at hl
  rw [← hX] at hb
  obtain ⟨b1, b2, b3⟩ := List.pairwise_append.1 hb
  refine vIf_mk (fun hlt => ?_) (fun hge => ?_)
  · have hlt2 : ((Fs.flatten.length + 20 : Nat) : Int) ≤ (n : Int) := of_decide_eq_true hlt
    have hX2 := List.take_append_drop 20 X2
    have lY : (X2.take 20).length = 20 := take_len (by omega)
    have b4 := b2
    rw [← hX2] at b4
    obtain ⟨b5, b6, b7⟩ := List.pairwise_append.1 b4
    have hr2 : RS enc u B A n c (Fs.flatten ++ X2.take 20 ++ X2.drop 20) := by
      rw [List.append_assoc, hX2]; exact hr
    refine (insSort_calls h0 B A n c Fs.flatten (X2.take 20) (X2.drop 20) u hr2 b5 (by omega) rfl (by rw [lY])).mono ?_
    rintro r u2 ⟨rfl, f2, M, mM, sM, hr3⟩
    have lM : M.length = 20 := by rw [mM.length_eq, lY]
    have lF : (Fs ++ [M]).flatten.length = Fs.flatten.length + 20 := by rw [List.flatten_append, List.flatten_cons, List.flatten_nil, List.append_nil, List.length_append, lM]
    refine ⟨rfl, jnC_mk (hC _ _ ⟨hf.trans1 f2, X1 ++ X2.take 20, X2.drop 20, Fs ++ [M], by rw [List.append_assoc, hX2, hX], ?_, fun f hf => ?_, ?_, ?_, by simpa using hr3⟩ ?_)⟩
    · rw [List.flatten_append, List.flatten_cons, List.flatten_nil, List.append_nil]
      exact hp.append mM
    · rcases List.mem_append.1 hf with hf | hf
      · exact hF f hf
      · simp at hf; subst hf; exact ⟨lM, sM⟩
    · refine List.pairwise_append.2 ⟨hbf, List.pairwise_singleton _ _, fun f hf m hm x hx y hy => ?_⟩
      simp at hm; subst hm
      exact b3 x (hp.mem_iff.1 (List.mem_flatten.2 ⟨f, hf, hx⟩)) y (List.mem_of_mem_take (mM.mem_iff.1 hy))
    · show (_, _, _, _, ((Fs.flatten.length + 20 : Nat) : Int), IntKind.wrap .i64 (((Fs.flatten.length + 20 : Nat) : Int) + 20), ()) = _
      rw [lF, i64_id (by omega) (by omega)]; congr 6
    · show ((n : Int) - ((Fs.flatten.length + 20 : Nat) : Int)).toNat < ((n : Int) - ((Fs.flatten.length : Nat) : Int)).toNat
      omega
  · have hge2 : ¬ ((Fs.flatten.length + 20 : Nat) : Int) ≤ (n : Int) := of_decide_eq_false hge
    refine (insSort_calls h0 B A n c Fs.flatten X2 [] u (by simpa using hr) b2 (by omega) rfl (by show (n : Int) = _; omega)).mono ?_
    rintro r u2 ⟨rfl, f2, M, mM, sM, hr3⟩
    refine ⟨rfl, merges u2 Fs M (hf.trans1 f2) ?_ ⟨fun f hf => (hF f hf).1, fun f hf => (hF f hf).2, by rw [mM.length_eq]; omega, sM, ?_⟩ (by simpa using hr3)⟩
    · rw [← hX]; exact hp.append mM
    · refine List.pairwise_append.2 ⟨hbf, List.pairwise_singleton _ _, fun f hf m hm x hx y hy => ?_⟩
      simp at hm; subst hm
      exact b3 x (hp.mem_iff.1 (List.mem_flatten.2 ⟨f, hf, hx⟩)) y (mM.mem_iff.1 hy)
/-- SortStableFunc: the row in its stable order -/
theorem sortStable_calls (h0 : Srt β enc cmp) (B : Nat) (A : Option Addr) (n c : Nat) (X : List β) (w : World) (h : Row w B 37 39 A n c (flt enc X)) (hl : X.length = n) (hn : n < 68719476736) :
    Calls Tryz.prog 51 #[.slice A n c, cf] w fun e w' => e = .returned (.tuple #[]) ∧ Fr (fun k => blkOf A = some k) w w' ∧ Row w' B 37 39 A n c (flt enc (stab cmp X)) := by
  refine (F51s.of A n c w (Q := fun v w' => v = .tuple #[] ∧ Fr (fun k => blkOf A = some k) w w' ∧ Row w' B 37 39 A n c (flt enc (stab cmp X))) ?_).mono (fun e w' ⟨v, he, hv, h⟩ => ⟨by rw [he, hv], h⟩)
  have hflt : ∀ l : List (β × Nat), flt (encT enc) l = flt enc (l.map (·.1)) := fun l => by
    unfold flt
    rw [List.map_map]
    rfl
  have hR : RS enc w B A n c (tagL X) := ⟨by rw [hflt, tagL_fst]; exact h, by simp [tagL, hl]⟩
  have hb : (tagL X).Pairwise bef := by
    unfold tagL bef
    rw [List.pairwise_iff_getElem]
    intro i j hi hj hij
    simp
    omega
  refine (stable_calls h0 B A n c (tagL X) w hR hb hn).mono ?_
  rintro r w2 ⟨rfl, f, M, mM, sM, hr⟩
  refine ⟨rfl, rfl, f, ?_⟩
  have h1 := hr.1
  rw [List.nil_append, List.append_nil, hflt, stab_of h0.ord sM mM] at h1
  exact h1
end
end Go.Proofs.YthcclmlbkfadcaaGreat.StbWd
/- slices.Insert of one: rows of api.Load -/
namespace Go.Proofs.YthcclmlbkfadcaaGreat.InsLd
open Go.GV Go.RowKit
set_option linter.unusedVariables false
set_option linter.unusedSimpArgs false
section
variable {β : Type} {enc : β → List Value}
theorem src_rec {w : World} {b : Nat} {e : TypeId} {cs : List Value} {sz : Nat} (h : RecAt w b e cs) (hl : cs.length = sz) : srcOf w sz (.slice (some ⟨b, 0, none⟩) 1 1) 1 cs :=
  ⟨rfl, by omega, fun _ => dr_mk (h.cells (o := 0) (fun j v hj => by simpa using hj))⟩
set_option maxHeartbeats 1000000 in
theorem insert_calls (h0 : EncO β enc 3) (B : Nat) (A : Option Addr) (n c i : Nat) (l : List β) (x : β) (bv : Nat) (w : World) (h : Row w B 98 3 A n c (flt enc l)) (hl : l.length = n) (hi : i ≤ n) (hv : RecAt w bv 98 (enc x)) (hA : blkOf A ≠ some bv) (hB : B ≤ w.heap.size) (hn : n ≤ 1073741824) :
    Calls Tryz.prog 83 #[.slice A n c, .int .i64 (i : Nat), .slice (some ⟨bv, 0, none⟩) 1 1] w fun e w' => ∃ A' c', e = .returned (.slice A' (n + 1) c') ∧ Fr (fun k => blkOf A = some k) w w' ∧ Row w' B 98 3 A' (n + 1) c' (flt enc (l.take i ++ x :: l.drop i)) ∧ ∀ k, blkOf A' = some k → blkOf A = some k ∨ w.heap.size ≤ k := by
  refine (F83.of A n c _ (some ⟨bv, 0, none⟩) 1 1 w (Q := fun v w' => ∃ A' c', v = .slice A' (n + 1) c' ∧ Fr (fun k => blkOf A = some k) w w' ∧ Row w' B 98 3 A' (n + 1) c' (flt enc (l.take i ++ x :: l.drop i)) ∧ ∀ k, blkOf A' = some k → blkOf A = some k ∨ w.heap.size ≤ k) ?_).mono (fun e w' ⟨v, he, A', c', hv, h⟩ => ⟨A', c', by rw [he, hv], h⟩)
  have hle := h.le
  have hx := h0.len x
  have hfl := h0.fl l
  have hsx := src_rec hv hx
  have ox := h0.one x
  have htx : (enc x).take 3 = enc x := by rw [← hx, List.take_length]
  have hlT : (flt enc (l.take i)).length = i * 3 := by rw [h0.fl, List.length_take, hl, Nat.min_eq_left hi]
  have hlD : (flt enc (l.drop i)).length = (n - i) * 3 := by rw [h0.fl, List.length_drop, hl]
  have fin : flt enc (l.take i ++ x :: l.drop i) = flt enc (l.take i) ++ enc x ++ flt enc (l.drop i) := by rw [flt_app, flt_cons, List.append_assoc]
  rw [fin]
  clear fin
  refine gd_mk (decide_eq_true (by omega)) (gd_mk (decide_eq_true (by omega)) (vIf_f rfl (vIf_mk (fun he => ?_) (fun hne => ?_))))
  · have he : (i : Int) = (n : Int) := by simpa using he
    have he : i = n := by omega
    subst he
    have ht : l.take i = l := List.take_of_length_le (by omega)
    have hd : l.drop i = [] := List.drop_of_length_le (by omega)
    refine app_row2 (us := enc x) (m := 1) h hsx ox rfl (by omega) (by omega) hB (fun A' c' w' hr' f' hb' => ⟨A', c', rfl, f', ?_, hb'⟩)
    rw [ht, hd, flt_nil, List.append_nil]
    exact hr'
  have hne : i ≠ n := fun h => by subst h; simp at hne
  obtain ⟨b, hb⟩ : ∃ b, A = some ⟨b, 0, none⟩ := by
    rcases h.at_ with ⟨_, h0, _⟩ | ⟨b, _, hA, _⟩
    · omega
    · exact ⟨b, hA⟩
  subst hb
  have hbb : b ≠ bv := fun h => hA (by rw [h]; rfl)
  have en : IntKind.wrap .i64 ((n : Int) + ((1 : Nat) : Int)) = ((n + 1 : Nat) : Int) := by rw [i64_id (by omega) (by omega)]; rfl
  have ei : IntKind.wrap .i64 ((i : Int) + ((1 : Nat) : Int)) = ((i + 1 : Nat) : Int) := by rw [i64_id (by omega) (by omega)]; rfl
  have ed : IntKind.wrap .i64 (((n + 1 : Nat) : Int) - (i : Int)) = ((n + 1 - i : Nat) : Int) := by rw [i64_id (by omega) (by omega)]; omega
  have h00 : slA (some (⟨b, 0, none⟩ : Addr)) c 0 3 = some ⟨b, 0, none⟩ := sl0 _ _ _
  simp only [en, ei, ed, h00, Int.toNat_natCast]
  refine vIf_mk (fun hgt => ?_) (fun hng => ?_)
  · have hgt : c < n + 1 := by have := of_decide_eq_true hgt; omega
    refine gd_mk (decide_eq_true (by omega)) (gd_mk (decide_eq_true (by omega)) ?_)
    have hnm : i + (n + 1 - i) = n + 1 := by omega
    refine appZ_new (m := n + 1 - i) (old := flt enc (l.take i)) (B := B) (by rw [← h0.ft l (by omega)]; exact h.sl.headS (by omega)) (by rw [i64_id (by omega) (by omega)]) (by omega) (by intro v hv; repeat (first | (cases hv; done) | (rcases List.mem_cons.1 hv with rfl | hv; · rfl))) rfl (by omega) (by omega) (by omega) hB (fun b5 c5 w5 hb5 hr5 f5 => ?_)
    rw [hnm] at hr5 ⊢
    have hzl : (zeros (n + 1 - i) ([.int .i64 0, .int .i64 0, .int .i64 0] : List Value)).length = (n + 1 - i) * 3 := by rw [zeros_length]; rfl
    refine gd_mk (decide_eq_true (by omega)) (gd_mk (decide_eq_true (by omega)) ?_)
    refine cpy_row hr5 (src_rec (hv.fr f5 (fun h => h)) hx) (by omega) (by omega) (by rw [Nat.min_eq_left (by omega), Nat.one_mul, htx]; exact ox) (fun w6 hr6 f6 => ?_)
    rw [Nat.min_eq_left (by omega), Nat.one_mul, htx, splice_at hlT] at hr6
    refine gd_mk (decide_eq_true (by omega)) (gd_mk (decide_eq_true (by omega)) (gd_mk (decide_eq_true (by omega)) (gd_mk (decide_eq_true (by omega)) ?_)))
    have hsD := h.tailS (k := i) (by omega)
    rw [h0.fd l (by omega)] at hsD
    have hbl := (h.blt (b := b) rfl).2
    have f56 : Fr (fun k => b5 = k) w w6 := (f5.mono (fun _ _ h => h.elim)).trans1 (f6.mono (fun k _ h => by simpa [blkOf] using h))
    have f7 := f56.trans1 (Fr.drew _ _)
    have hsD7 := f7.sl hsD (fun _ k hk h => by rw [sl_blk] at hk; injection hk with hk; omega)
    refine cpy_row ((Fr.drew (fun _ => False) w6).row hr6 (fun _ _ h => h)) hsD7.src (by rw [hlD]) (by omega) (by intro v hv; exact h0.fo _ v (List.mem_of_mem_take hv)) (fun w8 hr8 f8 => ⟨_, _, rfl, ?_, ?_, fun k hk => .inr (by simp [blkOf] at hk; omega)⟩)
    · exact (f7.trans1 (f8.mono (fun k _ h => by simpa [blkOf] using h))).mono (fun k hk h => by omega)
    · have hD : (flt enc (l.drop i)).take (min (n - i) (n + 1 - (i + 1)) * 3) = flt enc (l.drop i) := List.take_of_length_le (by rw [hlD, show min (n - i) (n + 1 - (i + 1)) = n - i by omega]; exact Nat.le_refl _)
      have hd0 : ((zeros (n + 1 - i) ([.int .i64 0, .int .i64 0, .int .i64 0] : List Value)).drop (enc x).length).drop (flt enc (l.drop i)).length = [] := List.drop_of_length_le (by rw [List.length_drop, hzl, hx, hlD]; omega)
      rw [hD, splice_at (by rw [List.length_append, hlT, hx]; omega), hd0, List.append_nil] at hr8
      exact hr8
  · have hng : n + 1 ≤ c := by have := of_decide_eq_false hng; omega
    have hs1 : slA (some (⟨b, 0, none⟩ : Addr)) c (i + 1) 3 = some ⟨b, (i + 1) * 3, none⟩ := slS (by omega)
    refine gd_mk (decide_eq_true (by omega)) (gd_mk (decide_eq_true (by omega)) (gd_mk (decide_eq_true (by omega)) (gd_mk (decide_eq_true (by omega)) ?_)))
    obtain ⟨cs, hcs, hcl⟩ : ∃ cs, w.heap[b]? = some (.cells cs 98 (0, 0)) ∧ cs.size = c * 3 := by
      rcases h.at_ with ⟨h1, _⟩ | ⟨b', cs, hA', _, hh, hs, _⟩
      · cases h1
      · cases hA'; exact ⟨cs, hh, hs⟩
    have hov : ∀ K : Value → World → Prop, K (.bool false) w → extC Tryz.prog 115 #[Value.slice (some ⟨bv, 0, none⟩) 1 1, Value.slice (slA (some (⟨b, 0, none⟩ : Addr)) c (i + 1) 3) (n + 1 - (i + 1)) (c - (i + 1))] w K := by
      intro K hK
      rw [hs1]
      exact overlaps_ext (tS := 28) (tR := 4) (e := 98) Tryz.func115 (by kernel_rfl) (by kernel_rfl) (by kernel_rfl) (by kernel_rfl) (size := 3) (by decide) (by kernel_rfl) hv hcs (fun h => hbb h.symm) (by omega) hK
    refine hov _ ⟨false, rfl, vIf_t rfl ?_⟩
    refine gd_mk (decide_eq_true (by omega)) (gd_mk (decide_eq_true (by omega)) (gd_mk (decide_eq_true (by omega)) (gd_mk (decide_eq_true (by omega)) ?_)))
    have hwd := (Fr.drew (fun _ => False) w).row h (fun _ _ h => h)
    obtain ⟨us, hul, hE⟩ := row_ext hwd (k := 1) (by omega)
    have hsE := hE.tailS (k := i) (by omega)
    have hEl : (flt enc l ++ us).length = (n + 1) * 3 := hE.len
    have hmin : min (n + 1 - i) (n + 1 - (i + 1)) = n - i := by omega
    have hdi : (flt enc l ++ us).drop (i * 3) = flt enc (l.drop i) ++ us := by rw [List.drop_append_of_le_length (by rw [hfl]; omega), h0.fd l (by omega)]
    rw [hdi] at hsE
    have htk : (flt enc (l.drop i) ++ us).take ((n - i) * 3) = flt enc (l.drop i) := by rw [← hlD, List.take_left]
    refine cpy_row hE hsE.src (by rw [List.length_append, hlD, hul]; omega) (by omega) (by rw [hmin, htk]; exact h0.fo _) (fun w5 hr5 f5 => ?_)
    rw [hmin, htk] at hr5
    have hsp : splice (flt enc l ++ us) ((i + 1) * 3) (flt enc (l.drop i)) = flt enc (l.take (i + 1)) ++ flt enc (l.drop i) := by
      have e1 : flt enc l ++ us = flt enc (l.take (i + 1)) ++ (flt enc (l.drop (i + 1)) ++ us) := by rw [← List.append_assoc, ← flt_app, List.take_append_drop]
      have hd0 : (flt enc (l.drop (i + 1)) ++ us).drop (flt enc (l.drop i)).length = [] := List.drop_of_length_le (by rw [List.length_append, h0.fl, List.length_drop, hl, hul, hlD]; omega)
      rw [e1, splice_at (by rw [h0.fl, List.length_take, hl, Nat.min_eq_left (by omega)]), hd0, List.append_nil]
    rw [hsp] at hr5
    have f5 : Fr (fun k => b = k) w w5 := ((Fr.drew (fun k => b = k) w).trans1 (f5.mono (fun k _ h => by simpa [blkOf] using h)))
    refine gd_mk (decide_eq_true (by omega)) (gd_mk (decide_eq_true (by omega)) ?_)
    refine cpy_row hr5 (src_rec (hv.fr f5 (fun h => hbb h)) hx) (by omega) (by omega) (by rw [Nat.min_eq_left (by omega), Nat.one_mul, htx]; exact ox) (fun w6 hr6 f6 => ⟨_, _, rfl, ?_, ?_, fun k hk => .inl hk⟩)
    · exact (f5.trans1 (f6.mono (fun k _ h => by simpa [blkOf] using h))).mono (fun k _ h => by rw [h]; rfl)
    · rw [Nat.min_eq_left (by omega), Nat.one_mul, htx] at hr6
      have e2 : l.take (i + 1) = l.take i ++ [l[i]'(by omega)] := by rw [List.take_add_one, List.getElem?_eq_getElem (by omega)]; rfl
      rw [e2, flt_app, flt_one, List.append_assoc, splice_at hlT, hx, List.drop_left' (h0.len _)] at hr6
      exact hr6
end
end Go.Proofs.YthcclmlbkfadcaaGreat.InsLd
/- slices.Clone: rows of api.Load -/
namespace Go.Proofs.YthcclmlbkfadcaaGreat.ClnLd
open Go.GV Go.RowKit
set_option linter.unusedVariables false
theorem clone_calls (A : Option Addr) (n c : Nat) (vs : List Value) (w : World) (h : Sl w 3 A n vs) (ho : ∀ v ∈ vs, v.oneCell' = true) (hn : n ≤ 1073741824) :
    Calls Tryz.prog 77 #[.slice A n c] w fun e w' => Fr (fun _ => False) w w' ∧ ∃ A' c', e = .returned (.slice A' n c') ∧ Row w' w.heap.size 98 3 A' n c' vs := by
  refine (F77.of A n c w (Q := fun v w' => Fr (fun _ => False) w w' ∧ ∃ A' c', v = .slice A' n c' ∧ Row w' w.heap.size 98 3 A' n c' vs) ?_).mono (fun e w' ⟨v, he, hf, A', c', hv, h⟩ => ⟨hf, A', c', by rw [he, hv], h⟩)
  refine vIf_mk (fun h0 => ?_) (fun h0 => nw_mk ?_)
  · have : n = 0 := by
      refine Classical.byContradiction fun hn0 => ?_
      obtain ⟨b, o, hA, _⟩ := h.2 hn0
      rw [hA] at h0; cases h0
    subst this
    have : vs = [] := List.length_eq_zero_iff.1 (by have := h.1; omega)
    subst this
    exact ⟨Fr.refl _ _, none, 0, rfl, Row.nil _ _ _ _⟩
  · have f1 : Fr (fun _ => False) w (w.alloc (.cells ([] : List Value).toArray 98)) := Fr.alloc _ _ _
    have r1 : Row (w.alloc (.cells ([] : List Value).toArray 98)) w.heap.size 98 3 (some ⟨w.heap.size, 0, none⟩) 0 0 [] := Row.new (Nat.le_refl _) rfl
    have hs : (w.alloc (.cells ([] : List Value).toArray 98)).heap.size = w.heap.size + 1 := alloc_size _ _
    generalize w.alloc (.cells ([] : List Value).toArray 98) = w1 at f1 r1 hs ⊢
    refine app_row r1 (f1.sl h (fun _ _ _ h => h)).src ho rfl (by omega) (by omega) (by omega) (fun A' c' w' hr' f' => ⟨?_, A', c', ?_, ?_⟩)
    · exact f1.trans f' (fun _ _ h => h) (fun k hk h' => by simp only [blkOf, Option.some.injEq] at h'; omega)
    · rw [Nat.zero_add]
    · rw [Nat.zero_add, List.nil_append] at hr'; exact hr'
end Go.Proofs.YthcclmlbkfadcaaGreat.ClnLd
/- ints: other, Others, Alive -/
namespace Go.Proofs.YthcclmlbkfadcaaGreat
open Go.GV Go.RowKit Go.Lib
set_option linter.unusedVariables false
set_option linter.unusedSimpArgs false
/-! ### other -/
def others (l : List Int) (x : Int) : Nat := (l.filter (fun y => decide (y ≠ x))).length
theorem oclos_calls (y x : Int) (b : Nat) (w : World) (h : RecAt w b 3 [.int .i64 x]) :
    Calls Tryz.prog 120 #[.int .i64 y, .pointer (some ⟨b, 0, none⟩)] w fun e w' => e = .returned (.bool (y != x)) ∧ w' = w :=
  (F120.of y (b, 0) w (Q := fun v w' => v = .bool (y != x) ∧ w' = w) ⟨x, h.cell rfl, rfl, rfl⟩).mono (fun e w' ⟨v, he, hv, h⟩ => ⟨by rw [he, hv], h⟩)
theorem oindex_calls (A : Option Addr) (n c : Nat) (l : List Int) (b : Nat) (x : Int) (w : World) (hs : Sl w 1 A n (ivs l)) (h : RecAt w b 3 [.int .i64 x]) (hn : n ≤ 17179869184) :
    Calls Tryz.prog 144 #[.slice A n c, .func (.func 120) #[] #[.pointer (some ⟨b, 0, none⟩)]] w fun e w' => ∃ k : Int, e = .returned (.int .i64 k) ∧ decide (k ≥ 0) = decide (others l x ≠ 0) ∧ w' = w := by
  refine (F144s.of A n c (b, 0) w (Q := fun v w' => ∃ k : Int, v = .int .i64 k ∧ decide (k ≥ 0) = decide (others l x ≠ 0) ∧ w' = w) ?_).mono (fun e w' ⟨v, he, k, hv, h⟩ => ⟨k, by rw [he, hv], h⟩)
  have hl := sl_n hs
  refine jnC_mk (loop_rule (fun s u => u = w ∧ ∃ i : Nat, i ≤ n ∧ s = ((A, n, c), (b, 0), (n : Int), (i : Int), ()) ∧ others (l.take i) x = 0) (fun s _ => (n - s.2.2.2.1).toNat) ?_ _ _ ⟨rfl, 0, by omega, rfl, rfl⟩)
  rintro s u C ⟨rfl, i, hi, rfl, hno⟩ hC _
  refine vIf_mk (fun hlt => ?_) (fun hge => ?_)
  · have hlt2 : (i : Int) < (n : Int) := of_decide_eq_true hlt
    have gi := at_lt (l := l) (i := i) (by omega)
    refine sl_rd hs (by omega) gi ((oclos_calls _ x b u h).mono ?_)
    rintro e u2 ⟨rfl, rfl⟩
    refine ⟨_, rfl, vIf_mk (fun he => ?_) (fun he => jnC_mk (hC _ _ ⟨rfl, i + 1, by omega, by rw [ei i (by omega)], ?_⟩ ?_))⟩
    · have he : l[i]'(by omega) ≠ x := by simpa using he
      refine ⟨_, rfl, ?_, rfl⟩
      rw [decide_eq_true (p := others l x ≠ 0)]
      · exact decide_eq_true (by show (i : Int) ≥ 0; omega)
      · intro h0
        have h1 := List.length_eq_zero_iff.1 h0
        have h2 : l[i]'(by omega) ∈ l.filter (fun y => decide (y ≠ x)) := List.mem_filter.2 ⟨mem_of_at gi, by simpa using he⟩
        rw [h1] at h2
        cases h2
    · have he : l[i]'(by omega) = x := by simpa using he
      rw [take_succ_at gi]
      unfold others at hno ⊢
      rw [List.filter_append, List.length_append, hno, List.filter_cons_of_neg (by simpa using he)]
      rfl
    · show ((n : Int) - IntKind.wrap .i64 ((i : Int) + 1)).toNat < ((n : Int) - (i : Int)).toNat
      rw [ei i (by omega)]; omega
  · have hge2 : ¬ (i : Int) < (n : Int) := of_decide_eq_false hge
    rw [List.take_of_length_le (by omega)] at hno
    exact ⟨-1, rfl, by rw [hno]; rfl, rfl⟩
theorem other_calls (A : Option Addr) (n c : Nat) (l : List Int) (x : Int) (w : World) (hs : Sl w 1 A n (ivs l)) (hn : n ≤ 17179869184) :
    Calls Tryz.prog 92 #[.slice A n c, .int .i64 x] w fun e w' => e = .returned (.bool (decide (others l x ≠ 0))) ∧ Fr (fun _ => False) w w' := by
  refine (F92.of A n c x w (Q := fun v w' => v = .bool (decide (others l x ≠ 0)) ∧ Fr (fun _ => False) w w') ?_).mono (fun e w' ⟨v, he, hv, h⟩ => ⟨by rw [he, hv], h⟩)
  refine nw_mk ?_
  have f1 : Fr (fun _ => False) w (w.alloc (.cells [Value.int .i64 x].toArray 3)) := Fr.alloc _ _ _
  have r1 := RecAt.new w [Value.int .i64 x] 3
  generalize w.alloc (.cells [Value.int .i64 x].toArray 3) = w1 at f1 r1 ⊢
  refine (F119s.of A n c (w.heap.size, 0) w1 (Q := fun v w' => v = .bool (decide (others l x ≠ 0)) ∧ Fr (fun _ => False) w w') ?_).mono ?_
  · refine (oindex_calls A n c l w.heap.size x w1 (f1.sl hs (fun _ _ _ h => h)) r1 hn).mono ?_
    rintro e w2 ⟨k, rfl, hk, rfl⟩
    exact ⟨_, rfl, by rw [hk], f1⟩
  · rintro e w2 ⟨v, rfl, rfl, f2⟩
    exact ⟨_, rfl, rfl, f2⟩
/-! ### left -/
end Go.Proofs.YthcclmlbkfadcaaGreat
/- entries: Alive -/
namespace Go.Proofs.YthcclmlbkfadcaaGreat
open Go.GV Go.RowKit Go.Lib
set_option linter.unusedVariables false
set_option linter.unusedSimpArgs false
def liveE (e : En) : Bool := !(e.k == 5) || decide (others e.l e.s ≠ 0)
theorem alive_calls (e : En) (x0 : List Value) (w : World) (h : EnAt w x0 e) (hn : e.l.length ≤ 8589934592) :
    Calls Tryz.prog 48 #[ofL x0] w fun r w' => r = .returned (.bool (liveE e)) ∧ Fr (fun _ => False) w w' := by
  refine (F48.of x0 w (Q := fun v w' => v = .bool (liveE e) ∧ Fr (fun _ => False) w w') ?_).mono (fun e w' ⟨v, he, hv, h⟩ => ⟨by rw [he, hv], h⟩)
  obtain ⟨A, n, c, rfl, hs, hd⟩ := h
  have hl := sl_n hs
  refine nw_mk ?_
  have f : Fr (fun _ => False) w (w.alloc (.cells (e.cs A n c).toArray 48)) := Fr.alloc _ _ _
  have r1 : RecAt (w.alloc (.cells (e.cs A n c).toArray 48)) w.heap.size 48 ([] ++ (e.d.map bv ++ [.int .i64 e.k, .int .i64 e.z, .int .i64 e.s, .int .i64 e.o, .int .i64 e.q, .slice A n c])) := RecAt.new _ _ _
  generalize w.alloc (.cells (e.cs A n c).toArray 48) = u at f r1 ⊢
  refine ⟨e.k, rec_end r1 (bvl hd) (j := 0) rfl rfl, vIf_mk (fun h1 => ⟨?_, f⟩) (fun h1 => ?_)⟩
  · have : liveE e = true := by unfold liveE; rw [show (!(e.k == 5)) = true from h1]; rfl
    rw [this]
  · refine ⟨A, n, c, rec_end r1 (bvl hd) (j := 5) rfl rfl, e.s, rec_end r1 (bvl hd) (j := 2) rfl rfl, (other_calls A n c e.l e.s u (sl_fr hs f) (by omega)).mono ?_⟩
    rintro r u2 ⟨rfl, f2⟩
    have : liveE e = decide (others e.l e.s ≠ 0) := by unfold liveE; rw [show (!(e.k == 5)) = false from h1]; rfl
    exact ⟨_, rfl, by rw [this], f.trans1 f2⟩
end Go.Proofs.YthcclmlbkfadcaaGreat
/- names entries: Alive -/
namespace Go.Proofs.YthcclmlbkfadcaaGreat.Tg
open Go.GV Go.RowKit Go.Lib
set_option linter.unusedVariables false
set_option linter.unusedSimpArgs false
def liveT (e : Tn) : Bool := !e.g || decide (others e.l e.s ≠ 0)
theorem aliveT_calls (e : Tn) (x0 : List Value) (w : World) (h : TnAt w x0 e) (hn : e.l.length ≤ 8589934592) :
    Calls Tryz.prog 49 #[ofL x0] w fun r w' => r = .returned (.bool (liveT e)) ∧ Fr (fun _ => False) w w' := by
  refine (F49.of x0 w (Q := fun v w' => v = .bool (liveT e) ∧ Fr (fun _ => False) w w') ?_).mono (fun e w' ⟨v, he, hv, h⟩ => ⟨by rw [he, hv], h⟩)
  obtain ⟨A, n, c, rfl, hs, hd⟩ := h
  have hl := sl_n hs
  refine nw_mk ?_
  have f : Fr (fun _ => False) w (w.alloc (.cells (e.cs A n c).toArray 53)) := Fr.alloc _ _ _
  have r1 : RecAt (w.alloc (.cells (e.cs A n c).toArray 53)) w.heap.size 53 ([.string e.nm] ++ (e.d.map bv ++ [.bool e.g, .int .i64 e.s, .int .i64 e.o, .int .i64 e.q, .slice A n c])) := RecAt.new _ _ _
  generalize w.alloc (.cells (e.cs A n c).toArray 53) = u at f r1 ⊢
  refine ⟨e.g, rec_end r1 (bvl hd) (j := 0) rfl rfl, vIf_mk (fun h1 => ⟨?_, f⟩) (fun h1 => ?_)⟩
  · have : liveT e = true := by unfold liveT; rw [h1]; rfl
    rw [this]
  · refine ⟨A, n, c, rec_end r1 (bvl hd) (j := 4) rfl rfl, e.s, rec_end r1 (bvl hd) (j := 1) rfl rfl, (other_calls A n c e.l e.s u (sl_fr hs f) (by omega)).mono ?_⟩
    rintro r u2 ⟨rfl, f2⟩
    have : liveT e = decide (others e.l e.s ≠ 0) := by unfold liveT; rw [h1]; rfl
    exact ⟨_, rfl, by rw [this], f.trans1 f2⟩
end Go.Proofs.YthcclmlbkfadcaaGreat.Tg
/- chapter 22, plainly: loads; words that live in a segment -/
namespace Go.Proofs.YthcclmlbkfadcaaGreat
open Go.GV Go.RowKit Go.Lib Go.Stb
open Tg (Tn liveT)
set_option linter.unusedVariables false
set_option linter.unusedSimpArgs false
/-! ### loads -/
structure Lo where
  s : Int
  a : Int
  v : Int
def encL (x : Lo) : List Value := [.int .i64 x.s, .int .i64 x.a, .int .i64 x.v]
theorem encL_o : EncO Lo encL 3 := ⟨fun _ => rfl, fun x v hv => by simp [encL] at hv; rcases hv with rfl | rfl | rfl <;> rfl⟩
def AscL (l : List Lo) : Prop := l.Pairwise (fun a b => a.s < b.s)
def setL (s n : Int) : List Lo → List Lo
  | [] => [⟨s, n, 0⟩]
  | y :: r => if s < y.s then ⟨s, n, 0⟩ :: y :: r else if s = y.s then ⟨s, n, y.v⟩ :: r else y :: setL s n r
def oldL (s : Int) : List Lo → Int
  | [] => 0
  | y :: r => if y.s = s then y.a else oldL s r
theorem setL_mem {s n : Int} {z : Lo} : ∀ {l}, z ∈ setL s n l → z.s = s ∨ z ∈ l
  | [], h => by simp [setL] at h; subst h; exact .inl rfl
  | y :: r, h => by
    rw [setL] at h
    split at h
    · rcases List.mem_cons.1 h with rfl | h
      · exact .inl rfl
      · exact .inr h
    · split at h
      · rcases List.mem_cons.1 h with rfl | h
        · exact .inl rfl
        · exact .inr (List.mem_cons_of_mem _ h)
      · rcases List.mem_cons.1 h with rfl | h
        · exact .inr (List.mem_cons_self ..)
        · exact (setL_mem h).imp id (List.mem_cons_of_mem _)
theorem setL_asc (s n : Int) : ∀ {l}, AscL l → AscL (setL s n l)
  | [], _ => List.pairwise_singleton _ _
  | y :: r, h => by
    have c := List.pairwise_cons.1 h
    rw [setL]
    split
    · rename_i h1
      refine List.pairwise_cons.2 ⟨fun z hz => ?_, h⟩
      rcases List.mem_cons.1 hz with rfl | hz
      · exact h1
      · have := c.1 z hz; show s < z.s; omega
    · split
      · rename_i h1 h2
        exact List.pairwise_cons.2 ⟨fun z hz => by have := c.1 z hz; show s < z.s; omega, c.2⟩
      · rename_i h1 h2
        refine List.pairwise_cons.2 ⟨fun z hz => ?_, setL_asc s n c.2⟩
        rcases setL_mem hz with h3 | hz
        · rw [h3]; omega
        · exact c.1 z hz
theorem setL_len (s n : Int) : ∀ l, (setL s n l).length ≤ l.length + 1
  | [] => by simp [setL]
  | y :: r => by
    have := setL_len s n r
    rw [setL]
    split
    · simp
    · split <;> simp <;> omega
theorem setL_app {s n : Int} : ∀ {U : List Lo} (V : List Lo), (∀ z ∈ U, z.s < s) → setL s n (U ++ V) = U ++ setL s n V
  | [], V, _ => rfl
  | y :: r, V, h => by
    have h1 := h y (List.mem_cons_self ..)
    rw [List.cons_append, setL, if_neg (by omega), if_neg (by omega), setL_app V (fun z hz => h z (List.mem_cons_of_mem _ hz))]
    rfl
theorem setL_lt {s n : Int} : ∀ {l : List Lo}, (∀ z ∈ l, s < z.s) → setL s n l = ⟨s, n, 0⟩ :: l
  | [], _ => rfl
  | y :: r, h => by rw [setL, if_pos (h y (List.mem_cons_self ..))]
theorem oldL_none {s : Int} : ∀ {l : List Lo}, (∀ z ∈ l, z.s ≠ s) → oldL s l = 0
  | [], _ => rfl
  | y :: r, h => by rw [oldL, if_neg (h y (List.mem_cons_self ..)), oldL_none (fun z hz => h z (List.mem_cons_of_mem _ hz))]
theorem oldL_app {s : Int} : ∀ {U : List Lo} (V : List Lo), (∀ z ∈ U, z.s ≠ s) → oldL s (U ++ V) = oldL s V
  | [], V, _ => rfl
  | y :: r, V, h => by
    rw [List.cons_append, oldL, if_neg (h y (List.mem_cons_self ..)), oldL_app V (fun z hz => h z (List.mem_cons_of_mem _ hz))]
/-- what is laid has no live bytes of its own -/
def ZL (l : List Lo) : Prop := ∀ x ∈ l, x.v = 0
theorem setL_z {s n : Int} : ∀ {l}, ZL l → ZL (setL s n l)
  | [], _ => fun x hx => by simp [setL] at hx; subst hx; rfl
  | y :: r, h => by
    have h1 := h y (List.mem_cons_self ..)
    have ih := setL_z (s := s) (n := n) (l := r) (fun x hx => h x (List.mem_cons_of_mem _ hx))
    intro x hx
    rw [setL] at hx
    split at hx
    · rcases List.mem_cons.1 hx with rfl | hx
      · rfl
      · exact h x hx
    · split at hx
      · rcases List.mem_cons.1 hx with rfl | hx
        · exact h1
        · exact h x (List.mem_cons_of_mem _ hx)
      · rcases List.mem_cons.1 hx with rfl | hx
        · exact h1
        · exact ih x hx
/-! where a segment lies -/
def PlL (s : Int) (i : Nat) (l : List Lo) : Prop := i ≤ l.length ∧ (∀ x ∈ l.take i, x.s < s) ∧ ∀ x ∈ l.drop i, ¬ x.s < s
def isL (s : Int) (i : Nat) (l : List Lo) : Bool := match l[i]? with | some x => decide (x.s = s) | none => false
theorem isL_at {s : Int} {i : Nat} {l : List Lo} (h : isL s i l = true) : ∃ x, l[i]? = some x ∧ x.s = s := by
  unfold isL at h
  split at h
  · rename_i x hx; exact ⟨x, hx, of_decide_eq_true h⟩
  · cases h
theorem drop_at {α : Type} {l : List α} {i : Nat} {x : α} (h : l[i]? = some x) : l.drop i = x :: l.drop (i + 1) := by
  obtain ⟨h1, rfl⟩ := List.getElem?_eq_some_iff.1 h
  exact List.drop_eq_getElem_cons h1
theorem plL_gt {s : Int} {i : Nat} {l : List Lo} (hp : PlL s i l) (ha : AscL l) (hi : isL s i l = false) : ∀ x ∈ l.drop i, s < x.s := by
  intro x hx
  cases hd : l.drop i with
  | nil => rw [hd] at hx; cases hx
  | cons y r =>
    have hy : l[i]? = some y := by
      have := congrArg (·[0]?) hd
      simpa using this
    have hne : y.s ≠ s := by
      unfold isL at hi
      rw [hy] at hi
      exact of_decide_eq_false hi
    have hyl := hp.2.2 y (by rw [hd]; exact List.mem_cons_self ..)
    rw [hd] at hx
    rcases List.mem_cons.1 hx with rfl | hx
    · omega
    · have hsub : AscL (y :: r) := by rw [← hd]; exact ha.sublist (List.drop_sublist _ _)
      have := (List.pairwise_cons.1 hsub).1 x hx
      omega
theorem setL_in {s n : Int} {i : Nat} {l : List Lo} {x : Lo} (hp : PlL s i l) (hx : l[i]? = some x) (hs : x.s = s) : setL s n l = l.set i ⟨s, n, x.v⟩ ∧ (AscL l → oldL s l = x.a) := by
  have hi := (List.getElem?_eq_some_iff.1 hx).1
  constructor
  · conv => lhs; rw [← List.take_append_drop i l]
    rw [setL_app _ hp.2.1, drop_at hx, setL, if_neg (by omega), if_pos hs.symm, List.set_eq_take_append_cons_drop, if_pos hi]
  · intro _
    conv => lhs; rw [← List.take_append_drop i l]
    rw [oldL_app _ (fun z hz => by have := hp.2.1 z hz; omega), drop_at hx, oldL, if_pos hs]
theorem setL_out {s n : Int} {i : Nat} {l : List Lo} (hp : PlL s i l) (ha : AscL l) (hi : isL s i l = false) : setL s n l = l.take i ++ ⟨s, n, 0⟩ :: l.drop i ∧ oldL s l = 0 := by
  constructor
  · conv => lhs; rw [← List.take_append_drop i l]
    rw [setL_app _ hp.2.1, setL_lt (plL_gt hp ha hi)]
  · conv => lhs; rw [← List.take_append_drop i l]
    rw [oldL_app _ (fun z hz => by have := hp.2.1 z hz; omega), oldL_none (fun z hz => by have := plL_gt hp ha hi z hz; omega)]
/-! the document's load -/
def loS (s n : Int) (p : Bool) (st : List Lo × Bool) (x : Lo) : List Lo × Bool :=
  if x.s = s then ((if st.2 = false ∧ s < x.s then (st.1 ++ [⟨s, n, 0⟩], true) else st).1 ++ [⟨x.s, wr ((if p then 0 else x.a) + n), x.v⟩], true)
  else ((if st.2 = false ∧ s < x.s then (st.1 ++ [⟨s, n, 0⟩], true) else st).1 ++ [x], (if st.2 = false ∧ s < x.s then (st.1 ++ [⟨s, n, 0⟩], true) else st).2)
def loE (s n : Int) (st : List Lo × Bool) : List Lo := if st.2 = true then st.1 else st.1 ++ [⟨s, n, 0⟩]
/-- the load behind: just so many bytes, or so many more -/
def newA (s n : Int) (p : Bool) (l : List Lo) : Int := wr ((if p then 0 else oldL s l) + n)
/-! ### words -/
def wdE (e : En) : Wd := ⟨e.k, 0, e.d, ⟨#[]⟩, e.z, e.s, e.o, e.q⟩
def wdT (e : Tn) : Wd := ⟨if e.g then 4 else 3, 0, e.d, e.nm, 0, e.s, e.o, e.q⟩
def herE (s : Int) (l : List En) : List Wd := (l.filter (fun e => decide (e.s = s) && liveE e)).map wdE
def herT (s : Int) (l : List Tn) : List Wd := (l.filter (fun e => decide (e.s = s) && liveT e)).map wdT
def cmpO (a b : Wd) : Int := if a.o < b.o then -1 else if a.o > b.o then 1 else 0
theorem cmpO_le (a b : Wd) : cmpO a b ≤ 0 ↔ a.o ≤ b.o := by
  unfold cmpO
  (repeat' split) <;> omega
theorem cmpO_ord : OrdC cmpO := ⟨fun a b => by unfold cmpO; (repeat' split) <;> omega, fun a b c h1 h2 => by
  rw [cmpO_le] at h1 h2 ⊢
  omega⟩
def herL (s : Int) (lE : List En) (lT : List Tn) : List Wd := stab cmpO (herE s lE ++ herT s lT)
theorem herE_step {s : Int} {l : List En} {i : Nat} {e : En} (h : l[i]? = some e) : herE s (l.take (i + 1)) = if e.s = s ∧ liveE e = true then herE s (l.take i) ++ [wdE e] else herE s (l.take i) := by
  unfold herE
  rw [List.take_add_one, h, Option.toList_some, List.filter_append, List.map_append]
  split
  · rename_i h1; rw [List.filter_cons_of_pos (by simpa using h1)]; rfl
  · rename_i h1; rw [List.filter_cons_of_neg (by simpa using h1)]; simp
theorem herT_step {s : Int} {l : List Tn} {i : Nat} {e : Tn} (h : l[i]? = some e) : herT s (l.take (i + 1)) = if e.s = s ∧ liveT e = true then herT s (l.take i) ++ [wdT e] else herT s (l.take i) := by
  unfold herT
  rw [List.take_add_one, h, Option.toList_some, List.filter_append, List.map_append]
  split
  · rename_i h1; rw [List.filter_cons_of_pos (by simpa using h1)]; rfl
  · rename_i h1; rw [List.filter_cons_of_neg (by simpa using h1)]; simp
theorem herE_len (s : Int) (l : List En) : (herE s l).length ≤ l.length := by
  unfold herE
  rw [List.length_map]; exact List.length_filter_le _ _
theorem herT_len (s : Int) (l : List Tn) : (herT s l).length ≤ l.length := by
  unfold herT
  rw [List.length_map]; exact List.length_filter_le _ _
def sumQ (l : List Wd) : Int := l.foldl (fun a x => wr (a + x.q)) 0
theorem sumQ_step {l : List Wd} {i : Nat} {x : Wd} (h : l[i]? = some x) : sumQ (l.take (i + 1)) = wr (sumQ (l.take i) + x.q) := by
  unfold sumQ
  rw [List.take_add_one, h, Option.toList_some, List.foldl_append]; rfl
def loadsL (lE : List En) (lT : List Tn) (lL : List Lo) : List Lo := lL.map (fun x => ⟨x.s, x.a, sumQ (herL x.s lE lT)⟩)
end Go.Proofs.YthcclmlbkfadcaaGreat
/- chapter 22: a state, as it lies; where a segment's load stands; set -/
namespace Go.Proofs.YthcclmlbkfadcaaGreat
open Go.GV Go.RowKit Go.Lib Go.Stb
open Tg (Tn liveT)
set_option linter.unusedVariables false
set_option linter.unusedSimpArgs false
theorem l_rd {w : World} {A : Option Addr} {n : Nat} {l : List Lo} (h : Sl w 3 A n (flt encL l)) (hl : l.length = n) {i : Nat} {x : Lo} (hi : l[i]? = some x) {ii : Int} (hii : ii = (i : Int)) {K : List Value → Prop} (hK : K (encL x)) :
    dr A fun b o => gd (decide (0 ≤ ii)) (gd (decide (ii < ((n : Nat) : Int))) (ldA 3 w b (o + ii.toNat * 3) K)) :=
  el_rd h (fun x _ => rfl) hi hii hl (fun b o hA hc => ⟨encL x, rfl, hc, hK⟩)
theorem l_rdS {w : World} {A : Option Addr} {n : Nat} {l : List Lo} (h : Sl w 3 A n (flt encL l)) (hl : l.length = n) {i : Nat} {x : Lo} (hi : l[i]? = some x) {ii : Int} (hii : ii = (i : Int)) {K : Int → Prop} (hK : K x.s) :
    dr A fun b o => gd (decide (0 ≤ ii)) (gd (decide (ii < ((n : Nat) : Int))) (ldI .i64 w b (o + ii.toNat * 3) K)) :=
  el_rd h (fun x _ => rfl) hi hii hl (fun b o hA hc => ⟨x.s, hc 0 _ rfl, hK⟩)
theorem l_rdA {w : World} {A : Option Addr} {n : Nat} {l : List Lo} (h : Sl w 3 A n (flt encL l)) (hl : l.length = n) {i : Nat} {x : Lo} (hi : l[i]? = some x) {ii : Int} (hii : ii = (i : Int)) {K : Int → Prop} (hK : K x.a) :
    dr A fun b o => gd (decide (0 ≤ ii)) (gd (decide (ii < ((n : Nat) : Int))) (ldI .i64 w b ((o + ii.toNat * 3) + 1) K)) :=
  el_rd h (fun x _ => rfl) hi hii hl (fun b o hA hc => ⟨x.a, hc 1 _ rfl, hK⟩)
def cmpI (a b : Int) : Int := if a < b then -1 else if a > b then 1 else 0
theorem cmpI_calls (a b : Int) (w : World) : Calls Tryz.prog 53 #[.int .i64 a, .int .i64 b] w fun e w' => e = .returned (.int .i64 (cmpI a b)) ∧ w' = w := by
  have nan : ∀ (x : Int) (w : World), Calls Tryz.prog 94 #[.int .i64 x] w fun e w' => e = .returned (.bool false) ∧ w' = w := fun x w =>
    (F94.of x w (Q := fun v w' => v = .bool false ∧ w' = w) ⟨by simp, rfl⟩).mono (fun e w' ⟨v, he, hv, h⟩ => ⟨by rw [he, hv], h⟩)
  refine (F53.of a b w (Q := fun v w' => v = .int .i64 (cmpI a b) ∧ w' = w) ?_).mono (fun e w' ⟨v, he, hv, h⟩ => ⟨by rw [he, hv], h⟩)
  refine (nan a w).mono ?_
  rintro e w1 ⟨rfl, rfl⟩
  refine ⟨_, rfl, (nan b _).mono ?_⟩
  rintro e w2 ⟨rfl, rfl⟩
  refine ⟨_, rfl, vIf_f rfl (vIf_f rfl (vIf_mk (fun h => ⟨?_, rfl⟩) (fun h => vIf_mk (fun h2 => ⟨?_, rfl⟩) (fun h2 => ⟨?_, rfl⟩))))⟩
  · unfold cmpI; rw [if_pos (of_decide_eq_true h)]
  · unfold cmpI; rw [if_neg (of_decide_eq_false h), if_pos (of_decide_eq_true h2)]
  · unfold cmpI; rw [if_neg (of_decide_eq_false h), if_neg (of_decide_eq_false h2)]
theorem pl1_calls (x : Lo) (s : Int) (w : World) :
    Calls Tryz.prog 90 #[ofL (encL x), .int .i64 s] w fun e w' => e = .returned (.int .i64 (cmpI x.s s)) ∧ Fr (fun _ => False) w w' := by
  refine (F90.of _ s w (Q := fun v w' => v = .int .i64 (cmpI x.s s) ∧ Fr (fun _ => False) w w') ?_).mono (fun e w' ⟨v, he, hv, h⟩ => ⟨by rw [he, hv], h⟩)
  refine nw_mk ?_
  have f1 : Fr (fun _ => False) w (w.alloc (.cells (encL x).toArray 98)) := Fr.alloc _ _ _
  have r1 := RecAt.new w (encL x) 98
  generalize w.alloc (.cells (encL x).toArray 98) = w1 at f1 r1 ⊢
  refine ⟨x.s, r1.cell rfl, (cmpI_calls x.s s w1).mono ?_⟩
  rintro r w2 ⟨rfl, rfl⟩
  exact ⟨_, rfl, rfl, f1⟩
theorem mem_take_ltL {α : Type} {l : List α} {i : Nat} {x : α} (h : x ∈ l.take i) : ∃ j, j < i ∧ l[j]? = some x := by
  obtain ⟨j, hj⟩ := List.mem_iff_getElem?.1 h
  rw [List.getElem?_take] at hj
  split at hj
  · exact ⟨j, by assumption, hj⟩
  · cases hj
theorem mem_drop_geL {α : Type} {l : List α} {i : Nat} {x : α} (h : x ∈ l.drop i) : ∃ j, i ≤ j ∧ l[j]? = some x := by
  obtain ⟨j, hj⟩ := List.mem_iff_getElem?.1 h
  rw [List.getElem?_drop] at hj
  exact ⟨i + j, by omega, hj⟩
theorem ascL_lt {l : List Lo} (h : AscL l) {i j : Nat} {x y : Lo} (hi : l[i]? = some x) (hj : l[j]? = some y) (hij : i < j) : x.s < y.s := by
  obtain ⟨h1, rfl⟩ := List.getElem?_eq_some_iff.1 hi
  obtain ⟨h2, rfl⟩ := List.getElem?_eq_some_iff.1 hj
  exact (List.pairwise_iff_getElem.1 h) i j h1 h2 hij
theorem bsL_calls (A : Option Addr) (n c : Nat) (l : List Lo) (s : Int) (w : World) (h : Sl w 3 A n (flt encL l)) (hl : l.length = n) (ha : AscL l) (hn : n ≤ 17179869184) :
    Calls Tryz.prog 89 #[.slice A n c, .int .i64 s, .func (.func 90) #[] #[]] w fun e w' => Fr (fun _ => False) w w' ∧ ∃ i : Nat, e = .returned (.tuple #[.int .i64 i, .bool (isL s i l)]) ∧ PlL s i l := by
  refine (F89s.of A n c s w (Q := fun v w' => Fr (fun _ => False) w w' ∧ ∃ i : Nat, v = .tuple #[.int .i64 i, .bool (isL s i l)] ∧ PlL s i l) ?_).mono (fun e w' ⟨v, he, hf, i, hv, h⟩ => ⟨hf, i, by rw [he, hv], h⟩)
  refine jnC_mk (loop_rule (fun t u => Fr (fun _ => False) w u ∧ ∃ i j : Nat, i ≤ j ∧ j ≤ n ∧ t = ((A, n, c), s, (), (n : Int), (i : Int), (j : Int), ()) ∧ (∀ x ∈ l.take i, x.s < s) ∧ ∀ x ∈ l.drop j, ¬ x.s < s)
    (fun t _ => (t.2.2.2.2.2.1 - t.2.2.2.2.1).toNat) ?_ _ _ ⟨Fr.refl _ _, 0, n, by omega, by omega, rfl, by simp, by rw [List.drop_of_length_le (by omega)]; intro x hx; cases hx⟩)
  rintro t u C ⟨hf, i, j, hij, hjn, rfl, hlo, hhi⟩ hC _
  have hsl := fun (v : World) (f : Fr (fun _ => False) w v) => f.sl h (fun _ _ _ h => h)
  refine vIf_mk (fun hlt => ?_) (fun hge => ?_)
  · have hlt2 : (i : Int) < (j : Int) := of_decide_eq_true hlt
    have em : IntKind.wrap .i64 (Int.fdiv (IntKind.wrap .u64 (IntKind.wrap .i64 ((i : Int) + (j : Int)))) (2 ^ 1)) = (((i + j) / 2 : Nat) : Int) := by
      rw [i64_id (n := (i : Int) + (j : Int)) (by omega) (by omega), IntKind.wrap_u64, Int.fdiv_eq_ediv_of_nonneg _ (by decide), i64_id (by omega) (by omega)]; omega
    have gi : l[(i + j) / 2]? = some (l[(i + j) / 2]'(by omega)) := List.getElem?_eq_getElem (by omega)
    generalize l[(i + j) / 2]'(by omega) = x at gi
    dsimp only
    rw [em]
    refine l_rd (hsl u hf) hl gi rfl ((pl1_calls x s u).mono ?_)
    rintro r u2 ⟨rfl, f2⟩
    have hcm : (cmpI x.s s < 0) ↔ x.s < s := by unfold cmpI; (repeat' split) <;> omega
    refine ⟨_, rfl, vIf_mk (fun h1 => jnC_mk (hC _ _ ⟨hf.trans1 f2, (i + j) / 2 + 1, j, by omega, hjn, by rw [ei _ (by omega)], fun y hy => ?_, hhi⟩ ?_)) (fun h1 => jnC_mk (hC _ _ ⟨hf.trans1 f2, i, (i + j) / 2, by omega, by omega, rfl, hlo, fun y hy => ?_⟩ ?_))⟩
    · have h1 := hcm.1 (of_decide_eq_true h1)
      obtain ⟨q, hq, hy⟩ := mem_take_ltL hy
      by_cases hqm : q = (i + j) / 2
      · rw [hqm] at hy; rw [gi] at hy; injection hy with hy; subst hy; exact h1
      · have := ascL_lt ha hy gi (by omega); omega
    · show ((j : Int) - IntKind.wrap .i64 ((((i + j) / 2 : Nat) : Int) + 1)).toNat < ((j : Int) - (i : Int)).toNat
      rw [ei _ (by omega)]; omega
    · have h1 : ¬ x.s < s := fun h => (of_decide_eq_false h1) (hcm.2 h)
      obtain ⟨q, hq, hy⟩ := mem_drop_geL hy
      by_cases hqm : q = (i + j) / 2
      · rw [hqm] at hy; rw [gi] at hy; injection hy with hy; subst hy; exact h1
      · have := ascL_lt ha gi hy (by omega); omega
    · show ((((i + j) / 2 : Nat) : Int) - (i : Int)).toNat < ((j : Int) - (i : Int)).toNat
      omega
  · have hge2 : ¬ (i : Int) < (j : Int) := of_decide_eq_false hge
    have hij2 : i = j := by omega
    subst hij2
    have hpl : PlL s i l := ⟨by omega, hlo, hhi⟩
    refine vIf_mk (fun h1 => ?_) (fun h1 => ?_)
    · have h1 : (i : Int) < (n : Int) := of_decide_eq_true h1
      have gi : l[i]? = some (l[i]'(by omega)) := List.getElem?_eq_getElem (by omega)
      generalize l[i]'(by omega) = x at gi
      refine l_rd (hsl u hf) hl gi rfl ((pl1_calls x s u).mono ?_)
      rintro r u2 ⟨rfl, f2⟩
      refine ⟨_, rfl, hf.trans1 f2, i, ?_, hpl⟩
      have : isL s i l = (cmpI x.s s == 0) := by
        unfold isL cmpI
        rw [gi, Bool.eq_iff_iff, decide_eq_true_iff, beq_iff_eq]
        (repeat' split) <;> omega
      rw [this]
    · have h1 : ¬ (i : Int) < (n : Int) := of_decide_eq_false h1
      refine ⟨hf, i, ?_, hpl⟩
      have : isL s i l = false := by
        unfold isL
        rw [List.getElem?_eq_none (by omega)]
      rw [this]
/-! ### a state -/
structure SD where
  ib : Nat
  bt : Nat
  bs : Nat
  N : Nat
  p : Nat
  S : Slo.SRow
  lE : List En
  tb : Nat
  R : Option Addr
  nT : Nat
  cT : Nat
  lT : List Tn
  L : Option Addr
  nL : Nat
  cL : Nat
  lL : List Lo
  Z : Nat → Prop
def SD.I (d : SD) : Nat → Prop := DI d.ib d.bt d.bs
def SD.T (d : SD) : Nat → Prop := Tg.DT d.tb d.R
def SD.XI (d : SD) (sb : Nat) : Nat → Prop := fun k => k ≠ sb ∧ ¬ d.T k ∧ blkOf d.L ≠ some k ∧ ¬ d.Z k
def SD.XT (d : SD) (sb : Nat) : Nat → Prop := fun k => k ≠ sb ∧ ¬ d.I k ∧ blkOf d.L ≠ some k ∧ ¬ d.Z k
/-- the blocks of a state -/
def SD.D (d : SD) (sb : Nat) : Nat → Prop := fun k => k = sb ∨ d.I k ∨ d.T k ∨ blkOf d.L = some k
structure Sta (w : World) (base sb : Nat) (d : SD) : Prop where
  rs : RecAt w sb 96 [.pointer (some ⟨d.ib, 0, none⟩), .slice d.L d.nL d.cL, .pointer (some ⟨d.tb, 0, none⟩)]
  ba : base ≤ sb
  ix : Ix (d.XI sb) w base d.ib d.bt d.bs d.N d.p d.S d.lE
  tg : Tg.Tab (d.XT sb) w base d.tb d.R d.nT d.cT d.lT
  ta : Tg.AscT d.lT
  ld : Row w base 98 3 d.L d.nL d.cL (flt encL d.lL)
  ll : d.lL.length = d.nL
  la : AscL d.lL
  lz : ZL d.lL
  s1 : ¬ d.I sb
  s2 : ¬ d.T sb
  s3 : blkOf d.L ≠ some sb
  it : ∀ k, d.I k → ¬ d.T k
  il : ∀ k, d.I k → blkOf d.L ≠ some k
  tl : ∀ k, d.T k → blkOf d.L ≠ some k
  zb : ∀ k, d.Z k → k < w.heap.size
theorem Sta.lt {w : World} {base sb : Nat} {d : SD} (h : Sta w base sb d) {k : Nat} (hk : d.D sb k) : base ≤ k ∧ k < w.heap.size := by
  rcases hk with rfl | hk | hk | hk
  · exact ⟨h.ba, h.rs.lt⟩
  · exact h.ix.lt hk
  · exact h.tg.lt hk
  · exact h.ld.blt hk
theorem Sta.fr0 {w w' : World} {base sb : Nat} {d : SD} (h : Sta w base sb d) (f : Fr (fun _ => False) w w') : Sta w' base sb d :=
  ⟨h.rs.fr f (fun h => h), h.ba, h.ix.fr0 f, h.tg.fr0 f, h.ta, f.row h.ld (fun _ _ h => h), h.ll, h.la, h.lz, h.s1, h.s2, h.s3, h.it, h.il, h.tl, (fun k hk => Nat.lt_of_lt_of_le (h.zb k hk) f.size)⟩
/-- behind a deed of the index -/
theorem Sta.ix' {u u' : World} {base sb : Nat} {d : SD} (h : Sta u base sb d) {bs' N' p' : Nat} {S' : Slo.SRow} {l' : List En} (f : Fr d.I u u') (hi : Ix (d.XI sb) u' base d.ib d.bt bs' N' p' S' l') (hb : bs' = d.bs ∨ u.heap.size ≤ bs') :
    Sta u' base sb { d with bs := bs', N := N', p := p', S := S', lE := l' } := by
  have hI : ∀ k, DI d.ib d.bt bs' k → d.I k ∨ u.heap.size ≤ k := fun k hk => by
    rcases hk with hk | hk | hk
    · exact .inl (.inl hk)
    · exact .inl (.inr (.inl hk))
    · rcases hb with hb | hb
      · exact .inl (.inr (.inr (hk.trans hb)))
      · exact .inr (by omega)
  have hout : ∀ k, k < u.heap.size → ¬ d.I k → ¬ DI d.ib d.bt bs' k := fun k hk hn h' => (hI k h').elim hn (fun h => by omega)
  refine ⟨h.rs.fr f h.s1, h.ba, hi, ?_, h.ta, f.row h.ld (fun k hk h' => h.il k h' hk), h.ll, h.la, h.lz, hout sb h.rs.lt h.s1, h.s2, h.s3, fun k hk ht => ?_, fun k hk hl => ?_, h.tl, (fun k hk => Nat.lt_of_lt_of_le (h.zb k hk) f.size)⟩
  · have h1 := h.tg.monoX (X' := fun k => d.XT sb k ∧ k < u.heap.size) (fun k hk hx => ⟨hx, hk⟩)
    have h2 := h1.off f (fun k hk h' => h.it k h' hk) (fun k hk => hk.1.2.1)
    exact h2.monoX (fun k _ hk => ⟨hk.1.1, hout k hk.2 hk.1.2.1, hk.1.2.2⟩)
  · exact hout k (h.tg.lt ht).2 (fun h' => h.it k h' ht) hk
  · exact hout k (h.ld.blt hl).2 (fun h' => h.il k h' hl) hk
/-- behind a deed of the tags -/
theorem Sta.tg' {u u' : World} {base sb : Nat} {d : SD} (h : Sta u base sb d) {R' : Option Addr} {n' c' : Nat} {l' : List Tn} (f : Fr d.T u u') (ht : Tg.Tab (d.XT sb) u' base d.tb R' n' c' l') (ha : Tg.AscT l') (hb : ∀ k, blkOf R' = some k → blkOf d.R = some k ∨ u.heap.size ≤ k) :
    Sta u' base sb { d with R := R', nT := n', cT := c', lT := l' } := by
  have hT : ∀ k, Tg.DT d.tb R' k → d.T k ∨ u.heap.size ≤ k := fun k hk => by
    rcases hk with hk | hk
    · exact .inl (.inl hk)
    · exact (hb k hk).imp (fun h => .inr h) id
  have hout : ∀ k, k < u.heap.size → ¬ d.T k → ¬ Tg.DT d.tb R' k := fun k hk hn h' => (hT k h').elim hn (fun h => by omega)
  refine ⟨h.rs.fr f h.s2, h.ba, ?_, ht, ha, f.row h.ld (fun k hk h' => h.tl k h' hk), h.ll, h.la, h.lz, h.s1, hout sb h.rs.lt h.s2, h.s3, fun k hk => hout k (h.ix.lt hk).2 (h.it k hk), h.il, fun k hk hl => ?_, (fun k hk => Nat.lt_of_lt_of_le (h.zb k hk) f.size)⟩
  · have h1 := h.ix.monoX (X' := fun k => d.XI sb k ∧ k < u.heap.size) (fun k hk hx => ⟨hx, hk⟩)
    have h2 := h1.off f (fun k hk => h.it k hk) (fun k hk => hk.1.2.1)
    exact h2.monoX (fun k _ hk => ⟨hk.1.1, hout k hk.2 hk.1.2.1, hk.1.2.2⟩)
  · exact hout k (h.ld.blt hl).2 (fun h' => h.tl k h' hl) hk
/-- behind a deed of the loads -/
theorem Sta.ld' {u u' : World} {base sb : Nat} {d : SD} (h : Sta u base sb d) {L' : Option Addr} {n' c' : Nat} {l' : List Lo} (f : Fr (fun k => k = sb ∨ blkOf d.L = some k) u u') (hr : RecAt u' sb 96 [.pointer (some ⟨d.ib, 0, none⟩), .slice L' n' c', .pointer (some ⟨d.tb, 0, none⟩)])
    (hl : Row u' base 98 3 L' n' c' (flt encL l')) (hll : l'.length = n') (ha : AscL l') (hz : ZL l') (hb : ∀ k, blkOf L' = some k → blkOf d.L = some k ∨ u.heap.size ≤ k) :
    Sta u' base sb { d with L := L', nL := n', cL := c', lL := l' } := by
  have hout : ∀ k, k < u.heap.size → blkOf d.L ≠ some k → blkOf L' ≠ some k := fun k hk hn h' => (hb k h').elim hn (fun h => by omega)
  refine ⟨hr, h.ba, ?_, ?_, h.ta, hl, hll, ha, hz, h.s1, h.s2, hout sb h.rs.lt h.s3, h.it, fun k hk => hout k (h.ix.lt hk).2 (h.il k hk), fun k hk => hout k (h.tg.lt hk).2 (h.tl k hk), (fun k hk => Nat.lt_of_lt_of_le (h.zb k hk) f.size)⟩
  · have h1 := h.ix.monoX (X' := fun k => d.XI sb k ∧ k < u.heap.size) (fun k hk hx => ⟨hx, hk⟩)
    have h2 := h1.off f (fun k hk h' => h'.elim (fun e => h.s1 (e ▸ hk)) (fun e => h.il k hk e)) (fun k hk h' => h'.elim hk.1.1 hk.1.2.2.1)
    exact h2.monoX (fun k _ hk => ⟨hk.1.1, hk.1.2.1, hout k hk.2 hk.1.2.2.1, hk.1.2.2.2⟩)
  · have h1 := h.tg.monoX (X' := fun k => d.XT sb k ∧ k < u.heap.size) (fun k hk hx => ⟨hx, hk⟩)
    have h2 := h1.off f (fun k hk h' => h'.elim (fun e => h.s2 (e ▸ hk)) (fun e => h.tl k hk e)) (fun k hk h' => h'.elim hk.1.1 hk.1.2.2.1)
    exact h2.monoX (fun k _ hk => ⟨hk.1.1, hk.1.2.1, hout k hk.2 hk.1.2.2.1, hk.1.2.2.2⟩)
theorem place_calls {w : World} {base sb : Nat} {d : SD} (h : Sta w base sb d) (s : Int) (hn : d.nL ≤ 17179869184) :
    Calls Tryz.prog 45 #[.pointer (some ⟨sb, 0, none⟩), .int .i64 s] w fun e w' => Fr (fun _ => False) w w' ∧ ∃ i : Nat, e = .returned (.tuple #[.int .i64 i, .bool (isL s i d.lL)]) ∧ PlL s i d.lL := by
  refine (F45.of (some ⟨sb, 0, none⟩) s w (Q := fun v w' => Fr (fun _ => False) w w' ∧ ∃ i : Nat, v = .tuple #[.int .i64 i, .bool (isL s i d.lL)] ∧ PlL s i d.lL) ?_).mono (fun e w' ⟨v, he, hf, i, hv, h⟩ => ⟨hf, i, by rw [he, hv], h⟩)
  refine dr_mk ⟨d.L, d.nL, d.cL, h.rs.cell rfl, (bsL_calls _ _ _ _ s w h.ld.sl h.ll h.la hn).mono ?_⟩
  rintro e w2 ⟨f2, i, rfl, hp⟩
  exact ⟨_, _, rfl, f2, i, rfl, hp⟩
theorem set_calls {w : World} {base sb : Nat} {d : SD} (h : Sta w base sb d) (s n : Int) (hn : d.nL ≤ 1000000000) (hB : base ≤ w.heap.size) :
    Calls Tryz.prog 42 #[.pointer (some ⟨sb, 0, none⟩), .int .i64 s, .int .i64 n] w fun e w' => e = .returned (.tuple #[]) ∧ Fr (fun k => k = sb ∨ blkOf d.L = some k) w w' ∧ ∃ L' c', Sta w' base sb { d with L := L', nL := (setL s n d.lL).length, cL := c', lL := setL s n d.lL } ∧ ∀ k, blkOf L' = some k → blkOf d.L = some k ∨ w.heap.size ≤ k := by
  refine (F42.of (some ⟨sb, 0, none⟩) s n w (Q := fun v w' => v = .tuple #[] ∧ Fr (fun k => k = sb ∨ blkOf d.L = some k) w w' ∧ ∃ L' c', Sta w' base sb { d with L := L', nL := (setL s n d.lL).length, cL := c', lL := setL s n d.lL } ∧ ∀ k, blkOf L' = some k → blkOf d.L = some k ∨ w.heap.size ≤ k) ?_).mono (fun e w' ⟨v, he, hv, h⟩ => ⟨by rw [he, hv], h⟩)
  refine (place_calls h s (by omega)).mono ?_
  rintro r w1 ⟨f1, i, rfl, hp⟩
  have h1 := h.fr0 f1
  have hin := hp.1
  have hl := h.ll
  have f1' : Fr (fun k => k = sb ∨ blkOf d.L = some k) w w1 := f1.mono (fun _ _ h => h.elim)
  -- the number is laid
  have lay : ∀ (u : World) (L' : Option Addr) (n' c' : Nat) (l1 : List Lo) (x : Lo), Fr (fun k => k = sb ∨ blkOf d.L = some k) w u → RecAt u sb 96 [.pointer (some ⟨d.ib, 0, none⟩), .slice L' n' c', .pointer (some ⟨d.tb, 0, none⟩)] → Row u base 98 3 L' n' c' (flt encL l1) → l1.length = n' → l1[i]? = some x →
      setL s n d.lL = l1.set i ⟨x.s, n, x.v⟩ → blkOf L' ≠ some sb → (∀ k, blkOf L' = some k → blkOf d.L = some k ∨ w.heap.size ≤ k) →
      F42.k3 (fun v w' => v = .tuple #[] ∧ Fr (fun k => k = sb ∨ blkOf d.L = some k) w w' ∧ ∃ L' c', Sta w' base sb { d with L := L', nL := (setL s n d.lL).length, cL := c', lL := setL s n d.lL } ∧ ∀ k, blkOf L' = some k → blkOf d.L = some k ∨ w.heap.size ≤ k) (some ⟨sb, 0, none⟩, n, (i : Int), ()) u := by
    intro u L' n' c' l1 x fu hr hrow hl1 hx heq hne hb _
    have hil := (List.getElem?_eq_some_iff.1 hx).1
    refine dr_mk ⟨L', n', c', hr.cell rfl, ?_⟩
    have hpt := row_putG (o' := i * 3 + 1) (us := [Value.int .i64 n]) (K := fun w' => Value.tuple #[] = .tuple #[] ∧ Fr (fun k => k = sb ∨ blkOf d.L = some k) w w' ∧ ∃ L' c', Sta w' base sb { d with L := L', nL := (setL s n d.lL).length, cL := c', lL := setL s n d.lL } ∧ ∀ k, blkOf L' = some k → blkOf d.L = some k ∨ w.heap.size ≤ k) hrow (by omega) (by simp; omega) (by simp; rfl) (fun w6 hr6 f6 => ?_)
    · rw [dr_iff] at hpt
      obtain ⟨b, o, hA, hpt⟩ := hpt
      rw [hA]
      refine dr_mk (gd_mk (decide_eq_true (by show (0 : Int) ≤ (i : Int); omega)) (gd_mk (decide_eq_true (by show (i : Int) < (n' : Int); omega)) ?_))
      dsimp only
      rw [Int.toNat_natCast]
      exact hpt
    · have e : splice (flt encL l1) (i * 3 + 1) [Value.int .i64 n] = flt encL (l1.set i ⟨x.s, n, x.v⟩) := by
        rw [← flt_set (enc := encL) (sz := 3) (fun _ _ => rfl) (by omega) rfl]
        apply List.ext_getElem?
        intro j
        have hfl := encL_o.fl l1
        rw [splice_get (by simp; omega), splice_get (by show i * 3 + 3 ≤ _; omega)]
        have g0 : (flt encL l1)[i * 3]? = some (.int .i64 x.s) := by
          have := flt_get (enc := encL) (sz := 3) (fun _ _ => rfl) hx 0 (by omega)
          rw [Nat.add_zero] at this
          rw [this]; rfl
        have g2 : (flt encL l1)[i * 3 + 2]? = some (.int .i64 x.v) := by
          have := flt_get (enc := encL) (sz := 3) (fun _ _ => rfl) hx 2 (by omega)
          rw [this]; rfl
        by_cases h1 : j < i * 3
        · rw [if_pos (by omega), if_pos h1]
        · by_cases h2 : j = i * 3
          · subst h2
            rw [if_pos (by omega), if_neg (by omega), if_pos (by show i * 3 < i * 3 + 3; omega), g0, Nat.sub_self]; rfl
          · rw [if_neg (by omega), if_neg h1]
            by_cases h3 : j = i * 3 + 1
            · subst h3
              rw [if_pos (by simp), if_pos (by show i * 3 + 1 < i * 3 + 3; omega), Nat.sub_self, show i * 3 + 1 - i * 3 = 1 by omega]; rfl
            · by_cases h4 : j = i * 3 + 2
              · subst h4
                rw [if_neg (by simp), if_pos (by show i * 3 + 2 < i * 3 + 3; omega), show i * 3 + 2 - i * 3 = 2 by omega, g2]; rfl
              · rw [if_neg (by simp; omega), if_neg (by show ¬ j < i * 3 + 3; omega)]
      rw [e, ← heq] at hr6
      have hsl : (setL s n d.lL).length = n' := by rw [heq, List.length_set, hl1]
      refine ⟨rfl, fu.trans f6 (fun _ _ h => h) (fun k hk h' => ?_), L', c', ?_, hb⟩
      · rcases hb k h' with h'' | h''
        · exact .inr h''
        · omega
      · rw [hsl]
        refine h.ld' (fu.trans f6 (fun _ _ h => h) (fun k hk h' => ?_)) (hr.fr f6 hne) hr6 hsl (setL_asc s n h.la) (setL_z h.lz) hb
        rcases hb k h' with h'' | h''
        · exact .inr h''
        · omega
  refine ⟨_, _, rfl, vIf_mk (fun hi => ?_) (fun hi => jnC_mk ?_)⟩
  · have hi : isL s i d.lL = false := by simpa using hi
    obtain ⟨e1, e2⟩ := setL_out (n := n) hp h.la hi
    refine dr_mk ⟨d.L, d.nL, d.cL, h1.rs.cell rfl, gd_mk rfl (nw_mk ?_)⟩
    have f3 : Fr (fun _ => False) w1 (w1.alloc (.cells (encL ⟨s, 0, 0⟩).toArray 98)) := Fr.alloc _ _ _
    have r3 := RecAt.new w1 (encL ⟨s, 0, 0⟩) 98
    show Calls _ _ _ (w1.alloc (.cells (encL ⟨s, 0, 0⟩).toArray 98)) _
    have hA2 : blkOf d.L ≠ some w1.heap.size := fun e => by have := (h1.ld.blt e).2; omega
    generalize hb3 : w1.heap.size = b3 at r3 hA2 ⊢
    generalize w1.alloc (.cells (encL ⟨s, 0, 0⟩).toArray 98) = w3 at f3 r3 ⊢
    have h3 := h1.fr0 f3
    have g3 := f1.trans1 f3
    refine (InsLd.insert_calls encL_o base d.L d.nL d.cL i d.lL ⟨s, 0, 0⟩ b3 w3 h3.ld hl (by omega) r3 hA2 (by have := g3.size; omega) (by omega)).mono ?_
    rintro r w4 ⟨A4, c4, rfl, f4, h4, hb4⟩
    have hb4' : ∀ k, blkOf A4 = some k → blkOf d.L = some k ∨ w.heap.size ≤ k := fun k hk => (hb4 k hk).imp id (fun h => by have := g3.size; omega)
    have hnsb : blkOf A4 ≠ some sb := fun e => by
      rcases hb4 sb e with h' | h'
      · exact h.s3 h'
      · have := h3.rs.lt; omega
    have g4 : Fr (fun k => k = sb ∨ blkOf d.L = some k) w w4 := (g3.mono (fun _ _ h => h.elim)).trans1 (f4.mono (fun _ _ h => .inr h))
    refine ⟨_, _, _, rfl, dr_mk ((h3.rs.fr f4 h.s3).st_mk (o := 0 + 1) (by show 0 + 1 + 1 ≤ 3; omega) (fun v hv => by simp at hv; subst hv; rfl) (fun r5 f5 => jnC_mk ?_))⟩
    have r5 : RecAt _ sb 96 [.pointer (some ⟨d.ib, 0, none⟩), .slice A4 (d.nL + 1) c4, .pointer (some ⟨d.tb, 0, none⟩)] := r5
    generalize stB w4 sb (0 + 1) [Value.slice A4 (d.nL + 1) c4] = w5 at r5 f5 ⊢
    have hli : (d.lL.take i ++ ⟨s, 0, 0⟩ :: d.lL.drop i)[i]? = some ⟨s, 0, 0⟩ := get_mid (by rw [List.length_take]; omega)
    refine lay w5 A4 (d.nL + 1) c4 _ ⟨s, 0, 0⟩ (g4.trans1 (f5.mono (fun _ _ h => .inl h))) r5 (f5.row h4 (fun k hk h' => hnsb (by rw [hk, h']))) (by simp; omega) hli ?_ hnsb hb4'
    rw [e1, set_mid (by rw [List.length_take]; omega)]
  · have hi : isL s i d.lL = true := by simpa using hi
    obtain ⟨x, hx, hs⟩ := isL_at hi
    refine lay w1 d.L d.nL d.cL d.lL x f1' h1.rs h1.ld hl hx ?_ h.s3 (fun k hk => .inl hk)
    rw [(setL_in hp hx hs).1, hs]
end Go.Proofs.YthcclmlbkfadcaaGreat
/- chapter 22: New, Apply, Keep -/
namespace Go.Proofs.YthcclmlbkfadcaaGreat
open Go.GV Go.RowKit Go.Lib Go.Stb
open Tg (Tn liveT)
set_option linter.unusedVariables false
set_option linter.unusedSimpArgs false
theorem Ix.low {X : Nat → Prop} {w : World} {B B' ib bt bs N p : Nat} {S : Slo.SRow} {l : List En} (h : Ix X w B ib bt bs N p S l) (hB : B' ≤ B) : Ix X w B' ib bt bs N p S l :=
  ⟨h.ri, ⟨h.tb.at_, h.tb.inv, h.tb.n8, h.tb.load, h.tb.big, Nat.le_trans hB h.tb.bt_, Nat.le_trans hB h.tb.bs_⟩, Nat.le_trans hB h.ba, h.nt, h.ns, h.has, h.all, h.asc, h.cn, h.nb⟩
theorem Tab.low {X : Nat → Prop} {w : World} {B B' tb : Nat} {R : Option Addr} {n c : Nat} {l : List Tn} (h : Tg.Tab X w B tb R n c l) (hB : B' ≤ B) : Tg.Tab X w B' tb R n c l :=
  ⟨h.rc, by obtain ⟨vs, h1, h2⟩ := h.ot; exact ⟨vs, row_low hB h1, h2⟩, h.ne, Nat.le_trans hB h.ba⟩
/-- a snapshot, as it lies -/
def SnAt (w : World) (cs : List Value) (E : List En) (T : List Tn) (Ls : List Lo) : Prop := ∃ (i j k q : Int) (A : Option Addr) (n c : Nat) (A' : Option Addr) (n' c' : Nat) (A'' : Option Addr) (n'' c'' : Nat),
  cs = [.int .i64 i, .int .i64 j, .int .i64 k, .int .u64 q, .slice A n c, .slice A' n' c', .slice A'' n'' c''] ∧ RE (fun _ => True) w A n E ∧ Tg.RT (fun _ => True) w A' n' T ∧ Sl w 3 A'' n'' (flt encL Ls) ∧ Ls.length = n''
theorem SnAt.fr0 {w w' : World} {cs : List Value} {E : List En} {T : List Tn} {Ls : List Lo} (h : SnAt w cs E T Ls) (f : Fr (fun _ => False) w w') : SnAt w' cs E T Ls := by
  obtain ⟨i, j, k, q, A, n, c, A', n', c', A'', n'', c'', e, h1, h2, h3, h4⟩ := h
  exact ⟨i, j, k, q, A, n, c, A', n', c', A'', n'', c'', e, h1.fr0 f, h2.fr0 f, f.sl h3 (fun _ _ _ h => h), h4⟩
theorem SnAt.len {w : World} {cs : List Value} {E : List En} {T : List Tn} {Ls : List Lo} (h : SnAt w cs E T Ls) : cs.length = 7 := by
  obtain ⟨i, j, k, q, A, n, c, A', n', c', A'', n'', c'', e, _⟩ := h
  rw [e]; rfl
def newLo (l : List Lo) : List Lo := l.foldl (fun t x => setL x.s x.a t) []
theorem newLo_step {l : List Lo} {i : Nat} {x : Lo} (h : l[i]? = some x) : newLo (l.take (i + 1)) = setL x.s x.a (newLo (l.take i)) := by
  unfold newLo
  rw [List.take_add_one, h, Option.toList_some, List.foldl_append]; rfl
theorem newLo_len (l : List Lo) : (newLo l).length ≤ l.length :=
  snoc_ind (P := fun l => (newLo l).length ≤ l.length) (Nat.le_refl _) (fun l x ih => by
    have h := setL_len x.s x.a (newLo l)
    have : newLo (l ++ [x]) = setL x.s x.a (newLo l) := by unfold newLo; rw [List.foldl_append]; rfl
    rw [this, List.length_append, List.length_singleton]; omega) l
/-- what a state's deed comes to -/
structure Stp (w w' : World) (base sb : Nat) (d d' : SD) : Prop where
  st : Sta w' base sb d'
  fr : Fr (d.D sb) w w'
  zz : d'.Z = d.Z
  up : ∀ k, d'.D sb k → d.D sb k ∨ w.heap.size ≤ k
theorem Stp.trans {a b c : World} {base sb : Nat} {d d' d'' : SD} (h : Stp a b base sb d d') (k : Stp b c base sb d' d'') : Stp a c base sb d d'' :=
  ⟨k.st, h.fr.trans k.fr (fun _ _ h => h) (fun j hj hk => (h.up j hk).elim id (fun h => by omega)), k.zz.trans h.zz, fun j hj => by
    rcases k.up j hj with h1 | h1
    · exact h.up j h1
    · exact .inr (Nat.le_trans h.fr.size h1)⟩
theorem Stp.fr0 {a b c : World} {base sb : Nat} {d d' : SD} (h : Stp a b base sb d d') (f : Fr (fun _ => False) b c) : Stp a c base sb d d' :=
  ⟨h.st.fr0 f, h.fr.trans f (fun _ _ h => h) (fun _ _ h => h.elim), h.zz, h.up⟩
theorem Stp.of0 {a b : World} {base sb : Nat} {d : SD} (h : Sta a base sb d) (f : Fr (fun _ => False) a b) : Stp a b base sb d d :=
  ⟨h.fr0 f, f.mono (fun _ _ h => h.elim), rfl, fun _ h => .inl h⟩
theorem set_stp {w : World} {base sb : Nat} {d : SD} (h : Sta w base sb d) (s n : Int) (hn : d.nL ≤ 1000000000) (hB : base ≤ w.heap.size) :
    Calls Tryz.prog 42 #[.pointer (some ⟨sb, 0, none⟩), .int .i64 s, .int .i64 n] w fun e w' => e = .returned (.tuple #[]) ∧ ∃ d', Stp w w' base sb d d' ∧ d'.lE = d.lE ∧ d'.lT = d.lT ∧ d'.lL = setL s n d.lL ∧ d'.p = d.p := by
  refine (set_calls h s n hn hB).mono ?_
  rintro e w' ⟨rfl, f, L', c', h', hb⟩
  refine ⟨rfl, _, ⟨h', f.mono (fun k _ hk => hk.elim (fun e => .inl e) (fun e => .inr (.inr (.inr e)))), rfl, fun k hk => ?_⟩, rfl, rfl, rfl, rfl⟩
  rcases hk with hk | hk | hk | hk
  · exact .inl (.inl hk)
  · exact .inl (.inr (.inl hk))
  · exact .inl (.inr (.inr (.inl hk)))
  · exact (hb k hk).imp (fun h => .inr (.inr (.inr h))) id
theorem Stp.ix {u u' : World} {base sb : Nat} {d : SD} (h : Sta u base sb d) {bs' N' p' : Nat} {S' : Slo.SRow} {l' : List En} (f : Fr d.I u u') (hi : Ix (d.XI sb) u' base d.ib d.bt bs' N' p' S' l') (hb : bs' = d.bs ∨ u.heap.size ≤ bs') :
    Stp u u' base sb d { d with bs := bs', N := N', p := p', S := S', lE := l' } :=
  ⟨h.ix' f hi hb, f.mono (fun k _ hk => .inr (.inl hk)), rfl, fun k hk => by
    rcases hk with hk | hk | hk | hk
    · exact .inl (.inl hk)
    · rcases hk with hk | hk | hk
      · exact .inl (.inr (.inl (.inl hk)))
      · exact .inl (.inr (.inl (.inr (.inl hk))))
      · have hk : k = bs' := hk
        rcases hb with e | e
        · exact .inl (.inr (.inl (.inr (.inr (hk.trans e)))))
        · exact .inr (by omega)
    · exact .inl (.inr (.inr (.inl hk)))
    · exact .inl (.inr (.inr (.inr hk)))⟩
theorem Stp.tg {u u' : World} {base sb : Nat} {d : SD} (h : Sta u base sb d) {R' : Option Addr} {n' c' : Nat} {l' : List Tn} (f : Fr d.T u u') (ht : Tg.Tab (d.XT sb) u' base d.tb R' n' c' l') (ha : Tg.AscT l') (hb : ∀ k, blkOf R' = some k → blkOf d.R = some k ∨ u.heap.size ≤ k) :
    Stp u u' base sb d { d with R := R', nT := n', cT := c', lT := l' } :=
  ⟨h.tg' f ht ha hb, f.mono (fun k _ hk => .inr (.inr (.inl hk))), rfl, fun k hk => by
    rcases hk with hk | hk | hk | hk
    · exact .inl (.inl hk)
    · exact .inl (.inr (.inl hk))
    · rcases hk with hk | hk
      · exact .inl (.inr (.inr (.inl (.inl hk))))
      · exact (hb k hk).imp (fun e => .inr (.inr (.inl (.inr e)))) id
    · exact .inl (.inr (.inr (.inr hk)))⟩
/-- a variable that takes a load -/
theorem lo_var {w : World} {x : Lo} {K : Nat → World → Prop} (hK : ∀ b w', Fr (fun _ => False) w w' → w.heap.size ≤ b → RecAt w' b 98 (encL x) → K b w') :
    nw w [Value.int .i64 0, Value.int .i64 0, Value.int .i64 0] 98 fun b w1 => gd ((encL x).length == 3) (st w1 b 0 (encL x) fun w2 => K b w2) := by
  refine nw_mk (gd_mk rfl ?_)
  have f1 : Fr (fun _ => False) w (w.alloc (.cells [Value.int .i64 0, Value.int .i64 0, Value.int .i64 0].toArray 98)) := Fr.alloc _ _ _
  refine (RecAt.new w [Value.int .i64 0, Value.int .i64 0, Value.int .i64 0] 98).st_mk (o := 0) (by show 0 + 3 ≤ 3; omega) (encL_o.one x) (fun r2 f2 => hK _ _ (f1.trans f2 (fun _ _ h => h) (fun k hk h => by omega)) (Nat.le_refl _) ?_)
  have e : splice [Value.int .i64 0, Value.int .i64 0, Value.int .i64 0] 0 (encL x) = encL x := splice_full rfl
  rw [e] at r2
  exact r2
set_option maxHeartbeats 1000000 in
theorem newSZ_calls (Z : Nat → Prop) (cs : List Value) (E : List En) (T : List Tn) (Ls : List Lo) (w : World) (hZ : ∀ k, Z k → k < w.heap.size) (h : SnAt w cs E T Ls) (hE : E.length ≤ 50000000) (hT : T.length ≤ 50000000) (hL : Ls.length ≤ 50000000) (bE : BdE 4294967295 E) (bT : Tg.Bd 4294967295 T) :
    Calls Tryz.prog 8 #[ofL cs] w fun e w' => Fr (fun _ => False) w w' ∧ ∃ sb d, e = .returned (.pointer (some ⟨sb, 0, none⟩)) ∧ Sta w' w.heap.size sb d ∧ d.lE = newE E ∧ d.lT = Tg.newT T ∧ d.lL = newLo Ls ∧ d.p ≤ E.length ∧ d.Z = Z := by
  refine (F8.of cs w (Q := fun v w' => Fr (fun _ => False) w w' ∧ ∃ sb d, v = .pointer (some ⟨sb, 0, none⟩) ∧ Sta w' w.heap.size sb d ∧ d.lE = newE E ∧ d.lT = Tg.newT T ∧ d.lL = newLo Ls ∧ d.p ≤ E.length ∧ d.Z = Z) ?_).mono (fun e w' ⟨v, he, hf, sb, d, hv, h⟩ => ⟨hf, sb, d, by rw [he, hv], h⟩)
  obtain ⟨i, j, k, q, A, n, c, A', n', c', A'', n'', c'', rfl, h1, h2, h3, h4⟩ := h
  have hEl := h1.len
  have hTl := h2.len
  refine nw_mk ?_
  have f1 : Fr (fun _ => False) w (w.alloc (.cells [Value.int .i64 i, .int .i64 j, .int .i64 k, .int .u64 q, .slice A n c, .slice A' n' c', .slice A'' n'' c''].toArray 30)) := Fr.alloc _ _ _
  have r1 := RecAt.new w [Value.int .i64 i, .int .i64 j, .int .i64 k, .int .u64 q, .slice A n c, .slice A' n' c', .slice A'' n'' c''] 30
  generalize hsb1 : w.heap.size = b1 at r1 ⊢
  generalize w.alloc (.cells [Value.int .i64 i, .int .i64 j, .int .i64 k, .int .u64 q, .slice A n c, .slice A' n' c', .slice A'' n'' c''].toArray 30) = w1 at f1 r1 ⊢
  have fd := f1.trans1 (Fr.drew _ w1)
  have rd := r1.fr (Fr.drew (fun _ => False) w1) (fun h => h)
  refine ⟨A, n, c, rd.cell rfl, A', n', c', rd.cell rfl, (newX_calls (X := fun k => ¬ Z k) A n c E w1.drew (h1.fr0 fd) (by omega) (bE.mono (by omega)) (fun k hk hz => by have := hZ k hz; have := fd.size; omega)).mono ?_⟩
  rintro r w2 ⟨f2, ib, bt, bs, N, p, S, rfl, hI, hp⟩
  have r2 := rd.fr f2 (fun h => h)
  have fd2 := fd.trans1 f2
  refine ⟨_, rfl, kp_mk f2 rd.lt (fun h => h) ((Tg.newT_calls (X := fun k => w2.heap.size ≤ k) A' n' c' T w2 (h2.fr0 fd2) (by omega) (fun e he => by have := bT e he; omega) (fun _ h => h)).mono ?_)⟩
  rintro r w3 ⟨f3, tb, R, nT, cT, rfl, hTb⟩
  have r3 := r2.fr f3 (fun h => h)
  have fd3 := fd2.trans1 f3
  have hs1 := fd.size
  have hs2 := f2.size
  have hs3 := f3.size
  refine ⟨_, rfl, gd_mk rfl (nw_mk (cs := [Value.pointer (some ⟨ib, 0, none⟩), .slice none 0 0, .pointer (some ⟨tb, 0, none⟩)]) ?_)⟩
  have f4 : Fr (fun _ => False) w3 (w3.alloc (.cells [Value.pointer (some ⟨ib, 0, none⟩), .slice none 0 0, .pointer (some ⟨tb, 0, none⟩)].toArray 96)) := Fr.alloc _ _ _
  have r4 := RecAt.new w3 [Value.pointer (some ⟨ib, 0, none⟩), .slice none 0 0, .pointer (some ⟨tb, 0, none⟩)] 96
  have hIlt : ∀ k, DI ib bt bs k → w1.drew.heap.size ≤ k ∧ k < w2.heap.size := fun k hk => hI.lt hk
  have hTlt : ∀ k, Tg.DT tb R k → w2.heap.size ≤ k ∧ k < w3.heap.size := fun k hk => hTb.lt hk
  generalize hsb : w3.heap.size = sb at r4 hTlt ⊢
  generalize w3.alloc (.cells [Value.pointer (some ⟨ib, 0, none⟩), .slice none 0 0, .pointer (some ⟨tb, 0, none⟩)].toArray 96) = w4 at f4 r4 ⊢
  have fd4 := fd3.trans1 f4
  have hasc : Tg.AscT (Tg.newT T) := by
    have := Tg.newT_asc T T.length
    rwa [List.take_of_length_le (Nat.le_refl _)] at this
  have hSta : Sta w4 b1 sb ⟨ib, bt, bs, N, p, S, newE E, tb, R, nT, cT, Tg.newT T, none, 0, 0, [], Z⟩ := by
    refine ⟨r4, by omega, ?_, ?_, hasc, Row.nil _ _ _ _, rfl, List.Pairwise.nil, (fun x hx => by cases hx), ?_, ?_, (fun h => by cases h), ?_, (fun k _ h => by cases h), (fun k _ h => by cases h), (fun k hk => Nat.lt_of_lt_of_le (hZ k hk) fd4.size)⟩
    · have h5 := hI.monoX (X' := fun k => k < w2.heap.size ∧ ¬ Z k) (fun k hk hz => ⟨hk, hz⟩)
      exact ((h5.fr0 (f3.trans1 f4)).low (by omega)).monoX (fun k _ hk => ⟨by have := hk.1; omega, fun ht => by have := (hTlt k ht).1; have := hk.1; omega, (fun h => by cases h), hk.2⟩)
    · have h5 := hTb.monoX (X' := fun k => k < sb ∧ w2.heap.size ≤ k) (fun k hk hx => ⟨by omega, hx⟩)
      exact (Tab.low (h5.fr0 f4) (by omega)).monoX (fun k _ hk => ⟨by omega, fun h => by have := (hIlt k h).2; omega, (fun h => by cases h), fun hz => by have := hZ k hz; omega⟩)
    · intro h; have := (hIlt sb h).2; omega
    · intro h; have := (hTlt sb h).2; omega
    · intro k h1 h2; have := (hIlt k h1).2; have := (hTlt k h2).1; omega
  have r14 := r3.fr f4 (fun h => h)
  have hs4 := f4.size
  refine ⟨A'', n'', c'', r14.cell rfl, jnC_mk (loop_rule (fun s u => Fr (fun _ => False) w u ∧ ∃ (i : Nat) (d : SD), i ≤ n'' ∧ s = ((sb, 0), (A'', n'', c''), (n'' : Int), (i : Int), ()) ∧ Sta u b1 sb d ∧ d.lE = newE E ∧ d.lT = Tg.newT T ∧ d.lL = newLo (Ls.take i) ∧ d.p ≤ E.length ∧ d.Z = Z)
    (fun s _ => (n'' - s.2.2.2.1).toNat) ?_ _ _ ⟨fd4, 0, _, by omega, rfl, hSta, rfl, rfl, rfl, (by show p ≤ E.length; omega), rfl⟩)⟩
  rintro s u C ⟨hf, i, d, hi, rfl, hst, eE, eT, eL, hpd, eZ⟩ hC _
  refine vIf_mk (fun hlt => ?_) (fun hge => ?_)
  · have hlt2 : (i : Int) < (n'' : Int) := of_decide_eq_true hlt
    have gi : Ls[i]? = some (Ls[i]'(by omega)) := List.getElem?_eq_getElem (by omega)
    generalize Ls[i]'(by omega) = x at gi
    have hst' := newLo_step gi
    have hnl := newLo_len (Ls.take i)
    rw [List.length_take] at hnl
    refine l_rd (hf.sl h3 (fun _ _ _ h => h)) h4 gi rfl (lo_var (fun b u1 g1 hb q1 => ⟨x.s, q1.cell rfl, x.a, q1.cell rfl, ?_⟩))
    have hst1 := hst.fr0 g1
    have hdl : d.nL ≤ 50000000 := by rw [← hst.ll, eL]; omega
    refine (set_stp hst1 x.s x.a (by omega) (by have := hf.size; have := g1.size; omega)).mono ?_
    rintro r u2 ⟨rfl, d2, h2, q1, q2, q3, q4⟩
    refine ⟨rfl, jnC_mk (hC _ _ ⟨(hf.trans1 g1).trans h2.fr (fun _ _ h => h) (fun k hk h => by have := (hst1.lt h).1; omega), i + 1, d2, by omega, by rw [ei i (by omega)], h2.st, by rw [q1, eE], by rw [q2, eT], by rw [q3, eL, hst'], by rw [q4]; exact hpd, h2.zz.trans eZ⟩ ?_)⟩
    show ((n'' : Int) - IntKind.wrap .i64 ((i : Int) + 1)).toNat < ((n'' : Int) - (i : Int)).toNat
    rw [ei i (by omega)]; omega
  · have hge2 : ¬ (i : Int) < (n'' : Int) := of_decide_eq_false hge
    rw [List.take_of_length_le (by omega)] at eL
    exact ⟨hf, sb, d, rfl, hst, eE, eT, eL, hpd, eZ⟩
theorem newS_calls (cs : List Value) (E : List En) (T : List Tn) (Ls : List Lo) (w : World) (h : SnAt w cs E T Ls) (hE : E.length ≤ 50000000) (hT : T.length ≤ 50000000) (hL : Ls.length ≤ 50000000) (bE : BdE 4294967295 E) (bT : Tg.Bd 4294967295 T) :
    Calls Tryz.prog 8 #[ofL cs] w fun e w' => Fr (fun _ => False) w w' ∧ ∃ sb d, e = .returned (.pointer (some ⟨sb, 0, none⟩)) ∧ Sta w' w.heap.size sb d ∧ d.lE = newE E ∧ d.lT = Tg.newT T ∧ d.lL = newLo Ls ∧ d.p ≤ E.length :=
  (newSZ_calls (fun _ => False) cs E T Ls w (fun _ h => h.elim) h hE hT hL bE bT).mono (fun e w' ⟨f, sb, d, e1, e2, e3, e4, e5, e6, _⟩ => ⟨f, sb, d, e1, e2, e3, e4, e5, e6⟩)
/-! ### Apply -/
structure SB (m : Nat) (d : SD) : Prop where
  e : BdE m d.lE
  t : Tg.Bd m d.lT
  p : d.p ≤ m
  tl : d.lT.length ≤ m
  ll : d.lL.length ≤ m
  el : d.lE.length ≤ m
def applyS (x : Wd) (l : List Lo) : List Lo := if 1 ≤ x.k ∧ x.k ≤ 5 then setL x.s (wr (oldL x.s l + x.q)) l else l
theorem applyS_len (x : Wd) (l : List Lo) : (applyS x l).length ≤ l.length + 1 := by
  unfold applyS
  split
  · exact setL_len _ _ l
  · omega
set_option maxHeartbeats 1000000 in
theorem applyS_calls {w : World} {base sb : Nat} {d : SD} (h : Sta w base sb d) (x : Wd) (hx : x.d.length = 32) (hb : SB 50000000 d) (hB : base ≤ w.heap.size) :
    Calls Tryz.prog 9 #[.pointer (some ⟨sb, 0, none⟩), ofL x.cs] w fun e w' => e = .returned (.tuple #[]) ∧ ∃ d', Stp w w' base sb d d' ∧ d'.lE = applyE d.lE x ∧ d'.lT = Tg.applyL x d.lT ∧ d'.lL = applyS x d.lL ∧ d'.p = d.p + 1 := by
  refine (F9.of (some ⟨sb, 0, none⟩) x.cs w (Q := fun v w' => v = .tuple #[] ∧ ∃ d', Stp w w' base sb d d' ∧ d'.lE = applyE d.lE x ∧ d'.lT = Tg.applyL x d.lT ∧ d'.lL = applyS x d.lL ∧ d'.p = d.p + 1) ?_).mono (fun e w' ⟨v, he, hv, h⟩ => ⟨by rw [he, hv], h⟩)
  have hxl := wd_len hx
  have hnT := h.tg.len
  have bt := hb.tl
  have bl := hb.ll
  have bp := hb.p
  refine nw_mk ?_
  have f1 : Fr (fun _ => False) w (w.alloc (.cells x.cs.toArray 37)) := Fr.alloc _ _ _
  have r1 : RecAt (w.alloc (.cells x.cs.toArray 37)) w.heap.size 37 ([.int .i64 x.k, .int .u64 x.sq] ++ (x.d.map bv ++ [.string x.nm, .int .i64 x.z, .int .i64 x.s, .int .i64 x.o, .int .i64 x.q])) := RecAt.new _ _ _
  have hb1D : ¬ d.D sb w.heap.size := fun hk => by have := (h.lt hk).2; omega
  have hb1 : w.heap.size ≤ w.heap.size := Nat.le_refl _
  generalize hwb : w.heap.size = b1 at r1 hb1D ⊢
  generalize w.alloc (.cells x.cs.toArray 37) = w1 at f1 r1 ⊢
  have fd := f1.trans1 (Fr.drew _ w1)
  have rd := r1.fr (Fr.drew (fun _ => False) w1) (fun h => h)
  have hd := h.fr0 fd
  have s1 := fd.size
  have lt1 : b1 < w1.drew.heap.size := rd.lt
  refine vIf_f rfl (dr_mk ⟨_, hd.rs.cell rfl, x.cs, hxl, rec_all rd, (applyX_calls base d.ib d.bt d.bs d.N d.p d.S d.lE x w1.drew hd.ix hx (hb.e.mono (by omega)) (by omega) (by omega) (fun k hk => ⟨fun e => by have := hd.rs.lt; omega, fun ht => by have := (hd.tg.lt ht).2; omega, fun hl => by have := (hd.ld.blt hl).2; omega, fun hz => by have := hd.zb k hz; omega⟩)).mono ?_⟩)
  rintro r w2 ⟨rfl, f2, bs2, N2, S2, hI2, hbs2⟩
  have st2 := Stp.ix hd f2 hI2 hbs2
  have h2 := st2.st
  have r2 := rd.fr f2 (fun hk => hb1D (.inr (.inl hk)))
  have fd2 := Fr.drew (fun _ => False) w2
  have h2d := h2.fr0 fd2
  have r2d := r2.fr fd2 (fun h => h)
  have s2 := f2.size
  have s2d : w2.drew.heap.size = w2.heap.size := rfl
  refine ⟨rfl, dr_mk ⟨_, h2d.rs.cell rfl, x.cs, hxl, rec_all r2d, (Tg.applyT_calls base d.tb d.R d.nT d.cT d.lT x w2.drew h2d.tg h2d.ta (by omega) (fun e he => by have := hb.t e he; omega) hx (by omega) (fun k hk => ⟨fun e => by have := h2d.rs.lt; omega, fun hi => by have := (h2d.ix.lt hi).2; omega, fun hl => by have := (h2d.ld.blt hl).2; omega, fun hz => by have := h2d.zb k hz; omega⟩)).mono ?_⟩⟩
  rintro r w3 ⟨rfl, f3, R3, n3, c3, hT3, hR3⟩
  have st3 := Stp.tg h2d f3 hT3 (Tg.applyL_asc x h.ta) hR3
  have h3 := st3.st
  have r3 := r2d.fr f3 (fun hk => hb1D (.inr (.inr (.inl hk))))
  have st13 := (((Stp.of0 h fd).trans st2).fr0 fd2).trans st3
  refine ⟨rfl, ?_⟩
  have s3 := f3.size
  -- the loads
  have k5 : ∀ t : Bool, (t = true ↔ 1 ≤ x.k ∧ x.k ≤ 5) → jnC (F9.k5 (fun v w' => v = .tuple #[] ∧ ∃ d', Stp w w' base sb d d' ∧ d'.lE = applyE d.lE x ∧ d'.lT = Tg.applyL x d.lT ∧ d'.lL = applyS x d.lL ∧ d'.p = d.p + 1)) (some ⟨sb, 0, none⟩, (b1, 0), t, ()) w3 := by
    intro t ht
    refine jnC_mk (fun _ => vIf_mk (fun h0 => ?_) (fun h0 => ⟨rfl, _, st13, rfl, rfl, ?_, rfl⟩))
    · have h0 := ht.1 h0
      have eS : applyS x d.lL = setL x.s (wr (oldL x.s d.lL + x.q)) d.lL := if_pos h0
      have hlast : ∀ (o : Int) (v : World), Fr (fun _ => False) w3 v → o = oldL x.s d.lL → F9.k9 (fun v w' => v = .tuple #[] ∧ ∃ d', Stp w w' base sb d d' ∧ d'.lE = applyE d.lE x ∧ d'.lT = Tg.applyL x d.lT ∧ d'.lL = applyS x d.lL ∧ d'.p = d.p + 1) (some ⟨sb, 0, none⟩, (b1, 0), o, ()) v := by
        intro o v fv ho _
        have rv := r3.fr fv (fun h => h)
        have hv := h3.fr0 fv
        refine ⟨x.s, rec_end rv (bvl hx) (j := 2) rfl rfl, x.q, rec_end rv (bvl hx) (j := 4) rfl rfl, ?_⟩
        refine (set_stp hv x.s _ (by have := hv.ll; dsimp only at this ⊢; omega) (by have := fv.size; omega)).mono ?_
        rintro r v2 ⟨rfl, d2, q0, q1, q2, q3, q4⟩
        refine ⟨rfl, rfl, d2, ((st13.fr0 fv).trans q0), q1, q2, ?_, q4⟩
        rw [q3, eS, ← ho]; rfl
      refine ⟨x.s, rec_end r3 (bvl hx) (j := 2) rfl rfl, (place_calls h3 x.s (by have := h3.ll; dsimp only at this ⊢; omega)).mono ?_⟩
      rintro r w4 ⟨f4, i, rfl, hp⟩
      have h4 := h3.fr0 f4
      refine ⟨_, _, rfl, vIf_mk (fun hi => ?_) (fun hi => jnC_mk (hlast 0 w4 f4 ?_))⟩
      · obtain ⟨y, hy, hs⟩ := isL_at hi
        refine dr_mk ⟨_, _, _, h4.rs.cell rfl, l_rdA h4.ld.sl h4.ll hy rfl (jnC_mk (hlast y.a w4 f4 ?_))⟩
        exact ((setL_in (n := 0) hp hy hs).2 h.la).symm
      · exact ((setL_out (n := 0) hp h.la hi).2).symm
    · unfold applyS
      rw [if_neg (fun h => by rw [ht.2 h] at h0; cases h0)]
  refine ⟨x.k, r3.cell rfl, vIf_mk (fun h0 => ⟨x.k, r3.cell rfl, k5 _ ?_⟩) (fun h0 => k5 false ?_)⟩
  · have h0 := of_decide_eq_true h0
    rw [decide_eq_true_iff]
    exact ⟨fun h => ⟨h0, h⟩, fun h => h.2⟩
  · have h0 := of_decide_eq_false h0
    exact ⟨fun h => (by cases h), fun h => absurd h.1 h0⟩
end Go.Proofs.YthcclmlbkfadcaaGreat
/- chapter 22: Keep, Digest, Tag, Count, Names, List -/
namespace Go.Proofs.YthcclmlbkfadcaaGreat
open Go.GV Go.RowKit Go.Lib Go.Stb
open Tg (Tn liveT)
set_option linter.unusedVariables false
set_option linter.unusedSimpArgs false
def keptL (sg : List Int) (l : List Lo) : List Lo := l.filter (fun x => decide (x.s ∈ sg))
theorem keptL_len (sg : List Int) (l : List Lo) : (keptL sg l).length ≤ l.length := List.length_filter_le _ _
/-- the closure's captured row of segments -/
structure Cap (w : World) (b : Nat) (S : Option Addr) (m k : Nat) (sg : List Int) : Prop where
  rc : RecAt w b 46 [.slice S m k]
  sl : Sl w 1 S m (ivs sg)
  hm : m ≤ 17179869184
theorem Cap.fr {D : Nat → Prop} {w w' : World} {b : Nat} {S : Option Addr} {m k : Nat} {sg : List Int} (h : Cap w b S m k sg) (f : Fr D w w') (h1 : ¬ D b) (h2 : m ≠ 0 → ∀ k, blkOf S = some k → ¬ D k) : Cap w' b S m k sg :=
  ⟨h.rc.fr f h1, f.sl h.sl h2, h.hm⟩
end Go.Proofs.YthcclmlbkfadcaaGreat
/- chapter 22: words; what lives in a segment -/
namespace Go.Proofs.YthcclmlbkfadcaaGreat
open Go.GV Go.RowKit Go.Lib Go.Stb
open Tg (Tn liveT)
set_option linter.unusedVariables false
set_option linter.unusedSimpArgs false
theorem wd_ones (x : Wd) : ∀ v ∈ x.cs, v.oneCell' = true := by
  intro v hv
  unfold Wd.cs at hv
  rcases List.mem_append.1 hv with h | h
  · simp at h; rcases h with rfl | rfl <;> rfl
  · rcases List.mem_append.1 h with h | h
    · exact bvs_one _ v h
    · simp at h; rcases h with rfl | rfl | rfl | rfl | rfl <;> rfl
def W39 (l : List Wd) : Prop := ∀ x ∈ l, x.d.length = 32
theorem W39.len {l : List Wd} (h : W39 l) : ∀ x ∈ l, (x.cs).length = 39 := fun x hx => wd_len (h x hx)
def WSl (w : World) (A : Option Addr) (n : Nat) (l : List Wd) : Prop := Sl w 39 A n (flt Wd.cs l) ∧ l.length = n ∧ W39 l
def WOw (w : World) (B : Nat) (A : Option Addr) (n c : Nat) (l : List Wd) : Prop := Row w B 37 39 A n c (flt Wd.cs l) ∧ l.length = n ∧ W39 l
theorem WOw.sl {w : World} {B : Nat} {A : Option Addr} {n c : Nat} {l : List Wd} (h : WOw w B A n c l) : WSl w A n l := ⟨h.1.sl, h.2⟩
theorem WOw.fr0 {w w' : World} {B : Nat} {A : Option Addr} {n c : Nat} {l : List Wd} (h : WOw w B A n c l) (f : Fr (fun _ => False) w w') : WOw w' B A n c l := ⟨f.row h.1 (fun _ _ h => h), h.2⟩
theorem WSl.fr0 {w w' : World} {A : Option Addr} {n : Nat} {l : List Wd} (h : WSl w A n l) (f : Fr (fun _ => False) w w') : WSl w' A n l := ⟨f.sl h.1 (fun _ _ _ h => h), h.2⟩
theorem WOw.nil (w : World) (B : Nat) : WOw w B none 0 0 [] := ⟨Row.nil _ _ _ _, rfl, fun x hx => by cases hx⟩
theorem w_rd {w : World} {A : Option Addr} {n : Nat} {l : List Wd} (h : WSl w A n l) {i : Nat} {x : Wd} (hi : l[i]? = some x) {ii : Int} (hii : ii = (i : Int)) {X : Nat → Nat → Prop} (hX : ∀ b o, cellsAt w b (o + ii.toNat * 39) x.cs → X b o) :
    dr A fun b o => gd (decide (0 ≤ ii)) (gd (decide (ii < ((n : Nat) : Int))) (X b o)) :=
  el_rd h.1 h.2.2.len hi hii h.2.1 (fun b o hA hc => hX b o hc)
theorem push_w {w : World} {B : Nat} {A : Option Addr} {n c : Nat} {out : List Wd} {x : Wd} {K : Option Addr → Nat → Nat → World → Prop} (hr : WOw w B A n c out) (hx : x.d.length = 32) (hB : B ≤ w.heap.size) (hn : n ≤ 1073741824)
    (hK : ∀ A' c' w', WOw w' B A' (n + 1) c' (out ++ [x]) → Fr (fun k => blkOf A = some k) w w' → (∀ k, blkOf A' = some k → blkOf A = some k ∨ w.heap.size ≤ k) → K A' (n + 1) c' w') : nw w (x.cs ++ []) 37 fun b w' => app w' 39 96 Z37 37 A n c (.slice (some ⟨b, 0, none⟩) 1 1) K := by
  refine nw_mk ?_
  rw [List.append_nil]
  have hxl := wd_len hx
  have f1 : Fr (fun _ => False) w (w.alloc (.cells x.cs.toArray 37)) := Fr.alloc _ _ _
  have r1 : Row (w.alloc (.cells x.cs.toArray 37)) 0 37 39 (some ⟨w.heap.size, 0, none⟩) 1 1 x.cs := Row.new (Nat.zero_le _) (by rw [hxl])
  have hs : (w.alloc (.cells x.cs.toArray 37)).heap.size = w.heap.size + 1 := alloc_size _ _
  generalize w.alloc (.cells x.cs.toArray 37) = w1 at f1 r1 hs ⊢
  refine app_row2 (hr.fr0 f1).1 r1.sl.src (wd_ones x) rfl (by omega) (by omega) (by omega) (fun A' c' w' hr' f' hb' => hK A' c' w' ⟨?_, by rw [List.length_append, hr.2.1]; rfl, fun y hy => ?_⟩ ?_ (fun k hk => (hb' k hk).imp id (fun h => by omega)))
  · rw [flt_app, flt_one]; exact hr'
  · rcases List.mem_append.1 hy with h | h
    · exact hr.2.2 y h
    · simp at h; subst h; exact hx
  · exact f1.trans f' (fun _ _ h => h.elim) (fun _ _ h => h)
/-! ### fields of a word -/
theorem wd_fld {w : World} {b : Nat} {x : Wd} (h : RecAt w b 37 x.cs) (hx : x.d.length = 32) {j : Nat} {v : Value} (hj : [Value.string x.nm, .int .i64 x.z, .int .i64 x.s, .int .i64 x.o, .int .i64 x.q][j]? = some v) {i : Nat} (hi : i = 34 + j) : cellAt w b i = some v := by
  have h : RecAt w b 37 ([.int .i64 x.k, .int .u64 x.sq] ++ (x.d.map bv ++ [.string x.nm, .int .i64 x.z, .int .i64 x.s, .int .i64 x.o, .int .i64 x.q])) := h
  exact rec_end h (bvl hx) hj (by rw [hi]; rfl)
/-! ### the stable order -/
abbrev W32 : Type := { x : Wd // x.d.length = 32 }
def cmpW (a b : W32) : Int := cmpO a.1 b.1
def encW (x : W32) : List Value := x.1.cs
theorem cmpW_ord : OrdC cmpW := ⟨fun a b => cmpO_ord.anti _ _, fun a b c => cmpO_ord.trans _ _ _⟩
theorem ins_val (x : W32) : ∀ l : List W32, (ins cmpW x l).map (·.1) = ins cmpO x.1 (l.map (·.1))
  | [] => rfl
  | y :: r => by
    rw [List.map_cons, ins, ins]
    by_cases h : cmpO x.1 y.1 < 0
    · rw [if_pos (show cmpW x y < 0 from h), if_pos h]; rfl
    · rw [if_neg (show ¬ cmpW x y < 0 from h), if_neg h, List.map_cons, ins_val x r]
theorem stab_val (l : List W32) : (stab cmpW l).map (·.1) = stab cmpO (l.map (·.1)) :=
  snoc_ind (P := fun l => (stab cmpW l).map (·.1) = stab cmpO (l.map (·.1))) rfl (fun l x ih => by
    rw [stab_snoc, ins_val, ih, List.map_append, List.map_singleton, stab_snoc]) l
theorem flt_val (l : List W32) : flt encW l = flt Wd.cs (l.map (·.1)) := by
  unfold flt encW
  rw [List.map_map]; rfl
theorem to32 {l : List Wd} (h : W39 l) : ∃ l' : List W32, l'.map (·.1) = l := by
  refine ⟨l.attach.map (fun x => (⟨x.1, h x.1 x.2⟩ : W32)), ?_⟩
  rw [List.map_map]
  show l.attach.map (fun x => x.1) = l
  simp
theorem here1_calls (x y : W32) (w : World) :
    Calls Tryz.prog 52 #[ofL (encW x), ofL (encW y)] w fun e w' => e = .returned (.int .i64 (cmpW x y)) ∧ Fr (fun _ => False) w w' := by
  refine (F52.of _ _ w (Q := fun v w' => v = .int .i64 (cmpW x y) ∧ Fr (fun _ => False) w w') ?_).mono (fun e w' ⟨v, he, hv, h⟩ => ⟨by rw [he, hv], h⟩)
  refine nw_mk (nw_mk ?_)
  have f1 : Fr (fun _ => False) w (w.alloc (.cells (encW x).toArray 37)) := Fr.alloc _ _ _
  have r1 : RecAt (w.alloc (.cells (encW x).toArray 37)) w.heap.size 37 x.1.cs := RecAt.new _ _ _
  generalize w.alloc (.cells (encW x).toArray 37) = w1 at f1 r1 ⊢
  have f2 : Fr (fun _ => False) w1 (w1.alloc (.cells (encW y).toArray 37)) := Fr.alloc _ _ _
  have r2 : RecAt (w1.alloc (.cells (encW y).toArray 37)) w1.heap.size 37 y.1.cs := RecAt.new _ _ _
  generalize w1.alloc (.cells (encW y).toArray 37) = w2 at f2 r2 ⊢
  refine ⟨x.1.o, wd_fld (r1.fr f2 (fun h => h)) x.2 (j := 3) rfl rfl, y.1.o, wd_fld r2 y.2 (j := 3) rfl rfl, (cmpI_calls x.1.o y.1.o w2).mono ?_⟩
  rintro r w3 ⟨rfl, rfl⟩
  exact ⟨_, rfl, rfl, f1.trans1 f2⟩
theorem wsrt : StbWd.Srt W32 encW cmpW := ⟨fun x => wd_len x.2, fun x => wd_ones x.1, cmpW_ord, here1_calls⟩
theorem sortW_calls (B : Nat) (A : Option Addr) (n c : Nat) (l : List Wd) (w : World) (h : WOw w B A n c l) (hn : n ≤ 1000000000) :
    Calls Tryz.prog 51 #[.slice A n c, .func (.func 52) #[] #[]] w fun e w' => e = .returned (.tuple #[]) ∧ Fr (fun k => blkOf A = some k) w w' ∧ WOw w' B A n c (stab cmpO l) := by
  obtain ⟨l', rfl⟩ := to32 h.2.2
  have h1 := h.1
  rw [← flt_val] at h1
  have hl : l'.length = n := by have := h.2.1; simpa using this
  refine (StbWd.sortStable_calls wsrt B A n c l' w h1 hl (by omega)).mono ?_
  rintro r w2 ⟨rfl, f2, h2⟩
  rw [flt_val, stab_val] at h2
  refine ⟨rfl, f2, h2, by rw [stab_len]; exact h.2.1, fun x hx => h.2.2 x ((stab_perm _).mem_iff.1 hx)⟩
/-! ### what lives in a segment -/
theorem word_calls {P : Nat → Prop} (e : Tn) (cs : List Value) (w : World) (h : Tg.TnP P w cs e) :
    Calls Tryz.prog 50 #[ofL cs] w fun r w' => r = .returned (ofL (wdT e).cs) ∧ Fr (fun _ => False) w w' := by
  refine (F50.of cs w (Q := fun v w' => v = ofL (wdT e).cs ∧ Fr (fun _ => False) w w') ?_).mono (fun e w' ⟨v, he, hv, h⟩ => ⟨by rw [he, hv], h⟩)
  have hd := h.dl
  obtain ⟨A, n, c, rfl, hs, _, _⟩ := h
  refine nw2 (fun b1 b3 u f r1 r3 hb1 hb3 n13 => ?_)
  have r1 : RecAt u b1 _ ([.string e.nm] ++ (e.d.map bv ++ [.bool e.g, .int .i64 e.s, .int .i64 e.o, .int .i64 e.q, .slice A n c])) := r1
  refine ⟨e.nm, r1.cell rfl, e.d.map bv, bvl hd, rec_mid r1, [.int .i64 e.s, .int .i64 e.o, .int .i64 e.q], rfl, rec_loc r1 (bvl hd) (j := 1) rfl rfl rfl rfl, gd_mk (len1 hd) (gd_mk rfl (nw_mk (gd_mk (by simp [hd]) ?_)))⟩
  have f4 : Fr (fun _ => False) u (u.alloc (.cells Z37.toArray 37)) := Fr.alloc _ _ _
  have r4 := RecAt.new u Z37 37
  have hb8 : b3 ≠ u.heap.size := fun e => by have := r3.lt; omega
  have hub : w.heap.size ≤ u.heap.size := f.size
  have hb18 : b1 ≠ u.heap.size := fun e => by have := r1.lt; omega
  generalize hbe : u.heap.size = b8 at r4 hb8 hub hb18 ⊢
  generalize u.alloc (.cells Z37.toArray 37) = u1 at f4 r4 ⊢
  have x3 : (⟨3, 0, e.d, e.nm, 0, e.s, e.o, e.q⟩ : Wd).cs.length = 39 := wd_len hd
  refine r4.st_mk (o := 0) (vs := (⟨3, 0, e.d, e.nm, 0, e.s, e.o, e.q⟩ : Wd).cs) (by rw [x3]; exact Nat.le_refl _) (wd_ones _) (fun r5 f5 => ?_)
  rw [splice_full (by rw [x3]; rfl)] at r5
  show ldB (stB u1 b8 0 (⟨3, 0, e.d, e.nm, 0, e.s, e.o, e.q⟩ : Wd).cs) b1 (0 + 33) _
  generalize stB u1 b8 0 (⟨3, 0, e.d, e.nm, 0, e.s, e.o, e.q⟩ : Wd).cs = u2 at r5 f5 ⊢
  have g2 : Fr (fun _ => False) w u2 := (f.trans1 f4).trans f5 (fun _ _ h => h) (fun k hk h => by omega)
  have r12 := (r1.fr f4 (fun h => h)).fr f5 hb18
  have r32 := (r3.fr f4 (fun h => h)).fr f5 hb8
  -- the answer
  have fin : ∀ (y : Wd) (v : World), y.d.length = 32 → Fr (fun _ => False) w v → RecAt v b8 37 y.cs → RecAt v b3 37 Z37 → wdT e = y →
      ldA 39 v b8 0 fun a => gd (a.length == 39) (st v b3 0 a fun w14 => ldA 39 w14 b3 0 fun a15 => ofL a15 = ofL (wdT e).cs ∧ Fr (fun _ => False) w w14) := by
    intro y v hy fv ry r3v he
    have hyl := wd_len hy
    rw [he]
    refine ⟨y.cs, hyl, rec_all ry, gd_mk (by rw [hyl]; rfl) (r3v.st_mk (o := 0) (by rw [hyl]; exact Nat.le_refl _) (wd_ones _) (fun r6 f6 => ⟨y.cs, hyl, ?_, rfl, fr_own fv f6 hb3⟩))⟩
    rw [splice_full (by rw [hyl]; rfl)] at r6
    exact rec_all r6
  refine ⟨e.g, rec_end r12 (bvl hd) (j := 0) rfl rfl, vIf_mk (fun hg => ?_) (fun hg => ?_)⟩
  · refine r5.st_mk (o := 0) (by rw [x3]; simp) (fun v hv => by simp at hv; subst hv; rfl) (fun r6 f6 => ?_)
    have r6 : RecAt _ b8 37 (⟨4, 0, e.d, e.nm, 0, e.s, e.o, e.q⟩ : Wd).cs := r6
    generalize stB u2 b8 0 [Value.int .i64 4] = u3 at r6 f6 ⊢
    exact fin _ u3 hd (g2.trans f6 (fun _ _ h => h) (fun k hk h => by omega)) r6 (r32.fr f6 hb8) (by unfold wdT; rw [if_pos hg])
  · exact fin _ u2 hd g2 r5 r32 (by unfold wdT; rw [if_neg (by rw [hg]; decide)])
end Go.Proofs.YthcclmlbkfadcaaGreat
/- chapter 22: Here, Loads, Snapshot -/
namespace Go.Proofs.YthcclmlbkfadcaaGreat
open Go.GV Go.RowKit Go.Lib Go.Stb
open Tg (Tn liveT)
set_option linter.unusedVariables false
set_option linter.unusedSimpArgs false
theorem e_loc {P : Nat → Prop} {w w' : World} {cs : List Value} {e : En} {b p : Nat} (h : EnP P w' cs e) (hc : cellsAt w b p cs) : cellsAt w b (p + 34) [.int .i64 e.s, .int .i64 e.o, .int .i64 e.q] := fun j v hj => by
  match j, hj with
  | 0, hj => simp at hj; subst hj; exact e_fld h hc (j := 2) rfl
  | 1, hj => simp at hj; subst hj; exact e_fld h hc (j := 3) rfl
  | 2, hj => simp at hj; subst hj; exact e_fld h hc (j := 4) rfl
theorem t_fld {P : Nat → Prop} {w w' : World} {cs : List Value} {e : Tn} {b p : Nat} (h : Tg.TnP P w' cs e) (hc : cellsAt w b p cs) {j : Nat} {v : Value} (hj : [Value.bool e.g, .int .i64 e.s, .int .i64 e.o, .int .i64 e.q][j]? = some v) : cellAt w b (p + (33 + j)) = some v := by
  have hd := h.dl
  obtain ⟨A, n, c, rfl, _⟩ := h
  refine hc (33 + j) v ?_
  unfold Tg.Tn.cs
  have hj4 : j < 4 := (List.getElem?_eq_some_iff.1 hj).1
  have l1 : [Value.string e.nm].length = 1 := rfl
  have l2 : (e.d.map bv).length = 32 := bvl hd
  rw [List.getElem?_append_right (by rw [l1]; omega), List.getElem?_append_right (by rw [l1, l2]; omega)]
  have : 33 + j - [Value.string e.nm].length - (e.d.map bv).length = j := by rw [l1, l2]; omega
  rw [this]
  have h2 : [Value.bool e.g, .int .i64 e.s, .int .i64 e.o, .int .i64 e.q, .slice A n c] = [Value.bool e.g, .int .i64 e.s, .int .i64 e.o, .int .i64 e.q] ++ [.slice A n c] := rfl
  rw [h2, List.getElem?_append_left (by simpa using hj4)]
  exact hj
theorem fr_ownR {S : Nat → Prop} {w u v : World} {A : Option Addr} {b : Nat} (f : Fr (fun _ => False) w u) (hb : ∀ k, blkOf A = some k → b ≤ k) (hw : w.heap.size ≤ b) (g : Fr (fun k => blkOf A = some k) u v) : Fr S w v :=
  f.trans g (fun _ _ h => h.elim) (fun k hk h => by have := hb k h; omega)
set_option maxHeartbeats 1000000 in
theorem hereS_calls {w : World} {base sb : Nat} {d : SD} (h : Sta w base sb d) (s : Int) (hb : SB 50000000 d) :
    Calls Tryz.prog 12 #[.pointer (some ⟨sb, 0, none⟩), .int .i64 s] w fun e w' => Fr (fun _ => False) w w' ∧ ∃ A' c', e = .returned (.slice A' (herL s d.lE d.lT).length c') ∧ WOw w' w.heap.size A' (herL s d.lE d.lT).length c' (herL s d.lE d.lT) := by
  refine (F12.of (some ⟨sb, 0, none⟩) s w (Q := fun v w' => Fr (fun _ => False) w w' ∧ ∃ A' c', v = .slice A' (herL s d.lE d.lT).length c' ∧ WOw w' w.heap.size A' (herL s d.lE d.lT).length c' (herL s d.lE d.lT)) ?_).mono (fun e w' ⟨v, he, hf, A', c', hv, h⟩ => ⟨hf, A', c', by rw [he, hv], h⟩)
  have bp := hb.p
  have bt := hb.tl
  have hnT := h.tg.len
  have be : BdE 4294967296 d.lE := hb.e.mono (by omega)
  have bT : Tg.Bd 4294967296 d.lT := fun e he => by have := hb.t e he; omega
  refine vIf_f rfl (dr_mk ⟨_, h.rs.cell rfl, (rowX_calls base d.ib d.bt d.bs d.N d.p d.S d.lE w h.ix be (by omega)).mono ?_⟩)
  rintro r w1 ⟨f1, A1, c1, rfl, hE, hEl⟩
  have hErt := hE.rt
  refine ⟨_, _, _, rfl, jnC_mk (loop_rule (fun t u => Fr (fun _ => False) w1 u ∧ ∃ (i : Nat) (A2 : Option Addr) (c2 : Nat), i ≤ d.lE.length ∧ t = (some ⟨sb, 0, none⟩, s, (A2, (herE s (d.lE.take i)).length, c2), (A1, d.lE.length, c1), ((d.lE.length : Nat) : Int), (i : Int), ()) ∧ WOw u w.heap.size A2 (herE s (d.lE.take i)).length c2 (herE s (d.lE.take i)) ∧ ∀ k, blkOf A2 = some k → w1.heap.size ≤ k)
    (fun t _ => (d.lE.length - t.2.2.2.2.2.1).toNat) ?_ _ _ ⟨Fr.refl _ _, 0, none, 0, by omega, rfl, WOw.nil _ _, fun k hk => by cases hk⟩)⟩
  rintro t u C5 ⟨hf, i, A2, c2, hi, rfl, hW, hA2⟩ hC5 _
  have hs1 := f1.size
  refine vIf_mk (fun hlt => ?_) (fun hge => ?_)
  · have hlt2 : (i : Int) < ((d.lE.length : Nat) : Int) := of_decide_eq_true hlt
    have gi : d.lE[i]? = some (d.lE[i]'(by omega)) := List.getElem?_eq_getElem (by omega)
    generalize d.lE[i]'(by omega) = x at gi
    have hst := herE_step (s := s) gi
    have hll := herE_len s (d.lE.take i)
    rw [List.length_take] at hll
    have hmeas : (((d.lE.length : Nat) : Int) - IntKind.wrap .i64 ((i : Int) + 1)).toNat < (((d.lE.length : Nat) : Int) - (i : Int)).toNat := by rw [ei i (by omega)]; omega
    refine e_rd (hErt.fr0 hf) gi (fun b o cs hA hT hc => ⟨cs, hT.len, hc, var_mk z28 hT.len hT.one (fun b12 u1 g1 r12 => ?_)⟩)
    have hT1 := hT.fr0 g1
    have hW1 := hW.fr0 g1
    -- behind the asking
    have k8 : ∀ (t : Bool) (v : World), Fr (fun _ => False) u1 v → (t = true ↔ x.s = s ∧ liveE x = true) → jnC (F12.k8 (fun v w' => Fr (fun _ => False) w w' ∧ ∃ A' c', v = .slice A' (herL s d.lE d.lT).length c' ∧ WOw w' w.heap.size A' (herL s d.lE d.lT).length c' (herL s d.lE d.lT)) C5) (some ⟨sb, 0, none⟩, s, (A2, (herE s (d.lE.take i)).length, c2), (b12, 0), (A1, d.lE.length, c1), ((d.lE.length : Nat) : Int), (i : Int), t, ()) v := by
      intro t v fv ht
      have rv := r12.fr fv (fun h => h)
      have hTv := hT1.fr0 fv
      have hWv := hW1.fr0 fv
      have fwv : Fr (fun _ => False) w1 v := (hf.trans1 g1).trans1 fv
      have hdl := hTv.dl
      refine jnC_mk (fun _ => vIf_mk (fun h0 => ?_) (fun h0 => ?_))
      · have h0 := ht.1 h0
        rw [if_pos h0] at hst
        refine ⟨x.k, e_fld hTv (rec_all rv) (j := 0) rfl, x.d.map bv, bvl hdl, e_dig hTv (rec_all rv), x.z, e_fld hTv (rec_all rv) (j := 1) rfl, [.int .i64 x.s, .int .i64 x.o, .int .i64 x.q], rfl, e_loc hTv (rec_all rv), gd_mk (len1 hdl) (gd_mk rfl (gd_mk (by simp [hdl]) ?_))⟩
        refine push_w (x := wdE x) hWv hdl (by have := fwv.size; omega) (by show (herE s (d.lE.take i)).length ≤ _; omega) (fun A3 c3 v3 hW3 f3 hb3 => jnC_mk (hC5 _ _ ⟨fr_ownR fwv hA2 (Nat.le_refl _) f3, i + 1, A3, c3, by omega, ?_, ?_, fun k hk => ?_⟩ hmeas))
        · rw [hst, List.length_append, ei i (by omega)]; rfl
        · rw [hst, List.length_append]; exact hW3
        · rcases hb3 k hk with h' | h'
          · exact hA2 k h'
          · have := fwv.size; omega
      · rw [if_neg (fun h => by rw [ht.2 h] at h0; cases h0)] at hst
        exact jnC_mk (hC5 _ _ ⟨fwv, i + 1, A2, c2, by omega, by rw [hst, ei i (by omega)], by rw [hst]; exact hWv, hA2⟩ hmeas)
    refine ⟨x.s, e_fld hT1 (rec_all r12) (j := 2) rfl, vIf_mk (fun h0 => ?_) (fun h0 => k8 false _ (Fr.refl _ _) ?_)⟩
    · have h0 : x.s = s := by simpa using h0
      refine ⟨cs, hT1.len, rec_all r12, (alive_calls x cs u1 hT1.at (by have := be.at gi; omega)).mono ?_⟩
      rintro r u2 ⟨rfl, f2⟩
      exact ⟨_, rfl, k8 _ u2 f2 ⟨fun h => ⟨h0, h⟩, fun h => h.2⟩⟩
    · have h0 : ¬ x.s = s := by simpa using h0
      exact ⟨fun h => (by cases h), fun h => absurd h.1 h0⟩
  · have hge2 : ¬ (i : Int) < ((d.lE.length : Nat) : Int) := of_decide_eq_false hge
    rw [List.take_of_length_le (by omega)] at hW ⊢
    have hgu := f1.trans1 hf
    have hst := h.fr0 hgu
    have hllE := herE_len s d.lE
    clear hC5
    refine dr_mk ⟨_, hst.rs.cell rfl, (Tg.rowT_calls base d.tb d.R d.nT d.cT d.lT u hst.tg (by omega) bT).mono ?_⟩
    rintro r w2 ⟨f2, A5, c5, rfl, hT⟩
    have hTrt := hT.rt
    have hW2 := hW.fr0 f2
    have hg2 := hgu.trans1 f2
    have hsu := f2.size
    have hl5 : ∀ k, blkOf A2 = some k → k < u.heap.size := fun k hk => (hW.1.blt hk).2
    have hA5 : ∀ k, blkOf A5 = some k → u.heap.size ≤ k ∧ k < w2.heap.size := fun k hk => hT.blt hk
    have hRT2 := hTrt.mono (P' := fun k => u.heap.size ≤ k ∧ k < w2.heap.size) (fun k hk h => ⟨h, hk⟩)
    refine ⟨_, _, _, rfl, jnC_mk (loop_rule (fun t v => Fr (fun _ => False) w v ∧ ∃ (i : Nat) (A3 : Option Addr) (c3 : Nat), i ≤ d.nT ∧ t = (s, (A3, (herE s d.lE ++ herT s (d.lT.take i)).length, c3), (A5, d.nT, c5), ((d.nT : Nat) : Int), (i : Int), ()) ∧ WOw v w.heap.size A3 (herE s d.lE ++ herT s (d.lT.take i)).length c3 (herE s d.lE ++ herT s (d.lT.take i)) ∧ (∀ k, blkOf A3 = some k → w1.heap.size ≤ k ∧ (k < u.heap.size ∨ w2.heap.size ≤ k)) ∧ Tg.RT (fun k => u.heap.size ≤ k ∧ k < w2.heap.size) v A5 d.nT d.lT ∧ w2.heap.size ≤ v.heap.size)
      (fun t _ => (d.nT - t.2.2.2.2.1).toNat) ?_ _ _ ⟨hg2, 0, A2, c2, by omega, by simp [herT], by simpa [herT] using hW2, fun k hk => ⟨hA2 k hk, .inl (hl5 k hk)⟩, hRT2, Nat.le_refl _⟩)⟩
    clear hW2 hRT2 hTrt hT
    rintro t v C11 ⟨fv, i, A3, c3, hi, rfl, hW, hA3, hRT, hwv⟩ hC11 _
    have hllT := herT_len s (d.lT.take i)
    rw [List.length_take] at hllT
    refine vIf_mk (fun hlt => ?_) (fun hge => ?_)
    · have hlt2 : (i : Int) < ((d.nT : Nat) : Int) := of_decide_eq_true hlt
      have gi : d.lT[i]? = some (d.lT[i]'(by omega)) := List.getElem?_eq_getElem (by omega)
      generalize d.lT[i]'(by omega) = x at gi
      have hst := herT_step (s := s) gi
      have hmeas : (((d.nT : Nat) : Int) - IntKind.wrap .i64 ((i : Int) + 1)).toNat < (((d.nT : Nat) : Int) - (i : Int)).toNat := by rw [ei i (by omega)]; omega
      refine Tg.t_rd hRT gi (fun b o cs hA hTn hc => ⟨cs, hTn.len, hc, var_mk Tg.z35 hTn.len hTn.one (fun b41 u1 g1 r41 => ?_)⟩)
      have hT1 := hTn.fr0 g1
      have hW1 := hW.fr0 g1
      have hRT1 := hRT.fr0 g1
      have k14 : ∀ (t : Bool) (v2 : World), Fr (fun _ => False) u1 v2 → (t = true ↔ x.s = s ∧ liveT x = true) → jnC (F12.k14 (fun v w' => Fr (fun _ => False) w w' ∧ ∃ A' c', v = .slice A' (herL s d.lE d.lT).length c' ∧ WOw w' w.heap.size A' (herL s d.lE d.lT).length c' (herL s d.lE d.lT)) C11) (s, (A3, (herE s d.lE ++ herT s (d.lT.take i)).length, c3), (b41, 0), (A5, d.nT, c5), ((d.nT : Nat) : Int), (i : Int), t, ()) v2 := by
        intro t v2 fv2 ht
        have rv := r41.fr fv2 (fun h => h)
        have hTv := hT1.fr0 fv2
        have hWv := hW1.fr0 fv2
        have hRTv := hRT1.fr0 fv2
        have g12 := g1.trans1 fv2
        have fwv : Fr (fun _ => False) w v2 := fv.trans1 g12
        have hs12 := g12.size
        refine jnC_mk (fun _ => vIf_mk (fun h0 => ?_) (fun h0 => ?_))
        · have h0 := ht.1 h0
          rw [if_pos h0] at hst
          refine ⟨cs, hTv.len, rec_all rv, (word_calls x cs v2 hTv).mono ?_⟩
          rintro r v3 ⟨rfl, f3⟩
          have hdl := hTv.dl
          have hWv := hWv.fr0 f3
          have hRTv := hRTv.fr0 f3
          have fwv := fwv.trans1 f3
          have hs3 := f3.size
          have e1 : (herE s d.lE ++ (herT s (d.lT.take i) ++ [wdT x])).length = (herE s d.lE ++ herT s (d.lT.take i)).length + 1 := by simp only [List.length_append, List.length_cons, List.length_nil]; omega
          have hlen : (herE s d.lE ++ herT s (d.lT.take i)).length ≤ 1073741824 := by rw [List.length_append]; omega
          refine ⟨_, rfl, gd_mk (by rw [wd_len (x := wdT x) hdl]; rfl) (push_w (x := wdT x) hWv hdl (by have := fwv.size; omega) hlen (fun A4 c4 v4 hW4 f4 hb4 => jnC_mk (hC11 _ _ ⟨fr_ownR fwv (fun k hk => (hA3 k hk).1) hs1 f4, i + 1, A4, c4, by omega, ?_, ?_, fun k hk => ?_, ?_, by have := f4.size; omega⟩ hmeas)))⟩
          · rw [hst, e1, ei i (by omega)]
          · rw [hst, e1, ← List.append_assoc]; exact hW4
          · rcases hb4 k hk with h' | h'
            · exact hA3 k h'
            · exact ⟨by have := hf.size; omega, .inr (by omega)⟩
          · exact hRTv.fr f4 (fun k hk h' => by have := (hA3 k h').2; omega) (fun _ k hk h' => by have h1 := hA5 k hk; have h2 := (hA3 k h').2; omega)
        · rw [if_neg (fun h => by rw [ht.2 h] at h0; cases h0)] at hst
          exact jnC_mk (hC11 _ _ ⟨fwv, i + 1, A3, c3, by omega, by rw [hst, ei i (by omega)], by rw [hst]; exact hWv, hA3, hRTv, by omega⟩ hmeas)
      refine ⟨x.s, t_fld hT1 (rec_all r41) (j := 1) rfl, vIf_mk (fun h0 => ?_) (fun h0 => k14 false _ (Fr.refl _ _) ?_)⟩
      · have h0 : x.s = s := by simpa using h0
        refine ⟨cs, hT1.len, rec_all r41, (Tg.aliveT_calls x cs u1 hT1.at (by have := bT.at gi; omega)).mono ?_⟩
        rintro r u2 ⟨rfl, f2'⟩
        exact ⟨_, rfl, k14 _ u2 f2' ⟨fun h => ⟨h0, h⟩, fun h => h.2⟩⟩
      · have h0 : ¬ x.s = s := by simpa using h0
        exact ⟨fun h => (by cases h), fun h => absurd h.1 h0⟩
    · have hge2 : ¬ (i : Int) < ((d.nT : Nat) : Int) := of_decide_eq_false hge
      rw [List.take_of_length_le (by omega)] at hW ⊢
      have hll : (herE s d.lE ++ herT s d.lT).length ≤ 1000000000 := by rw [List.length_append]; have := herT_len s d.lT; omega
      refine (sortW_calls w.heap.size A3 _ c3 _ v hW hll).mono ?_
      rintro r v2 ⟨rfl, f2', hW2⟩
      have e : stab cmpO (herE s d.lE ++ herT s d.lT) = herL s d.lE d.lT := rfl
      have el : (herE s d.lE ++ herT s d.lT).length = (herL s d.lE d.lT).length := by rw [← e, stab_len]
      rw [e, el] at hW2
      refine ⟨rfl, fr_ownR fv (fun k hk => (hA3 k hk).1) hs1 f2', A3, c3, ?_, hW2⟩
      dsimp only
      rw [el]
end Go.Proofs.YthcclmlbkfadcaaGreat
/- chapter 22: Loads, Snapshot -/
namespace Go.Proofs.YthcclmlbkfadcaaGreat
open Go.GV Go.RowKit Go.Lib Go.Stb
open Tg (Tn liveT)
set_option linter.unusedVariables false
set_option linter.unusedSimpArgs false
theorem flt_put1 {β : Type} {enc : β → List Value} {sz : Nat} (h : EncO β enc sz) {l : List β} {i k : Nat} {x y : β} {v : Value} (hx : l[i]? = some x) (hk : k < sz) (hv : splice (enc x) k [v] = enc y) : splice (flt enc l) (i * sz + k) [v] = flt enc (l.set i y) := by
  have hi := (List.getElem?_eq_some_iff.1 hx).1
  have hA : (flt enc (l.take i)).length = i * sz := by rw [h.fl, List.length_take, Nat.min_eq_left (by omega)]
  have hX := h.len x
  have e1 : flt enc l = flt enc (l.take i) ++ (enc x ++ flt enc (l.drop (i + 1))) := by
    conv => lhs; rw [← List.take_append_drop i l, drop_at hx]
    rw [flt_app, flt_cons]
  have e2 : flt enc (l.set i y) = flt enc (l.take i) ++ (enc y ++ flt enc (l.drop (i + 1))) := by
    rw [List.set_eq_take_append_cons_drop, if_pos hi, flt_app, flt_cons]
  rw [e1, e2, ← hv]
  unfold splice
  have t1 : (flt enc (l.take i) ++ (enc x ++ flt enc (l.drop (i + 1)))).take (i * sz + k) = flt enc (l.take i) ++ (enc x).take k := by
    rw [← hA, List.take_length_add_append, List.take_append_of_le_length (by omega)]
  have t2 : (flt enc (l.take i) ++ (enc x ++ flt enc (l.drop (i + 1)))).drop (i * sz + k + [v].length) = (enc x).drop (k + [v].length) ++ flt enc (l.drop (i + 1)) := by
    rw [← hA, Nat.add_assoc, List.drop_length_add_append, List.drop_append_of_le_length (by rw [List.length_singleton]; omega)]
  rw [t1, t2]
  simp only [List.append_assoc]
/-- a variable that takes a word -/
theorem wd_var {w : World} {cs : List Value} {K : Nat → World → Prop} (hl : cs.length = 39) (ho : ∀ v ∈ cs, v.oneCell' = true) (hK : ∀ b w', Fr (fun _ => False) w w' → w.heap.size ≤ b → RecAt w' b 37 cs → K b w') :
    nw w Z37 37 fun b w1 => gd (cs.length == 39) (st w1 b 0 cs fun w2 => K b w2) := by
  refine nw_mk (gd_mk (by rw [hl]; rfl) ?_)
  have f1 : Fr (fun _ => False) w (w.alloc (.cells Z37.toArray 37)) := Fr.alloc _ _ _
  refine (RecAt.new w Z37 37).st_mk (o := 0) (by rw [hl]; exact Nat.le_refl _) ho (fun r2 f2 => hK _ _ (f1.trans f2 (fun _ _ h => h) (fun k hk h => by omega)) (Nat.le_refl _) ?_)
  rw [splice_full (by rw [hl]; rfl)] at r2
  exact r2
theorem herL_len (s : Int) (lE : List En) (lT : List Tn) : (herL s lE lT).length ≤ lE.length + lT.length := by
  have h1 := herE_len s lE
  have h2 := herT_len s lT
  unfold herL
  rw [stab_len, List.length_append]; omega
theorem loadsL_len (lE : List En) (lT : List Tn) (lL : List Lo) : (loadsL lE lT lL).length = lL.length := by simp [loadsL]
set_option maxHeartbeats 1000000 in
theorem loadsS_calls {w : World} {base sb : Nat} {d : SD} (h : Sta w base sb d) (hb : SB 50000000 d) :
    Calls Tryz.prog 36 #[.pointer (some ⟨sb, 0, none⟩)] w fun e w' => Fr (fun _ => False) w w' ∧ ∃ A' c', e = .returned (.slice A' d.nL c') ∧ Row w' w.heap.size 98 3 A' d.nL c' (flt encL (loadsL d.lE d.lT d.lL)) := by
  refine (F36.of (some ⟨sb, 0, none⟩) w (Q := fun v w' => Fr (fun _ => False) w w' ∧ ∃ A' c', v = .slice A' d.nL c' ∧ Row w' w.heap.size 98 3 A' d.nL c' (flt encL (loadsL d.lE d.lT d.lL))) ?_).mono (fun e w' ⟨v, he, hf, A', c', hv, h⟩ => ⟨hf, A', c', by rw [he, hv], h⟩)
  have hll := h.ll
  have bl := hb.ll
  refine vIf_f rfl (dr_mk ⟨_, _, _, h.rs.cell rfl, (ClnLd.clone_calls d.L d.nL d.cL _ w h.ld.sl (encL_o.fo _) (by omega)).mono ?_⟩)
  rintro r w1 ⟨f1, A1, c1, rfl, h1⟩
  have hA1 : ∀ k, blkOf A1 = some k → w.heap.size ≤ k := fun k hk => (h1.blt hk).1
  refine ⟨_, _, _, rfl, jnC_mk (loop_rule (fun t u => Fr (fun _ => False) w u ∧ ∃ i : Nat, i ≤ d.nL ∧ t = (some ⟨sb, 0, none⟩, (A1, d.nL, c1), ((d.nL : Nat) : Int), (i : Int), ()) ∧ Row u w.heap.size 98 3 A1 d.nL c1 (flt encL (loadsL d.lE d.lT (d.lL.take i) ++ d.lL.drop i)))
    (fun t _ => (d.nL - t.2.2.2.1).toNat) ?_ _ _ ⟨f1, 0, by omega, rfl, by simpa [loadsL] using h1⟩)⟩
  rintro t u C5 ⟨hf, i, hi, rfl, hr⟩ hC5 _
  refine vIf_mk (fun hlt => ?_) (fun hge => ?_)
  · have hlt2 : (i : Int) < ((d.nL : Nat) : Int) := of_decide_eq_true hlt
    have gi : d.lL[i]? = some (d.lL[i]'(by omega)) := List.getElem?_eq_getElem (by omega)
    generalize d.lL[i]'(by omega) = x at gi
    have hxz : x.v = 0 := h.lz x (List.mem_of_getElem? gi)
    have hdl : (loadsL d.lE d.lT (d.lL.take i)).length = i := by rw [loadsL_len, List.length_take]; omega
    have hdr := drop_at gi
    have hnext : loadsL d.lE d.lT (d.lL.take (i + 1)) = loadsL d.lE d.lT (d.lL.take i) ++ [⟨x.s, x.a, sumQ (herL x.s d.lE d.lT)⟩] := by
      unfold loadsL
      rw [List.take_add_one, gi, Option.toList_some, List.map_append]; rfl
    rw [hdr] at hr
    generalize loadsL d.lE d.lT (d.lL.take i) = P at hr hdl hnext
    have hPl : (P ++ x :: d.lL.drop (i + 1)).length = d.nL := by simp only [List.length_append, List.length_cons, List.length_drop]; omega
    refine l_rdS hr.sl hPl (get_mid (by omega)) rfl ((hereS_calls (h.fr0 hf) x.s hb).mono ?_)
    rintro r u2 ⟨f2, A2, c2, rfl, hW⟩
    have hxx : x = ⟨x.s, x.a, sumQ ((herL x.s d.lE d.lT).take 0)⟩ := by
      show x = ⟨x.s, x.a, 0⟩
      rw [← hxz]
    have hr2 := f2.row hr (fun _ _ h => h)
    have hHl : (herL x.s d.lE d.lT).length ≤ 1000000000 := by
      have h1 := herL_len x.s d.lE d.lT
      have := hb.el
      have := hb.tl
      omega
    generalize hH : herL x.s d.lE d.lT = H at hW hnext hxx hHl ⊢
    rw [hxx] at hr2
    have hWs := hW.sl
    have hdis : ∀ k, blkOf A1 = some k → k < u.heap.size := fun k hk => (hr.blt hk).2
    have hA2 : ∀ k, blkOf A2 = some k → u.heap.size ≤ k := fun k hk => (hW.1.blt hk).1
    refine ⟨_, _, _, rfl, jnC_mk (loop_rule (fun t v => Fr (fun _ => False) w v ∧ WSl v A2 H.length H ∧ ∃ j : Nat, j ≤ H.length ∧ t = (some ⟨sb, 0, none⟩, (A1, d.nL, c1), (i : Int), ((d.nL : Nat) : Int), (i : Int), (A2, H.length, c2), ((H.length : Nat) : Int), (j : Int), ()) ∧ Row v w.heap.size 98 3 A1 d.nL c1 (flt encL (P ++ ⟨x.s, x.a, sumQ (H.take j)⟩ :: d.lL.drop (i + 1))))
      (fun t _ => (H.length - t.2.2.2.2.2.2.2.1).toNat) ?_ _ _ ⟨hf.trans1 f2, hWs, 0, by omega, rfl, hr2⟩)⟩
    rintro t v C8 ⟨fv, hWv, j, hj, rfl, hrv⟩ hC8 _
    refine vIf_mk (fun hlt => ?_) (fun hge => ?_)
    · have hlt3 : (j : Int) < ((H.length : Nat) : Int) := of_decide_eq_true hlt
      have gj : H[j]? = some (H[j]'(by omega)) := List.getElem?_eq_getElem (by omega)
      generalize H[j]'(by omega) = y at gj
      have hy := hWv.2.2 y (List.mem_of_getElem? gj)
      have hyl := wd_len hy
      have hst := sumQ_step gj
      refine w_rd hWv gj rfl (fun b o hc => ⟨y.cs, hyl, hc, wd_var hyl (wd_ones y) (fun b22 v1 g1 hb22 r22 => ?_)⟩)
      have gd1 := g1.trans1 (Fr.drew _ v1)
      have hrd := gd1.row hrv (fun _ _ h => h)
      have r22d := r22.fr (Fr.drew (fun _ => False) v1) (fun h => h)
      have fvd := fv.trans1 gd1
      have hPl2 : ∀ z : Lo, (P ++ z :: d.lL.drop (i + 1)).length = d.nL := fun z => by simp only [List.length_append, List.length_cons, List.length_drop]; omega
      refine el_rd (enc := encL) hrd.sl (fun _ _ => rfl) (get_mid (i := i) (by omega)) rfl (hPl2 _) (fun b2 o2 hA2' hc2 => ⟨sumQ (H.take j), hc2 2 _ rfl, y.q, wd_fld r22d hy (j := 4) rfl rfl, ?_⟩)
      have hpt := row_putG (o' := i * 3 + 2) (us := [Value.int .i64 (IntKind.wrap .i64 (sumQ (H.take j) + y.q))]) (K := fun w' => jnC C8 (some ⟨sb, 0, none⟩, (A1, d.nL, c1), (i : Int), ((d.nL : Nat) : Int), (i : Int), (A2, H.length, c2), ((H.length : Nat) : Int), IntKind.wrap .i64 ((j : Int) + 1), ()) w') hrd (by omega) (by simp; omega) (by simp; rfl) (fun w6 hr6 f6 => jnC_mk (hC8 _ _ ⟨?_, ?_, j + 1, by omega, by rw [ei j (by omega)], ?_⟩ ?_))
      · rw [dr_iff] at hpt
        obtain ⟨b3, o3, hA3, hpt⟩ := hpt
        rw [hA3] at hA2' ⊢
        refine dr_mk (gd_mk (decide_eq_true (by show (0 : Int) ≤ (i : Int); omega)) (gd_mk (decide_eq_true (by show (i : Int) < ((d.nL : Nat) : Int); omega)) ?_))
        dsimp only
        rw [Int.toNat_natCast, ← hA3, Nat.add_assoc]
        exact hpt
      · exact fr_ownR fvd hA1 (Nat.le_refl _) f6
      · exact ⟨f6.sl (gd1.sl hWv.1 (fun _ _ _ h => h)) (fun _ k hk h' => by have := hdis k h'; have := hA2 k hk; omega), hWv.2⟩
      · rw [flt_put1 encL_o (get_mid (by omega)) (by omega) (y := ⟨x.s, x.a, IntKind.wrap .i64 (sumQ (H.take j) + y.q)⟩) rfl, set_mid (by omega)] at hr6
        rw [hst]; exact hr6
      · show (((H.length : Nat) : Int) - IntKind.wrap .i64 ((j : Int) + 1)).toNat < (((H.length : Nat) : Int) - (j : Int)).toNat
        rw [ei j (by omega)]; omega
    · have hge3 : ¬ (j : Int) < ((H.length : Nat) : Int) := of_decide_eq_false hge
      have hjl : j = H.length := by omega
      subst hjl
      rw [List.take_length] at hrv
      refine jnC_mk (hC5 _ _ ⟨fv, i + 1, by omega, by rw [ei i (by omega)], ?_⟩ ?_)
      · rw [hnext, List.append_assoc]; exact hrv
      · show (((d.nL : Nat) : Int) - IntKind.wrap .i64 ((i : Int) + 1)).toNat < (((d.nL : Nat) : Int) - (i : Int)).toNat
        rw [ei i (by omega)]; omega
  · have hge2 : ¬ (i : Int) < ((d.nL : Nat) : Int) := of_decide_eq_false hge
    have hin : i = d.nL := by omega
    rw [List.take_of_length_le (by omega), List.drop_of_length_le (by omega), List.append_nil] at hr
    exact ⟨hf, A1, c1, rfl, hr⟩
/-- a snapshot that a state gave: rows of its own -/
def SnO (w : World) (B : Nat) (cs : List Value) (E : List En) (T : List Tn) (Ls : List Lo) : Prop := ∃ (A : Option Addr) (c : Nat) (A' : Option Addr) (n' c' : Nat) (A'' : Option Addr) (n'' c'' : Nat),
  cs = [.int .i64 0, .int .i64 0, .int .i64 0, .int .u64 0, .slice A E.length c, .slice A' n' c', .slice A'' n'' c''] ∧ RE (fun k => B ≤ k) w A E.length E ∧ Tg.RT (fun k => B ≤ k) w A' n' T ∧ Sl w 3 A'' n'' (flt encL Ls) ∧ Ls.length = n''
theorem SnO.fr0 {w w' : World} {B : Nat} {cs : List Value} {E : List En} {T : List Tn} {Ls : List Lo} (h : SnO w B cs E T Ls) (f : Fr (fun _ => False) w w') : SnO w' B cs E T Ls := by
  obtain ⟨A, c, A', n', c', A'', n'', c'', e, h1, h2, h3, h4⟩ := h
  exact ⟨A, c, A', n', c', A'', n'', c'', e, h1.fr0 f, h2.fr0 f, f.sl h3 (fun _ _ _ h => h), h4⟩
theorem SnO.len {w : World} {B : Nat} {cs : List Value} {E : List En} {T : List Tn} {Ls : List Lo} (h : SnO w B cs E T Ls) : cs.length = 7 := by
  obtain ⟨A, c, A', n', c', A'', n'', c'', e, _⟩ := h
  rw [e]; rfl
/-- .. in blocks of P -/
def SnB (P : Nat → Prop) (w : World) (cs : List Value) (E : List En) (T : List Tn) (Ls : List Lo) : Prop := ∃ (A : Option Addr) (c : Nat) (A' : Option Addr) (n' c' : Nat) (A'' : Option Addr) (n'' c'' : Nat),
  cs = [.int .i64 0, .int .i64 0, .int .i64 0, .int .u64 0, .slice A E.length c, .slice A' n' c', .slice A'' n'' c''] ∧ RE P w A E.length E ∧ Tg.RT P w A' n' T ∧ Sl w 3 A'' n'' (flt encL Ls) ∧ Ls.length = n'' ∧
  (E.length ≠ 0 → ∀ k, blkOf A = some k → P k) ∧ (n' ≠ 0 → ∀ k, blkOf A' = some k → P k) ∧ (n'' ≠ 0 → ∀ k, blkOf A'' = some k → P k)
theorem SnB.out {B : Nat} {w : World} {cs : List Value} {E : List En} {T : List Tn} {Ls : List Lo} (h : SnB (fun k => B ≤ k) w cs E T Ls) : SnO w B cs E T Ls := by
  obtain ⟨A, c, A', n', c', A'', n'', c'', e, h1, h2, h3, h4, _⟩ := h
  exact ⟨A, c, A', n', c', A'', n'', c'', e, h1, h2, h3, h4⟩
theorem SnB.mono {P P' : Nat → Prop} {w : World} {cs : List Value} {E : List En} {T : List Tn} {Ls : List Lo} (h : SnB P w cs E T Ls) (hP : ∀ k, k < w.heap.size → P k → P' k) : SnB P' w cs E T Ls := by
  obtain ⟨A, c, A', n', c', A'', n'', c'', e, h1, h2, h3, h4, h5, h6, h7⟩ := h
  refine ⟨A, c, A', n', c', A'', n'', c'', e, h1.mono hP, h2.mono hP, h3, h4, fun h0 k hk => hP k ?_ (h5 h0 k hk), fun h0 k hk => hP k ?_ (h6 h0 k hk), fun h0 k hk => hP k (h3.blt (by decide) h0 hk) (h7 h0 k hk)⟩
  · obtain ⟨vs, q1, _⟩ := h1
    exact q1.blt (by decide) h0 hk
  · obtain ⟨vs, q1, _⟩ := h2
    exact q1.blt (by decide) h0 hk
theorem SnB.fr {P D : Nat → Prop} {w w' : World} {cs : List Value} {E : List En} {T : List Tn} {Ls : List Lo} (h : SnB P w cs E T Ls) (f : Fr D w w') (hD : ∀ k, P k → k < w.heap.size → ¬ D k) : SnB P w' cs E T Ls := by
  obtain ⟨A, c, A', n', c', A'', n'', c'', e, h1, h2, h3, h4, h5, h6, h7⟩ := h
  refine ⟨A, c, A', n', c', A'', n'', c'', e, ?_, ?_, f.sl h3 (fun h0 k hk => hD k (h7 h0 k hk) (h3.blt (by decide) h0 hk)), h4, h5, h6, h7⟩
  · have q := h1.mono (P' := fun k => P k ∧ k < w.heap.size) (fun k hk h => ⟨h, hk⟩)
    refine (q.fr f (fun k hk => hD k hk.1 hk.2) (fun h0 k hk => hD k (h5 h0 k hk) ?_)).mono (fun k _ h => h.1)
    obtain ⟨vs, q1, _⟩ := h1
    exact q1.blt (by decide) h0 hk
  · have q := h2.mono (P' := fun k => P k ∧ k < w.heap.size) (fun k hk h => ⟨h, hk⟩)
    refine (q.fr f (fun k hk => hD k hk.1 hk.2) (fun h0 k hk => hD k (h6 h0 k hk) ?_)).mono (fun k _ h => h.1)
    obtain ⟨vs, q1, _⟩ := h2
    exact q1.blt (by decide) h0 hk
set_option maxHeartbeats 1000000 in
theorem snapB_calls {w : World} {base sb : Nat} {d : SD} (h : Sta w base sb d) (hb : SB 50000000 d) :
    Calls Tryz.prog 11 #[.pointer (some ⟨sb, 0, none⟩)] w fun e w' => Fr (fun _ => False) w w' ∧ ∃ cs, e = .returned (ofL cs) ∧ SnB (fun k => w.heap.size ≤ k) w' cs d.lE d.lT (loadsL d.lE d.lT d.lL) := by
  refine (F11.of (some ⟨sb, 0, none⟩) w (Q := fun v w' => Fr (fun _ => False) w w' ∧ ∃ cs, v = ofL cs ∧ SnB (fun k => w.heap.size ≤ k) w' cs d.lE d.lT (loadsL d.lE d.lT d.lL)) ?_).mono (fun e w' ⟨v, he, hf, cs, hv, h⟩ => ⟨hf, cs, by rw [he, hv], h⟩)
  have bp := hb.p
  have bt := hb.tl
  have hnT := h.tg.len
  have hll := h.ll
  have be : BdE 4294967296 d.lE := hb.e.mono (by omega)
  have bT : Tg.Bd 4294967296 d.lT := fun e he => by have := hb.t e he; omega
  refine nw_mk ?_
  have f1 : Fr (fun _ => False) w (w.alloc (.cells Z30.toArray 30)) := Fr.alloc _ _ _
  have r1 := RecAt.new w Z30 30
  have hb1w : w.heap.size < (w.alloc (.cells Z30.toArray 30)).heap.size := by rw [alloc_size]; omega
  generalize hwb : w.heap.size = b1 at r1 hb1w ⊢
  generalize w.alloc (.cells Z30.toArray 30) = w1 at f1 r1 hb1w ⊢
  have fd := f1.trans1 (Fr.drew _ w1)
  have hd := h.fr0 fd
  have s1 : w1.drew.heap.size = w1.heap.size := rfl
  have rd := r1.fr (Fr.drew (fun _ => False) w1) (fun h => h)
  refine vIf_f rfl (dr_mk ⟨_, hd.rs.cell rfl, dr_mk ⟨_, hd.rs.cell rfl, (rowX_calls base d.ib d.bt d.bs d.N d.p d.S d.lE w1.drew hd.ix be (by omega)).mono ?_⟩⟩)
  rintro r w2 ⟨f2, A2, c2, rfl, hE, _⟩
  have h2 := hd.fr0 f2
  have s2 := f2.size
  refine ⟨_, _, _, rfl, kp_mk f2 hd.rs.lt (fun h => h) ((Tg.rowT_calls base d.tb d.R d.nT d.cT d.lT w2 h2.tg (by omega) bT).mono ?_)⟩
  rintro r w3 ⟨f3, A3, c3, rfl, hT⟩
  have h3 := h2.fr0 f3
  have s3 := f3.size
  refine ⟨_, _, _, rfl, (loadsS_calls h3 hb).mono ?_⟩
  rintro r w4 ⟨f4, A4, c4, rfl, hL⟩
  have r4 := ((rd.fr f2 (fun h => h)).fr f3 (fun h => h)).fr f4 (fun h => h)
  have g4 := ((fd.trans1 f2).trans1 f3).trans1 f4
  have hE4 := (hE.fr0 f3).fr0 f4
  have hT4 := hT.fr0 f4
  refine ⟨_, _, _, rfl, gd_mk rfl (st_all (vs := [Value.int .i64 0, .int .i64 0, .int .i64 0, .int .u64 0, .slice A2 d.lE.length c2, .slice A3 d.nT c3, .slice A4 d.nL c4]) r4 rfl rfl (fun v hv => by simp at hv; rcases hv with rfl | rfl | rfl | rfl | rfl <;> rfl) (fun w5 f5 r5 => ⟨?_, _, rfl, A2, c2, A3, d.nT, c3, A4, d.nL, c4, rfl, ?_, ?_, ?_, ?_, fun _ k hk => ?_, fun _ k hk => ?_, fun _ k hk => ?_⟩))⟩
  · exact fr_own g4 f5 (by omega)
  · exact ((hE4.mono (Nat.le_refl _) (fun k _ hk => hk)).fr f5 (fun k hk h => by omega) (fun k hk h => by have := (hE4.blt hk).1; omega)).rt.mono (fun k _ hk => by omega)
  · exact ((hT4.mono (Nat.le_refl _) (fun k _ hk => hk)).fr f5 (fun k hk h => by omega) (fun k hk h => by have := (hT4.blt hk).1; omega)).rt.mono (fun k _ hk => by omega)
  · exact (f5.row hL (fun k hk h => by have := (hL.blt hk).1; omega)).sl
  · rw [loadsL_len]; exact hll
  · have := (hE4.blt hk).1; omega
  · have := (hT4.blt hk).1; omega
  · have := (hL.blt hk).1; omega
theorem snapS_calls {w : World} {base sb : Nat} {d : SD} (h : Sta w base sb d) (hb : SB 50000000 d) :
    Calls Tryz.prog 11 #[.pointer (some ⟨sb, 0, none⟩)] w fun e w' => Fr (fun _ => False) w w' ∧ ∃ cs, e = .returned (ofL cs) ∧ SnO w' w.heap.size cs d.lE d.lT (loadsL d.lE d.lT d.lL) :=
  (snapB_calls h hb).mono (fun e w' ⟨f, cs, he, h⟩ => ⟨f, cs, he, h.out⟩)
end Go.Proofs.YthcclmlbkfadcaaGreat
/- chapter 22: the document's load, in, put; SameLoads, Words -/
namespace Go.Proofs.YthcclmlbkfadcaaGreat
open Go.GV Go.RowKit Go.Lib Go.Stb
open Tg (Tn liveT)
set_option linter.unusedVariables false
set_option linter.unusedSimpArgs false
def LOw (w : World) (B : Nat) (A : Option Addr) (n c : Nat) (l : List Lo) : Prop := Row w B 98 3 A n c (flt encL l) ∧ l.length = n
theorem LOw.fr0 {w w' : World} {B : Nat} {A : Option Addr} {n c : Nat} {l : List Lo} (h : LOw w B A n c l) (f : Fr (fun _ => False) w w') : LOw w' B A n c l := ⟨f.row h.1 (fun _ _ h => h), h.2⟩
/-! ### rows held against each other -/
end Go.Proofs.YthcclmlbkfadcaaGreat
/- chapter 22: the document's put and Here; Words -/
namespace Go.Proofs.YthcclmlbkfadcaaGreat
open Go.GV Go.RowKit Go.Lib Go.Stb
open Tg (Tn liveT)
set_option linter.unusedVariables false
set_option linter.unusedSimpArgs false
/-! ### words held against each other -/
/-! ### put -/
def wS (x : Wd) (st : List Wd × Bool) (y : Wd) : List Wd × Bool :=
  ((if st.2 = false ∧ x.o < y.o then (st.1 ++ [x], true) else st).1 ++ [y], (if st.2 = false ∧ x.o < y.o then (st.1 ++ [x], true) else st).2)
def wE (x : Wd) (st : List Wd × Bool) : List Wd := if st.2 = true then st.1 else st.1 ++ [x]
end Go.Proofs.YthcclmlbkfadcaaGreat
/- chapter 22: the document's Here, Loads, Is -/
namespace Go.Proofs.YthcclmlbkfadcaaGreat
open Go.GV Go.RowKit Go.Lib Go.Stb
open Tg (Tn liveT)
set_option linter.unusedVariables false
set_option linter.unusedSimpArgs false
/-- the document's state, as it lies, off the blocks D -/
def RSt (D : Nat → Prop) (w : World) (cs : List Value) (E : List En) (T : List Tn) (Ls : List Lo) : Prop := ∃ (A : Option Addr) (n c : Nat) (A' : Option Addr) (n' c' : Nat) (A'' : Option Addr) (n'' c'' : Nat),
  cs = [.slice A n c, .slice A' n' c', .slice A'' n'' c''] ∧ RDE D w A n E ∧ Tg.RD D w A' n' T ∧ Sl w 3 A'' n'' (flt encL Ls) ∧ Ls.length = n'' ∧ (n'' ≠ 0 → ∀ k, blkOf A'' = some k → ¬ D k)
theorem RSt.fr0 {D : Nat → Prop} {w w' : World} {cs : List Value} {E : List En} {T : List Tn} {Ls : List Lo} (h : RSt D w cs E T Ls) (f : Fr (fun _ => False) w w') : RSt D w' cs E T Ls := by
  obtain ⟨A, n, c, A', n', c', A'', n'', c'', e, h1, h2, h3, h4, h5⟩ := h
  exact ⟨A, n, c, A', n', c', A'', n'', c'', e, h1.fr0 f, h2.fr0 f, f.sl h3 (fun _ _ _ h => h), h4, h5⟩
theorem RSt.step {D D' : Nat → Prop} {w w' : World} {cs : List Value} {E : List En} {T : List Tn} {Ls : List Lo} (h : RSt D w cs E T Ls) (f : Fr D w w') (hD : ∀ k, D' k → D k ∨ w.heap.size ≤ k) : RSt D' w' cs E T Ls := by
  obtain ⟨A, n, c, A', n', c', A'', n'', c'', e, h1, h2, h3, h4, h5⟩ := h
  refine ⟨A, n, c, A', n', c', A'', n'', c'', e, h1.step f hD, h2.step f hD, f.sl h3 h5, h4, fun h0 k hk h' => ?_⟩
  rcases hD k h' with h'' | h''
  · exact h5 h0 k hk h''
  · have := h3.blt (by decide) h0 hk; omega
theorem RSt.len {D : Nat → Prop} {w : World} {cs : List Value} {E : List En} {T : List Tn} {Ls : List Lo} (h : RSt D w cs E T Ls) : cs.length = 3 := by
  obtain ⟨A, n, c, A', n', c', A'', n'', c'', e, _⟩ := h
  rw [e]; rfl
theorem RSt.one {D : Nat → Prop} {w : World} {cs : List Value} {E : List En} {T : List Tn} {Ls : List Lo} (h : RSt D w cs E T Ls) : ∀ v ∈ cs, v.oneCell' = true := by
  obtain ⟨A, n, c, A', n', c', A'', n'', c'', e, _⟩ := h
  subst e
  intro v hv
  simp at hv
  rcases hv with rfl | rfl | rfl <;> rfl
structure SB2 (E : List En) (T : List Tn) (Ls : List Lo) : Prop where
  e : BdE 4294967295 E
  t : Tg.Bd 4294967295 T
  el : E.length ≤ 60000000
  tl : T.length ≤ 60000000
  ll : Ls.length ≤ 60000000
end Go.Proofs.YthcclmlbkfadcaaGreat
/- chapter 22: the document's Loads, Is, Keep -/
namespace Go.Proofs.YthcclmlbkfadcaaGreat
open Go.GV Go.RowKit Go.Lib Go.Stb
open Tg (Tn liveT)
set_option linter.unusedVariables false
set_option linter.unusedSimpArgs false
end Go.Proofs.YthcclmlbkfadcaaGreat
/- chapter 22: the document's Apply and New -/
namespace Go.Proofs.YthcclmlbkfadcaaGreat
open Go.GV Go.RowKit Go.Lib Go.Stb
open Tg (Tn liveT)
set_option linter.unusedVariables false
set_option linter.unusedSimpArgs false
def RQ (D : Nat → Prop) (w : World) (E : List En) (T : List Tn) (Ls : List Lo) (v : Value) (w' : World) : Prop := Fr (fun _ => False) w w' ∧ ∃ cs, v = ofL cs ∧ RSt D w' cs E T Ls
theorem RSt.of {D : Nat → Prop} {w : World} {A : Option Addr} {n c : Nat} {A' : Option Addr} {n' c' : Nat} {A'' : Option Addr} {n'' c'' : Nat} {E : List En} {T : List Tn} {Ls : List Lo} {B : Nat} (h1 : RDE D w A n E) (h2 : Tg.RD D w A' n' T) (h3 : LOw w B A'' n'' c'' Ls) (hB : ∀ k, D k → k < B) : RSt D w [.slice A n c, .slice A' n' c', .slice A'' n'' c''] E T Ls :=
  ⟨A, n, c, A', n', c', A'', n'', c'', rfl, h1, h2, h3.1.sl, h3.2, fun _ k hk h => by have := (h3.1.blt hk).1; have := hB k h; omega⟩
end Go.Proofs.YthcclmlbkfadcaaGreat
/- chapter 22: the document's New, in and Keep -/
namespace Go.Proofs.YthcclmlbkfadcaaGreat
open Go.GV Go.RowKit Go.Lib Go.Stb
open Tg (Tn liveT)
set_option linter.unusedVariables false
set_option linter.unusedSimpArgs false
/-- a snapshot whose entries' parts lie in P -/
def RSn (P : Nat → Prop) (w : World) (cs : List Value) (E : List En) (T : List Tn) (Ls : List Lo) : Prop := ∃ (i j k q : Int) (A : Option Addr) (n c : Nat) (A' : Option Addr) (n' c' : Nat) (A'' : Option Addr) (n'' c'' : Nat),
  cs = [.int .i64 i, .int .i64 j, .int .i64 k, .int .u64 q, .slice A n c, .slice A' n' c', .slice A'' n'' c''] ∧ RE P w A n E ∧ Tg.RT P w A' n' T ∧ Sl w 3 A'' n'' (flt encL Ls) ∧ Ls.length = n''
theorem SnAt.low {w w' : World} {cs : List Value} {E : List En} {T : List Tn} {Ls : List Lo} (h : SnAt w cs E T Ls) (f : Fr (fun _ => False) w w') : RSn (fun k => k < w.heap.size) w' cs E T Ls := by
  obtain ⟨i, j, k, q, A, n, c, A', n', c', A'', n'', c'', e, h1, h2, h3, h4⟩ := h
  exact ⟨i, j, k, q, A, n, c, A', n', c', A'', n'', c'', e, (h1.mono (fun k hk _ => hk)).fr0 f, (h2.mono (fun k hk _ => hk)).fr0 f, f.sl h3 (fun _ _ _ h => h), h4⟩
end Go.Proofs.YthcclmlbkfadcaaGreat
/- chapter 22: the document's in and Keep -/
namespace Go.Proofs.YthcclmlbkfadcaaGreat
open Go.GV Go.RowKit Go.Lib Go.Stb
open Tg (Tn liveT)
set_option linter.unusedVariables false
set_option linter.unusedSimpArgs false
end Go.Proofs.YthcclmlbkfadcaaGreat
/- chapter 22: lives -/
namespace Go.Proofs.YthcclmlbkfadcaaGreat
open Go.GV Go.RowKit Go.Lib Go.Stb
open Tg (Tn liveT)
set_option linter.unusedVariables false
set_option linter.unusedSimpArgs false
def one1 : List UInt8 := 1 :: List.replicate 31 0
def wd1 : Wd := ⟨1, 0, one1, ⟨#[]⟩, 9, 1, 37, 62⟩
def wd2 : Wd := ⟨5, 0, one1, ⟨#[]⟩, 0, 2, 37, 53⟩
theorem wd_h1 : (herL 1 (applyE (applyE [] wd1) wd2) (Tg.applyL wd2 (Tg.applyL wd1 []))).length = 0 := by decide +kernel
theorem wd_h2 : (herL 2 (applyE (applyE [] wd1) wd2) (Tg.applyL wd2 (Tg.applyL wd1 []))).length = 1 := by decide +kernel
def ll3 (l : List Lo) : List (Int × Int × Int) := l.map (fun x => (x.s, x.a, x.v))
theorem ll3_inj : ∀ {l m : List Lo}, ll3 l = ll3 m → l = m
  | [], [], _ => rfl
  | [], _ :: _, h => by cases h
  | _ :: _, [], h => by cases h
  | ⟨a, b, c⟩ :: r, ⟨a', b', c'⟩ :: r', h => by
    simp only [ll3, List.map_cons, List.cons.injEq, Prod.mk.injEq] at h
    rw [h.1.1, h.1.2.1, h.1.2.2, ll3_inj (l := r) (m := r') h.2]
theorem wd_ld : loadsL (applyE (applyE [] wd1) wd2) (Tg.applyL wd2 (Tg.applyL wd1 [])) (applyS wd2 (applyS wd1 [])) = [⟨1, 62, 0⟩, ⟨2, 53, 53⟩] := ll3_inj (by decide +kernel)
theorem SB.nil (d : SD) (h1 : d.lE = []) (h2 : d.lT = []) (h3 : d.lL = []) (hp : d.p ≤ 10) : SB 10 d := by
  refine ⟨?_, ?_, hp, by rw [h2]; exact Nat.zero_le _, by rw [h3]; exact Nat.zero_le _, by rw [h1]; exact Nat.zero_le _⟩
  · rw [h1]; intro e he; cases he
  · rw [h2]; intro e he; cases he
theorem SB.mono {m m' : Nat} {d : SD} (h : SB m d) (hm : m ≤ m') : SB m' d :=
  ⟨h.e.mono hm, fun e he => Nat.le_trans (h.t e he) hm, Nat.le_trans h.p hm, Nat.le_trans h.tl hm, Nat.le_trans h.ll hm, Nat.le_trans h.el hm⟩
theorem SB.app {m : Nat} {d d' : SD} (h : SB m d) (x : Wd) (h1 : d'.lE = applyE d.lE x) (h2 : d'.lT = Tg.applyL x d.lT) (h3 : d'.lL = applyS x d.lL) (hp : d'.p = d.p + 1) : SB (m + 1) d' := by
  have a1 := applyE_len d.lE x
  have a2 := Tg.applyL_len x d.lT
  have a3 := applyS_len x d.lL
  refine ⟨?_, ?_, by have := h.p; omega, by rw [h2]; have := h.tl; omega, by rw [h3]; have := h.ll; omega, by rw [h1]; have := h.el; omega⟩
  · rw [h1]; exact applyE_bd h.e x
  · rw [h2]; exact Tg.applyL_bd h.t x
theorem SB.kept {m : Nat} {d d' : SD} (h : SB m d) (sg : List Int) (h1 : d'.lE = keepLE sg d.lE) (h2 : d'.lT = Tg.keepL sg d.lT) (h3 : d'.lL = keptL sg d.lL) (hp : d'.p = d.p) : SB m d' := by
  have a1 := keepLE_len sg d.lE
  have a2 := Tg.keepL_len sg d.lT
  have a3 := keptL_len sg d.lL
  refine ⟨?_, ?_, by have := h.p; omega, by rw [h2]; have := h.tl; omega, by rw [h3]; have := h.ll; omega, by rw [h1]; have := h.el; omega⟩
  · rw [h1]; exact h.e.keep sg
  · rw [h2]; exact Tg.keepL_bd h.t sg
set_option maxRecDepth 100000 in
set_option maxHeartbeats 1000000 in
theorem lives_calls (w : World) : Calls Tryz.prog 10 #[] w fun e w' => e = .returned (.bool true) ∧ Fr (fun _ => False) w w' := by
  refine (F10.of w (Q := fun v w' => v = .bool true ∧ Fr (fun _ => False) w w') ?_).mono (fun e w' ⟨v, he, hv, h⟩ => ⟨by rw [he, hv], h⟩)
  refine (newS_calls _ [] [] [] w ⟨0, 0, 0, 0, none, 0, 0, none, 0, 0, none, 0, 0, rfl, RE.nil _ _ _, Tg.RT.nil _ _ _, Sl.nil _ _ _, rfl⟩ (by simp) (by simp) (by simp) (fun e he => by cases he) (fun e he => by cases he)).mono ?_
  rintro r w1 ⟨f1, sb, d, rfl, hst, e1, e2, e3, hp⟩
  have hb0 := SB.nil d e1 e2 e3 (by simp at hp; omega)
  have s1 := f1.size
  refine ⟨_, rfl, gd_mk rfl (gd_mk rfl ((applyS_calls hst wd1 rfl (hb0.mono (by omega)) s1).mono ?_))⟩
  rintro r w2 ⟨rfl, d1, h1, q1, q2, q3, q4⟩
  have hb1 := hb0.app wd1 q1 q2 q3 q4
  have s2 := h1.fr.size
  refine ⟨rfl, gd_mk rfl (gd_mk rfl ((applyS_calls h1.st wd2 rfl (hb1.mono (by omega)) (by omega)).mono ?_))⟩
  rintro r w3 ⟨rfl, d2, h2, p1, p2, p3, p4⟩
  have hb2 := hb1.app wd2 p1 p2 p3 p4
  have f3 : Fr (fun _ => False) w w3 := (f1.trans h1.fr (U := fun _ => False) (fun _ _ h => h) (fun k hk h => by have := (hst.lt h).1; omega)).trans h2.fr (fun _ _ h => h) (fun k hk h => by have := (h1.st.lt h).1; omega)
  have hE : d2.lE = applyE (applyE [] wd1) wd2 := by rw [p1, q1, e1]; rfl
  have hT : d2.lT = Tg.applyL wd2 (Tg.applyL wd1 []) := by rw [p2, q2, e2]; rfl
  have hL : d2.lL = applyS wd2 (applyS wd1 []) := by rw [p3, q3, e3]; rfl
  have hb3 : SB 50000000 d2 := hb2.mono (by omega)
  refine ⟨rfl, (loadsS_calls h2.st hb3).mono ?_⟩
  rintro r w4 ⟨f4, A, c, rfl, hr⟩
  have hll : d2.nL = 2 := by
    have h5 := loadsL_len d2.lE d2.lT d2.lL
    rw [hE, hT, hL, wd_ld, ← hL, h2.st.ll] at h5
    exact h5.symm
  rw [hE, hT, hL, wd_ld, hll] at hr
  rw [hll]
  refine ⟨A, 2, c, rfl, (hereS_calls (h2.st.fr0 f4) 1 hb3).mono ?_⟩
  rintro r w5 ⟨f5, A5, c5, rfl, _⟩
  rw [hE, hT, wd_h1]
  refine ⟨_, _, _, rfl, vIf_t rfl ((hereS_calls (h2.st.fr0 (f4.trans1 f5)) 2 hb3).mono ?_)⟩
  rintro r w6 ⟨f6, A6, c6, rfl, _⟩
  rw [hE, hT, wd_h2]
  have hs := (f5.trans1 f6).sl hr.sl (fun _ _ _ h => h)
  refine ⟨_, _, _, rfl, vIf_t rfl (vIf_t rfl ?_)⟩
  obtain ⟨b, o, rfl, hc⟩ := hs.2 (by decide)
  refine dr_mk (gd_mk rfl ⟨encL ⟨1, 62, 0⟩, rfl, fun j v hj => hc j v (by rw [flt_cons, List.getElem?_append_left (List.getElem?_eq_some_iff.1 hj).1]; exact hj), ⟨[1, 62, 0], [1, 62, 0], rfl, rfl, rfl, rfl, vIf_t rfl ?_⟩⟩)
  refine dr_mk (gd_mk rfl ⟨encL ⟨2, 53, 53⟩, rfl, fun j v hj => by rw [Nat.add_assoc]; exact hc (3 + j) v (by rw [flt_cons, List.getElem?_append_right (by simp [encL]), show 3 + j - (encL ⟨1, 62, 0⟩).length = j from by simp [encL]]; exact hj), ⟨[2, 53, 53], [2, 53, 53], rfl, rfl, rfl, rfl, rfl, ((f3.trans1 f4).trans1 f5).trans1 f6⟩⟩)
end Go.Proofs.YthcclmlbkfadcaaGreat
/- deeds: a kind, a word, segments; rows of them -/
namespace Go.Proofs.YthcclmlbkfadcaaGreat
open Go.GV Go.RowKit Go.Lib
set_option linter.unusedVariables false
set_option linter.unusedSimpArgs false
structure Dd where
  kind : Int
  x : Wd
  sg : List Int
def DdAt (w : World) (cs : List Value) (d : Dd) : Prop := ∃ S m k, cs = [Value.int .i64 d.kind] ++ (d.x.cs ++ [.slice S m k]) ∧ Sl w 1 S m (ivs d.sg) ∧ d.x.d.length = 32 ∧ m ≤ 1048576
theorem DdAt.fr {w w' : World} {cs : List Value} {d : Dd} (h : DdAt w cs d) (f : Fr (fun _ => False) w w') : DdAt w' cs d := by
  obtain ⟨S, m, k, h1, h2, h3, h4⟩ := h
  exact ⟨S, m, k, h1, sl_fr h2 f, h3, h4⟩
/-- a row of deeds -/
def DRow (w : World) (A : Option Addr) (n : Nat) (l : List Dd) : Prop := l.length = n ∧ (n ≠ 0 → ∃ b o, A = some ⟨b, o, none⟩ ∧ ∀ (i : Nat) (d : Dd), l[i]? = some d → ∃ cs, DdAt w cs d ∧ cellsAt w b (o + i * 41) cs)
theorem DRow.fr {w w' : World} {A : Option Addr} {n : Nat} {l : List Dd} (h : DRow w A n l) (f : Fr (fun _ => False) w w') : DRow w' A n l := by
  refine ⟨h.1, fun h0 => ?_⟩
  obtain ⟨b, o, hA, hc⟩ := h.2 h0
  refine ⟨b, o, hA, fun i d hi => ?_⟩
  obtain ⟨cs, h1, h2⟩ := hc i d hi
  exact ⟨cs, h1.fr f, f.cells h2 (fun h => h)⟩
/-- rows of words -/
def WRow (w : World) (A : Option Addr) (n : Nat) (l : List Wd) : Prop := l.length = n ∧ (∀ x ∈ l, x.d.length = 32) ∧ (n ≠ 0 → ∃ b o, A = some ⟨b, o, none⟩ ∧ ∀ (i : Nat) (x : Wd), l[i]? = some x → cellsAt w b (o + i * 39) x.cs)
theorem WRow.fr {w w' : World} {A : Option Addr} {n : Nat} {l : List Wd} (h : WRow w A n l) (f : Fr (fun _ => False) w w') : WRow w' A n l := by
  refine ⟨h.1, h.2.1, fun h0 => ?_⟩
  obtain ⟨b, o, hA, hc⟩ := h.2.2 h0
  exact ⟨b, o, hA, fun i x hi => f.cells (hc i x hi) (fun h => h)⟩
end Go.Proofs.YthcclmlbkfadcaaGreat
/- chapter 22: what deeds come to -/
namespace Go.Proofs.YthcclmlbkfadcaaGreat
open Go.GV Go.RowKit Go.Lib Go.Stb
open Tg (Tn liveT)
set_option linter.unusedVariables false
set_option linter.unusedSimpArgs false
/-! ### a block without ints has no row of ints -/
def NoI (xs : List Value) : Prop := ∀ (o : Nat) (k : IntKind) (x : Int), xs[o]? ≠ some (.int k x)
theorem sl_nb {w : World} {A : Option Addr} {n : Nat} {l : List Int} {b : Nat} {t : TypeId} {xs : List Value} (h : Sl w 1 A n (ivs l)) (r : RecAt w b t xs) (hx : NoI xs) (h0 : n ≠ 0) {k : Nat} (hk : blkOf A = some k) : k ≠ b := by
  rintro rfl
  have hl := sl_n h
  obtain ⟨b', o, rfl, hc⟩ := h.2 h0
  injection hk with hk
  have hk : b' = k := hk
  subst hk
  have gi : l[0]? = some (l[0]'(by omega)) := List.getElem?_eq_getElem (by omega)
  have := hc 0 _ (ivs_at gi)
  exact hx _ _ _ (r.get this)
theorem EnP.nb {P : Nat → Prop} {w : World} {cs : List Value} {e : En} {b : Nat} {t : TypeId} {xs : List Value} (h : EnP P w cs e) (r : RecAt w b t xs) (hx : NoI xs) : EnP (fun k => P k ∧ k ≠ b) w cs e := by
  obtain ⟨A, n, c, h1, h2, h3, h4⟩ := h
  exact ⟨A, n, c, h1, h2, h3, fun h0 k hk => ⟨h4 h0 k hk, sl_nb h2 r hx h0 hk⟩⟩
theorem TnP.nb {P : Nat → Prop} {w : World} {cs : List Value} {e : Tn} {b : Nat} {t : TypeId} {xs : List Value} (h : Tg.TnP P w cs e) (r : RecAt w b t xs) (hx : NoI xs) : Tg.TnP (fun k => P k ∧ k ≠ b) w cs e := by
  obtain ⟨A, n, c, h1, h2, h3, h4⟩ := h
  exact ⟨A, n, c, h1, h2, h3, fun h0 k hk => ⟨h4 h0 k hk, sl_nb h2 r hx h0 hk⟩⟩
theorem Ix.nb_ {X : Nat → Prop} {w : World} {base ib bt bs N p : Nat} {S : Slo.SRow} {l : List En} {b : Nat} {t : TypeId} {xs : List Value} (h : Ix X w base ib bt bs N p S l) (r : RecAt w b t xs) (hx : NoI xs) : Ix (fun k => X k ∧ k ≠ b) w base ib bt bs N p S l :=
  ⟨h.ri, h.tb, h.ba, h.nt, h.ns, fun k cs hk => by
    obtain ⟨e, h1, h2, h3⟩ := h.has k cs hk
    exact ⟨e, h1, h2, (h3.nb r hx).mono (fun j hj hh => ⟨hh.1.1, hh.1.2, hh.2⟩)⟩, h.all, h.asc, h.cn, h.nb⟩
theorem Tab.nb_ {X : Nat → Prop} {w : World} {base tb : Nat} {R : Option Addr} {n c : Nat} {l : List Tn} {b : Nat} {t : TypeId} {xs : List Value} (h : Tg.Tab X w base tb R n c l) (r : RecAt w b t xs) (hx : NoI xs) : Tg.Tab (fun k => X k ∧ k ≠ b) w base tb R n c l := by
  obtain ⟨vs, h1, h2⟩ := h.ot
  exact ⟨h.rc, ⟨vs, h1, ⟨h2.len, fun i e hi => (TnP.nb (h2.at_ i e hi) r hx).mono (fun j hj hh => ⟨hh.1.1, hh.1.2.1, hh.1.2.2, hh.2⟩)⟩⟩, h.ne, h.ba⟩
/-- a block that is not a state's, and has no ints, may change -/
theorem Sta.off {u u' : World} {B sb : Nat} {d : SD} (h : Sta u B sb d) {b : Nat} {t : TypeId} {xs : List Value} (r : RecAt u b t xs) (hx : NoI xs) (hb : ¬ d.D sb b) (f : Fr (fun k => k = b) u u') : Sta u' B sb d := by
  refine ⟨h.rs.fr f (fun e => hb (.inl e.symm)), h.ba, ?_, ?_, h.ta, f.row h.ld (fun k hk e => hb (.inr (.inr (.inr (by rw [← show k = b from e]; exact hk))))), h.ll, h.la, h.lz, h.s1, h.s2, h.s3, h.it, h.il, h.tl, (fun k hk => Nat.lt_of_lt_of_le (h.zb k hk) f.size)⟩
  · exact ((Ix.nb_ h.ix r hx).off f (fun k hk e => hb (.inr (.inl (by rw [← show k = b from e]; exact hk)))) (fun k hk e => hk.2 e)).monoX (fun k _ hk => hk.1)
  · exact ((Tab.nb_ h.tg r hx).off f (fun k hk e => hb (.inr (.inr (.inl (by rw [← show k = b from e]; exact hk))))) (fun k hk e => hk.2 e)).monoX (fun k _ hk => hk.1)
theorem noI3 {D : Nat → Prop} {w : World} {cs : List Value} {E : List En} {T : List Tn} {Ls : List Lo} (h : RSt D w cs E T Ls) : NoI cs := by
  obtain ⟨A, n, c, A', n', c', A'', n'', c'', e, _⟩ := h
  subst e
  intro o k x
  match o with
  | 0 => simp
  | 1 => simp
  | 2 => simp
  | o + 3 => simp
/-! ### where the deeds stand -/
structure StS (w : World) (B i sb b11 : Nat) (u : World) (d : SD) (cs : List Value) : Prop where
  fr : Fr (fun _ => False) w u
  st : Sta u B sb d
  rc : RecAt u b11 44 cs
  rd : RSt (fun k => d.D sb k ∨ k = b11) u cs d.lE d.lT d.lL
  nb : ¬ d.D sb b11
  wb : w.heap.size ≤ b11
  bd : SB (1048576 + i) d
theorem StS.fr0 {w : World} {B i sb b11 : Nat} {u u' : World} {d : SD} {cs : List Value} (h : StS w B i sb b11 u d cs) (f : Fr (fun _ => False) u u') : StS w B i sb b11 u' d cs :=
  ⟨h.fr.trans1 f, h.st.fr0 f, h.rc.fr f (fun h => h), h.rd.fr0 f, h.nb, h.wb, h.bd⟩
theorem StS.lt {w : World} {B i sb b11 : Nat} {u : World} {d : SD} {cs : List Value} (h : StS w B i sb b11 u d cs) : ∀ k, d.D sb k ∨ k = b11 → k < u.heap.size := fun k hk => hk.elim (fun h' => (h.st.lt h').2) (fun e => by rw [e]; exact h.rc.lt)
theorem SB.two {m : Nat} {d : SD} (h : SB m d) (hm : m ≤ 50000000) : SB2 d.lE d.lT d.lL :=
  ⟨h.e.mono (by omega), fun e he => Nat.le_trans (h.t e he) (by omega), Nat.le_trans h.el (by omega), Nat.le_trans h.tl (by omega), Nat.le_trans h.ll (by omega)⟩
/-- behind the program's deed, ahead of the document's -/
structure Mid (w : World) (B i sb b11 : Nat) (u : World) (d d' : SD) (cs : List Value) : Prop where
  fr : Fr (fun _ => False) w u
  st : Sta u B sb d'
  rc : RecAt u b11 44 cs
  rd : RSt (fun k => d'.D sb k ∨ k = b11) u cs d.lE d.lT d.lL
  nb : ¬ d'.D sb b11
  wb : w.heap.size ≤ b11
theorem StS.mid {w : World} {B i sb b11 : Nat} {u u' : World} {d d' : SD} {cs : List Value} (h : StS w B i sb b11 u d cs) (s : Stp u u' B sb d d') (hB : w.heap.size ≤ B) : Mid w B i sb b11 u' d d' cs :=
  ⟨h.fr.trans s.fr (fun _ _ h => h) (fun k hk h' => by have := (h.st.lt h').1; omega), s.st, h.rc.fr s.fr h.nb, h.rd.step (s.fr.mono (fun k _ hk => .inl hk)) (fun k hk => hk.elim (fun h' => (s.up k h').imp .inl id) (fun e => .inl (.inr e))), fun h' => (s.up _ h').elim h.nb (fun h2 => by have := h.rc.lt; omega), h.wb⟩
theorem Mid.lt {w : World} {B i sb b11 : Nat} {u : World} {d d' : SD} {cs : List Value} (h : Mid w B i sb b11 u d d' cs) : ∀ k, d'.D sb k ∨ k = b11 → k < u.heap.size := fun k hk => hk.elim (fun h' => (h.st.lt h').2) (fun e => by rw [e]; exact h.rc.lt)
/-- the document's state behind it is put into its variable -/
theorem Mid.put {w : World} {B i j sb b11 : Nat} {u v : World} {d d' : SD} {cs cs' : List Value} {K : World → Prop} (h : Mid w B i sb b11 u d d' cs) (f : Fr (fun _ => False) u v) (rd : RSt (fun k => d'.D sb k ∨ k = b11) v cs' d'.lE d'.lT d'.lL) (hb : SB (1048576 + j) d')
    (hK : ∀ y, StS w B j sb b11 y d' cs' → Fr (fun k => k = b11) v y → K y) : gd (cs'.length == 3) (Go.GV.st v b11 0 cs' K) := by
  have hl := h.rd.len
  have hl' := rd.len
  have r := h.rc.fr f (fun h => h)
  refine gd_mk (by rw [hl']; rfl) (r.st_mk (o := 0) (by rw [hl', hl]; omega) rd.one (fun r2 f2 => hK _ ⟨fr_own (h.fr.trans1 f) f2 h.wb, (h.st.fr0 f).off r (noI3 h.rd) h.nb f2, ?_, rd.step (f2.mono (fun k _ e => .inr e)) (fun k hk => .inl hk), h.nb, h.wb, hb⟩ f2))
  rw [splice_full (by rw [hl', hl])] at r2
  exact r2
end Go.Proofs.YthcclmlbkfadcaaGreat
/- For the closings: what the bound gives. -/
namespace Go.Proofs.YthcclmlbkfadcaaGreat
open Go.GV Go.ChangeShapes Go.WideShapes Go.ChangeAt Go.RowKit
set_option linter.unusedVariables false
theorem own : ownKnob Tryz.prog.godebug = none := by kernel_rfl
theorem laid : laidOutB Tryz.prog = true := by kernel_rfl
theorem small {H : Type} {l : List (DataW H)} (hk : Rows.uptoSmall H l = true) : Rows.uptoBulkAll l ≤ 1048576 := of_decide_eq_true hk
theorem one_le {H : Type} (d : DataW H) : 1 ≤ Rows.uptoBulk d := by
  cases d with
  | lit l => cases l <;> simp [Rows.uptoBulk]
  | nil => simp [Rows.uptoBulk]
  | ptr d => simp [Rows.uptoBulk]
  | slice elems spare => simp [Rows.uptoBulk]
  | agg parts => simp [Rows.uptoBulk]
  | iface t d => simp [Rows.uptoBulk]
  | map entries => simp [Rows.uptoBulk]
  | held h => simp [Rows.uptoBulk]
theorem length_le {H : Type} (l : List (DataW H)) : l.length ≤ Rows.uptoBulkAll l := by
  induction l with
  | nil => simp [Rows.uptoBulkAll]
  | cons x r ih => have := one_le x; simp only [Rows.uptoBulkAll, List.length_cons]; omega
end Go.Proofs.YthcclmlbkfadcaaGreat
/- opening words and rows of ints -/
namespace Go.Proofs.YthcclmlbkfadcaaGreat
open Go.GV Go.ChangeShapes Go.WideShapes Go.ChangeAt Go.RowKit
set_option linter.unusedVariables false
set_option linter.unusedSimpArgs false
theorem cDg : Tryz.prog.cellsOf 33 = 32 := by kernel_rfl
theorem cU8 : Tryz.prog.cellsOf 5 = 1 := by kernel_rfl
theorem cIn : Tryz.prog.cellsOf 3 = 1 := by kernel_rfl
theorem cU64 : Tryz.prog.cellsOf 25 = 1 := by kernel_rfl
theorem cSt : Tryz.prog.cellsOf 9 = 1 := by kernel_rfl
theorem cLo : Tryz.prog.cellsOf 35 = 3 := by kernel_rfl
theorem cWd : Tryz.prog.cellsOf 37 = 39 := by kernel_rfl
theorem cut {cs : List Value} (o k : Nat) : cs.drop o = (cs.drop o).take k ++ cs.drop (o + k) := by
  rw [← List.drop_drop]; exact (List.take_append_drop k _).symm
set_option maxRecDepth 100000 in
theorem tr_loc {H : Type} {enc : TypeId × Value → H} {w : World} {fuel : Nat} {cs : List Value} {x : DataW H × List MemPlace} (h : TR enc Tryz.prog w fuel 35 cs x) : ∃ s o q : Int, cs = [.int .i64 s, .int .i64 o, .int .i64 q] := by
  obtain ⟨hl, ds, hd, hdl, hf⟩ := tr_struct (P := Tryz.prog) Tryz.underlying35 h
  rw [cLo] at hl
  obtain ⟨m0, y0, t0, _⟩ := hf 0 _ rfl
  obtain ⟨m1, y1, t1, _⟩ := hf 1 _ rfl
  obtain ⟨m2, y2, t2, _⟩ := hf 2 _ rfl
  match cs, hl with
  | [x0, x1, x2], _ =>
    have t0 : TR enc Tryz.prog w m0 3 (([x0, x1, x2].drop 0).take (Tryz.prog.cellsOf 3)) y0 := t0
    have t1 : TR enc Tryz.prog w m1 3 (([x0, x1, x2].drop 1).take (Tryz.prog.cellsOf 3)) y1 := t1
    have t2 : TR enc Tryz.prog w m2 3 (([x0, x1, x2].drop 2).take (Tryz.prog.cellsOf 3)) y2 := t2
    simp only [cIn, List.drop_zero, List.drop_succ_cons, List.take_succ_cons, List.take_zero] at t0 t1 t2
    obtain ⟨n0, e0, _⟩ := tr_int (P := Tryz.prog) (k := .i64) Tryz.underlying3 t0
    obtain ⟨n1, e1, _⟩ := tr_int (P := Tryz.prog) (k := .i64) Tryz.underlying3 t1
    obtain ⟨n2, e2, _⟩ := tr_int (P := Tryz.prog) (k := .i64) Tryz.underlying3 t2
    simp only [List.cons.injEq, and_true] at e0 e1 e2
    subst e0; subst e1; subst e2
    exact ⟨n0, n1, n2, rfl⟩
theorem tr_dig {H : Type} {enc : TypeId × Value → H} {w : World} {fuel : Nat} {cs : List Value} {x : DataW H × List MemPlace} (h : TR enc Tryz.prog w fuel 33 cs x) : ∃ l : List UInt8, cs = l.map bv ∧ l.length = 32 :=
  tr_byteArray (P := Tryz.prog) Tryz.underlying33 Tryz.underlying5 cU8 cDg h
set_option maxRecDepth 100000 in
theorem tr_wd {H : Type} {enc : TypeId × Value → H} {w : World} {fuel : Nat} {cs : List Value} {x : DataW H × List MemPlace} (h : TR enc Tryz.prog w fuel 37 cs x) : ∃ e : Wd, cs = e.cs ∧ e.d.length = 32 := by
  obtain ⟨hl, ds, hd, hdl, hf⟩ := tr_struct (P := Tryz.prog) Tryz.underlying37 h
  rw [cWd] at hl
  obtain ⟨m0, y0, t0, _⟩ := hf 0 _ rfl
  obtain ⟨m1, y1, t1, _⟩ := hf 1 _ rfl
  obtain ⟨m2, y2, t2, _⟩ := hf 2 _ rfl
  obtain ⟨m3, y3, t3, _⟩ := hf 3 _ rfl
  obtain ⟨m4, y4, t4, _⟩ := hf 4 _ rfl
  obtain ⟨m5, y5, t5, _⟩ := hf 5 _ rfl
  have t0 : TR enc Tryz.prog w m0 3 ((cs.drop 0).take (Tryz.prog.cellsOf 3)) y0 := t0
  have t1 : TR enc Tryz.prog w m1 25 ((cs.drop 1).take (Tryz.prog.cellsOf 25)) y1 := t1
  have t2 : TR enc Tryz.prog w m2 33 ((cs.drop 2).take (Tryz.prog.cellsOf 33)) y2 := t2
  have t3 : TR enc Tryz.prog w m3 9 ((cs.drop 34).take (Tryz.prog.cellsOf 9)) y3 := t3
  have t4 : TR enc Tryz.prog w m4 3 ((cs.drop 35).take (Tryz.prog.cellsOf 3)) y4 := t4
  have t5 : TR enc Tryz.prog w m5 35 ((cs.drop 36).take (Tryz.prog.cellsOf 35)) y5 := t5
  rw [cIn] at t0 t4
  rw [cU64] at t1
  rw [cDg] at t2
  rw [cSt] at t3
  rw [cLo] at t5
  obtain ⟨k, e0, _⟩ := tr_int (P := Tryz.prog) (k := .i64) Tryz.underlying3 t0
  obtain ⟨sq, e1, _⟩ := tr_int (P := Tryz.prog) (k := .u64) Tryz.underlying25 t1
  obtain ⟨d, e2, hdl⟩ := tr_dig t2
  obtain ⟨nm, e3, _⟩ := tr_string (P := Tryz.prog) Tryz.underlying9 t3
  obtain ⟨z, e4, _⟩ := tr_int (P := Tryz.prog) (k := .i64) Tryz.underlying3 t4
  obtain ⟨s, o, q, e5⟩ := tr_loc t5
  have hcs : cs = cs.drop 0 := rfl
  rw [cut 0 1, cut 1 1, cut 2 32, cut 34 1, cut 35 1, cut 36 3, e0, e1, e2, e3, e4, e5, List.drop_of_length_le (l := cs) (i := 36 + 3) (by omega)] at hcs
  exact ⟨⟨k, sq, d, nm, z, s, o, q⟩, hcs, hdl⟩
end Go.Proofs.YthcclmlbkfadcaaGreat
/- opening entries, and rows of them -/
namespace Go.Proofs.YthcclmlbkfadcaaGreat
open Go.GV Go.ChangeShapes Go.WideShapes Go.ChangeAt Go.RowKit
set_option linter.unusedVariables false
set_option linter.unusedSimpArgs false
end Go.Proofs.YthcclmlbkfadcaaGreat
/- opening names entries -/
namespace Go.Proofs.YthcclmlbkfadcaaGreat.Tg
open Go.GV Go.ChangeShapes Go.WideShapes Go.ChangeAt Go.RowKit
set_option linter.unusedVariables false
set_option linter.unusedSimpArgs false
end Go.Proofs.YthcclmlbkfadcaaGreat.Tg
/- chapter 22: opening snapshots, deeds, words -/
namespace Go.Proofs.YthcclmlbkfadcaaGreat
open Go.GV Go.ChangeShapes Go.WideShapes Go.ChangeAt Go.RowKit
open Tg (Tn)
set_option linter.unusedVariables false
set_option linter.unusedSimpArgs false
end Go.Proofs.YthcclmlbkfadcaaGreat
/- opening rows of words -/
namespace Go.Proofs.YthcclmlbkfadcaaGreat
open Go.GV Go.ChangeShapes Go.WideShapes Go.ChangeAt Go.RowKit
set_option linter.unusedVariables false
set_option linter.unusedSimpArgs false
set_option maxRecDepth 100000 in
theorem tr_wds {H : Type} {enc : TypeId × Value → H} {w : World} {fuel : Nat} {cs : List Value} {x : DataW H × List MemPlace} (h : TR enc Tryz.prog w fuel 22 cs x) :
    ∃ (A : Option Addr) (n c : Nat) (l : List Wd), cs = [Value.slice A n c] ∧ WRow w A n l ∧ n ≤ Rows.uptoBulk x.1 := by
  obtain ⟨A, n, c, vss, hcs, h1, h2, h3, h4, h5, h6⟩ := tr_slice (P := Tryz.prog) (e := 37) Tryz.underlying22 (by rw [cWd]; decide) h
  rw [cWd] at h4 h5
  rcases h6 with ⟨h7, rfl, rfl, rfl⟩ | ⟨es, sp, h7, h8, h9, h10⟩
  · exact ⟨none, 0, 0, [], hcs, ⟨rfl, (fun x hx => by cases hx), fun h => absurd rfl h⟩, Nat.zero_le _⟩
  · have hbulk : Rows.uptoBulkAll es ≤ Rows.uptoBulk x.1 := by rw [h7]; simp only [Rows.uptoBulk]; omega
    obtain ⟨l, hll, hl⟩ := choose_list (R := fun (i : Nat) v (e : Wd) => v = e.cs ∧ e.d.length = 32) vss (fun i v hi => by
      obtain ⟨m, y, hy, hey⟩ := h10 i v hi
      exact tr_wd hy)
    obtain ⟨hf1, hf2⟩ := flatten_get h4
    have hat : ∀ (i : Nat) (e : Wd), l[i]? = some e → vss[i]? = some e.cs ∧ e.d.length = 32 := fun i e hi => by
      have hil := (List.getElem?_eq_some_iff.1 hi).1
      have hg : vss[i]? = some (vss[i]'(by omega)) := List.getElem?_eq_getElem (by omega)
      obtain ⟨e', he', hr, hd⟩ := hl i _ hg
      rw [hi] at he'
      injection he' with he'
      subst he'
      exact ⟨by rw [hg, hr], hd⟩
    refine ⟨A, n, c, l, hcs, ⟨by omega, fun e he => ?_, fun h0 => ?_⟩, ?_⟩
    · obtain ⟨i, hi⟩ := List.mem_iff_getElem?.1 he
      exact (hat i e hi).2
    · obtain ⟨b, o, hA, hc⟩ := h5.2 h0
      refine ⟨b, o, hA, fun i e hi j v hj => ?_⟩
      obtain ⟨hg, hd⟩ := hat i e hi
      have hj39 : j < 39 := by have := (List.getElem?_eq_some_iff.1 hj).1; rw [h4 i _ hg] at this; exact this
      rw [Nat.add_assoc]
      exact hc _ v (by rw [hf2 i _ j hg hj39]; exact hj)
    · have := length_le es
      omega
set_option maxRecDepth 100000 in
theorem open_wds {H : Type} {enc : TypeId × Value → H} {w : World} {v : Value} {d : DataW H} {ps : List MemPlace} (hv : Value.okWide Tryz.prog w .any 0 22 v) (h : DataW.Trod enc Tryz.prog w 0 (fun _ => true) true 22 v d ps) :
    ∃ (A : Option Addr) (n c : Nat) (l : List Wd), v = Value.slice A n c ∧ WRow w A n l ∧ n ≤ Rows.uptoBulk d := by
  obtain ⟨fuel, ht⟩ := h
  obtain ⟨A, n, c, l, hcs, h1⟩ := tr_wds ht
  exact ⟨A, n, c, l, slice_of_cells Tryz.underlying22 hv hcs, h1⟩
end Go.Proofs.YthcclmlbkfadcaaGreat
/- chapter 22, plainly: what the words of the other segments come to (digests, loads) -/
namespace Go.Proofs.YthcclmlbkfadcaaGreat
open Go.GV Go.RowKit Go.Lib Go.Stb
open Tg (Tn liveT)
set_option linter.unusedVariables false
set_option linter.unusedSimpArgs false
/-! ### a row of entries is told by what each digest has -/
theorem getE_set {e : En} {l : List En} (ha : AscE l) (d : List UInt8) : getE d (setE e l) = if e.d = d then (e, true) else getE d l := by
  by_cases h : e.d = d
  · rw [if_pos h]; exact getE_of (setE_asc e ha) (setE_mem_self e l) h
  · rw [if_neg h]
    by_cases hb : (getE d l).2 = true
    · obtain ⟨hm, hd⟩ := getE_mem hb
      rw [getE_of (setE_asc e ha) (setE_keep e l _ hm (by rw [hd]; exact fun h' => h h'.symm)) hd, getE_of ha hm hd]
    · have hn : ∀ x ∈ l, x.d ≠ d := fun x hx hd => hb (by rw [getE_of ha hx hd])
      rw [getE_none hn, getE_none (fun x hx hd => (setE_only ha hx).elim (fun e' => h (by rw [← e']; exact hd)) (fun h' => hn x h'.1 hd))]
/-- what a digest has behind a word -/
def stE (d : List UInt8) (o : En × Bool) (x : Wd) : En × Bool :=
  if (x.k = 1 ∨ x.k = 2) ∧ x.d = d then (putE o.1 x, true) else if x.k = 5 ∧ o.2 = true ∧ x.d = d then (delE o.1 x, true) else o
theorem getE_apply {l : List En} (ha : AscE l) (x : Wd) (d : List UInt8) : getE d (applyE l x) = stE d (getE d l) x := by
  by_cases h1 : x.k = 1 ∨ x.k = 2
  · rw [applyE, if_pos h1, getE_set ha]
    by_cases h2 : x.d = d
    · subst h2
      rw [if_pos (show (putE (getE x.d l).1 x).d = x.d from rfl), stE, if_pos ⟨h1, rfl⟩]
    · rw [if_neg (show ¬ (putE (getE x.d l).1 x).d = d from h2), stE, if_neg (fun h => h2 h.2), if_neg (fun h => h2 h.2.2)]
  · by_cases h2 : x.k = 5 ∧ (getE x.d l).2 = true
    · rw [applyE, if_neg h1, if_pos h2, getE_set ha]
      have hd : (delE (getE x.d l).1 x).d = x.d := (getE_mem h2.2).2
      by_cases h3 : x.d = d
      · subst h3; rw [if_pos hd, stE, if_neg (fun h => h1 h.1), if_pos ⟨h2.1, h2.2, rfl⟩]
      · rw [if_neg (by rw [hd]; exact h3), stE, if_neg (fun h => h1 h.1), if_neg (fun h => h3 h.2.2)]
    · rw [applyE, if_neg h1, if_neg h2, stE, if_neg (fun h => h1 h.1)]
      by_cases h3 : x.d = d
      · subst h3; rw [if_neg (fun h => h2 ⟨h.1, h.2.1⟩)]
      · rw [if_neg (fun h => h3 h.2.2)]
/-! ### all words, and those of the others -/
structure FgE (seg : Int) (sg : List Int) (d : List UInt8) (o p : En × Bool) : Prop where
  z : o.2 = false → o = (zE, false)
  pz : p.2 = false → p = (zE, false)
  pm : ∀ n, n ∈ p.1.l ↔ n ∈ o.1.l ∧ n ≠ seg
  pa : AscI p.1.l
  p2 : p.2 = true ↔ ∃ n, n ∈ o.1.l ∧ n ≠ seg
  od : o.2 = true → o.1.d = d
  pd : p.2 = true → p.1.d = d
  ol : ∀ n, n ∈ o.1.l → n ≠ seg → n ∈ sg
  os : o.2 = true → o.1.s ≠ seg → o.1.s ∈ sg
  sm : o.2 = true → o.1.s ≠ seg → p.2 = true → p.1.k = o.1.k ∧ p.1.z = o.1.z ∧ p.1.s = o.1.s ∧ p.1.o = o.1.o ∧ p.1.q = o.1.q
  dl : o.2 = true → o.1.s ≠ seg → p.2 = false → o.1.k = 5
theorem FgE.nil (seg : Int) (sg : List Int) (d : List UInt8) : FgE seg sg d (zE, false) (zE, false) :=
  ⟨fun _ => rfl, fun _ => rfl, fun n => by show n ∈ ([] : List Int) ↔ n ∈ ([] : List Int) ∧ _; simp, List.Pairwise.nil, ⟨(fun h => by cases h), fun ⟨n, h, _⟩ => by cases h⟩, (fun h => by cases h), (fun h => by cases h), (fun n h => by cases h), (fun h => by cases h), (fun h => by cases h), (fun h => by cases h)⟩
theorem FgE.no {seg : Int} {sg : List Int} {d : List UInt8} {o p : En × Bool} (h : FgE seg sg d o p) (h0 : o.2 = false) : p.2 = false := by
  cases hp : p.2 with
  | false => rfl
  | true =>
    obtain ⟨n, hn, _⟩ := h.p2.1 hp
    rw [h.z h0] at hn
    cases hn
theorem FgE.fin {seg : Int} {sg : List Int} {d : List UInt8} {o p : En × Bool} (h : FgE seg sg d o p) (hl : o.2 = true → o.1.s = seg → o.1.k = 5 ∧ ∀ n, n ∈ o.1.l → n = seg) (hg : seg ∉ sg) :
    (if o.2 = true ∧ (keepE o.1 sg).2 = true then keepE o.1 sg else (zE, false)) = p := by
  cases ho : o.2 with
  | false => rw [if_neg (fun h => by cases h.1), h.pz (h.no ho)]
  | true =>
    have hb : both o.1.l sg = p.1.l := (norm_asc _).unique h.pa (fun n => by
      rw [norm_mem, List.mem_filter, h.pm, decide_eq_true_iff]
      exact ⟨fun ⟨a, b⟩ => ⟨a, fun e => hg (e ▸ b)⟩, fun ⟨a, b⟩ => ⟨a, h.ol n a b⟩⟩)
    by_cases hs : o.1.s = seg
    · obtain ⟨h5, hn⟩ := hl ho hs
      have hp : p.2 = false := by
        cases hp : p.2 with
        | false => rfl
        | true => obtain ⟨n, a, b⟩ := h.p2.1 hp; exact absurd (hn n a) b
      have he : p.1.l = [] := by rw [h.pz hp]; rfl
      have hk : keepE o.1 sg = (zE, false) := by unfold keepE; rw [if_pos ⟨hb.trans he, .inr h5⟩]
      rw [hk, if_neg (fun h => by cases h.2), h.pz hp]
    · have hsg := h.os ho hs
      cases hp : p.2 with
      | false =>
        have he : p.1.l = [] := by rw [h.pz hp]; rfl
        have hk : keepE o.1 sg = (zE, false) := by unfold keepE; rw [if_pos ⟨hb.trans he, .inr (h.dl ho hs hp)⟩]
        rw [hk, if_neg (fun h => by cases h.2), h.pz hp]
      | true =>
        have hne : p.1.l ≠ [] := fun he => by
          obtain ⟨n, a, b⟩ := h.p2.1 hp
          have := (h.pm n).2 ⟨a, b⟩
          rw [he] at this; cases this
        have hk : keepE o.1 sg = p := by
          unfold keepE
          rw [if_neg (fun h => hne (hb.symm.trans h.1)), if_neg (fun h => h hsg)]
          obtain ⟨e1, e2, e3, e4, e5⟩ := h.sm ho hs hp
          have e0 := h.od ho
          have e6 := h.pd hp
          obtain ⟨⟨pd, pk, pz, ps, po, pq, pl⟩, pb⟩ := p
          dsimp only at e1 e2 e3 e4 e5 e6 hb hp ⊢
          rw [hb, e0, ← e6, ← e1, ← e2, ← e3, ← e4, ← e5, hp]
        rw [hk, if_pos ⟨rfl, hp⟩]
/-! ### the whole -/
def allE (ws : List Wd) : List En := ws.foldl applyE []
theorem foldE_asc : ∀ (ws : List Wd) {l : List En}, AscE l → AscE (ws.foldl applyE l)
  | [], _, h => h
  | x :: r, _, h => foldE_asc r (applyE_asc h x)
theorem allE_asc (ws : List Wd) : AscE (allE ws) := foldE_asc ws List.Pairwise.nil
/-! ### loads -/
def allL (ws : List Wd) : List Lo := ws.foldl (fun l x => applyS x l) []
end Go.Proofs.YthcclmlbkfadcaaGreat
/- chapter 22, plainly: what the words of the other segments come to (names) -/
namespace Go.Proofs.YthcclmlbkfadcaaGreat
open Go.GV Go.RowKit Go.Lib Go.Stb
open Tg (Tn liveT)
set_option linter.unusedVariables false
set_option linter.unusedSimpArgs false
theorem setR_mem_self (e : Tn) : ∀ l : List Tn, e ∈ Tg.setR e l
  | [] => by simp [Tg.setR]
  | x :: xs => by
    unfold Tg.setR
    split
    · exact List.mem_cons_of_mem _ (setR_mem_self e xs)
    · split <;> exact List.mem_cons_self ..
theorem setR_keep (e : Tn) : ∀ (l : List Tn) (y : Tn), y ∈ l → y.nm ≠ e.nm → y ∈ Tg.setR e l
  | [], y, h, _ => by cases h
  | x :: xs, y, h, hne => by
    unfold Tg.setR
    rcases List.mem_cons.1 h with rfl | h
    · split
      · exact List.mem_cons_self ..
      · exact List.mem_cons_of_mem _ (List.mem_cons_self ..)
    · split
      · exact List.mem_cons_of_mem _ (setR_keep e xs y h hne)
      · split
        · exact List.mem_cons_of_mem _ h
        · exact List.mem_cons_of_mem _ (List.mem_cons_of_mem _ h)
theorem ascT_uniq {l : List Tn} (h : Tg.AscT l) {x y : Tn} (hx : x ∈ l) (hy : y ∈ l) (hd : x.nm = y.nm) : x = y := by
  obtain ⟨i, hi⟩ := List.mem_iff_getElem?.1 hx
  obtain ⟨j, hj⟩ := List.mem_iff_getElem?.1 hy
  obtain ⟨hi1, hi2⟩ := List.getElem?_eq_some_iff.1 hi
  obtain ⟨hj1, hj2⟩ := List.getElem?_eq_some_iff.1 hj
  rcases Nat.lt_trichotomy i j with h1 | h1 | h1
  · have := List.pairwise_iff_getElem.1 h i j hi1 hj1 h1
    rw [hi2, hj2, hd, Tg.cmpN_self] at this; omega
  · subst h1
    rw [hi] at hj
    exact Option.some.inj hj
  · have := List.pairwise_iff_getElem.1 h j i hj1 hi1 h1
    rw [hi2, hj2, hd, Tg.cmpN_self] at this; omega
theorem setR_only {e : Tn} {l : List Tn} (ha : Tg.AscT l) {y : Tn} (hy : y ∈ Tg.setR e l) : y = e ∨ (y ∈ l ∧ y.nm ≠ e.nm) := by
  by_cases hd : y.nm = e.nm
  · exact .inl (ascT_uniq (Tg.setR_asc e ha) hy (setR_mem_self e l) hd)
  · rcases Tg.setR_mem e l y hy with h | h
    · exact .inl h
    · exact .inr ⟨h, hd⟩
theorem getR_mem {nm : ByteArray} {l : List Tn} (h : (Tg.getR nm l).2 = true) : (Tg.getR nm l).1 ∈ l ∧ (Tg.getR nm l).1.nm = nm := by
  unfold Tg.getR at h ⊢
  cases hf : l.find? (fun x => decide (x.nm = nm)) with
  | none => rw [hf] at h; cases h
  | some e => exact ⟨List.mem_of_find?_eq_some hf, of_decide_eq_true (p := e.nm = nm) (List.find?_some (p := fun x : Tn => decide (x.nm = nm)) hf)⟩
theorem getR_of {nm : ByteArray} {l : List Tn} (ha : Tg.AscT l) {e : Tn} (he : e ∈ l) (hd : e.nm = nm) : Tg.getR nm l = (e, true) := by
  unfold Tg.getR
  cases hf : l.find? (fun x => decide (x.nm = nm)) with
  | none =>
    have := List.find?_eq_none.1 hf e he
    exact absurd (decide_eq_true hd) this
  | some y =>
    have h1 := List.mem_of_find?_eq_some hf
    have h2 : y.nm = nm := of_decide_eq_true (p := y.nm = nm) (List.find?_some (p := fun x : Tn => decide (x.nm = nm)) hf)
    rw [ascT_uniq ha h1 he (h2.trans hd.symm)]
theorem getR_set {e : Tn} {l : List Tn} (ha : Tg.AscT l) (d : ByteArray) : Tg.getR d (Tg.setR e l) = if e.nm = d then (e, true) else Tg.getR d l := by
  by_cases h : e.nm = d
  · rw [if_pos h]; exact getR_of (Tg.setR_asc e ha) (setR_mem_self e l) h
  · rw [if_neg h]
    by_cases hb : (Tg.getR d l).2 = true
    · obtain ⟨hm, hd⟩ := getR_mem hb
      rw [getR_of (Tg.setR_asc e ha) (setR_keep e l _ hm (by rw [hd]; exact fun h' => h h'.symm)) hd, getR_of ha hm hd]
    · have hn : ∀ x ∈ l, x.nm ≠ d := fun x hx hd => hb (by rw [getR_of ha hx hd])
      rw [Tg.getR_none hn, Tg.getR_none (fun x hx hd => (setR_only ha hx).elim (fun e' => h (by rw [← e']; exact hd)) (fun h' => hn x h'.1 hd))]
def nmsT (l : List Tn) : List ByteArray := l.map (·.nm)
/-- what a name has behind a word -/
def stT (d : ByteArray) (o : Tn × Bool) (x : Wd) : Tn × Bool :=
  if x.k = 3 ∧ x.nm = d then (Tg.tagE o.1 x, true) else if x.k = 4 ∧ o.2 = true ∧ x.nm = d then (Tg.untE o.1 x, true) else o
theorem getR_apply {l : List Tn} (ha : Tg.AscT l) (x : Wd) (d : ByteArray) : Tg.getR d (Tg.applyL x l) = stT d (Tg.getR d l) x := by
  by_cases h1 : x.k = 3
  · rw [Tg.applyL, if_pos h1, getR_set ha]
    by_cases h2 : x.nm = d
    · subst h2
      rw [if_pos (show (Tg.tagE (Tg.getR x.nm l).1 x).nm = x.nm from rfl), stT, if_pos ⟨h1, rfl⟩]
    · rw [if_neg (show ¬ (Tg.tagE (Tg.getR x.nm l).1 x).nm = d from h2), stT, if_neg (fun h => h2 h.2), if_neg (fun h => h2 h.2.2)]
  · by_cases h2 : x.k = 4 ∧ (Tg.getR x.nm l).2 = true
    · rw [Tg.applyL, if_neg h1, if_pos h2, getR_set ha]
      have hd : (Tg.untE (Tg.getR x.nm l).1 x).nm = x.nm := (getR_mem h2.2).2
      by_cases h3 : x.nm = d
      · subst h3; rw [if_pos hd, stT, if_neg (fun h => h1 h.1), if_pos ⟨h2.1, h2.2, rfl⟩]
      · rw [if_neg (by rw [hd]; exact h3), stT, if_neg (fun h => h1 h.1), if_neg (fun h => h3 h.2.2)]
    · rw [Tg.applyL, if_neg h1, if_neg h2, stT, if_neg (fun h => h1 h.1)]
      by_cases h3 : x.nm = d
      · subst h3; rw [if_neg (fun h => h2 ⟨h.1, h.2.1⟩)]
      · rw [if_neg (fun h => h3 h.2.2)]
structure FgT (seg : Int) (sg : List Int) (d : ByteArray) (o p : Tn × Bool) : Prop where
  z : o.2 = false → o = (Tg.zT, false)
  pz : p.2 = false → p = (Tg.zT, false)
  pm : ∀ n, n ∈ p.1.l ↔ n ∈ o.1.l ∧ n ≠ seg
  pa : AscI p.1.l
  p2 : p.2 = true ↔ ∃ n, n ∈ o.1.l ∧ n ≠ seg
  od : o.2 = true → o.1.nm = d
  pd : p.2 = true → p.1.nm = d
  ol : ∀ n, n ∈ o.1.l → n ≠ seg → n ∈ sg
  os : o.2 = true → o.1.s ≠ seg → o.1.s ∈ sg
  sm : o.2 = true → o.1.s ≠ seg → p.2 = true → p.1.d = o.1.d ∧ p.1.g = o.1.g ∧ p.1.s = o.1.s ∧ p.1.o = o.1.o ∧ p.1.q = o.1.q
  dl : o.2 = true → o.1.s ≠ seg → p.2 = false → o.1.g = true
theorem FgT.nil (seg : Int) (sg : List Int) (d : ByteArray) : FgT seg sg d (Tg.zT, false) (Tg.zT, false) :=
  ⟨fun _ => rfl, fun _ => rfl, fun n => by show n ∈ ([] : List Int) ↔ n ∈ ([] : List Int) ∧ _; simp, List.Pairwise.nil, ⟨(fun h => by cases h), fun ⟨n, h, _⟩ => by cases h⟩, (fun h => by cases h), (fun h => by cases h), (fun n h => by cases h), (fun h => by cases h), (fun h => by cases h), (fun h => by cases h)⟩
theorem FgT.no {seg : Int} {sg : List Int} {d : ByteArray} {o p : Tn × Bool} (h : FgT seg sg d o p) (h0 : o.2 = false) : p.2 = false := by
  cases hp : p.2 with
  | false => rfl
  | true =>
    obtain ⟨n, hn, _⟩ := h.p2.1 hp
    rw [h.z h0] at hn
    cases hn
theorem FgT.fin {seg : Int} {sg : List Int} {d : ByteArray} {o p : Tn × Bool} (h : FgT seg sg d o p) (hl : o.2 = true → o.1.s = seg → o.1.g = true ∧ ∀ n, n ∈ o.1.l → n = seg) (hg : seg ∉ sg) :
    (if o.2 = true ∧ (Tg.keepT o.1 sg).2 = true then Tg.keepT o.1 sg else (Tg.zT, false)) = p := by
  cases ho : o.2 with
  | false => rw [if_neg (fun h => by cases h.1), h.pz (h.no ho)]
  | true =>
    have hb : both o.1.l sg = p.1.l := (norm_asc _).unique h.pa (fun n => by
      rw [norm_mem, List.mem_filter, h.pm, decide_eq_true_iff]
      exact ⟨fun ⟨a, b⟩ => ⟨a, fun e => hg (e ▸ b)⟩, fun ⟨a, b⟩ => ⟨a, h.ol n a b⟩⟩)
    by_cases hs : o.1.s = seg
    · obtain ⟨h5, hn⟩ := hl ho hs
      have hp : p.2 = false := by
        cases hp : p.2 with
        | false => rfl
        | true => obtain ⟨n, a, b⟩ := h.p2.1 hp; exact absurd (hn n a) b
      have he : p.1.l = [] := by rw [h.pz hp]; rfl
      have hk : Tg.keepT o.1 sg = (Tg.zT, false) := by unfold Tg.keepT; rw [if_pos ⟨hb.trans he, .inr h5⟩]
      rw [hk, if_neg (fun h => by cases h.2), h.pz hp]
    · have hsg := h.os ho hs
      cases hp : p.2 with
      | false =>
        have he : p.1.l = [] := by rw [h.pz hp]; rfl
        have hk : Tg.keepT o.1 sg = (Tg.zT, false) := by unfold Tg.keepT; rw [if_pos ⟨hb.trans he, .inr (h.dl ho hs hp)⟩]
        rw [hk, if_neg (fun h => by cases h.2), h.pz hp]
      | true =>
        have hne : p.1.l ≠ [] := fun he => by
          obtain ⟨n, a, b⟩ := h.p2.1 hp
          have := (h.pm n).2 ⟨a, b⟩
          rw [he] at this; cases this
        have hk : Tg.keepT o.1 sg = p := by
          unfold Tg.keepT
          rw [if_neg (fun h => hne (hb.symm.trans h.1)), if_neg (fun h => h hsg)]
          obtain ⟨e1, e2, e3, e4, e5⟩ := h.sm ho hs hp
          have e0 := h.od ho
          have e6 := h.pd hp
          obtain ⟨⟨pd, pk, pz, ps, po, pq, pl⟩, pb⟩ := p
          dsimp only at e1 e2 e3 e4 e5 e6 hb hp ⊢
          rw [hb, e0, ← e6, ← e1, ← e2, ← e3, ← e4, ← e5, hp]
        rw [hk, if_pos ⟨rfl, hp⟩]
def allT (ws : List Wd) : List Tn := ws.foldl (fun l x => Tg.applyL x l) []
theorem foldT_asc : ∀ (ws : List Wd) {l : List Tn}, Tg.AscT l → Tg.AscT (ws.foldl (fun l x => Tg.applyL x l) l)
  | [], _, h => h
  | x :: r, _, h => foldT_asc r (Tg.applyL_asc x h)
theorem allT_asc (ws : List Wd) : Tg.AscT (allT ws) := foldT_asc ws List.Pairwise.nil
end Go.Proofs.YthcclmlbkfadcaaGreat
/- chapter 22, plainly: words that live may be copied -/
namespace Go.Proofs.YthcclmlbkfadcaaGreat
open Go.GV Go.RowKit Go.Lib Go.Stb
open Tg (Tn liveT)
set_option linter.unusedVariables false
set_option linter.unusedSimpArgs false
/-- a word at another place -/
def mvW (to o : Int) (x : Wd) : Wd := ⟨x.k, x.sq, x.d, x.nm, x.z, to, o, x.q⟩
def KE (l : List En) : Prop := ∀ e ∈ l, e.k = 1 ∨ e.k = 2 ∨ e.k = 5
theorem KE.apply {l : List En} (h : KE l) (x : Wd) : KE (applyE l x) := by
  intro e he
  unfold applyE at he
  split at he
  · rename_i hk
    rcases setE_mem _ _ _ he with rfl | he
    · exact hk.elim .inl (fun h => .inr (.inl h))
    · exact h e he
  · split at he
    · rcases setE_mem _ _ _ he with rfl | he
      · exact .inr (.inr rfl)
      · exact h e he
    · exact h e he
theorem KE.fold : ∀ (ws : List Wd) {l : List En}, KE l → KE (ws.foldl applyE l)
  | [], _, h => h
  | x :: r, _, h => KE.fold r (h.apply x)
theorem allE_k (ws : List Wd) : KE (allE ws) := KE.fold ws (fun e he => by cases he)
/-- a digest's entry ahead, and behind -/
structure CpE (seg to : Int) (o p : En × Bool) : Prop where
  b : p.2 = o.2
  c : p = o ∨ (o.1.s = seg ∧ p.1.s = to ∧ p.1.k = o.1.k ∧ (o.1.k ≠ 5 → p.1.z = o.1.z))
structure CpT (seg to : Int) (o p : Tn × Bool) : Prop where
  b : p.2 = o.2
  c : p = o ∨ (o.1.s = seg ∧ p.1.s = to ∧ p.1.g = o.1.g ∧ (o.1.g = false → p.1.d = o.1.d))
theorem stE_to {to o : Int} {d : List UInt8} {p : En × Bool} {y : Wd} (h : p.1.s = to) : (stE d p (mvW to o y)).1.s = to := by
  unfold stE
  split
  · rfl
  · split
    · rfl
    · exact h
theorem stT_to {to o : Int} {d : ByteArray} {p : Tn × Bool} {y : Wd} (h : p.1.s = to) : (stT d p (mvW to o y)).1.s = to := by
  unfold stT
  split
  · rfl
  · split
    · rfl
    · exact h
theorem stE_own {to o : Int} {p : En × Bool} {e : En} (hk : e.k = 1 ∨ e.k = 2 ∨ e.k = 5) (hp : p.2 = true) :
    (stE e.d p (mvW to o (wdE e))).2 = true ∧ (stE e.d p (mvW to o (wdE e))).1.s = to ∧ (stE e.d p (mvW to o (wdE e))).1.k = e.k ∧ (e.k ≠ 5 → (stE e.d p (mvW to o (wdE e))).1.z = e.z) := by
  unfold stE
  by_cases h1 : e.k = 1 ∨ e.k = 2
  · rw [if_pos (show ((mvW to o (wdE e)).k = 1 ∨ (mvW to o (wdE e)).k = 2) ∧ (mvW to o (wdE e)).d = e.d from ⟨h1, rfl⟩)]
    exact ⟨rfl, rfl, rfl, fun _ => rfl⟩
  · have h5 : e.k = 5 := by omega
    rw [if_neg (show ¬ (((mvW to o (wdE e)).k = 1 ∨ (mvW to o (wdE e)).k = 2) ∧ (mvW to o (wdE e)).d = e.d) from fun h => h1 h.1), if_pos (show (mvW to o (wdE e)).k = 5 ∧ p.2 = true ∧ (mvW to o (wdE e)).d = e.d from ⟨h5, hp, rfl⟩)]
    exact ⟨rfl, rfl, h5.symm, fun h => absurd h5 h⟩
theorem stT_own {to o : Int} {p : Tn × Bool} {e : Tn} (hp : p.2 = true) :
    (stT e.nm p (mvW to o (wdT e))).2 = true ∧ (stT e.nm p (mvW to o (wdT e))).1.s = to ∧ (stT e.nm p (mvW to o (wdT e))).1.g = e.g ∧ (e.g = false → (stT e.nm p (mvW to o (wdT e))).1.d = e.d) := by
  unfold stT
  cases hg : e.g with
  | false =>
    have hk : (mvW to o (wdT e)).k = 3 := by show (if e.g = true then (4 : Int) else 3) = 3; rw [hg]; rfl
    rw [if_pos ⟨hk, rfl⟩]
    exact ⟨rfl, rfl, rfl, fun _ => rfl⟩
  | true =>
    have hk : (mvW to o (wdT e)).k = 4 := by show (if e.g = true then (4 : Int) else 3) = 4; rw [hg]; rfl
    rw [if_neg (fun h => by rw [hk] at h; exact absurd h.1 (by decide)), if_pos ⟨hk, hp, rfl⟩]
    exact ⟨rfl, rfl, rfl, (fun h => by cases h)⟩
/-- behind some of the words -/
structure Cpy (seg to : Int) (E : List En) (T : List Tn) (ys : List Wd) (E' : List En) (T' : List Tn) : Prop where
  e : ∀ d, CpE seg to (getE d E) (getE d E')
  t : ∀ d, CpT seg to (Tg.getR d T) (Tg.getR d T')
  de : ∀ x ∈ E, wdE x ∈ ys → (getE x.d E').1.s = to
  dt : ∀ x ∈ T, wdT x ∈ ys → (Tg.getR x.nm T').1.s = to
  ae : AscE E'
  at_ : Tg.AscT T'
def HerW (seg : Int) (E : List En) (T : List Tn) (y : Wd) : Prop := (∃ e ∈ E, e.s = seg ∧ liveE e = true ∧ y = wdE e) ∨ (∃ e ∈ T, e.s = seg ∧ liveT e = true ∧ y = wdT e)
theorem her_iff {seg : Int} {E : List En} {T : List Tn} {y : Wd} : y ∈ herL seg E T ↔ HerW seg E T y := by
  unfold herL
  rw [(stab_perm (cmp := cmpO) _).mem_iff, List.mem_append]
  unfold herE herT HerW
  simp only [List.mem_map, List.mem_filter, Bool.and_eq_true, decide_eq_true_iff]
  exact ⟨fun h => h.imp (fun ⟨e, ⟨a, b, c⟩, d⟩ => ⟨e, a, b, c, d.symm⟩) (fun ⟨e, ⟨a, b, c⟩, d⟩ => ⟨e, a, b, c, d.symm⟩), fun h => h.imp (fun ⟨e, a, b, c, d⟩ => ⟨e, ⟨a, b, c⟩, d.symm⟩) (fun ⟨e, a, b, c, d⟩ => ⟨e, ⟨a, b, c⟩, d.symm⟩)⟩
theorem Cpy.nil {seg to : Int} {E : List En} {T : List Tn} (aE : AscE E) (aT : Tg.AscT T) : Cpy seg to E T [] E T :=
  ⟨fun _ => ⟨rfl, .inl rfl⟩, fun _ => ⟨rfl, .inl rfl⟩, (fun _ _ h => by cases h), (fun _ _ h => by cases h), aE, aT⟩
theorem Cpy.step {seg to : Int} {E : List En} {T : List Tn} {ys : List Wd} {E' : List En} {T' : List Tn} (h : Cpy seg to E T ys E' T') (aE : AscE E) (aT : Tg.AscT T) (kE : KE E) {y : Wd} (hy : HerW seg E T y) (o : Int) :
    Cpy seg to E T (ys ++ [y]) (applyE E' (mvW to o y)) (Tg.applyL (mvW to o y) T') := by
  refine ⟨fun d => ?_, fun d => ?_, fun x hx hm => ?_, fun x hx hm => ?_, applyE_asc h.ae _, Tg.applyL_asc _ h.at_⟩
  · rw [getE_apply h.ae]
    have hc := h.e d
    rcases hy with ⟨e, he, hs, hl, rfl⟩ | ⟨e, he, hs, hl, rfl⟩
    · by_cases hd : e.d = d
      · subst hd
        have hg := getE_of aE he rfl
        rw [hg] at hc ⊢
        obtain ⟨q1, q2, q3, q4⟩ := stE_own (to := to) (o := o) (kE e he) hc.b
        exact ⟨q1, .inr ⟨hs, q2, q3, q4⟩⟩
      · unfold stE
        rw [if_neg (fun h => hd h.2), if_neg (fun h => hd h.2.2)]
        exact hc
    · have hk : (mvW to o (wdT e)).k = 3 ∨ (mvW to o (wdT e)).k = 4 := by
        show (if e.g = true then (4 : Int) else 3) = 3 ∨ (if e.g = true then (4 : Int) else 3) = 4
        split
        · exact .inr rfl
        · exact .inl rfl
      unfold stE
      rw [if_neg (by rintro ⟨h1, _⟩; omega), if_neg (by rintro ⟨h1, _⟩; omega)]
      exact hc
  · rw [getR_apply h.at_]
    have hc := h.t d
    rcases hy with ⟨e, he, hs, hl, rfl⟩ | ⟨e, he, hs, hl, rfl⟩
    · have hk : (mvW to o (wdE e)).k = e.k := rfl
      have := kE e he
      unfold stT
      rw [if_neg (by rintro ⟨h1, _⟩; omega), if_neg (by rintro ⟨h1, _⟩; omega)]
      exact hc
    · by_cases hd : e.nm = d
      · subst hd
        have hg := getR_of aT he rfl
        rw [hg] at hc ⊢
        obtain ⟨q1, q2, q3, q4⟩ := stT_own (to := to) (o := o) (e := e) hc.b
        exact ⟨q1, .inr ⟨hs, q2, q3, q4⟩⟩
      · unfold stT
        rw [if_neg (fun h => hd h.2), if_neg (fun h => hd h.2.2)]
        exact hc
  · rw [getE_apply h.ae]
    rcases List.mem_append.1 hm with hm | hm
    · exact stE_to (h.de x hx hm)
    · rw [List.mem_singleton] at hm
      subst hm
      have hc := h.e x.d
      rw [getE_of aE hx rfl] at hc
      exact (stE_own (kE x hx) hc.b).2.1
  · rw [getR_apply h.at_]
    rcases List.mem_append.1 hm with hm | hm
    · exact stT_to (h.dt x hx hm)
    · rw [List.mem_singleton] at hm
      subst hm
      have hc := h.t x.nm
      rw [getR_of aT hx rfl] at hc
      exact (stT_own hc.b).2.1
/-- nothing lives there any more -/
theorem Cpy.gone {seg to : Int} {E : List En} {T : List Tn} {E' : List En} {T' : List Tn} (h : Cpy seg to E T (herL seg E T) E' T') (hne : seg ≠ to) : herL seg E' T' = [] := by
  apply List.eq_nil_iff_forall_not_mem.2
  intro y hy
  rcases her_iff.1 hy with ⟨e, he, hs, hl, rfl⟩ | ⟨e, he, hs, hl, rfl⟩
  · have hg := getE_of h.ae he rfl
    have hc := h.e e.d
    rw [hg] at hc
    rcases hc.c with e1 | ⟨_, e2, _⟩
    · have hm := (getE_mem (dg := e.d) (l := E) (by rw [← e1])).1
      rw [← e1] at hm
      have := h.de e hm (her_iff.2 (.inl ⟨e, hm, hs, hl, rfl⟩))
      rw [hg] at this
      exact hne (hs.symm.trans this)
    · exact hne (hs.symm.trans e2)
  · have hg := getR_of h.at_ he rfl
    have hc := h.t e.nm
    rw [hg] at hc
    rcases hc.c with e1 | ⟨_, e2, _⟩
    · have hm := (getR_mem (nm := e.nm) (l := T) (by rw [← e1])).1
      rw [← e1] at hm
      have := h.dt e hm (her_iff.2 (.inr ⟨e, hm, hs, hl, rfl⟩))
      rw [hg] at this
      exact hne (hs.symm.trans this)
    · exact hne (hs.symm.trans e2)
/-- each one of the first has the same in the other -/
structure SubL (E : List En) (T : List Tn) (E' : List En) (T' : List Tn) : Prop where
  e : ∀ x ∈ E, x.k ≠ 5 → (getE x.d E').1.k = x.k ∧ (getE x.d E').1.z = x.z
  t : ∀ x ∈ T, x.g = false → (Tg.getR x.nm T').2 = true ∧ (Tg.getR x.nm T').1.g = false ∧ (Tg.getR x.nm T').1.d = x.d
theorem Cpy.to {seg to : Int} {E : List En} {T : List Tn} {ys : List Wd} {E' : List En} {T' : List Tn} (h : Cpy seg to E T ys E' T') (aE : AscE E) (aT : Tg.AscT T) : SubL E T E' T' := by
  refine ⟨fun x hx h5 => ?_, fun x hx hg => ?_⟩
  · have hc := h.e x.d
    rw [getE_of aE hx rfl] at hc
    rcases hc.c with e | ⟨_, _, q3, q4⟩
    · rw [e]; exact ⟨rfl, rfl⟩
    · exact ⟨q3, q4 h5⟩
  · have hc := h.t x.nm
    rw [getR_of aT hx rfl] at hc
    rcases hc.c with e | ⟨_, _, q3, q4⟩
    · rw [e]; exact ⟨rfl, hg, rfl⟩
    · exact ⟨hc.b, q3.trans hg, q4 hg⟩
theorem Cpy.fro {seg to : Int} {E : List En} {T : List Tn} {ys : List Wd} {E' : List En} {T' : List Tn} (h : Cpy seg to E T ys E' T') : SubL E' T' E T := by
  refine ⟨fun x hx h5 => ?_, fun x hx hg => ?_⟩
  · have hc := h.e x.d
    rw [getE_of h.ae hx rfl] at hc
    rcases hc.c with e | ⟨_, _, q3, q4⟩
    · rw [← e]; exact ⟨rfl, rfl⟩
    · have q3 : x.k = _ := q3
      exact ⟨q3.symm, (q4 (by rw [← q3]; exact h5)).symm⟩
  · have hc := h.t x.nm
    rw [getR_of h.at_ hx rfl] at hc
    rcases hc.c with e | ⟨_, _, q3, q4⟩
    · rw [← e]; exact ⟨rfl, hg, rfl⟩
    · have q3 : x.g = _ := q3
      exact ⟨hc.b.symm, q3.symm.trans hg, (q4 (q3.symm.trans hg)).symm⟩
end Go.Proofs.YthcclmlbkfadcaaGreat
/- chapter 22: two states side by side; the law of forgetting -/
namespace Go.Proofs.YthcclmlbkfadcaaGreat
open Go.GV Go.RowKit Go.Lib Go.Stb
open Tg (Tn liveT)
set_option linter.unusedVariables false
set_option linter.unusedSimpArgs false
/-- others' blocks change, and are told anew -/
theorem Sta.move {u u' : World} {B sb : Nat} {d : SD} (h : Sta u B sb d) {S Z' : Nat → Prop} (f : Fr S u u') (hD : ∀ k, d.D sb k → ¬ S k) (hS : ∀ k, S k → k < u.heap.size → d.Z k) (hZ : ∀ k, Z' k → d.Z k ∨ u.heap.size ≤ k) (hb : ∀ k, Z' k → k < u'.heap.size) :
    Sta u' B sb { d with Z := Z' } := by
  refine ⟨h.rs.fr f (hD sb (.inl rfl)), h.ba, ?_, ?_, h.ta, f.row h.ld (fun k hk => hD k (.inr (.inr (.inr hk)))), h.ll, h.la, h.lz, h.s1, h.s2, h.s3, h.it, h.il, h.tl, hb⟩
  · have h1 := h.ix.monoX (X' := fun k => d.XI sb k ∧ k < u.heap.size) (fun k hk hx => ⟨hx, hk⟩)
    have h2 := h1.off f (fun k hk => hD k (.inr (.inl hk))) (fun k hk hs => hk.1.2.2.2 (hS k hs hk.2))
    exact h2.monoX (fun k _ hk => ⟨hk.1.1, hk.1.2.1, hk.1.2.2.1, fun hz => (hZ k hz).elim hk.1.2.2.2 (fun h' => by have := hk.2; omega)⟩)
  · have h1 := h.tg.monoX (X' := fun k => d.XT sb k ∧ k < u.heap.size) (fun k hk hx => ⟨hx, hk⟩)
    have h2 := h1.off f (fun k hk => hD k (.inr (.inr (.inl hk)))) (fun k hk hs => hk.1.2.2.2 (hS k hs hk.2))
    exact h2.monoX (fun k _ hk => ⟨hk.1.1, hk.1.2.1, hk.1.2.2.1, fun hz => (hZ k hz).elim hk.1.2.2.2 (fun h' => by have := hk.2; omega)⟩)
theorem Sta.low {u : World} {B B' sb : Nat} {d : SD} (h : Sta u B sb d) (hB : B' ≤ B) : Sta u B' sb d :=
  ⟨h.rs, Nat.le_trans hB h.ba, h.ix.low hB, Tab.low h.tg hB, h.ta, row_low hB h.ld, h.ll, h.la, h.lz, h.s1, h.s2, h.s3, h.it, h.il, h.tl, h.zb⟩
/-- two states and a row of numbers -/
structure Duo (w : World) (B sb tb : Nat) (d e : SD) (A : Option Addr) : Prop where
  s : Sta w B sb d
  t : Sta w B tb e
  zs : ∀ k, d.Z k ↔ e.D tb k ∨ blkOf A = some k
  zt : ∀ k, e.Z k ↔ d.D sb k ∨ blkOf A = some k
  st : ∀ k, d.D sb k → ¬ e.D tb k
  sa : ∀ k, d.D sb k → blkOf A ≠ some k
  ta : ∀ k, e.D tb k → blkOf A ≠ some k
  al : ∀ k, blkOf A = some k → k < w.heap.size
theorem Duo.fr0 {w w' : World} {B sb tb : Nat} {d e : SD} {A : Option Addr} (h : Duo w B sb tb d e A) (f : Fr (fun _ => False) w w') : Duo w' B sb tb d e A :=
  ⟨h.s.fr0 f, h.t.fr0 f, h.zs, h.zt, h.st, h.sa, h.ta, fun k hk => Nat.lt_of_lt_of_le (h.al k hk) f.size⟩
theorem Duo.swap {w : World} {B sb tb : Nat} {d e : SD} {A : Option Addr} (h : Duo w B sb tb d e A) : Duo w B tb sb e d A :=
  ⟨h.t, h.s, h.zt, h.zs, fun k h1 h2 => h.st k h2 h1, h.ta, h.sa, h.al⟩
theorem Duo.row {w w' : World} {B sb tb : Nat} {d e : SD} {A A' : Option Addr} (h : Duo w B sb tb d e A) (f : Fr (fun k => blkOf A = some k) w w') (hA : ∀ k, blkOf A' = some k → blkOf A = some k ∨ w.heap.size ≤ k) (hl : ∀ k, blkOf A' = some k → k < w'.heap.size) :
    Duo w' B sb tb { d with Z := fun k => e.D tb k ∨ blkOf A' = some k } { e with Z := fun k => d.D sb k ∨ blkOf A' = some k } A' := by
  refine ⟨h.s.move f h.sa (fun k hk _ => (h.zs k).2 (.inr hk)) (fun k hk => ?_) (fun k hk => ?_), h.t.move f h.ta (fun k hk _ => (h.zt k).2 (.inr hk)) (fun k hk => ?_) (fun k hk => ?_), fun k => Iff.rfl, fun k => Iff.rfl, h.st, fun k h1 h2 => ?_, fun k h1 h2 => ?_, hl⟩
  · rcases hk with hk | hk
    · exact .inl ((h.zs k).2 (.inl hk))
    · exact (hA k hk).imp (fun h' => (h.zs k).2 (.inr h')) id
  · exact hk.elim (fun h' => Nat.lt_of_lt_of_le (h.t.lt h').2 f.size) (hl k)
  · rcases hk with hk | hk
    · exact .inl ((h.zt k).2 (.inl hk))
    · exact (hA k hk).imp (fun h' => (h.zt k).2 (.inr h')) id
  · exact hk.elim (fun h' => Nat.lt_of_lt_of_le (h.s.lt h').2 f.size) (hl k)
  · have h1 : d.D sb k := h1
    rcases hA k h2 with h' | h'
    · exact h.sa k h1 h'
    · have := (h.s.lt h1).2; omega
  · have h1 : e.D tb k := h1
    rcases hA k h2 with h' | h'
    · exact h.ta k h1 h'
    · have := (h.t.lt h1).2; omega
/-- the words of the others -/
def oth (seg : Int) (ws : List Wd) : List Wd := ws.filter (fun x => decide (x.s ≠ seg))
def sgs (seg : Int) (ws : List Wd) : List Int := (oth seg ws).map (·.s)
theorem allE_snoc (ws : List Wd) (x : Wd) : allE (ws ++ [x]) = applyE (allE ws) x := by unfold allE; rw [List.foldl_append]; rfl
theorem allT_snoc (ws : List Wd) (x : Wd) : allT (ws ++ [x]) = Tg.applyL x (allT ws) := by unfold allT; rw [List.foldl_append]; rfl
theorem allL_snoc (ws : List Wd) (x : Wd) : allL (ws ++ [x]) = applyS x (allL ws) := by unfold allL; rw [List.foldl_append]; rfl
/-- a state is what words come to -/
structure Of (d : SD) (ws : List Wd) : Prop where
  e : d.lE = allE ws
  t : d.lT = allT ws
  l : d.lL = allL ws
theorem Of.app {d d' : SD} {ws : List Wd} (h : Of d ws) (x : Wd) (h1 : d'.lE = applyE d.lE x) (h2 : d'.lT = Tg.applyL x d.lT) (h3 : d'.lL = applyS x d.lL) : Of d' (ws ++ [x]) :=
  ⟨by rw [allE_snoc, ← h.e, h1], by rw [allT_snoc, ← h.t, h2], by rw [allL_snoc, ← h.l, h3]⟩
/-- an empty snapshot -/
theorem sn_nil (w : World) : SnAt w [Value.int .i64 0, .int .i64 0, .int .i64 0, .int .u64 0, .slice none 0 0, .slice none 0 0, .slice none 0 0] [] [] [] :=
  ⟨0, 0, 0, 0, none, 0, 0, none, 0, 0, none, 0, 0, rfl, RE.nil _ _ _, Tg.RT.nil _ _ _, Sl.nil _ _ _, rfl⟩
theorem snO_one {w : World} {B : Nat} {cs : List Value} {E : List En} {T : List Tn} {Ls : List Lo} (h : SnO w B cs E T Ls) : ∀ v ∈ cs, v.oneCell' = true := by
  obtain ⟨X, xc, X', xn', xc', X'', xn'', xc'', rfl, _⟩ := h
  intro v hv
  simp only [List.mem_cons, List.not_mem_nil, or_false] at hv
  rcases hv with rfl | rfl | rfl | rfl | rfl | rfl | rfl <;> rfl
end Go.Proofs.YthcclmlbkfadcaaGreat
/- chapter 22: words that live are copied: the law -/
namespace Go.Proofs.YthcclmlbkfadcaaGreat
open Go.GV Go.RowKit Go.Lib Go.Stb
open Tg (Tn liveT)
set_option linter.unusedVariables false
set_option linter.unusedSimpArgs false
set_option maxHeartbeats 2000000 in
set_option maxRecDepth 10000 in
theorem sub_calls {B B' : Nat} (xs ys : List Value) (E E' : List En) (T T' : List Tn) (L L' : List Lo) (w : World) (hx : SnO w B xs E T L) (hy : SnO w B' ys E' T' L') (hs : SubL E T E' T') (bE : E.length ≤ 50000000) (bT : T.length ≤ 50000000) (bE' : E'.length ≤ 50000000) (bT' : T'.length ≤ 50000000) :
    Calls Tryz.prog 54 #[ofL xs, ofL ys] w fun e w' => e = .returned (.bool true) ∧ Fr (fun _ => False) w w' := by
  refine (F54.of xs ys w (Q := fun v w' => v = .bool true ∧ Fr (fun _ => False) w w') ?_).mono (fun e w' ⟨v, he, hv, h⟩ => ⟨by rw [he, hv], h⟩)
  refine nw2 (fun b1 b3 u f r1 r3 hb1w hb3w n13 => ?_)
  have hx := hx.fr0 f
  have hy := hy.fr0 f
  obtain ⟨X, xc, X', xn', xc', X'', xn'', xc'', rfl, x1, x2, x3, x4⟩ := hx
  obtain ⟨Y, yc, Y', yn', yc', Y'', yn'', yc'', rfl, y1, y2, y3, y4⟩ := hy
  have hxT := x2.len
  have hyT := y2.len
  refine jnC_mk (loop_rule (fun s v => Fr (fun _ => False) u v ∧ ∃ i : Nat, i ≤ E.length ∧ s = ((b1, 0), (b3, 0), (i : Int), ())) (fun s _ => (E.length - s.2.2.1).toNat) ?_ _ _ ⟨Fr.refl _ _, 0, by omega, rfl⟩)
  rintro s v C ⟨g, i, hi, rfl⟩ hC _
  have q1 := r1.fr g (fun h => h)
  have q3 := r3.fr g (fun h => h)
  refine ⟨X, _, xc, q1.cell rfl, vIf_mk (fun hlt => ?_) (fun hge => ?_)⟩
  · have hlt2 : (i : Int) < (E.length : Int) := of_decide_eq_true hlt
    have gi : E[i]? = some (E[i]'(by omega)) := List.getElem?_eq_getElem (by omega)
    generalize E[i]'(by omega) = x at gi
    have hsub := hs.e x (List.mem_of_getElem? gi)
    refine ⟨X, _, xc, q1.cell rfl, e_rd (x1.fr0 g) gi (fun b o cs hA hT hc => ⟨cs, hT.len, hc, var_mk z28 hT.len hT.one (fun b14 u2 g2 r14 => ?_)⟩)⟩
    have hT2 := hT.fr0 g2
    have g2' := g.trans1 g2
    refine ⟨Y, _, yc, (r3.fr g2' (fun h => h)).cell rfl, x.d.map bv, bvl hT.dl, e_dig hT2 (rec_all r14), (rget_calls Y _ yc E' x.d u2 (y1.fr0 g2') hT.dl (by omega)).mono ?_⟩
    rintro r u3 ⟨g3, cs2, rfl, hT3⟩
    refine ⟨cs2, _, rfl, var_mk z28 hT3.len hT3.one (fun b25 u4 g4 r25 => ?_)⟩
    have r14 := r14.fr (g3.trans1 g4) (fun h => h)
    have hT3 := hT3.fr0 g4
    have g4' := (g2'.trans1 g3).trans1 g4
    have go : jnC C ((b1, 0), (b3, 0), IntKind.wrap .i64 ((i : Int) + 1), ()) u4 := by
      refine jnC_mk (hC _ _ ⟨g4', i + 1, by omega, by rw [ei i (by omega)]⟩ ?_)
      show ((E.length : Int) - IntKind.wrap .i64 ((i : Int) + 1)).toNat < ((E.length : Int) - (i : Int)).toNat
      rw [ei i (by omega)]; omega
    refine ⟨x.k, e_fld hT2 (rec_all r14) (j := 0) rfl, vIf_mk (fun h5 => ?_) (fun h5 => go)⟩
    have h5 : x.k ≠ 5 := by simpa using h5
    obtain ⟨e1, e2⟩ := hsub h5
    refine ⟨_, e_fld hT3 (rec_all r25) (j := 0) rfl, x.k, e_fld hT2 (rec_all r14) (j := 0) rfl, vIf_f (by rw [e1]; simp) ⟨_, e_fld hT3 (rec_all r25) (j := 1) rfl, x.z, e_fld hT2 (rec_all r14) (j := 1) rfl, vIf_f (by rw [e2]; simp) go⟩⟩
  · refine jnC_mk (loop_rule (fun s v => Fr (fun _ => False) u v ∧ ∃ i : Nat, i ≤ T.length ∧ s = ((b1, 0), (b3, 0), (i : Int), ())) (fun s _ => (T.length - s.2.2.1).toNat) ?_ _ _ ⟨g, 0, by omega, rfl⟩)
    clear hge hC hi q1 q3 g
    rintro s v C ⟨g, i, hi, rfl⟩ hC _
    have q1 := r1.fr g (fun h => h)
    have q3 := r3.fr g (fun h => h)
    refine ⟨X', xn', xc', q1.cell rfl, vIf_mk (fun hlt => ?_) (fun hge => ⟨rfl, f.trans1 g⟩)⟩
    have hlt2 : (i : Int) < (xn' : Int) := of_decide_eq_true hlt
    have gi : T[i]? = some (T[i]'(by omega)) := List.getElem?_eq_getElem (by omega)
    generalize T[i]'(by omega) = x at gi
    have hsub := hs.t x (List.mem_of_getElem? gi)
    refine ⟨X', xn', xc', q1.cell rfl, Tg.t_rd (x2.fr0 g) gi (fun b o cs hA hT hc => ⟨cs, hT.len, hc, var_mk Tg.z35 hT.len hT.one (fun b14 u2 g2 r14 => ?_)⟩)⟩
    have hT2 := hT.fr0 g2
    have g2' := g.trans1 g2
    refine ⟨Y', yn', yc', (r3.fr g2' (fun h => h)).cell rfl, x.nm, Tg.c_nm hT2 (rec_all r14), (Tg.rget_calls Y' yn' yc' T' x.nm u2 (y2.fr0 g2') (by omega)).mono ?_⟩
    rintro r u3 ⟨g3, cs2, rfl, hT3⟩
    refine ⟨cs2, _, rfl, var_mk Tg.z35 hT3.len hT3.one (fun b25 u4 g4 r25 => ?_)⟩
    have r14 := r14.fr (g3.trans1 g4) (fun h => h)
    have hT3 := hT3.fr0 g4
    have g4' := (g2'.trans1 g3).trans1 g4
    have go : jnC C ((b1, 0), (b3, 0), IntKind.wrap .i64 ((i : Int) + 1), ()) u4 := by
      refine jnC_mk (hC _ _ ⟨g4', i + 1, by omega, by rw [ei i (by omega)]⟩ ?_)
      show ((T.length : Int) - IntKind.wrap .i64 ((i : Int) + 1)).toNat < ((T.length : Int) - (i : Int)).toNat
      rw [ei i (by omega)]; omega
    refine ⟨x.g, Tg.c_gone hT2 (rec_all r14), vIf_mk (fun h5 => ?_) (fun h5 => go)⟩
    have h5 : x.g = false := by simpa using h5
    obtain ⟨e1, e2, e3⟩ := hsub h5
    refine vIf_f (by rw [e1]; rfl) ⟨_, Tg.c_gone hT3 (rec_all r25), vIf_f e2 ⟨(Tg.getR x.nm T').1.d.map bv, bvl hT3.dl, Tg.c_dig hT3 (rec_all r25), x.d.map bv, bvl hT.dl, Tg.c_dig hT2 (rec_all r14), (Tg.getR x.nm T').1.d, x.d, hT3.dl, hT.dl, rfl, rfl, vIf_f (by rw [e3]; simp) go⟩⟩
theorem there_calls {B B' : Nat} (xs ys : List Value) (E E' : List En) (T T' : List Tn) (L L' : List Lo) (w : World) (hx : SnO w B xs E T L) (hy : SnO w B' ys E' T' L') (hs : SubL E T E' T') (hs' : SubL E' T' E T) (bE : E.length ≤ 50000000) (bT : T.length ≤ 50000000) (bE' : E'.length ≤ 50000000) (bT' : T'.length ≤ 50000000) :
    Calls Tryz.prog 13 #[ofL xs, ofL ys] w fun e w' => e = .returned (.bool true) ∧ Fr (fun _ => False) w w' := by
  refine (F13.of xs ys w (Q := fun v w' => v = .bool true ∧ Fr (fun _ => False) w w') ?_).mono (fun e w' ⟨v, he, hv, h⟩ => ⟨by rw [he, hv], h⟩)
  refine nw2 (fun b1 b3 u f r1 r3 hb1w hb3w n13 => ?_)
  have hx := hx.fr0 f
  have hy := hy.fr0 f
  refine ⟨xs, hx.len, rec_all r1, ys, hy.len, rec_all r3, (sub_calls xs ys E E' T T' L L' u hx hy hs bE bT bE' bT').mono ?_⟩
  rintro r u2 ⟨rfl, g⟩
  refine ⟨_, rfl, vIf_t rfl ⟨ys, hy.len, rec_all (r3.fr g (fun h => h)), xs, hx.len, rec_all (r1.fr g (fun h => h)), (sub_calls ys xs E' E T' T L' L u2 (hy.fr0 g) (hx.fr0 g) hs' bE' bT' bE bT).mono ?_⟩⟩
  rintro r u3 ⟨rfl, g2⟩
  exact ⟨_, rfl, rfl, (f.trans1 g).trans1 g2⟩
theorem mv_cs (to o : Int) (x : Wd) (hx : x.d.length = 32) : splice x.cs 36 [.int .i64 to, .int .i64 o, .int .i64 x.q] = (mvW to o x).cs := by
  unfold splice Wd.cs mvW
  dsimp only
  rw [show [Value.int .i64 x.k, .int .u64 x.sq] ++ (x.d.map bv ++ [.string x.nm, .int .i64 x.z, .int .i64 x.s, .int .i64 x.o, .int .i64 x.q]) = ([Value.int .i64 x.k, .int .u64 x.sq] ++ (x.d.map bv ++ [.string x.nm, .int .i64 x.z])) ++ [.int .i64 x.s, .int .i64 x.o, .int .i64 x.q] by simp, List.take_left' (by simp [hx]), List.drop_of_length_le (by simp [hx])]
  simp
set_option maxHeartbeats 2000000 in
set_option maxRecDepth 100000 in
theorem copies_law (A1 : Option Addr) (n1 c1 : Nat) (ws : List Wd) (seg to : Int) (w : World) (h1 : WRow w A1 n1 ws) (hn : n1 ≤ 1048576) :
    Calls Tryz.prog 3 #[.slice A1 n1 c1, .int .i64 seg, .int .i64 to] w fun r w' => r = .returned (.bool true) ∧ Fr (fun _ => False) w w' := by
  refine (F3.of A1 n1 c1 seg to w (Q := fun v w' => v = .bool true ∧ Fr (fun _ => False) w w') ?_).mono (fun e w' ⟨v, he, hv, h⟩ => ⟨by rw [he, hv], h⟩)
  have hwl := h1.1
  refine (newS_calls _ [] [] [] w (sn_nil w) (by simp) (by simp) (by simp) (fun e he => by cases he) (fun e he => by cases he)).mono ?_
  rintro r w1 ⟨f1, sb, d, rfl, hs, dE, dT, dL, dp⟩
  have ofd : Of d [] := ⟨dE, dT, dL⟩
  have sbd : SB (10 + 0) d := SB.nil _ dE dT dL (Nat.le_trans dp (by simp))
  refine ⟨_, rfl, jnC_mk (loop_rule (fun s u => ∃ (i : Nat) (d : SD), i ≤ n1 ∧ s = ((A1, n1, c1), seg, to, some ⟨sb, 0, none⟩, (i : Int), ()) ∧ Fr (fun _ => False) w u ∧ Sta u w.heap.size sb d ∧ Of d (ws.take i) ∧ SB (10 + i) d)
    (fun s _ => (n1 - s.2.2.2.2.1).toNat) ?_ _ _ ⟨0, d, by omega, rfl, f1, hs, ofd, sbd⟩)⟩
  clear ofd sbd hs dE dT dL dp f1 d w1
  rintro s u C ⟨i, d, hi, rfl, hf, hD, ofd, sbd⟩ hC _
  have hBu := hf.size
  refine vIf_mk (fun hlt => ?_) (fun hge => ?_)
  · have hlt2 : (i : Int) < (n1 : Int) := of_decide_eq_true hlt
    have gi : ws[i]? = some (ws[i]'(by omega)) := List.getElem?_eq_getElem (by omega)
    generalize ws[i]'(by omega) = x at gi
    obtain ⟨b, o, hA1, hcs⟩ := h1.2.2 (by omega)
    have hx : x.d.length = 32 := h1.2.1 x (List.mem_of_getElem? gi)
    have i0 : decide (0 ≤ (i : Int)) = true := decide_eq_true (by omega)
    have dat : cellsAt u b (o + ((i : Int)).toNat * 39) x.cs := by rw [Int.toNat_natCast]; exact hf.cells (hcs i x gi) (fun h => h)
    rw [hA1]
    have hb0 : SB 50000000 d := sbd.mono (by omega)
    refine dr_mk (gd_mk i0 (gd_mk hlt ⟨x.cs, wd_len hx, dat, (applyS_calls hD x hx hb0 hBu).mono ?_⟩))
    rintro r u1 ⟨rfl, d', st1, p1, p2, p3, p4⟩
    refine ⟨rfl, jnC_mk (hC _ _ ⟨i + 1, d', by omega, by rw [ei i (by omega), hA1], hf.trans st1.fr (fun _ _ h => h) (fun k hk h => by have := (hD.lt h).1; omega), st1.st, by rw [List.take_add_one, gi]; exact ofd.app x p1 p2 p3, sbd.app x p1 p2 p3 p4⟩ ?_)⟩
    show ((n1 : Int) - IntKind.wrap .i64 ((i : Int) + 1)).toNat < ((n1 : Int) - (i : Int)).toNat
    rw [ei i (by omega)]; omega
  · have hge2 : ¬ (i : Int) < (n1 : Int) := of_decide_eq_false hge
    rw [List.take_of_length_le (by omega)] at ofd
    have hb0 : SB 2000000 d := sbd.mono (by omega)
    refine vIf_mk (fun heq => (lives_calls u).mono ?_) (fun hne => ?_)
    · rintro r u2 ⟨rfl, f2⟩
      exact ⟨_, rfl, rfl, hf.trans1 f2⟩
    have hne : seg ≠ to := by simpa using hne
    refine (snapB_calls hD (hb0.mono (by omega))).mono ?_
    rintro r u1 ⟨f1, xs, rfl, hx⟩
    have xl := hx.out.len
    refine ⟨xs, rfl, nw_mk (gd_mk (by rw [xl]; rfl) ?_)⟩
    have g1 : Fr (fun _ => False) u1 (u1.alloc (.cells Z30.toArray 30)) := Fr.alloc _ _ _
    have l15 : u1.heap.size ≤ u1.heap.size := Nat.le_refl _
    have q15 := RecAt.new u1 Z30 30
    generalize hb15 : u1.heap.size = b15 at q15 l15 ⊢
    generalize u1.alloc (.cells Z30.toArray 30) = u2 at g1 q15 ⊢
    refine q15.st_mk (o := 0) (by rw [xl]; decide) (snO_one hx.out) (fun q15 g2 => ?_)
    rw [splice_full (by rw [xl]; rfl)] at q15
    have g12 := fr_own g1 g2 (by omega)
    generalize stB u2 b15 0 xs = u3 at q15 g12 ⊢
    have f13 := f1.trans1 g12
    have hx := hx.fr g12 (fun _ _ _ h => h)
    have hD3 := hD.fr0 f13
    have hf3 := hf.trans1 f13
    refine (hereS_calls hD3 seg (hb0.mono (by omega))).mono ?_
    rintro r u4 ⟨f4, A20, c22, rfl, hW⟩
    have hx4 := hx.fr f4 (fun _ _ _ h => h)
    have q154 := q15.fr f4 (fun h => h)
    have hD4 := hD3.fr0 f4
    have hf4 := hf3.trans1 f4
    have hE0 := hb0.el
    have hT0 := hb0.tl
    have hll := herL_len seg d.lE d.lT
    have s1 := f1.size
    have s3 := f13.size
    have s4 := f4.size
    have hd0 : ∀ k, d.D sb k → k < u.heap.size := fun k hk => (hD.lt hk).2
    have hE1 := ofd.e
    have hT1 := ofd.t
    have aE : AscE d.lE := hE1 ▸ allE_asc ws
    have aT : Tg.AscT d.lT := hT1 ▸ allT_asc ws
    have kE : KE d.lE := hE1 ▸ allE_k ws
    have hM : u4.heap.size ≤ u4.heap.size := Nat.le_refl _
    generalize hMe : u4.heap.size = M at s4 hM
    generalize hHe : herL seg d.lE d.lT = H at hW hll ⊢
    have hHm : ∀ y ∈ H, HerW seg d.lE d.lT y := fun y hy => her_iff.1 (hHe ▸ hy)
    have hl15 := q154.lt
    have hA20 : ∀ k, blkOf A20 = some k → k < M := fun k hk => by have := (hW.1.blt hk).2; omega
    refine ⟨_, _, _, rfl, jnC_mk (loop_rule (fun s v => ∃ (i : Nat) (e : SD), i ≤ H.length ∧ s = (seg, to, some ⟨sb, 0, none⟩, (b15, 0), (A20, H.length, c22), (i : Int), ()) ∧ Fr (fun _ => False) w v ∧ Sta v w.heap.size sb e ∧ SB (2000000 + i) e ∧ M ≤ v.heap.size ∧ (∀ k, e.D sb k → k < u.heap.size ∨ M ≤ k) ∧
        Cpy seg to d.lE d.lT (H.take i) e.lE e.lT ∧ SnB (fun k => u.heap.size ≤ k ∧ k < M) v xs d.lE d.lT (loadsL d.lE d.lT d.lL) ∧ RecAt v b15 30 xs ∧ WOw v u3.heap.size A20 H.length c22 H)
      (fun s _ => (H.length - s.2.2.2.2.2.1).toNat) ?_ _ _ ⟨0, d, by omega, rfl, hf4, hD4, hb0, by omega, fun k hk => .inl (hd0 k hk), Cpy.nil aE aT, hx4.mono (fun k hk h => ⟨h, by omega⟩), q154, hW⟩)⟩
    clear hC hBu hD hD3 hD4 hf4 hf3 hx hx4 q154 q15 hb0 sbd g12 g2 g1 f13 f1 f4 hf
    rintro s v C ⟨i, e, hi, rfl, hf, hD, sbe, hMv, hDd, hcp, hx, q15, hW⟩ hC _
    have hBv := hf.size
    have hb1 : SB 50000000 e := sbe.mono (by omega)
    refine vIf_mk (fun hlt => ?_) (fun hge => ?_)
    · have hlt2 : (i : Int) < (H.length : Int) := of_decide_eq_true hlt
      have gi : H[i]? = some (H[i]'(by omega)) := List.getElem?_eq_getElem (by omega)
      generalize H[i]'(by omega) = y at gi
      have hym := List.mem_of_getElem? gi
      have hyd : y.d.length = 32 := hW.2.2 y hym
      refine w_rd hW.sl gi rfl (fun b o hc => ⟨y.cs, wd_len hyd, hc, wd_var (wd_len hyd) (wd_ones _) (fun b26 v1 g1 hb26 r26 => ⟨y.q, wd_fld r26 hyd (j := 4) rfl rfl, gd_mk rfl (r26.st_mk (o := 0 + 36) (by rw [wd_len hyd]; show 0 + 36 + 3 ≤ 39; omega) (fun v hv => by simp at hv; rcases hv with rfl | rfl | rfl <;> rfl) (fun r26 g2 => ?_))⟩)⟩)
      have r26 : RecAt (stB v1 b26 (0 + 36) ([Value.int .i64 to] ++ ([Value.int .i64 (IntKind.wrap .i64 (100 * (i : Int)))] ++ ([Value.int .i64 y.q] ++ [])))) b26 37 (mvW to (IntKind.wrap .i64 (100 * (i : Int))) y).cs := by
        rw [← mv_cs _ _ _ hyd]; exact r26
      generalize stB v1 b26 (0 + 36) ([Value.int .i64 to] ++ ([Value.int .i64 (IntKind.wrap .i64 (100 * (i : Int)))] ++ ([Value.int .i64 y.q] ++ []))) = v2 at r26 g2 ⊢
      have g12 : Fr (fun _ => False) v v2 := fr_own g1 g2 hb26
      have hD2 := hD.fr0 g12
      have sg12 := g12.size
      generalize hz : mvW to (IntKind.wrap .i64 (100 * (i : Int))) y = z at r26
      have hzd : z.d.length = 32 := by rw [← hz]; exact hyd
      refine ⟨z.cs, wd_len hzd, rec_all r26, (applyS_calls hD2 z hzd hb1 (by omega)).mono ?_⟩
      rintro r v3 ⟨rfl, e', st, p1, p2, p3, p4⟩
      have s3' := st.fr.size
      refine ⟨rfl, jnC_mk (hC _ _ ⟨i + 1, e', by omega, by rw [ei i (by omega)], ?_, st.st, sbe.app z p1 p2 p3 p4, by omega, fun k hk => ?_, ?_, ?_, ?_, ?_⟩ ?_)⟩
      · exact (hf.trans1 g12).trans st.fr (fun _ _ h => h) (fun k hk h => by have := (hD2.lt h).1; omega)
      · rcases st.up k hk with h' | h'
        · exact hDd k h'
        · exact .inr (by omega)
      · rw [p1, p2, List.take_add_one, gi, ← hz]
        exact hcp.step aE aT kE (hHm y hym) _
      · exact (hx.fr g12 (fun _ _ _ h => h)).fr st.fr (fun k hk _ h => by have := hDd k h; have := hk.1; have := hk.2; omega)
      · exact (q15.fr g12 (fun h => h)).fr st.fr (fun h => by have := hDd _ h; omega)
      · exact ⟨st.fr.row (g12.row hW.1 (fun _ _ h => h)) (fun k hk h => by have := hDd _ h; have := (hW.1.blt hk).1; have := hA20 k hk; omega), hW.2⟩
      · show ((H.length : Int) - IntKind.wrap .i64 ((i : Int) + 1)).toNat < ((H.length : Int) - (i : Int)).toNat
        rw [ei i (by omega)]; omega
    · have hge2 : ¬ (i : Int) < (H.length : Int) := of_decide_eq_false hge
      rw [List.take_of_length_le (by omega), ← hHe] at hcp
      have hgone := hcp.gone hne
      have q0 := Fr.drew (fun _ => False) v
      refine (hereS_calls (hD.fr0 q0) seg hb1).mono ?_
      rintro r v1 ⟨g1, A36, c38, rfl, _⟩
      have g01 := q0.trans1 g1
      have q15 := q15.fr g01 (fun h => h)
      refine ⟨_, _, _, rfl, vIf_t (by rw [hgone]; rfl) ⟨xs, xl, rec_all q15, (snapS_calls (hD.fr0 g01) hb1).mono ?_⟩⟩
      rintro r v2 ⟨g2, ys, rfl, hy⟩
      have hx2 := ((hx.fr (g01.trans1 g2) (fun _ _ _ h => h)).mono (P' := fun k => u.heap.size ≤ k) (fun k _ h => h.1)).out
      have e1 := hb1.el
      have e2 := hb1.tl
      refine ⟨ys, rfl, kp_mk g2 q15.lt (fun h => h) ((there_calls xs ys _ _ _ _ _ _ v2 hx2 hy (hcp.to aE aT) hcp.fro (by omega) (by omega) (by omega) (by omega)).mono ?_)⟩
      rintro r v3 ⟨rfl, g3⟩
      refine ⟨_, rfl, vIf_t rfl ((lives_calls v3).mono ?_)⟩
      rintro r v4 ⟨rfl, g4⟩
      exact ⟨_, rfl, rfl, ((hf.trans1 (g01.trans1 g2)).trans1 g3).trans1 g4⟩
end Go.Proofs.YthcclmlbkfadcaaGreat
/- chapter 22: opening a digest -/
namespace Go.Proofs.YthcclmlbkfadcaaGreat
open Go.GV Go.ChangeShapes Go.WideShapes Go.ChangeAt Go.RowKit
set_option linter.unusedVariables false
end Go.Proofs.YthcclmlbkfadcaaGreat
