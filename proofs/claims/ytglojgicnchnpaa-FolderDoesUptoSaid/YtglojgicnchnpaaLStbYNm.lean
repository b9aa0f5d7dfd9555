/- stable sorting, walked: symMerge, insertionSort, the sort: rows of api.Named -/
import Derived.Test.YtglojgicnchnpaaLStbXNm
namespace Go.Proofs.Ytglojgicnchnpaa.StbNm
open Go.GV Go.RowKit Go.Stb
set_option linter.unusedVariables false
set_option linter.unusedSimpArgs false
section
variable {β : Type} {enc : β → List Value} {cmp : β → β → Int}
theorem take_len {l : List (β × Nat)} {k : Nat} (h : k ≤ l.length) : (l.take k).length = k := by rw [List.length_take]; omega
theorem get_in {P X R : List (β × Nat)} {i j : Nat} {x : β × Nat} (hi : i = P.length + j) (hx : X[j]? = some x) : (P ++ X ++ R)[i]? = some x := by
  have hj := (List.getElem?_eq_some_iff.1 hx).1
  subst hi
  rw [List.append_assoc, List.getElem?_append_right (by omega), List.getElem?_append_left (by omega), Nat.add_sub_cancel_left]; exact hx
set_option maxHeartbeats 1000000 in
/-- two sorted rows, the one ahead of the other, are merged -/
theorem symMerge_calls (h0 : Srt β enc cmp) (B : Nat) (A : Option Addr) (n c : Nat) (hn : n < 549755813888) : ∀ (K : Nat) (P X Y S : List (β × Nat)) (w : World), X.length + Y.length ≤ K → RS enc w B A n c (P ++ X ++ Y ++ S) → Sorted cmp X → Sorted cmp Y → befC X Y → X ≠ [] → Y ≠ [] → ∀ (a m b : Int), a = ((P.length : Nat) : Int) → m = ((P.length + X.length : Nat) : Int) → b = ((P.length + X.length + Y.length : Nat) : Int) →
    Calls Try.prog 69 #[.slice A n c, .int .i64 a, .int .i64 m, .int .i64 b, cf] w fun e w' => e = .returned (.tuple #[]) ∧ Mrg enc cmp w w' B A n c P X Y S
  | 0, P, X, Y, S, w, hK, _, _, _, _, hX, _, _, _, _, _, _, _ => absurd (List.length_eq_zero_iff.1 (by omega)) hX
  | K + 1, P, X, Y, S, w, hK, h, sX, sY, hb, hX, hY, a, m, b, ha, hm, hbb => by
    subst ha; subst hm; subst hbb
    have ih := symMerge_calls h0 B A n c hn K
    refine (F69s.of A n c _ _ _ w (Q := fun v w' => v = .tuple #[] ∧ Mrg enc cmp w w' B A n c P X Y S) ?_).mono (fun e w' ⟨v, he, hv, h⟩ => ⟨by rw [he, hv], h⟩)
    have hlen := h.2
    simp only [List.length_append] at hlen
    have hX0 : X.length ≠ 0 := fun h => hX (List.length_eq_zero_iff.1 h)
    have hY0 : Y.length ≠ 0 := fun h => hY (List.length_eq_zero_iff.1 h)
    have eX : IntKind.wrap .i64 (((P.length + X.length : Nat) : Int) - ((P.length : Nat) : Int)) = ((X.length : Nat) : Int) := by rw [es _ _ (by omega) (by omega), Nat.add_sub_cancel_left]
    have eY : IntKind.wrap .i64 (((P.length + X.length + Y.length : Nat) : Int) - ((P.length + X.length : Nat) : Int)) = ((Y.length : Nat) : Int) := by rw [es _ _ (by omega) (by omega), Nat.add_sub_cancel_left]
    have eM := em P.length (P.length + X.length + Y.length) (by omega) (by omega)
    unfold F69s.vc
    rw [eX, eY, eM]
    generalize hmid : (P.length + (P.length + X.length + Y.length)) / 2 = mid at eM ⊢
    have eN : IntKind.wrap .i64 ((mid : Int) + ((P.length + X.length : Nat) : Int)) = ((mid + (P.length + X.length) : Nat) : Int) := ea _ _ (by omega) (by omega)
    rw [eN]
    generalize hN : mid + (P.length + X.length) = N at eN ⊢
    refine vIf_mk (fun h1 => ?_) (fun h1 => vIf_mk (fun h2 => ?_) (fun h2 => ?_))
    · have h1 : X.length = 1 := by
        have : ((X.length : Nat) : Int) = 1 := by simpa using h1
        omega
      obtain ⟨x, rfl⟩ := List.length_eq_one_iff.1 h1
      refine jnC_mk ?_
      have := merge_one h0 B A n c P Y S x w (by simpa using h) sY (fun y hy => hb x (by simp) y hy) hn
      simpa using this
    · have h2 : Y.length = 1 := by
        have : ((Y.length : Nat) : Int) = 1 := by simpa using h2
        omega
      obtain ⟨y, rfl⟩ := List.length_eq_one_iff.1 h2
      refine jnC_mk ?_
      exact merge_last h0 B A n c P X S y w (by simpa using h) sX (fun x hx => hb x hx y (by simp)) hn
    · have h1 : X.length ≠ 1 := fun h => by rw [h] at h1; simp at h1
      have h2 : Y.length ≠ 1 := fun h => by rw [h] at h2; simp at h2
      -- from any bounds of the search
      have fin : ∀ s0 r0 : Nat, P.length ≤ s0 → s0 ≤ r0 → r0 ≤ P.length + X.length → r0 ≤ mid → N ≤ s0 + (P.length + X.length + Y.length) → (s0 = P.length ∨ N = s0 + (P.length + X.length + Y.length)) → (r0 = P.length + X.length ∨ r0 = mid) →
          jnC (F69s.k32 (fun v w' => v = .tuple #[] ∧ Mrg enc cmp w w' B A n c P X Y S)) ((A, n, c), ((P.length : Nat) : Int), ((P.length + X.length : Nat) : Int), ((P.length + X.length + Y.length : Nat) : Int), (), (mid : Int), (N : Int), (s0 : Int), (r0 : Int), ()) w := by
        intro s0 r0 q1 q2 q3 q4 q5 q6 q7
        refine jnC_mk (fun _ => jnC_mk ?_)
        have eP : IntKind.wrap .i64 ((N : Int) - 1) = ((N - 1 : Nat) : Int) := e1 _ (by omega) (by omega)
        dsimp only
        rw [eP]
        refine loop_rule (fun s u => Fr (fun _ => False) w u ∧ ∃ st r : Nat, s0 ≤ st ∧ st ≤ r ∧ r ≤ r0 ∧ (∀ c, s0 ≤ c → c < st → ∀ u v, X[c - P.length]? = some u → Y[N - 1 - c - (P.length + X.length)]? = some v → lt cmp u v) ∧ (∀ c, r ≤ c → c < r0 → ∀ u v, X[c - P.length]? = some u → Y[N - 1 - c - (P.length + X.length)]? = some v → lt cmp v u) ∧
            s = ((A, n, c), ((P.length : Nat) : Int), ((P.length + X.length : Nat) : Int), ((P.length + X.length + Y.length : Nat) : Int), (), (mid : Int), (N : Int), (st : Int), (r : Int), ((N - 1 : Nat) : Int), ()))
          (fun s _ => (s.2.2.2.2.2.2.2.2.1 - s.2.2.2.2.2.2.2.1).toNat) ?_ _ _ ⟨Fr.refl _ _, s0, r0, by omega, q2, by omega, fun c h1 h2 => by omega, fun c h1 h2 => by omega, rfl⟩
        rintro s u C ⟨hf, st, r, p1, p2, p3, hlo, hhi, rfl⟩ hC _
        have hru := h.fr0 hf
        refine vIf_mk (fun hlt => ?_) (fun hge => ?_)
        · have hlt2 : (st : Int) < (r : Int) := of_decide_eq_true hlt
          have emm := em st r (by omega) (by omega)
          generalize hcc : (st + r) / 2 = cc at emm
          have epc : IntKind.wrap .i64 (((N - 1 : Nat) : Int) - (cc : Int)) = ((N - 1 - cc : Nat) : Int) := es _ _ (by omega) (by omega)
          have gu : X[cc - P.length]? = some (X[cc - P.length]'(by omega)) := List.getElem?_eq_getElem (by omega)
          have gv : Y[N - 1 - cc - (P.length + X.length)]? = some (Y[N - 1 - cc - (P.length + X.length)]'(by omega)) := List.getElem?_eq_getElem (by omega)
          generalize X[cc - P.length]'(by omega) = x at gu
          generalize Y[N - 1 - cc - (P.length + X.length)]'(by omega) = y at gv
          have hbxy := hb x (List.mem_of_getElem? gu) y (List.mem_of_getElem? gv)
          dsimp only
          rw [emm, epc]
          refine rs_rd h0 hru.drew (i := N - 1 - cc) (x := y) (get_in (P := P ++ X) (X := Y) (R := S) (j := N - 1 - cc - (P.length + X.length)) (by simp; omega) gv) rfl (rs_rd h0 hru.drew (i := cc) (x := x) (by
            have : P ++ X ++ Y ++ S = P ++ X ++ (Y ++ S) := by simp
            rw [this]; exact get_in (j := cc - P.length) (by omega) gu) rfl ((h0.call y.1 x.1 u.drew).mono ?_))
          rintro q u2 ⟨rfl, f2⟩
          have hf2 : Fr (fun _ => False) w u2 := (hf.trans1 (Fr.drew _ _)).trans1 f2
          refine ⟨_, rfl, vIf_mk (fun hc => jnC_mk (hC _ _ ⟨hf2, cc + 1, r, by omega, by omega, p3, fun d d1 d2 u v hu hv => ?_, hhi, by rw [ep _ (by omega)]⟩ ?_)) (fun hc => jnC_mk (hC _ _ ⟨hf2, st, cc, p1, by omega, by omega, hlo, fun d d1 d2 u v hu hv => ?_, rfl⟩ ?_))⟩
          · have hc : ¬ cmp y.1 x.1 < 0 := by simpa using hc
            exact le_lt_le h0.ord sX sY hu gu (by omega) hv gv (by omega) (bef_no h0.ord hbxy hc)
          · show ((r : Int) - IntKind.wrap .i64 ((cc : Int) + 1)).toNat < ((r : Int) - (st : Int)).toNat
            rw [ep _ (by omega)]; omega
          · have hc : cmp y.1 x.1 < 0 := by simpa using hc
            exact le_lt_le h0.ord sY sX hv gv (by omega) hu gu (by omega) (bef_yes h0.ord hbxy hc)
          · show ((cc : Int) - (st : Int)).toNat < ((r : Int) - (st : Int)).toNat
            omega
        · have hge2 : ¬ (st : Int) < (r : Int) := of_decide_eq_false hge
          have hst : r = st := by omega
          subst hst
          clear hC
          have eE : IntKind.wrap .i64 ((N : Int) - (r : Int)) = ((N - r : Nat) : Int) := es _ _ (by omega) (by omega)
          dsimp only
          rw [eE]
          -- the four parts
          have hXs := List.take_append_drop (r - P.length) X
          have hYs := List.take_append_drop (N - r - (P.length + X.length)) Y
          have lX1 : (X.take (r - P.length)).length = r - P.length := take_len (by omega)
          have lX2 : (X.drop (r - P.length)).length = P.length + X.length - r := by rw [List.length_drop]; omega
          have lY1 : (Y.take (N - r - (P.length + X.length))).length = N - r - (P.length + X.length) := take_len (by omega)
          have lY2 : (Y.drop (N - r - (P.length + X.length))).length = P.length + X.length + Y.length - (N - r) := by rw [List.length_drop]; omega
          have D1 : ∀ x ∈ X.take (r - P.length), ∀ y ∈ Y.drop (N - r - (P.length + X.length)), lt cmp x y := fun x hx y hy => by
            obtain ⟨k, hk, hx⟩ := mem_take_at hx
            obtain ⟨l, hl, hy⟩ := mem_drop_at hy
            have hl2 := (List.getElem?_eq_some_iff.1 hy).1
            have hr0 : s0 < r := by
              rcases q6 with q6 | q6 <;> omega
            have gu : X[r - 1 - P.length]? = some (X[r - 1 - P.length]'(by omega)) := List.getElem?_eq_getElem (by omega)
            have gv : Y[N - 1 - (r - 1) - (P.length + X.length)]? = some (Y[N - 1 - (r - 1) - (P.length + X.length)]'(by omega)) := List.getElem?_eq_getElem (by omega)
            exact le_lt_le h0.ord sX sY hx gu (by omega) hy gv (by omega) (hlo (r - 1) (by omega) (by omega) _ _ gu gv)
          have D2 : ∀ y ∈ Y.take (N - r - (P.length + X.length)), ∀ x ∈ X.drop (r - P.length), lt cmp y x := fun y hy x hx => by
            obtain ⟨k, hk, hx⟩ := mem_drop_at hx
            obtain ⟨l, hl, hy⟩ := mem_take_at hy
            have hk2 := (List.getElem?_eq_some_iff.1 hx).1
            have hr0 : r < r0 := by
              rcases q7 with q7 | q7 <;> omega
            have gu : X[r - P.length]? = some (X[r - P.length]'(by omega)) := List.getElem?_eq_getElem (by omega)
            have gv : Y[N - 1 - r - (P.length + X.length)]? = some (Y[N - 1 - r - (P.length + X.length)]'(by omega)) := List.getElem?_eq_getElem (by omega)
            exact le_lt_le h0.ord sY sX hy gv (by omega) hx gu (by omega) (hhi r (by omega) (by omega) _ _ gu gv)
          have sX2 := sX
          have sY2 := sY
          rw [← hXs] at sX2
          rw [← hYs] at sY2
          obtain ⟨sA1, sA2, sA⟩ := sorted_of_app sX2
          obtain ⟨sB1, sB2, sB⟩ := sorted_of_app sY2
          have hb11 : befC (X.take (r - P.length)) (Y.take (N - r - (P.length + X.length))) := fun x hx y hy => hb x (List.mem_of_mem_take hx) y (List.mem_of_mem_take hy)
          have hb22 : befC (X.drop (r - P.length)) (Y.drop (N - r - (P.length + X.length))) := fun x hx y hy => hb x (List.mem_of_mem_drop hx) y (List.mem_of_mem_drop hy)
          have hru2 : RS enc u B A n c (P ++ X.take (r - P.length) ++ X.drop (r - P.length) ++ Y.take (N - r - (P.length + X.length)) ++ (Y.drop (N - r - (P.length + X.length)) ++ S)) := by
            have : P ++ X.take (r - P.length) ++ X.drop (r - P.length) ++ Y.take (N - r - (P.length + X.length)) ++ (Y.drop (N - r - (P.length + X.length)) ++ S) = P ++ X ++ Y ++ S := by
              simp only [List.append_assoc]
              rw [← List.append_assoc (X.take (r - P.length)), hXs, ← List.append_assoc (Y.take (N - r - (P.length + X.length))), hYs]
            rw [this]; exact hru
          have hperm : (X.take (r - P.length) ++ Y.take (N - r - (P.length + X.length)) ++ (X.drop (r - P.length) ++ Y.drop (N - r - (P.length + X.length)))).Perm (X ++ Y) := by
            conv => rhs; rw [← hXs, ← hYs]
            simp only [List.append_assoc]
            exact (List.perm_append_comm_assoc _ _ _).append_left _
          generalize X.take (r - P.length) = A1 at lX1 D1 sA1 sA hb11 hru2 hperm hXs
          generalize X.drop (r - P.length) = A2 at lX2 D2 sA2 sA hb22 hru2 hperm hXs
          generalize Y.take (N - r - (P.length + X.length)) = B1 at lY1 D2 sB1 sB hb11 hru2 hperm hYs
          generalize Y.drop (N - r - (P.length + X.length)) = B2 at lY2 D1 sB2 sB hb22 hru2 hperm hYs
          -- behind the merges of both halves
          have last : ∀ (v : World) (M1 M2 : List (β × Nat)), Fr (fun k => blkOf A = some k) w v → M1.Perm (A1 ++ B1) → Sorted cmp M1 → M2.Perm (A2 ++ B2) → Sorted cmp M2 → RS enc v B A n c (P ++ M1 ++ M2 ++ S) → Value.tuple #[] = Value.tuple #[] ∧ Mrg enc cmp w v B A n c P X Y S := by
            intro v M1 M2 fv m1 s1 m2 s2 hv
            refine ⟨rfl, fv, M1 ++ M2, (m1.append m2).trans hperm, sorted_app s1 s2 (fun x hx y hy => ?_), by simpa using hv⟩
            rcases List.mem_append.1 (m1.mem_iff.1 hx) with hx | hx <;> rcases List.mem_append.1 (m2.mem_iff.1 hy) with hy | hy
            · exact sA x hx y hy
            · exact D1 x hx y hy
            · exact D2 x hx y hy
            · exact sB x hx y hy
          -- the right half
          have right : ∀ (v : World) (M1 : List (β × Nat)), Fr (fun k => blkOf A = some k) w v → M1.Perm (A1 ++ B1) → Sorted cmp M1 → RS enc v B A n c (P ++ M1 ++ (A2 ++ B2) ++ S) →
              jnC (F69s.k43 (fun v w' => v = .tuple #[] ∧ Mrg enc cmp w w' B A n c P X Y S)) ((A, n, c), ((P.length + X.length + Y.length : Nat) : Int), (), (mid : Int), ((N - r : Nat) : Int), ()) v := by
            intro v M1 fv m1 s1 hv
            have lM1 : M1.length = mid - P.length := by rw [m1.length_eq, List.length_append]; omega
            have k44 : ∀ bb : Bool, bb = decide (mid < N - r ∧ N - r < P.length + X.length + Y.length) → jnC (F69s.k44 (fun v w' => v = .tuple #[] ∧ Mrg enc cmp w w' B A n c P X Y S)) ((A, n, c), ((P.length + X.length + Y.length : Nat) : Int), (), (mid : Int), ((N - r : Nat) : Int), bb, ()) v := by
              intro bb hbb
              refine jnC_mk (fun _ => vIf_mk (fun h1 => ?_) (fun h1 => ?_))
              · have h1 : bb = true := h1
                rw [h1] at hbb
                have hh := of_decide_eq_true hbb.symm
                refine (ih (P ++ M1) A2 B2 S v (by omega) (by simpa using hv) sA2 sB2 hb22 (fun h => by rw [h] at lX2; simp at lX2; omega) (fun h => by rw [h] at lY2; simp at lY2; omega) (mid : Int) ((N - r : Nat) : Int) ((P.length + X.length + Y.length : Nat) : Int) (by rw [List.length_append]; omega) (by rw [List.length_append]; omega) (by rw [List.length_append]; omega)).mono ?_
                rintro q v2 ⟨rfl, f2, M2, m2, s2, hv2⟩
                exact ⟨rfl, last v2 M1 M2 (fv.trans1 f2) m1 s1 m2 s2 (by simpa using hv2)⟩
              · have h1 : bb = false := h1
                rw [h1] at hbb
                have hh := of_decide_eq_false hbb.symm
                refine last v M1 (A2 ++ B2) fv m1 s1 (List.Perm.refl _) ?_ (by simpa using hv)
                rcases Nat.lt_or_ge mid (N - r) with hh2 | hh2
                · have : B2 = [] := List.length_eq_zero_iff.1 (by omega)
                  rw [this, List.append_nil]; exact sA2
                · have : A2 = [] := List.length_eq_zero_iff.1 (by omega)
                  rw [this, List.nil_append]; exact sB2
            refine jnC_mk (fun _ => vIf_mk (fun h1 => k44 _ ?_) (fun h1 => k44 _ ?_))
            · have h1 : (mid : Int) < ((N - r : Nat) : Int) := of_decide_eq_true h1
              apply decide_eq_decide.2
              show ((N - r : Nat) : Int) < ((P.length + X.length + Y.length : Nat) : Int) ↔ _
              omega
            · have h1 : ¬ (mid : Int) < ((N - r : Nat) : Int) := of_decide_eq_false h1
              rw [decide_eq_false (fun h => h1 (by omega))]
          -- the left half
          have left : ∀ (v : World), Fr (fun k => blkOf A = some k) w v → RS enc v B A n c (P ++ (A1 ++ B1) ++ (A2 ++ B2) ++ S) →
              jnC (F69s.k41 (fun v w' => v = .tuple #[] ∧ Mrg enc cmp w w' B A n c P X Y S)) ((A, n, c), ((P.length : Nat) : Int), ((P.length + X.length + Y.length : Nat) : Int), (), (mid : Int), (r : Int), ((N - r : Nat) : Int), ()) v := by
            intro v fv hv
            have k42 : ∀ bb : Bool, bb = decide (P.length < r ∧ r < mid) → jnC (F69s.k42 (fun v w' => v = .tuple #[] ∧ Mrg enc cmp w w' B A n c P X Y S)) ((A, n, c), ((P.length : Nat) : Int), ((P.length + X.length + Y.length : Nat) : Int), (), (mid : Int), (r : Int), ((N - r : Nat) : Int), bb, ()) v := by
              intro bb hbb
              refine jnC_mk (fun _ => vIf_mk (fun h1 => ?_) (fun h1 => ?_))
              · have h1 : bb = true := h1
                rw [h1] at hbb
                have hh := of_decide_eq_true hbb.symm
                refine (ih P A1 B1 (A2 ++ B2 ++ S) v (by omega) (by simpa using hv) sA1 sB1 hb11 (fun h => by rw [h] at lX1; simp at lX1; omega) (fun h => by rw [h] at lY1; simp at lY1; omega) ((P.length : Nat) : Int) (r : Int) (mid : Int) rfl (by omega) (by omega)).mono ?_
                rintro q v2 ⟨rfl, f2, M1, m1, s1, hv2⟩
                exact ⟨rfl, right v2 M1 (fv.trans1 f2) m1 s1 (by simpa using hv2)⟩
              · have h1 : bb = false := h1
                rw [h1] at hbb
                have hh := of_decide_eq_false hbb.symm
                refine right v (A1 ++ B1) fv (List.Perm.refl _) ?_ hv
                rcases Nat.lt_or_ge P.length r with hh2 | hh2
                · have : B1 = [] := List.length_eq_zero_iff.1 (by omega)
                  rw [this, List.append_nil]; exact sA1
                · have : A1 = [] := List.length_eq_zero_iff.1 (by omega)
                  rw [this, List.nil_append]; exact sB1
            refine jnC_mk (fun _ => vIf_mk (fun h1 => k42 _ ?_) (fun h1 => k42 _ ?_))
            · have h1 : ((P.length : Nat) : Int) < (r : Int) := of_decide_eq_true h1
              apply decide_eq_decide.2
              show (r : Int) < (mid : Int) ↔ _
              omega
            · have h1 : ¬ ((P.length : Nat) : Int) < (r : Int) := of_decide_eq_false h1
              rw [decide_eq_false (fun h => h1 (by omega))]
          have k40 : ∀ bb : Bool, bb = decide (r < P.length + X.length ∧ P.length + X.length < N - r) → jnC (F69s.k40 (fun v w' => v = .tuple #[] ∧ Mrg enc cmp w w' B A n c P X Y S)) ((A, n, c), ((P.length : Nat) : Int), ((P.length + X.length : Nat) : Int), ((P.length + X.length + Y.length : Nat) : Int), (), (mid : Int), (r : Int), ((N - r : Nat) : Int), bb, ()) u := by
            intro bb hbb
            have fu : Fr (fun k => blkOf A = some k) w u := hf.mono (fun _ _ h => h.elim)
            refine jnC_mk (fun _ => vIf_mk (fun h1 => ?_) (fun h1 => ?_))
            · have h1 : bb = true := h1
              rw [h1] at hbb
              have hh := of_decide_eq_true hbb.symm
              refine (rotate_calls (a := (r : Int)) (m := ((P.length + X.length : Nat) : Int)) (b := ((N - r : Nat) : Int)) h0 B A n c (P ++ A1) A2 B1 (B2 ++ S) u hru2 (fun h => by rw [h] at lX2; simp at lX2; omega) (fun h => by rw [h] at lY1; simp at lY1; omega) hn (by rw [List.length_append]; omega) (by rw [List.length_append]; omega) (by rw [List.length_append]; omega)).mono ?_
              rintro q v ⟨rfl, f2, hv⟩
              exact ⟨rfl, left v (fu.trans1 f2) (by simpa using hv)⟩
            · have h1 : bb = false := h1
              rw [h1] at hbb
              have hh := of_decide_eq_false hbb.symm
              refine left u fu ?_
              rcases Nat.lt_or_ge r (P.length + X.length) with hh2 | hh2
              · have : B1 = [] := List.length_eq_zero_iff.1 (by omega)
                rw [this] at hru2 ⊢
                simpa using hru2
              · have : A2 = [] := List.length_eq_zero_iff.1 (by omega)
                rw [this] at hru2 ⊢
                simpa using hru2
          refine vIf_mk (fun h1 => k40 _ ?_) (fun h1 => k40 _ ?_)
          · have h1 : (r : Int) < ((P.length + X.length : Nat) : Int) := of_decide_eq_true h1
            apply decide_eq_decide.2
            omega
          · have h1 : ¬ (r : Int) < ((P.length + X.length : Nat) : Int) := of_decide_eq_false h1
            rw [decide_eq_false (fun h => h1 (by omega))]
      refine vIf_mk (fun h3 => ?_) (fun h3 => ?_)
      · have h3 : ((P.length + X.length : Nat) : Int) > (mid : Int) := of_decide_eq_true h3
        have eS : IntKind.wrap .i64 ((N : Int) - ((P.length + X.length + Y.length : Nat) : Int)) = ((N - (P.length + X.length + Y.length) : Nat) : Int) := es _ _ (by omega) (by omega)
        rw [eS]
        exact fin _ _ (by omega) (by omega) (by omega) (by omega) (by omega) (.inr (by omega)) (.inr rfl)
      · have h3 : ¬ ((P.length + X.length : Nat) : Int) > (mid : Int) := of_decide_eq_false h3
        exact fin _ _ (by omega) (by omega) (by omega) (by omega) (by omega) (.inl rfl) (.inl rfl)
end
end Go.Proofs.Ytglojgicnchnpaa.StbNm
