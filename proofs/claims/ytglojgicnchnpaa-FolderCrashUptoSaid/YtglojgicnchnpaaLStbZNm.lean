/- stable sorting, walked: insertionSort, the sort: rows of api.Named -/
import Derived.Test.YtglojgicnchnpaaLStbYNm
namespace Go.Proofs.Ytglojgicnchnpaa.StbNm
open Go.GV Go.RowKit Go.Stb
set_option linter.unusedVariables false
set_option linter.unusedSimpArgs false
section
variable {β : Type} {enc : β → List Value} {cmp : β → β → Int}
/-- what a sort of a part leaves -/
def Srted (enc : β → List Value) (cmp : β → β → Int) (w w' : World) (B : Nat) (A : Option Addr) (n c : Nat) (P X S : List (β × Nat)) : Prop :=
  Fr (fun k => blkOf A = some k) w w' ∧ ∃ M, M.Perm X ∧ Sorted cmp M ∧ RS enc w' B A n c (P ++ M ++ S)
set_option maxHeartbeats 1000000 in
theorem insSort_calls (h0 : Srt β enc cmp) (B : Nat) (A : Option Addr) (n c : Nat) (P X S : List (β × Nat)) (w : World) (h : RS enc w B A n c (P ++ X ++ S)) (hb : X.Pairwise bef) (hn : n < 549755813888) {a b : Int} (ha : a = ((P.length : Nat) : Int)) (hbb : b = ((P.length + X.length : Nat) : Int)) :
    Calls Try.prog 68 #[.slice A n c, .int .i64 a, .int .i64 b, cf] w fun e w' => e = .returned (.tuple #[]) ∧ Srted enc cmp w w' B A n c P X S := by
  subst ha; subst hbb
  refine (F68s.of A n c _ _ w (Q := fun v w' => v = .tuple #[] ∧ Srted enc cmp w w' B A n c P X S) ?_).mono (fun e w' ⟨v, he, hv, h⟩ => ⟨by rw [he, hv], h⟩)
  have hlen := h.2
  simp only [List.length_append] at hlen
  by_cases hX0 : X = []
  · subst hX0
    refine jnC_mk (loop_rule (fun s u => u = w ∧ s = ((A, n, c), ((P.length : Nat) : Int), ((P.length + ([] : List (β × Nat)).length : Nat) : Int), (), ((P.length + 1 : Nat) : Int), ())) (fun _ _ => 0) ?_ _ _ ⟨rfl, by rw [ep _ (by omega)]⟩)
    rintro s u C ⟨rfl, rfl⟩ hC _
    refine vIf_f (decide_eq_false ?_) ⟨rfl, Fr.refl _ _, [], List.Perm.refl _, List.Pairwise.nil, h⟩
    show ¬ ((P.length + 1 : Nat) : Int) < ((P.length + ([] : List (β × Nat)).length : Nat) : Int)
    simp only [List.length_nil]
    omega
  obtain ⟨x0, X0, rfl⟩ : ∃ x r, X = x :: r := by
    cases X with
    | nil => exact absurd rfl hX0
    | cons x r => exact ⟨x, r, rfl⟩
  refine jnC_mk (loop_rule (fun s u => Fr (fun k => blkOf A = some k) w u ∧ ∃ X1 M X2 : List (β × Nat), X1 ++ X2 = x0 :: X0 ∧ M.Perm X1 ∧ Sorted cmp M ∧ M ≠ [] ∧ s = ((A, n, c), ((P.length : Nat) : Int), ((P.length + (x0 :: X0).length : Nat) : Int), (), ((P.length + M.length : Nat) : Int), ()) ∧ RS enc u B A n c (P ++ M ++ X2 ++ S))
    (fun s _ => (P.length + (x0 :: X0).length - s.2.2.2.2.1).toNat) ?_ _ _ ⟨Fr.refl _ _, [x0], [x0], X0, rfl, List.Perm.refl _, List.pairwise_singleton _ _, by simp, by rw [ep _ (by omega)]; rfl, by simpa using h⟩)
  rintro s u C1 ⟨hf, X1, M, X2, hX, hM, sM, hM0, rfl, hr⟩ hC1 _
  have hXl : X1.length + X2.length = (x0 :: X0).length := by rw [← hX, List.length_append]
  have hMl := hM.length_eq
  refine vIf_mk (fun hlt => ?_) (fun hge => ?_)
  · have hlt2 : ((P.length + M.length : Nat) : Int) < ((P.length + (x0 :: X0).length : Nat) : Int) := of_decide_eq_true hlt
    obtain ⟨x, X2', rfl⟩ : ∃ x r, X2 = x :: r := by
      cases X2 with
      | nil => simp at hXl hlt2; omega
      | cons x r => exact ⟨x, r, rfl⟩
    simp only [List.length_cons] at hXl hlt2 hlen
    have hbx : ∀ y ∈ M, bef y x := fun y hy => by
      rw [← hX] at hb
      exact (List.pairwise_append.1 hb).2.2 y (hM.mem_iff.1 hy) x (List.mem_cons_self ..)
    have hM1 : M.length ≠ 0 := fun h => hM0 (List.length_eq_zero_iff.1 h)
    -- x goes down
    refine jnC_mk (loop_rule (fun s v => Fr (fun k => blkOf A = some k) w v ∧ ∃ U V : List (β × Nat), U ++ V = M ∧ (∀ y ∈ V, lt cmp x y) ∧ s = ((A, n, c), ((P.length : Nat) : Int), ((P.length + (x0 :: X0).length : Nat) : Int), (), ((P.length + M.length : Nat) : Int), ((P.length + U.length : Nat) : Int), ()) ∧ RS enc v B A n c (P ++ U ++ x :: V ++ X2' ++ S))
      (fun s _ => s.2.2.2.2.2.1.toNat) ?_ _ _ ⟨hf, M, [], by simp, by simp, rfl, by simpa using hr⟩)
    rintro s v C ⟨hfv, U, V, hUV, hVx, rfl, hrv⟩ hC _
    have hUVl : U.length + V.length = M.length := by rw [← hUV, List.length_append]
    have sUV := sM
    rw [← hUV] at sUV
    obtain ⟨sU, sV, sUV2⟩ := sorted_of_app sUV
    have next : ∀ u2 : World, Fr (fun k => blkOf A = some k) w u2 → RS enc u2 B A n c (P ++ U ++ x :: V ++ X2' ++ S) → (∀ y ∈ U, lt cmp y x) → C1 ((A, n, c), ((P.length : Nat) : Int), ((P.length + (x0 :: X0).length : Nat) : Int), (), IntKind.wrap .i64 (((P.length + M.length : Nat) : Int) + 1), ()) u2 := by
      intro u2 f2 h2 hUx
      refine hC1 _ _ ⟨f2, X1 ++ [x], U ++ x :: V, X2', by rw [← hX]; simp, ?_, ?_, by simp, ?_, by simpa using h2⟩ ?_
      · refine List.perm_middle.trans ?_
        rw [hUV]
        exact (hM.cons x).trans (List.perm_append_singleton _ _).symm
      · refine sorted_app sU (List.pairwise_cons.2 ⟨hVx, sV⟩) (fun y hy z hz => ?_)
        rcases List.mem_cons.1 hz with rfl | hz
        · exact hUx y hy
        · exact sUV2 y hy z hz
      · have : (U ++ x :: V).length = M.length + 1 := by simp; omega
        rw [ep _ (by omega), this]; rfl
      · show (((P.length : Nat) : Int) + (((x0 :: X0).length : Nat) : Int) - IntKind.wrap .i64 (((P.length + M.length : Nat) : Int) + 1)).toNat < (((P.length : Nat) : Int) + (((x0 :: X0).length : Nat) : Int) - ((P.length + M.length : Nat) : Int)).toNat
        rw [ep _ (by omega), List.length_cons]; omega
    have hvd := hrv.drew
    have fvd : Fr (fun k => blkOf A = some k) w v.drew := hfv.trans1 (Fr.drew _ _)
    refine vIf_mk (fun hj => ?_) (fun hj => ?_)
    · have hj2 : ((P.length + U.length : Nat) : Int) > ((P.length : Nat) : Int) := of_decide_eq_true hj
      obtain ⟨U', z, rfl⟩ : ∃ U' z, U = U' ++ [z] := by
        have hne : U ≠ [] := by intro h; subst h; simp at hj2
        exact ⟨U.dropLast, U.getLast hne, (List.dropLast_concat_getLast hne).symm⟩
      simp only [List.length_append, List.length_cons, List.length_nil] at hUVl hj2
      have l1 : P ++ (U' ++ [z]) ++ x :: V ++ X2' ++ S = (P ++ U') ++ z :: (x :: V ++ X2' ++ S) := by simp
      have l2 : P ++ (U' ++ [z]) ++ x :: V ++ X2' ++ S = (P ++ (U' ++ [z])) ++ x :: (V ++ X2' ++ S) := by simp
      have ek : IntKind.wrap .i64 (((P.length + (U' ++ [z]).length : Nat) : Int) - 1) = ((P.length + U'.length : Nat) : Int) := by rw [e1 _ (by simp; omega) (by simp; omega)]; simp only [List.length_append, List.length_cons, List.length_nil]; omega
      have gx := fun (t : World) (ht : RS enc t B A n c (P ++ (U' ++ [z]) ++ x :: V ++ X2' ++ S)) {K : List Value → Prop} (hK : K (enc x.1)) => rs_rd h0 ht (i := P.length + (U' ++ [z]).length) (x := x) (by rw [l2]; exact get_mid (by simp)) rfl hK
      have gz := fun (t : World) (ht : RS enc t B A n c (P ++ (U' ++ [z]) ++ x :: V ++ X2' ++ S)) {K : List Value → Prop} (hK : K (enc z.1)) => rs_rd h0 ht (i := P.length + U'.length) (x := z) (by rw [l1]; exact get_mid (by simp)) ek hK
      refine gx _ hvd (gz _ hvd ((h0.call x.1 z.1 v.drew).mono ?_))
      rintro r v2 ⟨rfl, f2⟩
      have fv2 := fvd.trans1 (f2.mono (T := fun k => blkOf A = some k) (fun _ _ h => h.elim))
      have hv2 := hvd.fr0 f2
      have hzM : z ∈ M := by rw [← hUV]; simp
      have hbz := hbx z hzM
      refine ⟨_, rfl, vIf_mk (fun hc => jnC_mk (fun _ => ?_)) (fun hc => jnC_mk (next v2 fv2 hv2 (fun y hy => ?_)))⟩
      · have hxz := bef_yes h0.ord hbz (of_decide_eq_true hc)
        have hv3 := hv2.drew
        refine gz _ hv3 (gx _ hv3 ?_)
        refine rs_swap h0 hv3 (i := P.length + (U' ++ [z]).length) (j := P.length + U'.length) (x := x) (y := z) (by simp; omega) (by omega) rfl ek (fun w' hr' f' => jnC_mk (hC _ _ ⟨(fv2.trans1 (Fr.drew _ _)).trans1 f', U', z :: V, by rw [← hUV]; simp, fun y hy => ?_, ?_, ?_⟩ ?_))
        · rcases List.mem_cons.1 hy with rfl | hy
          · exact hxz
          · exact hVx y hy
        · show (_, _, _, _, _, IntKind.wrap .i64 (((P.length + (U' ++ [z]).length : Nat) : Int) - 1), ()) = _
          rw [ek]
        · rw [l2, set_mid (by simp)] at hr'
          have l3 : (P ++ (U' ++ [z])) ++ z :: (V ++ X2' ++ S) = (P ++ U') ++ z :: (z :: (V ++ X2' ++ S)) := by simp
          rw [l3, set_mid (by simp)] at hr'
          have l4 : (P ++ U') ++ x :: (z :: (V ++ X2' ++ S)) = P ++ U' ++ x :: (z :: V) ++ X2' ++ S := by simp
          rw [l4] at hr'; exact hr'
        · show (IntKind.wrap .i64 (((P.length + (U' ++ [z]).length : Nat) : Int) - 1)).toNat < (((P.length + (U' ++ [z]).length : Nat) : Int)).toNat
          rw [ek]; simp only [List.length_append, List.length_cons, List.length_nil]; omega
      · have hzx := bef_no h0.ord hbz (of_decide_eq_false hc)
        rcases List.mem_append.1 hy with hy | hy
        · refine lt_trans h0.ord ?_ hzx
          exact (sorted_of_app sU).2.2 y hy z (by simp)
        · simp at hy; subst hy; exact hzx
    · have hj2 : ¬ ((P.length + U.length : Nat) : Int) > ((P.length : Nat) : Int) := of_decide_eq_false hj
      have hU : U = [] := List.length_eq_zero_iff.1 (by omega)
      exact jnC_mk (next v.drew fvd hvd (fun y hy => by rw [hU] at hy; cases hy))
  · have hge2 : ¬ ((P.length + M.length : Nat) : Int) < ((P.length + (x0 :: X0).length : Nat) : Int) := of_decide_eq_false hge
    have hX2 : X2 = [] := List.length_eq_zero_iff.1 (by omega)
    subst hX2
    rw [List.append_nil] at hX hr
    subst hX
    exact ⟨rfl, hf, M, hM, sM, hr⟩
/-! ### the sort -/
/-- sorted blocks of k, and less than k behind them -/
structure Blk (cmp : β → β → Int) (k : Nat) (Fs : List (List (β × Nat))) (t : List (β × Nat)) : Prop where
  len : ∀ f ∈ Fs, f.length = k
  srt : ∀ f ∈ Fs, Sorted cmp f
  tl : t.length < k
  ts : Sorted cmp t
  bf : (Fs ++ [t]).Pairwise befC
theorem bef_chunks {X Y : List (β × Nat)} (h : (X ++ Y).Pairwise bef) : befC X Y := (List.pairwise_append.1 h).2.2
set_option maxHeartbeats 2000000 in
theorem stable_calls (h0 : Srt β enc cmp) (B : Nat) (A : Option Addr) (n c : Nat) (X : List (β × Nat)) (w : World) (h : RS enc w B A n c X) (hb : X.Pairwise bef) (hn : n < 68719476736) :
    Calls Try.prog 59 #[.slice A n c, .int .i64 (n : Nat), cf] w fun e w' => e = .returned (.tuple #[]) ∧ Srted enc cmp w w' B A n c [] X [] := by
  refine (F59s.of A n c _ w (Q := fun v w' => v = .tuple #[] ∧ Srted enc cmp w w' B A n c [] X []) ?_).mono (fun e w' ⟨v, he, hv, h⟩ => ⟨by rw [he, hv], h⟩)
  have hXl := h.2
  -- the merges
  have merges : ∀ (u : World) (Fs : List (List (β × Nat))) (t : List (β × Nat)), Fr (fun k => blkOf A = some k) w u → (Fs.flatten ++ t).Perm X → Blk cmp 20 Fs t → RS enc u B A n c (Fs.flatten ++ t) →
      jnC (F59s.l7 (fun v w' => v = .tuple #[] ∧ Srted enc cmp w w' B A n c [] X [])) ((A, n, c), (n : Int), (), 20, ()) u := by
    intro u Fs t hf hp hB hr
    refine jnC_mk (loop_rule (fun s u => Fr (fun k => blkOf A = some k) w u ∧ ∃ (k : Nat) (Fs : List (List (β × Nat))) (t : List (β × Nat)), 20 ≤ k ∧ k ≤ 2 * n + 20 ∧ s = ((A, n, c), (n : Int), (), (k : Int), ()) ∧ (Fs.flatten ++ t).Perm X ∧ Blk cmp k Fs t ∧ RS enc u B A n c (Fs.flatten ++ t))
      (fun s _ => (2 * (n : Int) + 20 - s.2.2.2.1).toNat) ?_ _ _ ⟨hf, 20, Fs, t, by omega, by omega, rfl, hp, hB, hr⟩)
    clear hr hB hp hf
    rintro s u C7 ⟨hf, k, Fs, t, hk1, hk2, rfl, hp, hB, hr⟩ hC7 _
    refine vIf_mk (fun hlt => ?_) (fun hge => ?_)
    · have hlt2 : (k : Int) < (n : Int) := of_decide_eq_true hlt
      have e2k : IntKind.wrap .i64 (2 * (k : Int)) = ((2 * k : Nat) : Int) := by rw [i64_id (by omega) (by omega)]; omega
      have ek2 : IntKind.wrap .i64 ((k : Int) * 2) = ((2 * k : Nat) : Int) := by rw [i64_id (by omega) (by omega)]; omega
      dsimp only
      rw [e2k]
      -- behind the last merge of a round
      have done : ∀ (v : World) (Ds : List (List (β × Nat))) (t' : List (β × Nat)), Fr (fun k => blkOf A = some k) w v → (Ds.flatten ++ t').Perm X → Blk cmp (2 * k) Ds t' → RS enc v B A n c (Ds.flatten ++ t') → C7 ((A, n, c), (n : Int), (), IntKind.wrap .i64 ((k : Int) * 2), ()) v := by
        intro v Ds t' fv hp' hB' hr'
        refine hC7 _ _ ⟨fv, 2 * k, Ds, t', by omega, by omega, by rw [ek2], hp', hB', hr'⟩ ?_
        show (2 * (n : Int) + 20 - IntKind.wrap .i64 ((k : Int) * 2)).toNat < (2 * (n : Int) + 20 - (k : Int)).toNat
        rw [ek2]; omega
      refine jnC_mk (loop_rule (fun s v => Fr (fun k => blkOf A = some k) w v ∧ ∃ (Ds Fs : List (List (β × Nat))), (Ds.flatten ++ (Fs.flatten ++ t)).Perm X ∧ (∀ d ∈ Ds, d.length = 2 * k ∧ Sorted cmp d) ∧ (∀ f ∈ Fs, f.length = k ∧ Sorted cmp f) ∧ (Ds ++ (Fs ++ [t])).Pairwise befC ∧ s = ((A, n, c), (n : Int), (), (k : Int), ((Ds.flatten.length : Nat) : Int), ((Ds.flatten.length + 2 * k : Nat) : Int), ()) ∧ RS enc v B A n c (Ds.flatten ++ (Fs.flatten ++ t)))
        (fun s _ => ((n : Int) - s.2.2.2.2.1).toNat) ?_ _ _ ⟨hf, [], Fs, by simpa using hp, by simp, fun f hf => ⟨hB.len f hf, hB.srt f hf⟩, hB.bf, by simp, by simpa using hr⟩)
      have ht := hB.tl
      have hts := hB.ts
      clear hr hB hp hf
      rintro s v C9 ⟨hf, Ds, Fs, hp, hD, hF, hbf, rfl, hr⟩ hC9 _
      have hl := hr.2
      simp only [List.length_append] at hl
      have hFl := flat_len (fun f hf => (hF f hf).1)
      have eAk : IntKind.wrap .i64 (((Ds.flatten.length : Nat) : Int) + (k : Int)) = ((Ds.flatten.length + k : Nat) : Int) := ea _ _ (by omega) (by omega)
      refine vIf_mk (fun hlt => ?_) (fun hge => ?_)
      · have hlt2 : ((Ds.flatten.length + 2 * k : Nat) : Int) ≤ (n : Int) := of_decide_eq_true hlt
        obtain ⟨f1, f2, Fs', rfl⟩ : ∃ f1 f2 r, Fs = f1 :: f2 :: r := by
          match Fs, hFl with
          | [], hFl => simp only [List.flatten_nil, List.length_nil] at hFl hl; omega
          | [f], hFl => simp only [List.length_cons, List.length_nil] at hFl; omega
          | f1 :: f2 :: r, _ => exact ⟨f1, f2, r, rfl⟩
        have q1 := hF f1 (List.mem_cons_self ..)
        have q2 := hF f2 (List.mem_cons_of_mem _ (List.mem_cons_self ..))
        have hfl : Ds.flatten ++ ((f1 :: f2 :: Fs').flatten ++ t) = Ds.flatten ++ f1 ++ f2 ++ (Fs'.flatten ++ t) := by simp
        rw [hfl] at hr hp
        dsimp only
        rw [eAk]
        refine (symMerge_calls h0 B A n c (by omega) _ Ds.flatten f1 f2 (Fs'.flatten ++ t) v (Nat.le_refl _) hr q1.2 q2.2 (befC_two (Ds := Ds) (R := Fs' ++ [t]) (by simpa using hbf)) (fun h => by rw [h] at q1; have := q1.1; simp only [List.length_nil] at this; omega) (fun h => by rw [h] at q2; have := q2.1; simp only [List.length_nil] at this; omega) ((Ds.flatten.length : Nat) : Int) ((Ds.flatten.length + k : Nat) : Int) ((Ds.flatten.length + 2 * k : Nat) : Int) rfl (by rw [q1.1]) (by rw [q1.1, q2.1]; omega)).mono ?_
        rintro r v2 ⟨rfl, f', M, mM, sM, hr'⟩
        have lM : M.length = 2 * k := by rw [mM.length_eq, List.length_append, q1.1, q2.1]; omega
        have hfl2 : Ds.flatten ++ M ++ (Fs'.flatten ++ t) = (Ds ++ [M]).flatten ++ (Fs'.flatten ++ t) := by simp
        rw [hfl2] at hr'
        have lD2 : (Ds ++ [M]).flatten.length = Ds.flatten.length + 2 * k := by rw [List.flatten_append, List.flatten_cons, List.flatten_nil, List.append_nil, List.length_append, lM]
        refine ⟨rfl, jnC_mk (hC9 _ _ ⟨hf.trans1 f', Ds ++ [M], Fs', ?_, fun d hd => ?_, fun f hf => hF f (List.mem_cons_of_mem _ (List.mem_cons_of_mem _ hf)), ?_, ?_, hr'⟩ ?_)⟩
        · rw [← hfl2]
          refine List.Perm.trans ?_ hp
          simp only [List.append_assoc]
          exact (((mM.append_right _).trans (by simp)).append_left _)
        · rcases List.mem_append.1 hd with hd | hd
          · exact hD d hd
          · simp at hd; subst hd; exact ⟨lM, sM⟩
        · have := befC_merge (Ds := Ds) (R := Fs' ++ [t]) (by simpa using hbf) mM
          simpa using this
        · show (_, _, _, _, ((Ds.flatten.length + 2 * k : Nat) : Int), IntKind.wrap .i64 (((Ds.flatten.length + 2 * k : Nat) : Int) + IntKind.wrap .i64 (2 * (k : Int))), ()) = _
          rw [e2k, ea _ _ (by omega) (by omega), lD2]
        · show ((n : Int) - ((Ds.flatten.length + 2 * k : Nat) : Int)).toNat < ((n : Int) - ((Ds.flatten.length : Nat) : Int)).toNat
          omega
      · have hge2 : ¬ ((Ds.flatten.length + 2 * k : Nat) : Int) ≤ (n : Int) := of_decide_eq_false hge
        clear hC9
        dsimp only
        rw [eAk]
        have hFs : Fs.length ≤ 1 := by
          rcases Nat.lt_or_ge Fs.length 2 with h' | h'
          · omega
          · have : 2 * k ≤ Fs.length * k := Nat.mul_le_mul_right _ h'
            omega
        match Fs, hFs with
        | [], _ =>
          simp only [List.flatten_nil, List.nil_append, List.length_nil] at hr hp hl hbf
          refine vIf_f (decide_eq_false (by omega)) (jnC_mk (done v Ds t hf hp ⟨fun d hd => (hD d hd).1, fun d hd => (hD d hd).2, by omega, hts, hbf⟩ hr))
        | [f], _ =>
          have q1 := hF f (List.mem_cons_self ..)
          simp only [List.flatten_cons, List.flatten_nil, List.append_nil] at hr hp hl
          have hbf2 : (Ds ++ f :: t :: []).Pairwise befC := by simpa using hbf
          refine vIf_mk (fun hm => ?_) (fun hm => ?_)
          · have hm2 : ((Ds.flatten.length + k : Nat) : Int) < (n : Int) := of_decide_eq_true hm
            have hr2 : RS enc v B A n c (Ds.flatten ++ f ++ t ++ []) := by simpa using hr
            refine (symMerge_calls h0 B A n c (by omega) _ Ds.flatten f t [] v (Nat.le_refl _) hr2 q1.2 hts (befC_two hbf2) (fun h => by rw [h] at q1; have := q1.1; simp only [List.length_nil] at this; omega) (fun h => by rw [h] at hl; simp only [List.length_nil] at hl; omega) ((Ds.flatten.length : Nat) : Int) ((Ds.flatten.length + k : Nat) : Int) (n : Int) rfl (by rw [q1.1]) (by omega)).mono ?_
            rintro r v2 ⟨rfl, f', M, mM, sM, hr'⟩
            have lM : M.length = k + t.length := by rw [mM.length_eq, List.length_append, q1.1]
            refine ⟨rfl, jnC_mk (done v2 Ds M (hf.trans1 f') ((mM.append_left _).trans hp) ⟨fun d hd => (hD d hd).1, fun d hd => (hD d hd).2, by omega, sM, ?_⟩ (by simpa using hr'))⟩
            exact befC_merge hbf2 mM
          · have hm2 : ¬ ((Ds.flatten.length + k : Nat) : Int) < (n : Int) := of_decide_eq_false hm
            have ht0 : t = [] := List.length_eq_zero_iff.1 (by omega)
            rw [ht0, List.append_nil] at hr hp
            refine jnC_mk (done v Ds f hf hp ⟨fun d hd => (hD d hd).1, fun d hd => (hD d hd).2, by omega, q1.2, ?_⟩ hr)
            exact befC_merge hbf2 (by rw [ht0, List.append_nil])
    · have hge2 : ¬ (k : Int) < (n : Int) := of_decide_eq_false hge
      have hl := hr.2
      simp only [List.length_append] at hl
      have hFl := flat_len hB.len
      have hFs : Fs.length ≤ 1 := by
        rcases Nat.lt_or_ge Fs.length 2 with h' | h'
        · omega
        · have : 2 * k ≤ Fs.length * k := Nat.mul_le_mul_right _ h'
          omega
      match Fs, hFs with
      | [], _ =>
        simp only [List.flatten_nil, List.nil_append] at hr hp
        exact ⟨rfl, hf, t, hp, hB.ts, by simpa using hr⟩
      | [f], _ =>
        have q1 := hB.len f (List.mem_cons_self ..)
        have q2 := hB.srt f (List.mem_cons_self ..)
        simp only [List.flatten_cons, List.flatten_nil, List.append_nil] at hr hp hl
        have ht0 : t = [] := List.length_eq_zero_iff.1 (by omega)
        rw [ht0, List.append_nil] at hr hp
        exact ⟨rfl, hf, f, hp, q2, by simpa using hr⟩
  -- the blocks
  refine jnC_mk (loop_rule (fun s u => Fr (fun k => blkOf A = some k) w u ∧ ∃ (X1 X2 : List (β × Nat)) (Fs : List (List (β × Nat))), X1 ++ X2 = X ∧ Fs.flatten.Perm X1 ∧ (∀ f ∈ Fs, f.length = 20 ∧ Sorted cmp f) ∧ Fs.Pairwise befC ∧ s = ((A, n, c), (n : Int), (), 20, ((Fs.flatten.length : Nat) : Int), ((Fs.flatten.length + 20 : Nat) : Int), ()) ∧ RS enc u B A n c (Fs.flatten ++ X2))
    (fun s _ => ((n : Int) - s.2.2.2.2.1).toNat) ?_ _ _ ⟨Fr.refl _ _, [], X, [], rfl, List.Perm.refl _, by simp, List.Pairwise.nil, rfl, by simpa using h⟩)
  rintro s u C ⟨hf, X1, X2, Fs, hX, hp, hF, hbf, rfl, hr⟩ hC _
  have hl := hr.2
  simp only [List.length_append] at hl
  rw [← hX] at hb
  obtain ⟨b1, b2, b3⟩ := List.pairwise_append.1 hb
  refine vIf_mk (fun hlt => ?_) (fun hge => ?_)
  · have hlt2 : ((Fs.flatten.length + 20 : Nat) : Int) ≤ (n : Int) := of_decide_eq_true hlt
    have hX2 := List.take_append_drop 20 X2
    have lY : (X2.take 20).length = 20 := take_len (by omega)
    have b4 := b2
    rw [← hX2] at b4
    obtain ⟨b5, b6, b7⟩ := List.pairwise_append.1 b4
    have hr2 : RS enc u B A n c (Fs.flatten ++ X2.take 20 ++ X2.drop 20) := by
      rw [List.append_assoc, hX2]; exact hr
    refine (insSort_calls h0 B A n c Fs.flatten (X2.take 20) (X2.drop 20) u hr2 b5 (by omega) rfl (by rw [lY])).mono ?_
    rintro r u2 ⟨rfl, f2, M, mM, sM, hr3⟩
    have lM : M.length = 20 := by rw [mM.length_eq, lY]
    have lF : (Fs ++ [M]).flatten.length = Fs.flatten.length + 20 := by rw [List.flatten_append, List.flatten_cons, List.flatten_nil, List.append_nil, List.length_append, lM]
    refine ⟨rfl, jnC_mk (hC _ _ ⟨hf.trans1 f2, X1 ++ X2.take 20, X2.drop 20, Fs ++ [M], by rw [List.append_assoc, hX2, hX], ?_, fun f hf => ?_, ?_, ?_, by simpa using hr3⟩ ?_)⟩
    · rw [List.flatten_append, List.flatten_cons, List.flatten_nil, List.append_nil]
      exact hp.append mM
    · rcases List.mem_append.1 hf with hf | hf
      · exact hF f hf
      · simp at hf; subst hf; exact ⟨lM, sM⟩
    · refine List.pairwise_append.2 ⟨hbf, List.pairwise_singleton _ _, fun f hf m hm x hx y hy => ?_⟩
      simp at hm; subst hm
      exact b3 x (hp.mem_iff.1 (List.mem_flatten.2 ⟨f, hf, hx⟩)) y (List.mem_of_mem_take (mM.mem_iff.1 hy))
    · show (_, _, _, _, ((Fs.flatten.length + 20 : Nat) : Int), IntKind.wrap .i64 (((Fs.flatten.length + 20 : Nat) : Int) + 20), ()) = _
      rw [lF, i64_id (by omega) (by omega)]; congr 6
    · show ((n : Int) - ((Fs.flatten.length + 20 : Nat) : Int)).toNat < ((n : Int) - ((Fs.flatten.length : Nat) : Int)).toNat
      omega
  · have hge2 : ¬ ((Fs.flatten.length + 20 : Nat) : Int) ≤ (n : Int) := of_decide_eq_false hge
    refine (insSort_calls h0 B A n c Fs.flatten X2 [] u (by simpa using hr) b2 (by omega) rfl (by show (n : Int) = _; omega)).mono ?_
    rintro r u2 ⟨rfl, f2, M, mM, sM, hr3⟩
    refine ⟨rfl, merges u2 Fs M (hf.trans1 f2) ?_ ⟨fun f hf => (hF f hf).1, fun f hf => (hF f hf).2, by rw [mM.length_eq]; omega, sM, ?_⟩ (by simpa using hr3)⟩
    · rw [← hX]; exact hp.append mM
    · refine List.pairwise_append.2 ⟨hbf, List.pairwise_singleton _ _, fun f hf m hm x hx y hy => ?_⟩
      simp at hm; subst hm
      exact b3 x (hp.mem_iff.1 (List.mem_flatten.2 ⟨f, hf, hx⟩)) y (mM.mem_iff.1 hy)
/-- SortStableFunc: the row in its stable order -/
theorem sortStable_calls (h0 : Srt β enc cmp) (B : Nat) (A : Option Addr) (n c : Nat) (X : List β) (w : World) (h : Row w B 48 2 A n c (flt enc X)) (hl : X.length = n) (hn : n < 68719476736) :
    Calls Try.prog 41 #[.slice A n c, cf] w fun e w' => e = .returned (.tuple #[]) ∧ Fr (fun k => blkOf A = some k) w w' ∧ Row w' B 48 2 A n c (flt enc (stab cmp X)) := by
  refine (F41s.of A n c w (Q := fun v w' => v = .tuple #[] ∧ Fr (fun k => blkOf A = some k) w w' ∧ Row w' B 48 2 A n c (flt enc (stab cmp X))) ?_).mono (fun e w' ⟨v, he, hv, h⟩ => ⟨by rw [he, hv], h⟩)
  have hflt : ∀ l : List (β × Nat), flt (encT enc) l = flt enc (l.map (·.1)) := fun l => by
    unfold flt
    rw [List.map_map]
    rfl
  have hR : RS enc w B A n c (tagL X) := ⟨by rw [hflt, tagL_fst]; exact h, by simp [tagL, hl]⟩
  have hb : (tagL X).Pairwise bef := by
    unfold tagL bef
    rw [List.pairwise_iff_getElem]
    intro i j hi hj hij
    simp
    omega
  refine (stable_calls h0 B A n c (tagL X) w hR hb hn).mono ?_
  rintro r w2 ⟨rfl, f, M, mM, sM, hr⟩
  refine ⟨rfl, rfl, f, ?_⟩
  have h1 := hr.1
  rw [List.nil_append, List.append_nil, hflt, stab_of h0.ord sM mM] at h1
  exact h1
end
end Go.Proofs.Ytglojgicnchnpaa.StbNm
