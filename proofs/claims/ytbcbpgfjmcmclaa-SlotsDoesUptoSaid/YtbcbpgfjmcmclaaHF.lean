/- chapter 18: New, Len, Slots, lives; the law of many digests. -/
import Derived.Test.YtbcbpgfjmcmclaaHE
namespace Go.Proofs.Ytbcbpgfjmcmclaa
open Go.GV Go.RowKit Go.Slots
set_option linter.unusedVariables false
set_option linter.unusedSimpArgs false
def row0 (n : Nat) : SRow := List.replicate n none
theorem row0_no (n : Nat) : ∀ p k v, ¬ At (row0 n) p k v := fun p k v h => by
  have h1 := List.mem_of_getElem? h
  have h2 := (List.mem_replicate.1 h1).2
  cases h2
theorem row0_inv {n : Nat} (h : 0 < n) : Inv (homeOf n) n (row0 n) :=
  ⟨by simp [row0], fun k => homeOf_lt h k, fun p k v h => absurd h (row0_no n p k v), fun p q k v v' h => absurd h (row0_no n p k v)⟩
theorem row0_tab (n : Nat) : TabC n (row0 n) (zeros n Z59) := by
  have Zl : Z59.length = 34 := rfl
  refine ⟨by rw [zeros_length, Zl], by simp [row0], fun i o hi => ?_, fun v hv => ?_⟩
  · have hil := (List.getElem?_eq_some_iff.1 hi).1
    rw [row0, List.length_replicate] at hil
    have : o = none := (List.mem_replicate.1 (List.mem_of_getElem? hi)).2
    subst this
    show (zeros n Z59)[i * 34]? = some (.bool false)
    rw [zeros_get Z59 n (i * 34) (by rw [Zl]; omega), Zl, Nat.mul_mod_left]
    rfl
  · simp only [zeros, List.mem_flatten, List.mem_replicate] at hv
    obtain ⟨l, ⟨_, rfl⟩, hv⟩ := hv
    revert v
    decide +kernel
theorem new_calls (w : World) : Calls Try.prog 7 #[] w fun e w' => ∃ bt bs, e = .returned (.pointer (some ⟨bt, 0, none⟩)) ∧ Fr (fun _ => False) w w' ∧ Tab w' w.heap.size bt bs 8 (row0 8) ∧ w.heap.size ≤ w'.heap.size := by
  refine (F7.of w (Q := fun v w' => ∃ bt bs, v = .pointer (some ⟨bt, 0, none⟩) ∧ Fr (fun _ => False) w w' ∧ Tab w' w.heap.size bt bs 8 (row0 8) ∧ w.heap.size ≤ w'.heap.size) ?_).mono (fun e w' ⟨v, he, bt, bs, hv, h⟩ => ⟨bt, bs, by rw [he, hv], h⟩)
  refine nw_mk (nw_mk ?_)
  have f1 : Fr (fun _ => False) w (w.alloc (.cells (zeros 8 Z59).toArray 59)) := Fr.alloc _ _ _
  have r1 : RecAt (w.alloc (.cells (zeros 8 Z59).toArray 59)) w.heap.size 59 (zeros 8 Z59) := RecAt.new w _ _
  have hs1 : (w.alloc (.cells (zeros 8 Z59).toArray 59)).heap.size = w.heap.size + 1 := alloc_size _ _
  generalize w.alloc (.cells (zeros 8 Z59).toArray 59) = w1 at f1 r1 hs1 ⊢
  have f2 : Fr (fun _ => False) w1 (w1.alloc (.cells ([Value.slice (some ⟨w.heap.size, 0, none⟩) 8 8] ++ ([Value.int .i64 0] ++ [])).toArray 57)) := Fr.alloc _ _ _
  have r2 : RecAt (w1.alloc (.cells ([Value.slice (some ⟨w.heap.size, 0, none⟩) 8 8] ++ ([Value.int .i64 0] ++ [])).toArray 57)) w1.heap.size 57 ([Value.slice (some ⟨w.heap.size, 0, none⟩) 8 8] ++ ([Value.int .i64 0] ++ [])) := RecAt.new w1 _ _
  refine ⟨w1.heap.size, w.heap.size, rfl, f1.trans1 f2, ⟨⟨57, 59, zeros 8 Z59, r2, r1.fr f2 (fun h => h), by omega, row0_tab 8⟩, row0_inv (by omega), by omega, by rw [row0, cntF_none]; omega, by omega, by omega, by omega⟩, by rw [alloc_size]; omega⟩
theorem len_calls {B bt bs N : Nat} {S : SRow} {w : World} (h : Tab w B bt bs N S) : Calls Try.prog 11 #[.pointer (some ⟨bt, 0, none⟩)] w fun e w' => e = .returned (.int .i64 (cntF S : Nat)) ∧ w' = w := by
  refine (F11.of (some ⟨bt, 0, none⟩) w (Q := fun v w' => v = .int .i64 (cntF S : Nat) ∧ w' = w) ?_).mono (fun e w' ⟨v, he, hv, h⟩ => ⟨by rw [he, hv], h⟩)
  obtain ⟨ty, ty', cs, ht⟩ := h.at_
  exact vIf_f rfl (dr_mk ⟨_, ht.hd.cell rfl, rfl, rfl⟩)
theorem slots_calls {B bt bs N : Nat} {S : SRow} {w : World} (h : Tab w B bt bs N S) : Calls Try.prog 12 #[.pointer (some ⟨bt, 0, none⟩)] w fun e w' => e = .returned (.int .i64 (N : Nat)) ∧ w' = w := by
  refine (F12.of (some ⟨bt, 0, none⟩) w (Q := fun v w' => v = .int .i64 (N : Nat) ∧ w' = w) ?_).mono (fun e w' ⟨v, he, hv, h⟩ => ⟨by rw [he, hv], h⟩)
  obtain ⟨ty, ty', cs, ht⟩ := h.at_
  exact vIf_f rfl (dr_mk ⟨_, _, _, ht.hd.cell rfl, rfl, rfl⟩)
def keyOf (l a b : UInt8) : Key := [l, 0, a, b] ++ List.replicate 28 0
theorem keyOf_len (l a b : UInt8) : (keyOf l a b).length = 32 := rfl
theorem lives_calls (w : World) : Calls Try.prog 6 #[] w fun e w' => e = .returned (.bool true) ∧ Fr (fun _ => False) w w' := by
  refine (F6.of w (Q := fun v w' => v = .bool true ∧ Fr (fun _ => False) w w') ?_).mono (fun e w' ⟨v, he, hv, h⟩ => ⟨by rw [he, hv], h⟩)
  refine (new_calls w).mono ?_
  rintro e w1 ⟨bt, bs, rfl, f1, hT, hs1⟩
  refine ⟨_, rfl, (tput_calls w.heap.size bt bs 8 (row0 8) (keyOf 1 0 0) 7 w1 hT rfl (by omega) hs1).mono ?_⟩
  rintro e w2 ⟨rfl, f2, bs', N', S', hP⟩
  have hno : ∀ v, ¬ Has (row0 8) (keyOf 1 0 0) v := fun v ⟨p, hp⟩ => row0_no 8 p _ v hp
  have hc0 : cntF (row0 8) = 0 := cntF_none 8
  have hcnt : cntF S' = 1 ∧ N' = 8 := by
    rcases hP.cnt with ⟨⟨v0, h0⟩, _⟩ | ⟨_, h1, h2⟩
    · exact absurd h0 (hno v0)
    · rw [hc0] at h1 h2
      exact ⟨h1, by rw [h2, if_neg (by omega)]⟩
  obtain ⟨hc, rfl⟩ := hcnt
  refine ⟨rfl, (get_calls w.heap.size bt bs' 8 S' (keyOf 1 0 0) w2 hP.tab rfl (fun p k v hp => ?_)).mono ?_⟩
  · have h1 := (hP.has k v).1 ⟨p, hp⟩
    split at h1
    · exact ⟨_, h1⟩
    · obtain ⟨q, hq⟩ := h1; exact absurd hq (row0_no 8 q k v)
  rintro e w3 ⟨f3, hg⟩
  have h7 : Has S' (keyOf 1 0 0) (.int .i64 7) := (hP.has _ _).2 (by rw [if_pos rfl])
  have f13 : Fr (fun _ => False) w w3 := ((f1.mono (T := fun j => w.heap.size ≤ j) (fun _ _ h => h.elim)).trans1 (f2.trans1 (f3.mono (fun _ _ h => h.elim)))).mono (fun j hj h => by omega)
  rcases hg with ⟨x, hx, rfl⟩ | ⟨hx, _⟩
  · have hx7 := (hP.has _ _).1 hx
    rw [if_pos rfl] at hx7
    injection hx7 with _ hx7
    subst hx7
    have hT3 : Tab w3 w.heap.size bt bs' 8 S' := hP.tab.fr f3 (fun _ h => h.elim)
    refine ⟨_, _, rfl, vIf_t rfl (vIf_t rfl ((len_calls hT3).mono ?_))⟩
    rintro e w4 ⟨rfl, rfl⟩
    refine ⟨_, rfl, vIf_t (by rw [hc]; rfl) ((slots_calls hT3).mono ?_)⟩
    rintro e w5 ⟨rfl, rfl⟩
    exact ⟨_, rfl, rfl, f13⟩
  · exact absurd h7 (hx _)
/-! ### many digests of one slot -/
def keyN (l : UInt8) (i : Nat) : Key := keyOf l (UInt8.ofNat i) (UInt8.ofNat (i / 256))
theorem keyN_len (l : UInt8) (i : Nat) : (keyN l i).length = 32 := rfl
theorem keyN_inj {l : UInt8} {i j : Nat} (hi : i < 65536) (hj : j < 65536) (h : keyN l i = keyN l j) : i = j := by
  simp only [keyN, keyOf, List.cons_append, List.nil_append, List.cons.injEq, and_true, true_and] at h
  obtain ⟨h1, h2⟩ := h
  have h1 := congrArg UInt8.toNat h1
  have h2 := congrArg UInt8.toNat h2
  simp at h1 h2
  omega
theorem u8a (i : Nat) : IntKind.wrap .u8 (i : Int) = (((UInt8.ofNat i).toNat : Nat) : Int) := by
  rw [IntKind.wrap_u8]; simp
theorem u8b (i : Nat) : IntKind.wrap .u8 (Int.fdiv (i : Int) (2 ^ 8)) = (((UInt8.ofNat (i / 256)).toNat : Nat) : Int) := by
  rw [Int.fdiv_eq_ediv_of_nonneg _ (by omega), IntKind.wrap_u8]; simp
def Many (l : UInt8) (S : SRow) (a b : Nat) : Prop := ∀ k v, Has S k v ↔ ∃ j, a ≤ j ∧ j < b ∧ k = keyN l j ∧ v = .int .i64 (j : Nat)
theorem Many.hint {l : UInt8} {S : SRow} {a b : Nat} (h : Many l S a b) : ∀ p k v, At S p k v → ∃ x : Int, v = .int .i64 x := fun p k v hp => by
  obtain ⟨j, _, _, _, hv⟩ := (h k v).1 ⟨p, hp⟩
  exact ⟨_, hv⟩
theorem many_law (x0 x1 : Int) (l : UInt8) (w : World) : Calls Try.prog 3 #[.int .i64 x0, .int .i64 x1, .int .u8 l.toNat] w fun e w' => e = .returned (.bool true) ∧ Fr (fun _ => False) w w' := by
  refine (F3.of x0 x1 l.toNat w (Q := fun v w' => v = .bool true ∧ Fr (fun _ => False) w w') ?_).mono (fun e w' ⟨v, he, hv, h⟩ => ⟨by rw [he, hv], h⟩)
  have live : ∀ u, Fr (fun _ => False) w u → Calls Try.prog 6 #[] u fun e w' => ∃ t : Bool, e = .returned (.bool t) ∧ (Value.bool t = .bool true ∧ Fr (fun _ => False) w w') := fun u hu => (lives_calls u).mono (fun e w' ⟨he, hf⟩ => ⟨true, he, rfl, hu.trans1 hf⟩)
  refine vIf_mk (fun _ => live w (Fr.refl _ _)) (fun h0 => vIf_mk (fun _ => live w (Fr.refl _ _)) (fun h6 => jnC_mk ?_))
  have h0 : ¬ x0 < 0 := of_decide_eq_false h0
  have h6 : ¬ x0 > 600 := of_decide_eq_false h6
  obtain ⟨many, rfl⟩ : ∃ m : Nat, x0 = m := ⟨x0.toNat, by omega⟩
  have hmany : many ≤ 600 := by omega
  intro _
  refine (new_calls w).mono ?_
  rintro e w1 ⟨bt, bs0, rfl, f1, hT1, hs1⟩
  refine ⟨_, rfl, jnC_mk ?_⟩
  generalize hB : w.heap.size = B at *
  -- the puts
  refine loop_rule (fun s u => Fr (fun j => B ≤ j) w u ∧ ∃ (i bs N : Nat) (S : SRow), i ≤ many ∧ s = ((many : Int), x1, (l.toNat : Int), some ⟨bt, 0, none⟩, (i : Int), ()) ∧ Tab u B bt bs N S ∧ Many l S 0 i ∧ cntF S = i ∧ 3 * N ≤ 24 + 8 * i)
    (fun s _ => (many - s.2.2.2.2.1).toNat) ?_ _ _ ⟨f1.mono (fun _ _ h => h.elim), 0, bs0, 8, row0 8, by omega, rfl, hT1, fun k v => ⟨fun ⟨p, hp⟩ => absurd hp (row0_no 8 p k v), fun ⟨j, _, h, _⟩ => absurd h (Nat.not_lt_zero j)⟩, cntF_none 8, by omega⟩
  rintro s u C ⟨hf, i, bs, N, S, hi, rfl, hT, hM, hc, hNb⟩ hC _
  refine vIf_mk (fun hlt => ?_) (fun hge => ?_)
  · have hlt2 : (i : Int) < (many : Int) := of_decide_eq_true hlt
    dsimp only
    rw [u8a, u8b]
    refine (tput_calls B bt bs N S (keyN l i) i u hT rfl (by omega) (by have := hf.size; omega)).mono ?_
    rintro e w2 ⟨rfl, f2, bs', N', S', hP⟩
    have hnew : ∀ v, ¬ Has S (keyN l i) v := fun v hv => by
      obtain ⟨j, _, hj, hk, _⟩ := (hM _ _).1 hv
      have := keyN_inj (by omega) (by omega) hk
      omega
    have hcn : cntF S' = i + 1 ∧ 3 * N' ≤ 24 + 8 * (i + 1) := by
      rcases hP.cnt with ⟨⟨v0, h0⟩, _⟩ | ⟨_, h1, h2⟩
      · exact absurd h0 (hnew v0)
      · rw [hc] at h1 h2
        refine ⟨h1, ?_⟩
        rw [h2]; split <;> omega
    refine ⟨rfl, jnC_mk (hC _ _ ⟨hf.trans1 f2, i + 1, bs', N', S', by omega, ?_, hP.tab, fun k v => ?_, hcn.1, hcn.2⟩ ?_)⟩
    · show (_, _, _, _, IntKind.wrap .i64 ((i : Int) + 1), ()) = _
      rw [i64_id (by omega) (by omega)]; rfl
    · rw [hP.has]
      constructor
      · intro h
        split at h
        · rename_i hk; exact ⟨i, by omega, by omega, hk, h⟩
        · obtain ⟨j, a1, a2, a3, a4⟩ := (hM k v).1 h
          exact ⟨j, a1, by omega, a3, a4⟩
      · rintro ⟨j, a1, a2, a3, a4⟩
        by_cases hji : j = i
        · subst hji; rw [if_pos a3]; exact a4
        · rw [if_neg]
          · exact (hM k v).2 ⟨j, a1, by omega, a3, a4⟩
          · intro he
            rw [he] at a3
            have := keyN_inj (by omega) (by omega) a3
            omega
    · show ((many : Int) - IntKind.wrap .i64 ((i : Int) + 1)).toNat < ((many : Int) - (i : Int)).toNat
      rw [i64_id (by omega) (by omega)]; omega
  have hge2 : ¬ (i : Int) < (many : Int) := of_decide_eq_false hge
  have him : i = many := by omega
  subst him
  clear hC hge hge2
  refine jnC_mk ?_
  -- the cuts
  refine loop_rule (fun s u => Fr (fun j => B ≤ j) w u ∧ ∃ (c bs N : Nat) (S : SRow), c ≤ i ∧ (c = 0 ∨ (c : Int) ≤ x1) ∧ s = ((i : Int), x1, (l.toNat : Int), some ⟨bt, 0, none⟩, (c : Int), ()) ∧ Tab u B bt bs N S ∧ Many l S c i ∧ cntF S + c = i)
    (fun s _ => (i - s.2.2.2.2.1).toNat) ?_ _ _ ⟨hf, 0, bs, N, S, by omega, .inl rfl, rfl, hT, hM, by omega⟩
  clear hT hM hc hf hNb
  rintro s u C ⟨hf, c, bs, N, S, hc, hcx, rfl, hT, hM, hcn⟩ hC _
  have rest : F3.k13 (fun v w' => v = .bool true ∧ Fr (fun _ => False) w w') ((i : Int), x1, (l.toNat : Int), some ⟨bt, 0, none⟩, ()) u → True := fun _ => trivial
  have tail : (∀ j : Nat, j < i → (((j : Int) ≥ x1) ↔ c ≤ j)) → F3.k13 (fun v w' => v = .bool true ∧ Fr (fun _ => False) w w') ((i : Int), x1, (l.toNat : Int), some ⟨bt, 0, none⟩, ()) u := by
    intro hcut _
    refine jnC_mk ?_
    refine loop_rule (fun s u => Fr (fun j => B ≤ j) w u ∧ Tab u B bt bs N S ∧ ∃ (j : Nat), j ≤ i ∧ s = ((i : Int), x1, (l.toNat : Int), some ⟨bt, 0, none⟩, ((j - c : Nat) : Int), (j : Int), ()))
      (fun s _ => (i - s.2.2.2.2.2.1).toNat) ?_ _ _ ⟨hf, hT, 0, by omega, by rw [Nat.zero_sub]; rfl⟩
    clear hf hT
    rintro s u C ⟨hf, hT, j, hj, rfl⟩ hC _
    refine vIf_mk (fun hlt => ?_) (fun hge => ?_)
    · have hlt2 : (j : Int) < (i : Int) := of_decide_eq_true hlt
      dsimp only
      rw [u8a, u8b]
      refine (get_calls B bt bs N S (keyN l j) u hT rfl hM.hint).mono ?_
      rintro e w2 ⟨f2, hg⟩
      have hT2 : Tab w2 B bt bs N S := hT.fr f2 (fun _ h => h.elim)
      have hf2 : Fr (fun j => B ≤ j) w w2 := hf.trans1 (f2.mono (fun _ _ h => h.elim))
      rcases hg with ⟨x, hx, rfl⟩ | ⟨hx, rfl⟩
      · obtain ⟨j', a1, a2, a3, a4⟩ := (hM _ _).1 hx
        have hjj := keyN_inj (by omega) (by omega) a3
        subst hjj
        injection a4 with _ a4
        subst a4
        refine ⟨_, _, rfl, vIf_f ?_ (vIf_t rfl (vIf_f (by simp) (vIf_t rfl (jnC_mk (hC _ _ ⟨hf2, hT2, j + 1, by omega, ?_⟩ ?_)))))⟩
        · rw [decide_eq_true ((hcut j (by omega)).2 a1)]; rfl
        · show (_, _, _, _, IntKind.wrap .i64 (((j - c : Nat) : Int) + 1), IntKind.wrap .i64 ((j : Int) + 1), ()) = _
          rw [i64_id (by omega) (by omega), i64_id (by omega) (by omega), show (((j - c : Nat) : Int) + 1) = ((j + 1 - c : Nat) : Int) by omega]; rfl
        · show ((i : Int) - IntKind.wrap .i64 ((j : Int) + 1)).toNat < ((i : Int) - (j : Int)).toNat
          rw [i64_id (by omega) (by omega)]; omega
      · have hjc : ¬ c ≤ j := fun h => hx _ ((hM _ _).2 ⟨j, h, by omega, rfl, rfl⟩)
        refine ⟨_, _, rfl, vIf_f ?_ (vIf_f rfl (vIf_f rfl (jnC_mk (hC _ _ ⟨hf2, hT2, j + 1, by omega, ?_⟩ ?_))))⟩
        · rw [decide_eq_false (fun h => hjc ((hcut j (by omega)).1 h))]; rfl
        · show (_, _, _, _, ((j - c : Nat) : Int), IntKind.wrap .i64 ((j : Int) + 1), ()) = _
          rw [i64_id (by omega) (by omega), show (j - c : Nat) = j + 1 - c by omega]; rfl
        · show ((i : Int) - IntKind.wrap .i64 ((j : Int) + 1)).toNat < ((i : Int) - (j : Int)).toNat
          rw [i64_id (by omega) (by omega)]; omega
    · have hge2 : ¬ (j : Int) < (i : Int) := of_decide_eq_false hge
      have hji : j = i := by omega
      subst hji
      refine (len_calls hT).mono ?_
      rintro e w2 ⟨rfl, rfl⟩
      have hN := hT.big
      have hl := hT.load
      refine ⟨_, rfl, vIf_t (by rw [show cntF S = j - c by omega]; simp) ((slots_calls hT).mono ?_)⟩
      rintro e w3 ⟨rfl, rfl⟩
      refine ⟨_, rfl, vIf_t (decide_eq_true ?_) (live _ (hf.mono (fun k hk h => by omega)))⟩
      dsimp only
      rw [i64_id (by omega) (by omega), i64_id (by omega) (by omega)]
      omega
  refine vIf_mk (fun hlt => ?_) (fun hge => ?_)
  · have hlt2 : (c : Int) < (i : Int) := of_decide_eq_true hlt
    refine vIf_mk (fun hx => ?_) (fun hx => ?_)
    · have hx2 : (c : Int) < x1 := of_decide_eq_true hx
      refine jnC_mk ?_
      intro _
      unfold F3.k11c
      dsimp only
      rw [u8a, u8b]
      refine (cut_calls B bt bs N S (keyN l c) u hT rfl).mono ?_
      rintro e w2 ⟨f2, S', hT2, h2⟩
      rcases h2 with ⟨rfl, _, hc2, hh2⟩ | ⟨rfl, hno, _⟩
      · refine ⟨_, rfl, vIf_f rfl (jnC_mk (hC _ _ ⟨hf.trans1 f2, c + 1, bs, N, S', by omega, .inr (by omega), ?_, hT2, fun k v => ?_, by omega⟩ ?_))⟩
        · show (_, _, _, _, IntKind.wrap .i64 ((c : Int) + 1), ()) = _
          rw [i64_id (by omega) (by omega)]; rfl
        · rw [hh2, hM k v]
          constructor
          · rintro ⟨hk, j, a1, a2, a3, a4⟩
            refine ⟨j, ?_, a2, a3, a4⟩
            have : j ≠ c := by rintro rfl; exact hk a3
            omega
          · rintro ⟨j, a1, a2, a3, a4⟩
            refine ⟨?_, j, by omega, a2, a3, a4⟩
            intro he
            rw [he] at a3
            have := keyN_inj (by omega) (by omega) a3
            omega
        · show ((i : Int) - IntKind.wrap .i64 ((c : Int) + 1)).toNat < ((i : Int) - (c : Int)).toNat
          rw [i64_id (by omega) (by omega)]; omega
      · exact absurd ((hM _ _).2 ⟨c, by omega, by omega, rfl, rfl⟩) (hno _)
    · have hx2 : ¬ (c : Int) < x1 := of_decide_eq_false hx
      exact jnC_mk (tail (fun j hj => by omega))
  · have hge2 : ¬ (c : Int) < (i : Int) := of_decide_eq_false hge
    exact jnC_mk (tail (fun j hj => by omega))
end Go.Proofs.Ytbcbpgfjmcmclaa
