/- MY OWN ENGINE, part 6o: a region that draws its order. What only reads is taken as early as it may come; what it read must still stand behind each operation that might come before it in another order. -/
import Derived.Test.YtfhimpkpfelilaaDoorG6
import Derived.OrdersHeld
namespace Go.GV
open Go
set_option linter.unusedSimpArgs false
set_option linter.unusedVariables false

/-! ### the still operations hand over one value -/
section
variable {P : Program} {w : World}
theorem ptI_det {k : IntKind} {v : Value} {K : Int → Prop} (h : ptI k v K) : ∃ x, K x ∧ ptI k v (fun u => u = x) := by
  unfold ptI at h ⊢; split at h
  · simp only [gd_iff] at h; exact ⟨_, h.2, gd_iff.2 ⟨h.1, rfl⟩⟩
  · exact h.elim
theorem ptB_det {v : Value} {K : Bool → Prop} (h : ptB v K) : ∃ x, K x ∧ ptB v (fun u => u = x) := by
  unfold ptB at h ⊢; split at h
  · exact ⟨_, h, rfl⟩
  · exact h.elim
theorem ptS_det {v : Value} {K : ByteArray → Prop} (h : ptS v K) : ∃ x, K x ∧ ptS v (fun u => u = x) := by
  unfold ptS at h ⊢; split at h
  · exact ⟨_, h, rfl⟩
  · exact h.elim
theorem ptP_det {v : Value} {K : Option Addr → Prop} (h : ptP v K) : ∃ x, K x ∧ ptP v (fun u => u = x) := by
  unfold ptP at h ⊢; split at h
  · exact ⟨_, h, rfl⟩
  · exact h.elim
theorem ptSl_det {v : Value} {K : Option Addr → Nat → Nat → Prop} (h : ptSl v K) : ∃ A n c, K A n c ∧ ptSl v (fun A' n' c' => A' = A ∧ n' = n ∧ c' = c) := by
  unfold ptSl at h ⊢; split at h
  · exact ⟨_, _, _, h, rfl, rfl, rfl⟩
  · exact h.elim
theorem ptM_det {v : Value} {K : Option Nat → Prop} (h : ptM v K) : ∃ x, K x ∧ ptM v (fun u => u = x) := by
  unfold ptM at h ⊢; split at h
  · exact ⟨_, h, rfl⟩
  · exact h.elim
theorem ptI_mono {k : IntKind} {v : Value} {K K' : Int → Prop} (hh : ∀ x, K x → K' x) (h : ptI k v K) : ptI k v K' := by
  unfold ptI at h ⊢; split at h
  · exact gd_iff.2 ⟨(gd_iff.1 h).1, hh _ (gd_iff.1 h).2⟩
  · exact h
theorem ptB_mono {v : Value} {K K' : Bool → Prop} (hh : ∀ x, K x → K' x) (h : ptB v K) : ptB v K' := by
  unfold ptB at h ⊢; split at h
  · exact hh _ h
  · exact h
theorem ptS_mono {v : Value} {K K' : ByteArray → Prop} (hh : ∀ x, K x → K' x) (h : ptS v K) : ptS v K' := by
  unfold ptS at h ⊢; split at h
  · exact hh _ h
  · exact h
theorem ptP_mono {v : Value} {K K' : Option Addr → Prop} (hh : ∀ x, K x → K' x) (h : ptP v K) : ptP v K' := by
  unfold ptP at h ⊢; split at h
  · exact hh _ h
  · exact h
theorem ptSl_mono {v : Value} {K K' : Option Addr → Nat → Nat → Prop} (hh : ∀ A n c, K A n c → K' A n c) (h : ptSl v K) : ptSl v K' := by
  unfold ptSl at h ⊢; split at h
  · exact hh _ _ _ h
  · exact h
theorem ptM_mono {v : Value} {K K' : Option Nat → Prop} (hh : ∀ x, K x → K' x) (h : ptM v K) : ptM v K' := by
  unfold ptM at h ⊢; split at h
  · exact hh _ h
  · exact h
theorem vcPart_det {t : TypeId} {cs : List Value} {o : Nat} {K : Value → Prop} (h : vcPart P t cs o K) : ∃ v, K v ∧ vcPart P t cs o (fun u => u = v) := by
  unfold vcPart at h
  split at h
  case h_11 => exact h.elim
  all_goals (rename_i hu; unfold vcPart; simp only [hu])
  · exact ⟨_, h, rfl⟩
  · exact ⟨_, h, rfl⟩
  · simp only [gd_iff] at h ⊢; obtain ⟨x, hK, h2⟩ := ptI_det h.2; exact ⟨_, hK, h.1, ptI_mono (fun _ e => by rw [e]) h2⟩
  · simp only [gd_iff] at h ⊢; obtain ⟨x, hK, h2⟩ := ptB_det h.2; exact ⟨_, hK, h.1, ptB_mono (fun _ e => by rw [e]) h2⟩
  · simp only [gd_iff] at h ⊢; obtain ⟨x, hK, h2⟩ := ptS_det h.2; exact ⟨_, hK, h.1, ptS_mono (fun _ e => by rw [e]) h2⟩
  · simp only [gd_iff] at h ⊢; obtain ⟨x, hK, h2⟩ := ptP_det h.2; exact ⟨_, hK, h.1, ptP_mono (fun _ e => by rw [e]) h2⟩
  · simp only [gd_iff] at h ⊢; obtain ⟨A, n, c, hK, h2⟩ := ptSl_det h.2; exact ⟨_, hK, h.1, ptSl_mono (fun _ _ _ e => by rw [e.1, e.2.1, e.2.2]) h2⟩
  · simp only [gd_iff] at h ⊢; obtain ⟨x, hK, h2⟩ := ptM_det h.2; exact ⟨_, hK, h.1, ptM_mono (fun _ e => by rw [e]) h2⟩
  · simp only [gd_iff] at h ⊢; exact ⟨_, h.2, h.1, rfl⟩
  · simp only [gd_iff] at h ⊢; exact ⟨_, h.2, h.1, rfl⟩
theorem dr_det {q : Option Addr} {F : Nat → Nat → (Value → Prop) → Prop} {K : Value → Prop} (hF : ∀ b o, F b o K → ∃ v, K v ∧ F b o (fun u => u = v)) (h : dr q (fun b o => F b o K)) : ∃ v, K v ∧ dr q (fun b o => F b o (fun u => u = v)) := by
  rw [dr_iff] at h
  obtain ⟨b, o, rfl, h⟩ := h
  obtain ⟨v, hK, hv⟩ := hF b o h
  exact ⟨v, hK, hv⟩
theorem gd_det {c : Bool} {F : (Value → Prop) → Prop} {K : Value → Prop} (hF : F K → ∃ v, K v ∧ F (fun u => u = v)) (h : gd c (F K)) : ∃ v, K v ∧ gd c (F (fun u => u = v)) := by
  obtain ⟨h1, h2⟩ := gd_iff.1 h
  obtain ⟨v, hK, hv⟩ := hF h2
  exact ⟨v, hK, gd_iff.2 ⟨h1, hv⟩⟩
theorem gd_at {c : Bool} {v : Value} {K : Value → Prop} (h : gd c (K v)) : ∃ v', K v' ∧ gd c (v = v') := ⟨v, (gd_iff.1 h).2, gd_iff.2 ⟨(gd_iff.1 h).1, rfl⟩⟩
theorem vcNil_det {x : Value} {K : Value → Prop} (h : vcNil x K) : ∃ v, K v ∧ vcNil x (fun u => u = v) := by
  unfold vcNil at h ⊢
  split at h
  · exact dr_det (F := fun b o K => K (.pointer (some ⟨b, o, none⟩))) (fun b o h => ⟨_, h, rfl⟩) h
  · exact ⟨_, h, rfl⟩
  · exact h.elim
theorem vcFA_det {s : TypeId} {x : Value} {f : Nat} {K : Value → Prop} (h : vcFA P s x f K) : ∃ v, K v ∧ vcFA P s x f (fun u => u = v) := by
  unfold vcFA at h
  split at h
  · rename_i hu; unfold vcFA; simp only [hu]
    split at h
    · exact gd_at h
    · exact h.elim
  · exact h.elim
theorem vcFd_det {s : TypeId} {x : Value} {f : Nat} {K : Value → Prop} (h : vcFd P s x f K) : ∃ v, K v ∧ vcFd P s x f (fun u => u = v) := by
  unfold vcFd at h
  split at h
  · rename_i hu; unfold vcFd; simp only [hu]
    split at h
    · exact gd_det (F := vcPart P _ _ _) vcPart_det h
    · exact h.elim
  · exact h.elim
theorem vcIxA_det {t : TypeId} {x i : Value} {K : Value → Prop} (h : vcIxA P t x i K) : ∃ v, K v ∧ vcIxA P t x i (fun u => u = v) := by
  unfold vcIxA at h
  split at h
  · rename_i e A len c k n hu; unfold vcIxA; simp only [hu]
    refine gd_det (F := fun K => dr A (fun b o => gd (decide (0 ≤ n)) (gd (decide (n < (len : Int))) (K (.pointer (some ⟨b, o + n.toNat * szOf P e, none⟩)))))) (fun h => ?_) h
    exact dr_det (F := fun b o K => gd (decide (0 ≤ n)) (gd (decide (n < (len : Int))) (K (.pointer (some ⟨b, o + n.toNat * szOf P e, none⟩))))) (fun b o h => gd_det (F := fun K => gd (decide (n < (len : Int))) (K (.pointer (some ⟨b, o + n.toNat * szOf P e, none⟩)))) gd_at h) h
  · rename_i len e A k n hu; unfold vcIxA; simp only [hu]
    refine gd_det (F := fun K => dr A (fun b o => gd (decide (0 ≤ n)) (gd (decide (n < (len : Int))) (K (.pointer (some ⟨b, o + n.toNat * szOf P e, none⟩)))))) (fun h => ?_) h
    exact dr_det (F := fun b o K => gd (decide (0 ≤ n)) (gd (decide (n < (len : Int))) (K (.pointer (some ⟨b, o + n.toNat * szOf P e, none⟩))))) (fun b o h => gd_det (F := fun K => gd (decide (n < (len : Int))) (K (.pointer (some ⟨b, o + n.toNat * szOf P e, none⟩)))) gd_at h) h
  · exact h.elim
theorem vcIx_det {t : TypeId} {x i : Value} {K : Value → Prop} (h : vcIx P t x i K) : ∃ v, K v ∧ vcIx P t x i (fun u => u = v) := by
  unfold vcIx at h
  split at h
  · rename_i hu; unfold vcIx; simp only [hu]
    simp only [gd_iff] at h ⊢; exact ⟨_, h.2.2, h.1, h.2.1, rfl⟩
  · rename_i hu; unfold vcIx; simp only [hu]
    simp only [gd_iff] at h ⊢
    obtain ⟨v, hK, h2⟩ := vcPart_det h.2.2.2
    exact ⟨_, hK, h.1, h.2.1, h.2.2.1, h2⟩
  · exact h.elim
theorem vcUn_det {op : UnOp} {x : Value} {K : Value → Prop} (h : vcUn op x K) : ∃ v, K v ∧ vcUn op x (fun u => u = v) := by
  unfold vcUn at h ⊢
  split at h
  · exact ⟨_, h, rfl⟩
  · exact ⟨_, h, rfl⟩
  · exact ⟨_, h, rfl⟩
  · exact h.elim
theorem vcConv_det {s d : TypeId} {x : Value} {K : Value → Prop} (h : vcConv P s d x K) : ∃ v, K v ∧ vcConv P s d x (fun u => u = v) := by
  unfold vcConv at h
  split at h
  · rename_i h1 h2; unfold vcConv; simp only [h1, h2]; exact ⟨_, h, rfl⟩
  · rename_i h1 h2; unfold vcConv; simp only [h1, h2]; exact ⟨_, h, rfl⟩
  · exact h.elim
theorem vcLen_det {t : TypeId} {x : Value} {K : Value → Prop} (h : vcLen P t x K) : ∃ v, K v ∧ vcLen P t x (fun u => u = v) := by
  unfold vcLen at h
  split at h
  · rename_i h1; unfold vcLen; simp only [h1]; exact ⟨_, h, rfl⟩
  · rename_i h1; unfold vcLen; simp only [h1]; exact ⟨_, h, rfl⟩
  · rename_i h1; unfold vcLen; simp only [h1]; exact ⟨_, h, rfl⟩
  · rename_i h1; unfold vcLen; simp only [h1]; exact ⟨_, h, rfl⟩
  · rename_i h1; unfold vcLen; simp only [h1]
    split at h
    · exact ⟨_, h, rfl⟩
    · exact h.elim
  · exact h.elim
theorem vcCap_det {t : TypeId} {x : Value} {K : Value → Prop} (h : vcCap P t x K) : ∃ v, K v ∧ vcCap P t x (fun u => u = v) := by
  unfold vcCap at h
  split at h
  · rename_i h1; unfold vcCap; simp only [h1]; exact ⟨_, h, rfl⟩
  · rename_i h1; unfold vcCap; simp only [h1]; exact ⟨_, h, rfl⟩
  · exact h.elim
theorem vcMm_det {m : Bool} {xs : List Value} {K : Value → Prop} (h : vcMm m xs K) : ∃ v, K v ∧ vcMm m xs (fun u => u = v) := by
  unfold vcMm at h ⊢
  split at h
  · exact gd_at h
  · exact h.elim
theorem bnd_det {v : Option Value} {d top : Nat} {K : Nat → Prop} (h : bnd v d top K) : ∃ n, K n ∧ ∀ K' : Nat → Prop, K' n → bnd v d top K' := by
  unfold bnd at h
  split at h
  · exact ⟨_, h, fun K' h => h⟩
  · simp only [gd_iff] at h; exact ⟨_, h.2.2, fun K' h' => gd_iff.2 ⟨h.1, gd_iff.2 ⟨h.2.1, h'⟩⟩⟩
  · exact h.elim
theorem bnds_det {len cap : Nat} {lo hi mx : Option Value} {K : Nat → Nat → Nat → Prop} (h : bnds len cap lo hi mx K) : ∃ l h m, K l h m ∧ ∀ K' : Nat → Nat → Nat → Prop, K' l h m → bnds len cap lo hi mx K' := by
  unfold bnds at h
  obtain ⟨m, h, h1⟩ := bnd_det h
  obtain ⟨hc, h⟩ := gd_iff.1 h
  obtain ⟨hh, h, h2⟩ := bnd_det h
  obtain ⟨l, h, h3⟩ := bnd_det h
  exact ⟨l, hh, m, h, fun K' hk => h1 _ (gd_iff.2 ⟨hc, h2 _ (h3 _ hk)⟩)⟩
theorem vcSl_det {t : TypeId} {x : Value} {lo hi mx : Option Value} {K : Value → Prop} (h : vcSl P t x lo hi mx K) : ∃ v, K v ∧ vcSl P t x lo hi mx (fun u => u = v) := by
  unfold vcSl at h
  split at h
  · rename_i h1; unfold vcSl; simp only [h1]
    obtain ⟨hc, h⟩ := gd_iff.1 h
    obtain ⟨_, _, _, hK, hh⟩ := bnds_det h
    exact ⟨_, hK, gd_iff.2 ⟨hc, hh _ rfl⟩⟩
  · rename_i h1; unfold vcSl; simp only [h1]
    obtain ⟨hc, h⟩ := gd_iff.1 h
    obtain ⟨_, _, _, hK, hh⟩ := bnds_det h
    exact ⟨_, hK, gd_iff.2 ⟨hc, hh _ rfl⟩⟩
  · rename_i h1; unfold vcSl; simp only [h1]
    obtain ⟨hc, h⟩ := gd_iff.1 h
    obtain ⟨_, _, _, hK, hh⟩ := bnds_det h
    exact ⟨_, hK, gd_iff.2 ⟨hc, hh _ rfl⟩⟩
  · exact h.elim
theorem setCh_det : ∀ {parts : List (Nat × Value)} {ch : List (List Value)} {K : List (List Value) → Prop}, setCh ch parts K → ∃ c, K c ∧ ∀ K' : List (List Value) → Prop, K' c → setCh ch parts K'
  | [], ch, K, h => ⟨ch, h, fun K' h' => h'⟩
  | (i, v) :: r, ch, K, h => by
    unfold setCh at h
    split at h
    · rename_i c hc
      obtain ⟨h1, h⟩ := gd_iff.1 h
      obtain ⟨c', hK, h2⟩ := setCh_det h
      refine ⟨c', hK, fun K' hk => ?_⟩
      unfold setCh
      simp only [hc]
      exact gd_iff.2 ⟨h1, h2 _ hk⟩
    · exact h.elim
theorem vcBuild_det {t : TypeId} {parts : List (Nat × Value)} {K : Value → Prop} (h : vcBuild P t parts K) : ∃ v, K v ∧ vcBuild P t parts (fun u => u = v) := by
  unfold vcBuild at h
  split at h
  · rename_i h1 h2; unfold vcBuild; simp only [h1, h2]
    simp only [gd_iff] at h ⊢
    obtain ⟨c, hK, hh⟩ := setCh_det h.2.2.2
    exact ⟨_, hK, h.1, h.2.1, h.2.2.1, hh _ rfl⟩
  · rename_i h1 h2; unfold vcBuild; simp only [h1, h2]
    simp only [gd_iff] at h ⊢
    obtain ⟨c, hK, hh⟩ := setCh_det h.2.2
    exact ⟨_, hK, h.1, h.2.1, hh _ rfl⟩
  · exact h.elim
theorem eqAB_det {n : Nat} {xs ys : List Value} {K : Bool → Prop} (h : eqAB n xs ys K) : ∃ b, K b ∧ ∀ K' : Bool → Prop, K' b → eqAB n xs ys K' := by
  obtain ⟨X, Y, h1, h2, h3, h4, hK⟩ := h
  exact ⟨_, hK, fun K' hk => ⟨X, Y, h1, h2, h3, h4, hk⟩⟩
theorem eqI64_det {n : Nat} {xs ys : List Value} {K : Bool → Prop} (h : eqI64 n xs ys K) : ∃ b, K b ∧ ∀ K' : Bool → Prop, K' b → eqI64 n xs ys K' := by
  obtain ⟨X, Y, h1, h2, h3, h4, hK⟩ := h
  exact ⟨_, hK, fun K' hk => ⟨X, Y, h1, h2, h3, h4, hk⟩⟩
theorem eqMx_det {ts : List Bool} {xs ys : List Value} {K : Bool → Prop} (h : eqMx ts xs ys K) : ∃ b, K b ∧ ∀ K' : Bool → Prop, K' b → eqMx ts xs ys K' := by
  obtain ⟨X, Y, h1, h2, h3, h4, hK⟩ := h
  exact ⟨_, hK, fun K' hk => ⟨X, Y, h1, h2, h3, h4, hk⟩⟩
theorem nilEq_det {a b : Option Addr} {K : Bool → Prop} (h : nilEq a b K) : ∃ c, K c ∧ ∀ K' : Bool → Prop, K' c → nilEq a b K' := by
  unfold nilEq at h
  split at h
  · exact ⟨_, h, fun K' hk => hk⟩
  · split at h
    · exact ⟨_, h, fun K' hk => hk⟩
    · exact h.elim
theorem vcEq_det {t : TypeId} {x y : Value} {K : Bool → Prop} (h : vcEq P t x y K) : ∃ b, K b ∧ ∀ K' : Bool → Prop, K' b → vcEq P t x y K' := by
  unfold vcEq at h
  split at h
  · rename_i hu; exact ⟨_, h, fun K' hk => by unfold vcEq; simp only [hu]; exact hk⟩
  · rename_i hu; obtain ⟨c, hK, hh⟩ := nilEq_det h; exact ⟨_, hK, fun K' hk => by unfold vcEq; simp only [hu]; exact hh _ hk⟩
  · rename_i hu; obtain ⟨c, hK, hh⟩ := nilEq_det h; exact ⟨_, hK, fun K' hk => by unfold vcEq; simp only [hu]; exact hh _ hk⟩
  · rename_i hu; exact ⟨_, h, fun K' hk => by unfold vcEq; simp only [hu]; exact hk⟩
  · rename_i hu
    split at h
    · rename_i he
      simp only [gd_iff] at h
      obtain ⟨c, hK, hh⟩ := eqAB_det h.2.2
      exact ⟨_, hK, fun K' hk => by unfold vcEq; simp only [hu, he]; exact gd_iff.2 ⟨h.1, gd_iff.2 ⟨h.2.1, hh _ hk⟩⟩⟩
    · exact h.elim
  · rename_i hu
    simp only [gd_iff] at h
    obtain ⟨h1, h2, h⟩ := h
    split at h
    · rename_i hi
      obtain ⟨c, hK, hh⟩ := eqI64_det h
      exact ⟨_, hK, fun K' hk => by unfold vcEq; simp only [hu, hi]; exact gd_iff.2 ⟨h1, gd_iff.2 ⟨h2, hh _ hk⟩⟩⟩
    · rename_i hi
      split at h
      · rename_i ts hts
        obtain ⟨c, hK, hh⟩ := eqMx_det h
        exact ⟨_, hK, fun K' hk => by unfold vcEq; simp only [hu, hi, hts]; exact gd_iff.2 ⟨h1, gd_iff.2 ⟨h2, hh _ hk⟩⟩⟩
      · rename_i hts
        split at h
        · rename_i ks hks
          obtain ⟨hx, hy, hK⟩ := h
          exact ⟨_, hK, fun K' hk => by unfold vcEq; simp only [hu, hi, hts, hks]; exact gd_iff.2 ⟨h1, gd_iff.2 ⟨h2, hx, hy, hk⟩⟩⟩
        · exact h.elim
  · exact h.elim
theorem vcBin_det {op : BinOp} {t : TypeId} {x y : Value} {K : Value → Prop} (h : vcBin P op t x y K) : ∃ v, K v ∧ vcBin P op t x y (fun u => u = v) := by
  unfold vcBin at h
  split at h
  case h_26 => exact h.elim
  case h_25 =>
    obtain ⟨b, hK, hh⟩ := vcEq_det h
    refine ⟨_, hK, ?_⟩
    unfold vcBin
    split <;> first | exact hh _ rfl | (exfalso; rename_i hx; first | exact hx _ _ _ _ rfl rfl rfl rfl | exact hx _ _ _ _ rfl rfl | exact hx _ _ _ _ rfl rfl rfl | exact hx _ _ rfl rfl | exact hx _ _ rfl rfl rfl) | (simp_all; done) | (exfalso; simp_all; rename_i hx; exact hx _ _ _ _ rfl rfl rfl rfl)
  case h_24 =>
    obtain ⟨b, hK, hh⟩ := vcEq_det h
    refine ⟨_, hK, ?_⟩
    unfold vcBin
    split <;> first | exact hh _ rfl | (exfalso; rename_i hx; first | exact hx _ _ _ _ rfl rfl rfl rfl | exact hx _ _ _ _ rfl rfl | exact hx _ _ _ _ rfl rfl rfl | exact hx _ _ rfl rfl | exact hx _ _ rfl rfl rfl) | (simp_all; done) | (exfalso; simp_all; rename_i hx; exact hx _ _ _ _ rfl rfl rfl rfl)
  all_goals first
    | exact ⟨_, h, rfl⟩
    | exact ⟨_, (gd_iff.1 h).2, gd_iff.2 ⟨(gd_iff.1 h).1, rfl⟩⟩
    | (simp only [gd_iff] at h; exact ⟨_, h.2.2, gd_iff.2 ⟨h.1, gd_iff.2 ⟨h.2.1, rfl⟩⟩⟩)
theorem ifNil_det {x : Value} {K : Bool → Prop} (h : ifNil x K) : ∃ b, K b ∧ ∀ K' : Bool → Prop, K' b → ifNil x K' := by
  unfold ifNil at h ⊢
  split at h
  · exact ⟨_, h, fun K' hk => hk⟩
  · exact ⟨_, h, fun K' hk => hk⟩
  · exact h.elim
theorem vcBinI_det {op : BinOp} {t : TypeId} {oy : Operand} {x y : Value} {K : Value → Prop} (h : vcBinI P op t oy x y K) : ∃ v, K v ∧ vcBinI P op t oy x y (fun u => u = v) := by
  unfold vcBinI at h ⊢
  rw [vIf_iff] at h
  cases hb : (isIfT P t && (constB oy && nilB y)) with
  | false =>
    obtain ⟨v, hK, hh⟩ := vcBin_det (h.2 hb)
    exact ⟨v, hK, hh⟩
  | true =>
    have h' := h.1 hb
    clear h
    split at h'
    · obtain ⟨b, hK, hh⟩ := ifNil_det h'
      exact ⟨_, hK, hh (fun b1 => Value.bool b1 = Value.bool b) rfl⟩
    · obtain ⟨b, hK, hh⟩ := ifNil_det h'
      exact ⟨_, hK, hh (fun b1 => Value.bool (!b1) = Value.bool (!b)) rfl⟩
    · exact h'.elim
def loadB : Op → Bool
  | .load .. => true
  | _ => false
theorem vcStill_det {ρ : Operand → Value} {op : Op} {K : Value → Prop} (hl : loadB op = false) (h : vcStill P ρ w op K) : ∃ v, K v ∧ ∀ w', vcStill P ρ w' op (fun u => u = v) := by
  unfold vcStill at h
  split at h
  · exact ⟨_, h, fun _ => rfl⟩
  · exact ⟨_, h, fun _ => rfl⟩
  · split at h
    · rename_i b hb
      cases b
      · exact ⟨_, h, fun _ => by simp only [vcStill, hb, vIf]⟩
      · exact ⟨_, h, fun _ => by simp only [vcStill, hb, vIf]⟩
    · exact h.elim
  · split at h
    · rename_i he
      split at h
      · rename_i hv; exact ⟨_, h, fun _ => by simp only [vcStill, he, hv]⟩
      · exact h.elim
    · exact h.elim
  · exact ⟨_, h, fun _ => rfl⟩
  · obtain ⟨v, hK, hh⟩ := vcNil_det h; exact ⟨v, hK, fun _ => hh⟩
  · obtain ⟨v, hK, hh⟩ := vcFA_det h; exact ⟨v, hK, fun _ => hh⟩
  · obtain ⟨v, hK, hh⟩ := vcFd_det h; exact ⟨v, hK, fun _ => hh⟩
  · obtain ⟨v, hK, hh⟩ := vcIxA_det h; exact ⟨v, hK, fun _ => hh⟩
  · obtain ⟨v, hK, hh⟩ := vcIx_det h; exact ⟨v, hK, fun _ => hh⟩
  · simp [loadB] at hl
  · obtain ⟨v, hK, hh⟩ := vcUn_det h; exact ⟨v, hK, fun _ => hh⟩
  · obtain ⟨v, hK, hh⟩ := vcBinI_det h; exact ⟨v, hK, fun _ => hh⟩
  · obtain ⟨v, hK, hh⟩ := vcConv_det h; exact ⟨v, hK, fun _ => hh⟩
  · obtain ⟨v, hK, hh⟩ := vcSl_det h; exact ⟨v, hK, fun _ => hh⟩
  · obtain ⟨v, hK, hh⟩ := vcBuild_det h; exact ⟨v, hK, fun _ => hh⟩
  · split at h
    · rename_i h1 h2; obtain ⟨v, hK, hh⟩ := vcLen_det h; exact ⟨v, hK, fun _ => by simp only [vcStill, h1, h2]; exact hh⟩
    · exact h.elim
  · split at h
    · rename_i h1 h2; obtain ⟨v, hK, hh⟩ := vcCap_det h; exact ⟨v, hK, fun _ => by simp only [vcStill, h1, h2]; exact hh⟩
    · exact h.elim
  · obtain ⟨v, hK, hh⟩ := vcMm_det h; exact ⟨v, hK, fun _ => hh⟩
  · obtain ⟨v, hK, hh⟩ := vcMm_det h; exact ⟨v, hK, fun _ => hh⟩
  · exact h.elim
end
/-! ### orders -/
structure Hd where
  S : World → Prop
  ds : Nat → Bool
def LClosed (md : Region.Mode) (ops : Array Oper) (l : Array Bool) : Prop :=
  ∀ j oj, ops[j]? = some oj → l.getD j false = true → ∀ e ∈ oj.after, Region.binds md e = true → l.getD e.on false = true
section
variable {P : Program} {ops : Array Oper} {Q : Exit → Act → World → Prop} {md : Region.Mode}
theorem LClosed.set {l : Array Bool} {i : Nat} (h : LClosed md ops l) (hi : i ∈ Region.ready md ops l) : LClosed md ops (l.setIfInBounds i true) := by
  obtain ⟨_, oi, hoi, hall⟩ := mem_ready.1 hi
  intro j oj hj hl e he hb
  by_cases hij : i = j
  · subst hij
    have : oj = oi := Option.some.inj (hj.symm.trans hoi)
    subst this
    exact getD_set_true (hall e he hb)
  · rw [getD_set_ne false hij] at hl
    exact getD_set_true (h j oj hj hl e he hb)
/-- whatever order comes, and each of H stands behind every operation that is carried out, those that wait for it apart -/
def wpF (P : Program) (md : Region.Mode) (ops : Array Oper) (Q : Exit → Act → World → Prop) (H : List Hd) : Nat → Array Bool → Act → World → Prop
  | 0, l, a, w => Region.ready md ops l = [] ∧ Q .normal a w
  | n + 1, l, a, w =>
    (Region.ready md ops l = [] → Q .normal a w) ∧
    ∀ i ∈ Region.ready md ops l, wpOp P ops Q i (fun a' w' => (∀ h ∈ H, h.ds i = false → h.S w → h.S w') ∧ wpF P md ops Q H n (l.setIfInBounds i true) a' w') a w
theorem wpAny_of_wpF {H : List Hd} : ∀ (n : Nat) (l : Array Bool) (a : Act) (w : World), wpF P md ops Q H n l a w → wpAny P md ops Q n l a w
  | 0, _, _, _, h => h
  | n + 1, _, _, _, h => ⟨h.1, fun i hi => wpOp_mono (fun a' w' h' => wpAny_of_wpF n _ a' w' h'.2) (h.2 i hi)⟩
theorem wpF_mono {H H' : List Hd} (hh : ∀ h ∈ H', h ∈ H ∨ ∀ w, h.S w) : ∀ (n : Nat) (l : Array Bool) (a : Act) (w : World), wpF P md ops Q H n l a w → wpF P md ops Q H' n l a w
  | 0, _, _, _, h => h
  | n + 1, _, _, _, h => ⟨h.1, fun i hi => wpOp_mono (fun a' w' h' => ⟨fun x hx hd hS => (hh x hx).elim (fun hm => h'.1 x hm hd hS) (fun ht => ht w'), wpF_mono hh n _ a' w' h'.2⟩) (h.2 i hi)⟩
theorem wpF_first {H : List Hd} {h : Hd} (hm : h ∈ H) {i : Nat} {oi : Oper} {v : Value} (hi : ops[i]? = some oi) (hsel : ∀ (j : Nat) (o : Oper) cs b, ops[j]? = some o → o.op ≠ .select cs b)
    (hP : ∀ c a w, ¬ Q (.panic c) a w) (hds : ∀ d, h.ds d = true → ∀ l, LClosed md ops l → d ∈ Region.ready md ops l → l.getD i false = true) :
    ∀ (fuel : Nat) (l : Array Bool) (a : Act) (w : World),
      (∀ j oj, ops[j]? = some oj → j ≠ i → l.getD j true = false → (∀ e ∈ oj.after, Region.binds md e = true → e.on ≠ i) → oi.apart ops oj = true) →
      LClosed md ops l → i ∈ Region.ready md ops l → YieldsIf P ops h.S oi v a → h.S w →
      wpF P md ops Q H fuel (l.setIfInBounds i true) (a.put oi.dst v) w → wpF P md ops Q H (fuel + 1) l a w := by
  intro fuel
  induction fuel with
  | zero =>
    intro l a w _ _ hr hy hS HH
    refine ⟨fun h => (by rw [h] at hr; cases hr), fun j hj => ?_⟩
    by_cases hji : j = i
    · subst hji; exact hy.wpOp hi hS ⟨fun _ _ _ h => h, HH⟩
    · have := ready_mono hj hji
      rw [HH.1] at this
      cases this
  | succ fuel ih =>
    intro l a w hfree hc hr hy hS HH
    refine ⟨fun h => (by rw [h] at hr; cases hr), fun j hj => ?_⟩
    by_cases hji : j = i
    · subst hji; exact hy.wpOp hi hS ⟨fun _ _ _ h => h, HH⟩
    · have h1 := HH.2 j (ready_mono hj hji)
      obtain ⟨hjun, oj, hoj, hall⟩ := mem_ready.1 hj
      have hiun := (mem_ready.1 hr).1
      have hno : ∀ {x : Bool}, l.getD i false = true → False := fun {x} h1 => by
        rcases Nat.lt_or_ge i l.size with h' | h'
        · simp [h'] at hiun h1; rw [hiun] at h1; cases h1
        · simp [Array.getElem?_eq_none h'] at h1
      have hnot : ∀ e ∈ oj.after, Region.binds md e = true → e.on ≠ i := fun e he hb heq => by
        have h1 := hall e he hb
        rw [heq] at h1
        exact hno (x := true) h1
      have hjd : h.ds j = false := by
        cases hd : h.ds j
        · rfl
        · exact (hno (x := true) (hds j hd l hc hj)).elim
      have h2 := wpOp_putIf hoj (hfree j oj hoj hji hjun hnot) (fun cs b => hsel i oi cs b hi) (fun cs b => hsel j oj cs b hoj) (fun c a w hq => absurd hq (hP c _ w)) hy h1
      have hfree' : ∀ k ok, ops[k]? = some ok → k ≠ i → (l.setIfInBounds j true).getD k true = false →
          (∀ e ∈ ok.after, Region.binds md e = true → e.on ≠ i) → oi.apart ops ok = true := fun k ok hk hki hun hno => by
        refine hfree k ok hk hki ?_ hno
        by_cases hjk : j = k
        · subst hjk; exact hjun
        · rw [getD_set_ne true hjk] at hun; exact hun
      refine wpOp_mono (fun a' w' h3 => ⟨h3.2.1, ih (l.setIfInBounds j true) a' w' hfree' (hc.set hj) (ready_mono hr (Ne.symm hji)) h3.1 (h3.2.1 h hm hjd hS) ?_⟩) h2
      rw [Array.setIfInBounds_comm _ _ hji]
      exact h3.2.2
end
/-! ### what waits for what, as bits -/
def maskE (md : Region.Mode) (acc : List Nat) : List Edge → Nat
  | [] => 0
  | e :: r => if Region.binds md e then (2 ^ e.on ||| (acc.getD e.on 0)) ||| maskE md acc r else maskE md acc r
def waitsG (md : Region.Mode) : List Oper → List Nat → List Nat
  | [], acc => acc
  | o :: r, acc => waitsG md r (acc ++ [maskE md acc o.after.toList])
def waits (all : List Oper) : List Nat := waitsG .any all []
def waitsB (all : List Oper) (i k : Nat) : Bool := Nat.testBit ((waits all).getD k 0) i
theorem maskE_bit {md : Region.Mode} {acc : List Nat} {i : Nat} : ∀ {es : List Edge}, (maskE md acc es).testBit i = true → ∃ e ∈ es, Region.binds md e = true ∧ (e.on = i ∨ (acc.getD e.on 0).testBit i = true)
  | [], h => by simp [maskE] at h
  | e :: r, h => by
    unfold maskE at h
    split at h
    · rename_i hb
      rw [Nat.testBit_or, Nat.testBit_or, Bool.or_eq_true, Bool.or_eq_true] at h
      rcases h with (h | h) | h
      · rw [Nat.testBit_two_pow] at h
        exact ⟨e, List.mem_cons_self, hb, .inl (by simpa using h)⟩
      · exact ⟨e, List.mem_cons_self, hb, .inr h⟩
      · obtain ⟨x, hx, h⟩ := maskE_bit h
        exact ⟨x, List.mem_cons_of_mem _ hx, h⟩
    · obtain ⟨x, hx, h⟩ := maskE_bit h
      exact ⟨x, List.mem_cons_of_mem _ hx, h⟩
def WInv (md : Region.Mode) (ops : Array Oper) (i : Nat) (acc : List Nat) : Prop :=
  ∀ d, (acc.getD d 0).testBit i = true → ∃ o, ops[d]? = some o ∧ ∀ l, LClosed md ops l → (∀ e ∈ o.after, Region.binds md e = true → l.getD e.on false = true) → l.getD i false = true
theorem waitsG_inv {md : Region.Mode} {ops : Array Oper} {i : Nat} : ∀ (r : List Oper) (acc : List Nat), (∀ j, r[j]? = ops[acc.length + j]?) → WInv md ops i acc → WInv md ops i (waitsG md r acc)
  | [], acc, _, h => h
  | o :: r, acc, hr, h => by
    unfold waitsG
    have ho : ops[acc.length]? = some o := by simpa using (hr 0).symm
    refine waitsG_inv r _ (fun j => by have := hr (j + 1); simp only [List.length_append, List.length_cons, List.length_nil, List.getElem?_cons_succ] at this ⊢; rw [this]; congr 1; omega) ?_
    intro d hd
    rw [List.getD_eq_getElem?_getD] at hd
    by_cases hlt : d < acc.length
    · rw [List.getElem?_append_left hlt, ← List.getD_eq_getElem?_getD] at hd
      exact h d hd
    · by_cases heq : d = acc.length
      · subst heq
        rw [List.getElem?_append_right (Nat.le_refl _)] at hd
        simp only [Nat.sub_self, List.getElem?_cons_zero, Option.getD_some] at hd
        refine ⟨o, ho, fun l hc hall => ?_⟩
        obtain ⟨e, he, hb, h2⟩ := maskE_bit hd
        have hon := hall e (by simpa using he) hb
        rcases h2 with h2 | h2
        · rw [← h2]; exact hon
        · obtain ⟨o', ho', hh⟩ := h e.on h2
          exact hh l hc (fun e' he' hb' => hc _ _ ho' hon e' he' hb')
      · rw [List.getElem?_eq_none (by simp; omega)] at hd
        simp at hd
theorem waitsB_spec {all : List Oper} {i k : Nat} (h : waitsB all i k = true) (l : Array Bool) (hc : LClosed .any all.toArray l) (hk : k ∈ Region.ready .any all.toArray l) : l.getD i false = true := by
  have inv : WInv .any all.toArray i (waits all) := waitsG_inv all [] (fun j => by simp) (fun d hd => by simp at hd)
  obtain ⟨o, ho, hh⟩ := inv k h
  obtain ⟨_, o', ho', hall⟩ := mem_ready.1 hk
  have : o' = o := Option.some.inj (ho'.symm.trans ho)
  subst this
  exact hh l hc hall
/-! ### the order's reckoning -/
/-- what was read: by which operation, in which world, where, how many cells -/
structure HB where
  i : Nat
  w : World
  b : Nat
  o : Nat
  n : Nat
/-- the cells are as they were -/
def kp (w : World) (b o n : Nat) (w' : World) (A : Prop) : Prop := (∀ j, j < n → cellAt w' b (o + j) = cellAt w b (o + j)) ∧ A
def kps : List HB → World → Prop → Prop
  | [], _, A => A
  | h :: r, w', A => kp h.w h.b h.o h.n w' (kps r w' A)
def liveH (all : List Oper) (k : Nat) : List HB → List HB
  | [] => []
  | h :: r => match waitsB all h.i k with
    | true => liveH all k r
    | false => h :: liveH all k r
def HB.S (h : HB) (w' : World) : Prop := ∀ j, j < h.n → cellAt w' h.b (h.o + j) = cellAt h.w h.b (h.o + j)
def HB.hd (all : List Oper) (h : HB) : Hd := ⟨h.S, fun d => waitsB all h.i d⟩
theorem kps_out {w' : World} {A : Prop} : ∀ {H : List HB}, kps H w' A → (∀ h ∈ H, h.S w') ∧ A
  | [], h => ⟨fun _ hh => (by cases hh), h⟩
  | x :: r, h => by
    obtain ⟨h1, h2⟩ := h
    obtain ⟨h3, h4⟩ := kps_out h2
    refine ⟨fun y hy => ?_, h4⟩
    rcases List.mem_cons.1 hy with rfl | hy
    · exact h1
    · exact h3 y hy
theorem liveH_mem {all : List Oper} {k : Nat} {h : HB} : ∀ {H : List HB}, h ∈ H → waitsB all h.i k = false → h ∈ liveH all k H
  | x :: r, hm, hw => by
    unfold liveH
    rcases List.mem_cons.1 hm with rfl | hm
    · simp [hw]
    · split
      · exact liveH_mem hm hw
      · exact List.mem_cons_of_mem _ (liveH_mem hm hw)
/-- how many cells a load reads -/
def ldN (P : Program) (t : TypeId) : Nat :=
  match P.underlying t with
  | some (.struct _) | some (.array _ _) => szOf P t
  | _ => 1
def vcG (all : List Oper) (o : Oper) (t : List Value) (R S : List Value → Prop) : Prop :=
  match o.guard with
  | none => R t
  | some (j, want) =>
    match slotOf all j with
    | none => S t
    | some d =>
      match nthV t d with
      | .bool b =>
        vIf b
          (match want with | true => R (putV t d (.bool true)) | false => S (putV t d (.bool true)))
          (match want with | false => R (putV t d (.bool false)) | true => S (putV t d (.bool false)))
      | _ => S t
theorem vcG_out {all : List Oper} {o : Oper} {t : List Value} {R S : List Value → Prop} (h : vcG all o t R S) :
    (Region.wanted o (yielded all.toArray (actOf t).tmps) = true ∧ R t) ∨ (Region.wanted o (yielded all.toArray (actOf t).tmps) = false ∧ S t) := by
  unfold vcG at h
  unfold Region.wanted
  split at h
  · rename_i hg
    simp only [hg]
    exact .inl ⟨trivial, h⟩
  · rename_i j want hg
    simp only [hg]
    have hy := yielded_of (all := all) (t := t) (j := j)
    generalize yielded all.toArray (actOf t).tmps j = y at hy ⊢
    split at h
    · rename_i hd
      simp only [hd] at hy
      subst hy
      exact .inr ⟨by simp, h⟩
    · rename_i d hd
      simp only [hd] at hy
      generalize hv : nthV t d = x at h hy
      cases x
      case bool b =>
        simp only at hy h
        subst hy
        cases b <;> cases want <;> simp only [vIf, putV_self hv] at h <;> first | exact .inl ⟨by simp, h⟩ | exact .inr ⟨by simp, h⟩
      all_goals
        simp only at hy h
        subst hy
        exact .inr ⟨by simp, h⟩
/-- a still operation: its value, and what it read -/
def vcS (P : Program) (ρ : Operand → Value) (w : World) (i : Nat) (H : List HB) (op : Op) (K : List HB → Value → Prop) : Prop :=
  match op with
  | .load t a => (match ρ a with | .pointer q => dr q (fun b o => vcLd P t w b o (fun v => K (⟨i, w, b, o, ldN P t⟩ :: H) v)) | _ => False)
  | op => vcStill P ρ w op (K H)
def firstStill (P : Program) (all : List Oper) : List Nat → Option Nat
  | [] => none
  | i :: r => match all[i]? with
    | some o => (match stillB P o.op with | true => some i | false => firstStill P all r)
    | none => firstStill P all r
def pickO (P : Program) (all : List Oper) (rs : List Nat) : Option Nat :=
  match firstStill P all rs with
  | some i => some i
  | none => rs.head?
def soleB (i : Nat) : List Nat → Bool
  | [j] => Nat.beq j i
  | _ => false
/-- each of those that may come next -/
def conjL : List Nat → (Nat → Prop) → Prop
  | [], _ => True
  | [i], F => F i
  | i :: r, F => F i ∧ conjL r F
theorem conjL_mem {F : Nat → Prop} : ∀ {l : List Nat}, conjL l F → ∀ i ∈ l, F i
  | [], _, i, hi => by cases hi
  | [j], h, i, hi => by
    have : i = j := by simpa using hi
    subst this; exact h
  | j :: k :: r, h, i, hi => by
    rcases List.mem_cons.1 hi with rfl | hi
    · exact h.1
    · exact conjL_mem h.2 i hi
def vcOrd (P : Program) (all : List Oper) (K : List Value → World → Prop) : Nat → Array Bool → List HB → List Value → World → Prop
  | 0, l, _, t, w => gd (Region.ready .any all.toArray l).isEmpty (K t w)
  | n + 1, l, H, t, w =>
    match pickO P all (Region.ready .any all.toArray l) with
    | none => K t w
    | some i =>
      match all[i]? with
      | none => False
      | some o =>
        match stillB P o.op with
        | true => gd (Region.free .any all.toArray l i) (vcG all o t (fun t => vcS P (ev t) w i H o.op (fun H' v => vcOrd P all K n (l.setIfInBounds i true) H' (putO t o.dst v) w)) (fun t => vcOrd P all K n (l.setIfInBounds i true) H (putO t o.dst undef) w))
        | false => conjL (Region.ready .any all.toArray l) (fun i => match all[i]? with
          | none => False
          | some o => vcG all o t (fun t => vcOp P (ev t) o w (fun v w' => kps (liveH all i H) w' (vcOrd P all K n (l.setIfInBounds i true) H (putO t o.dst v) w'))) (fun t => vcOrd P all K n (l.setIfInBounds i true) H (putO t o.dst undef) w))
theorem firstStill_mem {P : Program} {all : List Oper} {i : Nat} : ∀ {rs : List Nat}, firstStill P all rs = some i → i ∈ rs
  | [], h => by simp [firstStill] at h
  | x :: r, h => by
    unfold firstStill at h
    split at h
    · split at h
      · simp only [Option.some.injEq] at h; subst h; exact List.mem_cons_self
      · exact List.mem_cons_of_mem _ (firstStill_mem h)
    · exact List.mem_cons_of_mem _ (firstStill_mem h)
theorem pickO_mem {P : Program} {all : List Oper} {i : Nat} {rs : List Nat} (h : pickO P all rs = some i) : i ∈ rs := by
  unfold pickO at h
  split at h
  · rename_i hf; simp only [Option.some.injEq] at h; subst h; exact firstStill_mem hf
  · exact List.mem_of_head? h
theorem pickO_none {P : Program} {all : List Oper} {rs : List Nat} (h : pickO P all rs = none) : rs = [] := by
  unfold pickO at h
  split at h
  · cases h
  · cases rs <;> simp_all
section
variable {P : Program} {w : World}
theorem vcLd_det {t : TypeId} {b o : Nat} {K : Value → Prop} (h : vcLd P t w b o K) : ∃ v, K v ∧ ∀ w', (∀ j, j < ldN P t → cellAt w' b (o + j) = cellAt w b (o + j)) → vcLd P t w' b o (fun u => u = v) := by
  unfold vcLd at h
  split at h
  case h_11 => exact h.elim
  all_goals (rename_i hu; unfold vcLd ldN; simp only [hu])
  case h_1 | h_2 =>
    obtain ⟨cs, hl, hc, h⟩ := h
    exact ⟨_, h, fun w' e => ⟨cs, hl, fun j v hj => (e j (by have := (List.getElem?_eq_some_iff.1 hj).1; omega)).trans (hc j v hj), rfl⟩⟩
  case h_7 =>
    obtain ⟨x, y, z, hc, h⟩ := h
    exact ⟨_, h, fun w' e => ⟨x, y, z, (e 0 (by omega)).trans hc, rfl⟩⟩
  all_goals
    obtain ⟨x, hc, h⟩ := h
    exact ⟨_, h, fun w' e => ⟨x, (e 0 (by omega)).trans hc, rfl⟩⟩
theorem vcOrd_sound (hN : NoCount P) {all : List Oper} {N : Nat} {K : List Value → World → Prop} {Q : Exit → Act → World → Prop} (hsel : Region.noSelect all.toArray = true)
    (hK : ∀ t w, t.length = N → K t w → Q .normal (actOf t) w) (hP : ∀ c a w, ¬ Q (.panic c) a w) :
    ∀ (n : Nat) (l : Array Bool) (H : List HB) (t : List Value) (w : World), t.length = N → LClosed .any all.toArray l → vcOrd P all K n l H t w →
      wpF P .any all.toArray Q (H.map (HB.hd all)) n l (actOf t) w
  | 0, l, H, t, w, hl, hc, h => by
    obtain ⟨h1, h2⟩ := gd_iff.1 h
    exact ⟨by simpa using h1, hK t w hl h2⟩
  | n + 1, l, H, t, w, hl, hc, h => by
    unfold vcOrd at h
    split at h
    · rename_i hp
      have hr := pickO_none hp
      exact ⟨fun _ => hK t w hl h, fun i hi => by rw [hr] at hi; cases hi⟩
    · rename_i i hp
      have hr := pickO_mem hp
      split at h
      · exact h.elim
      · rename_i o ho
        have ho' : all.toArray[i]? = some o := by simpa using ho
        have hc' := hc.set hr
        split at h
        · rename_i hst
          obtain ⟨hf, h⟩ := gd_iff.1 h
          have hfree := Region.free_spec ho' hf
          have first : ∀ (hd : Hd) (H' : List Hd) (v : Value), hd ∈ H' → (∀ x ∈ H.map (HB.hd all), x ∈ H' ∨ ∀ w, x.S w) → (∀ d, hd.ds d = true → ∀ l, LClosed .any all.toArray l → d ∈ Region.ready .any all.toArray l → l.getD i false = true) →
              YieldsIf P all.toArray hd.S o v (actOf t) → hd.S w → wpF P .any all.toArray Q H' n (l.setIfInBounds i true) ((actOf t).put o.dst v) w → wpF P .any all.toArray Q (H.map (HB.hd all)) (n + 1) l (actOf t) w :=
            fun hd H' v hm hsub hds hy hS hw => wpF_mono hsub _ _ _ _ (wpF_first hm ho' (Region.noSelect_spec hsel) hP hds n l (actOf t) w hfree hc hr hy hS hw)
          have pure1 : ∀ v, YieldsIf P all.toArray (fun _ => True) o v (actOf t) → vcOrd P all K n (l.setIfInBounds i true) H (putO t o.dst v) w → wpF P .any all.toArray Q (H.map (HB.hd all)) (n + 1) l (actOf t) w := fun v hy hn => by
            refine first ⟨fun _ => True, fun _ => false⟩ (⟨fun _ => True, fun _ => false⟩ :: H.map (HB.hd all)) v List.mem_cons_self (fun x hx => .inl (List.mem_cons_of_mem _ hx)) (fun d hd => by cases hd) hy trivial ?_
            refine wpF_mono (fun x hx => ?_) _ _ _ _ (by rw [put_eq]; exact vcOrd_sound hN hsel hK hP n _ H _ w (by rw [putO_length]; exact hl) hc' hn)
            rcases List.mem_cons.1 hx with rfl | hx
            · exact .inr (fun _ => trivial)
            · exact .inl hx
          rcases vcG_out h with ⟨hw, h⟩ | ⟨hw, h⟩
          · unfold vcS at h
            split at h
            · rename_i ty a hop
              split at h
              · rename_i q hq
                rw [dr_iff] at h
                obtain ⟨b, off, rfl, h⟩ := h
                obtain ⟨v, hn, hh⟩ := vcLd_det h
                let hb : HB := ⟨i, w, b, off, ldN P ty⟩
                refine first (hb.hd all) ((hb :: H).map (HB.hd all)) v (List.mem_cons_self) (fun x hx => .inl (List.mem_cons_of_mem _ hx)) (fun d hd => waitsB_spec hd) (.inl ⟨hw, fun w' hS => ?_⟩) (fun j _ => rfl) ?_
                · have h2 := hh w' hS
                  obtain ⟨v', hv', e⟩ := vcLd_run h2
                  subst e
                  obtain ⟨dst, op, ty', pos, after, guard⟩ := o
                  simp only at hop
                  subst hop
                  rw [ev_eq]
                  simp [execOp, Instr.loadAt, Instr.sureAddr, hq, hv', Sem.run_bind]
                · rw [put_eq]; exact vcOrd_sound hN hsel hK hP n _ (hb :: H) _ w (by rw [putO_length]; exact hl) hc' hn
              · exact h.elim
            · rename_i hnl
              have hl' : loadB o.op = false := by
                cases hop : o.op <;> first | rfl | (exact absurd hop (hnl _ _))
              obtain ⟨v, hn, hh⟩ := vcStill_det hl' h
              refine pure1 v (.inl ⟨hw, fun w' _ => ?_⟩) hn
              obtain ⟨v', hv', e⟩ := vcStill_run (hh w')
              subst e
              rw [ev_eq]
              exact hv'
          · exact pure1 undef (.inr ⟨hw, rfl⟩) h
        · refine ⟨fun hn => (by rw [hn] at hr; cases hr), fun j hj => ?_⟩
          have h := conjL_mem h j hj
          clear ho ho' hc' hr
          have hc' := hc.set hj
          split at h
          · exact h.elim
          rename_i o ho
          have ho' : all.toArray[j]? = some o := by simpa using ho
          unfold wpOp
          simp only [ho']
          have ih := fun (t' : List Value) (w' : World) (hl' : t'.length = N) (h' : vcOrd P all K n (l.setIfInBounds j true) H t' w') => vcOrd_sound hN hsel hK hP n _ H t' w' hl' hc' h'
          rcases vcG_out h with ⟨hw, h⟩ | ⟨hw, h⟩
          · rw [if_pos hw]
            refine .inl (vcOp_wp hN h (fun v w' hv => ?_) Q)
            obtain ⟨h1, h2⟩ := kps_out hv
            refine ⟨fun x hx hd hS => ?_, by rw [put_eq]; exact ih _ _ (by rw [putO_length]; exact hl) h2⟩
            obtain ⟨hb, hbm, rfl⟩ := List.mem_map.1 hx
            exact h1 hb (liveH_mem hbm hd)
          · rw [if_neg (by simp [hw])]
            exact ⟨fun x hx hd hS => hS, by rw [put_eq]; exact ih _ _ (by rw [putO_length]; exact hl) h⟩
/-- a region that draws -/
def vcDraw (P : Program) (ops : List Oper) (K : List Value → World → Prop) (t : List Value) (w : World) : Prop :=
  gd (Region.noSelect ops.toArray) (vcOrd P ops K ops.length (Array.replicate ops.length false) [] t w.drew)
theorem getD_replicate_false (n i : Nat) : (Array.replicate n false).getD i false = false := by
  by_cases h : i < n <;> simp [Array.getD_eq_getD_getElem?, h]
theorem vcDraw_sound (hN : NoCount P) (hm : P.follows .mixedOrders = true) {ops : List Oper} {N id : Nat} {K : List Value → World → Prop} {Q : Exit → Act → World → Prop}
    (hK : ∀ t w, t.length = N → K t w → Q .normal (actOf t) w) {t : List Value} (hl : t.length = N) (h : vcDraw P ops K t w) : (Code.region id ops.toArray true).wp P Q (actOf t) w := by
  obtain ⟨hsel, h⟩ := gd_iff.1 h
  refine Go.wp_mono (Q := fun e a w => e = .normal ∧ Q .normal a w) (wp_region_any hm (wpAny_of_wpF (H := []) _ _ _ _ ?_)) (fun e a w he => by rw [he.1]; exact he.2)
  have h0 : LClosed .any ops.toArray (Array.replicate ops.length false) := fun j oj _ hh => by rw [getD_replicate_false] at hh; cases hh
  have := vcOrd_sound hN (Q := fun e a w => e = .normal ∧ Q .normal a w) hsel (fun t w hl hk => ⟨rfl, hK t w hl hk⟩) (fun c a w hh => by cases hh.1) ops.length _ [] t w.drew hl h0 h
  simpa using this
end
end Go.GV
