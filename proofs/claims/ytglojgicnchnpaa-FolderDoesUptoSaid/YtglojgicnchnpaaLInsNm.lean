/- slices.Insert of one, slices.Delete of one: rows of api.Named -/
import Derived.Test.YtglojgicnchnpaaV
import Derived.Test.YtglojgicnchnpaaG14
namespace Go.Proofs.Ytglojgicnchnpaa.InsNm
open Go.GV Go.RowKit
set_option linter.unusedVariables false
set_option linter.unusedSimpArgs false
section
variable {β : Type} {enc : β → List Value}
theorem src_rec {w : World} {b : Nat} {e : TypeId} {cs : List Value} {sz : Nat} (h : RecAt w b e cs) (hl : cs.length = sz) : srcOf w sz (.slice (some ⟨b, 0, none⟩) 1 1) 1 cs :=
  ⟨rfl, by omega, fun _ => dr_mk (h.cells (o := 0) (fun j v hj => by simpa using hj))⟩
set_option maxHeartbeats 1000000 in
theorem insert_calls (h0 : EncO β enc 2) (B : Nat) (A : Option Addr) (n c i : Nat) (l : List β) (x : β) (bv : Nat) (w : World) (h : Row w B 48 2 A n c (flt enc l)) (hl : l.length = n) (hi : i ≤ n) (hv : RecAt w bv 48 (enc x)) (hA : blkOf A ≠ some bv) (hB : B ≤ w.heap.size) (hn : n ≤ 1073741824) :
    Calls Try.prog 60 #[.slice A n c, .int .i64 (i : Nat), .slice (some ⟨bv, 0, none⟩) 1 1] w fun e w' => ∃ A' c', e = .returned (.slice A' (n + 1) c') ∧ Fr (fun k => blkOf A = some k) w w' ∧ Row w' B 48 2 A' (n + 1) c' (flt enc (l.take i ++ x :: l.drop i)) := by
  refine (F60.of A n c _ (some ⟨bv, 0, none⟩) 1 1 w (Q := fun v w' => ∃ A' c', v = .slice A' (n + 1) c' ∧ Fr (fun k => blkOf A = some k) w w' ∧ Row w' B 48 2 A' (n + 1) c' (flt enc (l.take i ++ x :: l.drop i))) ?_).mono (fun e w' ⟨v, he, A', c', hv, h⟩ => ⟨A', c', by rw [he, hv], h⟩)
  have hle := h.le
  have hx := h0.len x
  have hfl := h0.fl l
  have hsx := src_rec hv hx
  have ox := h0.one x
  have htx : (enc x).take 2 = enc x := by rw [← hx, List.take_length]
  have hlT : (flt enc (l.take i)).length = i * 2 := by rw [h0.fl, List.length_take, hl, Nat.min_eq_left hi]
  have hlD : (flt enc (l.drop i)).length = (n - i) * 2 := by rw [h0.fl, List.length_drop, hl]
  have fin : flt enc (l.take i ++ x :: l.drop i) = flt enc (l.take i) ++ enc x ++ flt enc (l.drop i) := by rw [flt_app, flt_cons, List.append_assoc]
  rw [fin]
  clear fin
  refine gd_mk (decide_eq_true (by omega)) (gd_mk (decide_eq_true (by omega)) (vIf_f rfl (vIf_mk (fun he => ?_) (fun hne => ?_))))
  · have he : (i : Int) = (n : Int) := by simpa using he
    have he : i = n := by omega
    subst he
    have ht : l.take i = l := List.take_of_length_le (by omega)
    have hd : l.drop i = [] := List.drop_of_length_le (by omega)
    refine app_row (us := enc x) (m := 1) h hsx ox rfl (by omega) (by omega) hB (fun A' c' w' hr' f' => ⟨A', c', rfl, f', ?_⟩)
    rw [ht, hd, flt_nil, List.append_nil]
    exact hr'
  have hne : i ≠ n := fun h => by subst h; simp at hne
  obtain ⟨b, hb⟩ : ∃ b, A = some ⟨b, 0, none⟩ := by
    rcases h.at_ with ⟨_, h0, _⟩ | ⟨b, _, hA, _⟩
    · omega
    · exact ⟨b, hA⟩
  subst hb
  have hbb : b ≠ bv := fun h => hA (by rw [h]; rfl)
  have en : IntKind.wrap .i64 ((n : Int) + ((1 : Nat) : Int)) = ((n + 1 : Nat) : Int) := by rw [i64_id (by omega) (by omega)]; rfl
  have ei : IntKind.wrap .i64 ((i : Int) + ((1 : Nat) : Int)) = ((i + 1 : Nat) : Int) := by rw [i64_id (by omega) (by omega)]; rfl
  have ed : IntKind.wrap .i64 (((n + 1 : Nat) : Int) - (i : Int)) = ((n + 1 - i : Nat) : Int) := by rw [i64_id (by omega) (by omega)]; omega
  have h00 : slA (some (⟨b, 0, none⟩ : Addr)) c 0 2 = some ⟨b, 0, none⟩ := sl0 _ _ _
  simp only [en, ei, ed, h00, Int.toNat_natCast]
  refine vIf_mk (fun hgt => ?_) (fun hng => ?_)
  · have hgt : c < n + 1 := by have := of_decide_eq_true hgt; omega
    refine gd_mk (decide_eq_true (by omega)) (gd_mk (decide_eq_true (by omega)) ?_)
    have hnm : i + (n + 1 - i) = n + 1 := by omega
    refine appZ_new (m := n + 1 - i) (old := flt enc (l.take i)) (B := B) (by rw [← h0.ft l (by omega)]; exact h.sl.headS (by omega)) (by rw [i64_id (by omega) (by omega)]) (by omega) (by intro v hv; repeat (first | (cases hv; done) | (rcases List.mem_cons.1 hv with rfl | hv; · rfl))) rfl (by omega) (by omega) (by omega) hB (fun b5 c5 w5 hb5 hr5 f5 => ?_)
    rw [hnm] at hr5 ⊢
    have hzl : (zeros (n + 1 - i) ([.string (⟨#[]⟩ : ByteArray), .int .i64 0] : List Value)).length = (n + 1 - i) * 2 := by rw [zeros_length]; rfl
    refine gd_mk (decide_eq_true (by omega)) (gd_mk (decide_eq_true (by omega)) ?_)
    refine cpy_row hr5 (src_rec (hv.fr f5 (fun h => h)) hx) (by omega) (by omega) (by rw [Nat.min_eq_left (by omega), Nat.one_mul, htx]; exact ox) (fun w6 hr6 f6 => ?_)
    rw [Nat.min_eq_left (by omega), Nat.one_mul, htx, splice_at hlT] at hr6
    refine gd_mk (decide_eq_true (by omega)) (gd_mk (decide_eq_true (by omega)) (gd_mk (decide_eq_true (by omega)) (gd_mk (decide_eq_true (by omega)) ?_)))
    have hsD := h.tailS (k := i) (by omega)
    rw [h0.fd l (by omega)] at hsD
    have hbl := (h.blt (b := b) rfl).2
    have f56 : Fr (fun k => b5 = k) w w6 := (f5.mono (fun _ _ h => h.elim)).trans1 (f6.mono (fun k _ h => by simpa [blkOf] using h))
    have f7 := f56.trans1 (Fr.drew _ _)
    have hsD7 := f7.sl hsD (fun _ k hk h => by rw [sl_blk] at hk; injection hk with hk; omega)
    refine cpy_row ((Fr.drew (fun _ => False) w6).row hr6 (fun _ _ h => h)) hsD7.src (by rw [hlD]) (by omega) (by intro v hv; exact h0.fo _ v (List.mem_of_mem_take hv)) (fun w8 hr8 f8 => ⟨_, _, rfl, ?_, ?_⟩)
    · exact (f7.trans1 (f8.mono (fun k _ h => by simpa [blkOf] using h))).mono (fun k hk h => by omega)
    · have hD : (flt enc (l.drop i)).take (min (n - i) (n + 1 - (i + 1)) * 2) = flt enc (l.drop i) := List.take_of_length_le (by rw [hlD, show min (n - i) (n + 1 - (i + 1)) = n - i by omega]; exact Nat.le_refl _)
      have hd0 : ((zeros (n + 1 - i) ([.string (⟨#[]⟩ : ByteArray), .int .i64 0] : List Value)).drop (enc x).length).drop (flt enc (l.drop i)).length = [] := List.drop_of_length_le (by rw [List.length_drop, hzl, hx, hlD]; omega)
      rw [hD, splice_at (by rw [List.length_append, hlT, hx]; omega), hd0, List.append_nil] at hr8
      exact hr8
  · have hng : n + 1 ≤ c := by have := of_decide_eq_false hng; omega
    have hs1 : slA (some (⟨b, 0, none⟩ : Addr)) c (i + 1) 2 = some ⟨b, (i + 1) * 2, none⟩ := slS (by omega)
    refine gd_mk (decide_eq_true (by omega)) (gd_mk (decide_eq_true (by omega)) (gd_mk (decide_eq_true (by omega)) (gd_mk (decide_eq_true (by omega)) ?_)))
    obtain ⟨cs, hcs, hcl⟩ : ∃ cs, w.heap[b]? = some (.cells cs 48 (0, 0)) ∧ cs.size = c * 2 := by
      rcases h.at_ with ⟨h1, _⟩ | ⟨b', cs, hA', _, hh, hs, _⟩
      · cases h1
      · cases hA'; exact ⟨cs, hh, hs⟩
    have hov : ∀ K : Value → World → Prop, K (.bool false) w → extC Try.prog 70 #[Value.slice (some ⟨bv, 0, none⟩) 1 1, Value.slice (slA (some (⟨b, 0, none⟩ : Addr)) c (i + 1) 2) (n + 1 - (i + 1)) (c - (i + 1))] w K := by
      intro K hK
      rw [hs1]
      exact overlaps_ext (tS := 22) (tR := 4) (e := 48) Try.func70 (by kernel_rfl) (by kernel_rfl) (by kernel_rfl) (by kernel_rfl) (size := 2) (by decide) (by kernel_rfl) hv hcs (fun h => hbb h.symm) (by omega) hK
    refine hov _ ⟨false, rfl, vIf_t rfl ?_⟩
    refine gd_mk (decide_eq_true (by omega)) (gd_mk (decide_eq_true (by omega)) (gd_mk (decide_eq_true (by omega)) (gd_mk (decide_eq_true (by omega)) ?_)))
    have hwd := (Fr.drew (fun _ => False) w).row h (fun _ _ h => h)
    obtain ⟨us, hul, hE⟩ := row_ext hwd (k := 1) (by omega)
    have hsE := hE.tailS (k := i) (by omega)
    have hEl : (flt enc l ++ us).length = (n + 1) * 2 := hE.len
    have hmin : min (n + 1 - i) (n + 1 - (i + 1)) = n - i := by omega
    have hdi : (flt enc l ++ us).drop (i * 2) = flt enc (l.drop i) ++ us := by rw [List.drop_append_of_le_length (by rw [hfl]; omega), h0.fd l (by omega)]
    rw [hdi] at hsE
    have htk : (flt enc (l.drop i) ++ us).take ((n - i) * 2) = flt enc (l.drop i) := by rw [← hlD, List.take_left]
    refine cpy_row hE hsE.src (by rw [List.length_append, hlD, hul]; omega) (by omega) (by rw [hmin, htk]; exact h0.fo _) (fun w5 hr5 f5 => ?_)
    rw [hmin, htk] at hr5
    have hsp : splice (flt enc l ++ us) ((i + 1) * 2) (flt enc (l.drop i)) = flt enc (l.take (i + 1)) ++ flt enc (l.drop i) := by
      have e1 : flt enc l ++ us = flt enc (l.take (i + 1)) ++ (flt enc (l.drop (i + 1)) ++ us) := by rw [← List.append_assoc, ← flt_app, List.take_append_drop]
      have hd0 : (flt enc (l.drop (i + 1)) ++ us).drop (flt enc (l.drop i)).length = [] := List.drop_of_length_le (by rw [List.length_append, h0.fl, List.length_drop, hl, hul, hlD]; omega)
      rw [e1, splice_at (by rw [h0.fl, List.length_take, hl, Nat.min_eq_left (by omega)]), hd0, List.append_nil]
    rw [hsp] at hr5
    have f5 : Fr (fun k => b = k) w w5 := ((Fr.drew (fun k => b = k) w).trans1 (f5.mono (fun k _ h => by simpa [blkOf] using h)))
    refine gd_mk (decide_eq_true (by omega)) (gd_mk (decide_eq_true (by omega)) ?_)
    refine cpy_row hr5 (src_rec (hv.fr f5 (fun h => hbb h)) hx) (by omega) (by omega) (by rw [Nat.min_eq_left (by omega), Nat.one_mul, htx]; exact ox) (fun w6 hr6 f6 => ⟨_, _, rfl, ?_, ?_⟩)
    · exact (f5.trans1 (f6.mono (fun k _ h => by simpa [blkOf] using h))).mono (fun k _ h => by rw [h]; rfl)
    · rw [Nat.min_eq_left (by omega), Nat.one_mul, htx] at hr6
      have e2 : l.take (i + 1) = l.take i ++ [l[i]'(by omega)] := by rw [List.take_add_one, List.getElem?_eq_getElem (by omega)]; rfl
      rw [e2, flt_app, flt_one, List.append_assoc, splice_at hlT, hx, List.drop_left' (h0.len _)] at hr6
      exact hr6
set_option maxHeartbeats 1000000 in
theorem delete_calls (h0 : EncO β enc 2) (B : Nat) (A : Option Addr) (n c i : Nat) (l : List β) (w : World) (h : Row w B 48 2 A n c (flt enc l)) (hl : l.length = n) (hi : i < n) (hn : n ≤ 1073741824) {j : Int} (hj : j = ((i + 1 : Nat) : Int)) :
    Calls Try.prog 61 #[.slice A n c, .int .i64 (i : Nat), .int .i64 j] w fun e w' => e = .returned (.slice A (n - 1) c) ∧ Fr (fun k => blkOf A = some k) w w' ∧ Row w' B 48 2 A (n - 1) c (flt enc (l.take i ++ l.drop (i + 1))) := by
  subst hj
  refine (F61.of A n c _ _ w (Q := fun v w' => v = .slice A (n - 1) c ∧ Fr (fun k => blkOf A = some k) w w' ∧ Row w' B 48 2 A (n - 1) c (flt enc (l.take i ++ l.drop (i + 1)))) ?_).mono (fun e w' ⟨v, he, hv, h⟩ => ⟨by rw [he, hv], h⟩)
  have hle := h.le
  have hfl := h0.fl l
  obtain ⟨b, hb⟩ : ∃ b, A = some ⟨b, 0, none⟩ := by
    rcases h.at_ with ⟨_, h0, _⟩ | ⟨b, _, hA, _⟩
    · omega
    · exact ⟨b, hA⟩
  subst hb
  have h00 : slA (some (⟨b, 0, none⟩ : Addr)) c 0 2 = some ⟨b, 0, none⟩ := sl0 _ _ _
  refine gd_mk (decide_eq_true (by omega)) (gd_mk (decide_eq_true (by omega)) (gd_mk (decide_eq_true (by omega)) (gd_mk (decide_eq_true (by omega)) (gd_mk (decide_eq_true (by omega)) (gd_mk (decide_eq_true (by omega)) (vIf_f (by simp; omega) ?_))))))
  refine gd_mk (decide_eq_true (by omega)) (gd_mk (decide_eq_true (by omega)) (gd_mk (decide_eq_true (by omega)) (gd_mk (decide_eq_true (by omega)) ?_)))
  simp only [h00, Int.toNat_natCast]
  have hwd := (Fr.drew (fun _ => False) w).row h (fun _ _ h => h)
  have hcut := row_cutG hwd (k := i) (by omega)
  have hsD := hwd.tailS (k := i + 1) (by omega)
  rw [h0.fd l (by omega)] at hsD
  rw [h0.ft l (by omega)] at hcut
  have hnm : i + (n - (i + 1)) = n - 1 := by omega
  refine app_in hcut hsD.src (by rw [h0.fl, List.length_drop, hl]) (h0.fo _) (by omega) (by omega) (by omega) (fun w5 hr5 f5 => ?_)
  rw [hnm] at hr5 ⊢
  rw [← flt_app] at hr5
  refine gd_mk (decide_eq_true (by omega)) (gd_mk (decide_eq_true (by omega)) (gd_mk (decide_eq_true (by omega)) (gd_mk (decide_eq_true (by omega)) (vIf_f (by simp; omega) ?_))))
  have hs1 : slA (some (⟨b, 0, none⟩ : Addr)) c (n - 1) 2 = some ⟨b, (n - 1) * 2, none⟩ := slS (by omega)
  simp only [Int.toNat_natCast]
  rw [hs1, show n - (n - 1) = 1 by omega]
  obtain ⟨us, hul, hE⟩ := row_ext hr5 (k := 1) (by omega)
  have hpl : (flt enc (l.take i ++ l.drop (i + 1))).length = (n - 1) * 2 := hr5.len
  rw [show n - 1 + 1 = n by omega] at hE
  have hpt := row_putG (o' := (n - 1) * 2) (us := zeros 1 ([.string (⟨#[]⟩ : ByteArray), .int .i64 0] : List Value)) (K := fun w' => True ∧ Fr (fun k => blkOf (some (⟨b, 0, none⟩ : Addr)) = some k) w w' ∧ Row w' B 48 2 (some ⟨b, 0, none⟩) (n - 1) c (flt enc (l.take i ++ l.drop (i + 1)))) hE (by omega) (by rw [zeros_length]; show (n - 1) * 2 + 1 * 2 ≤ _; rw [← Nat.add_mul]; exact Nat.mul_le_mul_right _ (by omega)) (zeros_one (by intro v hv; repeat (first | (cases hv; done) | (rcases List.mem_cons.1 hv with rfl | hv; · rfl)))) (fun w6 hr6 f6 => ⟨trivial, ((Fr.drew _ w).trans1 f5).trans1 f6, ?_⟩)
  · rw [← Nat.zero_add ((n - 1) * 2)]
    exact hpt
  · have h7 := row_cutG hr6 (k := n - 1) (by omega)
    rw [splice_at hpl, List.append_assoc, ← hpl, List.take_left] at h7
    exact h7
end
end Go.Proofs.Ytglojgicnchnpaa.InsNm
