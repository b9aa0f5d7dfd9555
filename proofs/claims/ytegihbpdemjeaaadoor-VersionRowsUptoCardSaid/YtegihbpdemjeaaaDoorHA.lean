/- chapter 51: figures, parts' order; the document's parts and order -/
import Derived.Test.YtegihbpdemjeaaaDoorHP
namespace Go.Proofs.YtegihbpdemjeaaaDoor
open Go.GV Go.RowKit Go.Lib
set_option linter.unusedVariables false
set_option linter.unusedSimpArgs false
/-- nothing that lay is moved, and no draw is taken back -/
structure Gr (w w' : World) : Prop where
  fr : Fr (fun _ => False) w w'
  dr : w.drawn ≤ w'.drawn
theorem Gr.refl (w : World) : Gr w w := ⟨Fr.refl _ _, Nat.le_refl _⟩
theorem Gr.trans {a b c : World} (h : Gr a b) (k : Gr b c) : Gr a c := ⟨h.fr.trans1 k.fr, Nat.le_trans h.dr k.dr⟩
theorem Gr.drew (w : World) : Gr w w.drew := ⟨Fr.drew _ _, Nat.le_succ _⟩
def ba (l : Bs) : ByteArray := ⟨l.toArray⟩
theorem ba_list (l : Bs) : (ba l).data.toList = l := rfl
theorem ba_size (l : Bs) : (ba l).size = l.length := by simp [ba, ByteArray.size]
theorem ba_inj {a b : Bs} (h : ba a = ba b) : a = b := by rw [← ba_list a, h, ba_list]
theorem ba_beq (a b : Bs) : ((ba a).toList == (ba b).toList) = decide (a = b) := by
  rw [neq, Bool.eq_iff_iff, decide_eq_true_iff, decide_eq_true_iff]
  exact ⟨ba_inj, fun h => by rw [h]⟩
theorem ba_lt (a b : Bs) : Op.bytesLess (ba a).toList (ba b).toList = Op.bytesLess a b := by rw [toList_data, toList_data, ba_list, ba_list]
theorem ba_byte {l : Bs} {i : Nat} {c : UInt8} (h : l[i]? = some c) : byteAt (ba l) i = (c.toNat : Int) := by
  unfold byteAt
  rw [ba_list, List.getD_eq_getElem?_getD, h]; rfl
theorem ba_extract (l : Bs) (i j : Nat) : (ba l).extract i j = ba ((l.drop i).take (j - i)) := by
  apply ByteArray.ext
  simp [ba, ByteArray.data_extract]
theorem ba_app (a b : Bs) : ba a ++ ba b = ba (a ++ b) := by
  apply ByteArray.ext
  simp [ba]
theorem ba_of (s : ByteArray) : s = ba s.data.toList := rfl
theorem hd_fig {l : Bs} {c : UInt8} (h : l[0]? = some c) : hd l = fig c := by
  cases l with
  | nil => cases h
  | cons x r => simp at h; subst h; rfl
/-! ### figures -/
theorem figure_calls (c : UInt8) (w : World) : Calls Tryd.prog 22 #[.int .u8 (c.toNat : Int)] w fun e w' => e = .returned (.bool (fig c)) ∧ w' = w := by
  refine (F22.of (c.toNat : Int) w (Q := fun v w' => v = .bool (fig c) ∧ w' = w) ?_).mono (fun e w' ⟨v, he, hv, h⟩ => ⟨by rw [he, hv], h⟩)
  refine vIf_mk (fun h => ⟨?_, rfl⟩) (fun h => ⟨?_, rfl⟩)
  · have h := of_decide_eq_true h
    unfold fig
    rw [decide_eq_true (show 48 ≤ c.toNat by omega), Bool.true_and]
    congr 1
    rw [Bool.eq_iff_iff, decide_eq_true_iff, decide_eq_true_iff]; omega
  · have h := of_decide_eq_false h
    unfold fig
    rw [decide_eq_false (show ¬ 48 ≤ c.toNat by omega), Bool.false_and]
theorem rfigure_calls (c : UInt8) (w : World) : Calls Tryd.prog 20 #[.int .u8 (c.toNat : Int)] w fun e w' => e = .returned (.bool (fig c)) ∧ w' = w := by
  refine (F20.of (c.toNat : Int) w (Q := fun v w' => v = .bool (fig c) ∧ w' = w) ?_).mono (fun e w' ⟨v, he, hv, h⟩ => ⟨by rw [he, hv], h⟩)
  refine vIf_mk (fun h => ⟨?_, rfl⟩) (fun h => ⟨?_, rfl⟩)
  · have h := of_decide_eq_true h
    unfold fig
    rw [decide_eq_true (show 48 ≤ c.toNat by omega), Bool.true_and]
    congr 1
    rw [Bool.eq_iff_iff, decide_eq_true_iff, decide_eq_true_iff]; omega
  · have h := of_decide_eq_false h
    unfold fig
    rw [decide_eq_false (show ¬ 48 ≤ c.toNat by omega), Bool.false_and]
/-! ### without noughts ahead -/
theorem strip_step {l : Bs} {c : UInt8} {r : Bs} (h : l = c :: r) : (c = 48 → strip l = strip r) ∧ (c ≠ 48 → strip l = l) := by
  subst h
  rw [strip]
  exact ⟨fun h => by rw [if_pos h], fun h => by rw [if_neg h]⟩
theorem value_calls (l : Bs) (w : World) : Calls Tryd.prog 25 #[.string (ba l)] w fun e w' => e = .returned (.string (ba (strip l))) ∧ w' = w.drew ∨ e = .returned (.string (ba (strip l))) ∧ w' = w := by
  refine (F25.of (ba l) w (Q := fun v w' => v = .string (ba (strip l)) ∧ w' = w) ?_).mono (fun e w' ⟨v, he, hv, h⟩ => .inr ⟨by rw [he, hv], h⟩)
  refine jnC_mk (loop_rule (fun s u => u = w ∧ ∃ m : Bs, s = (ba m, ()) ∧ strip m = strip l) (fun s _ => s.1.size) ?_ _ _ ⟨rfl, l, rfl, rfl⟩)
  rintro s u C ⟨rfl, m, rfl, hm⟩ hC _
  refine vIf_mk (fun h => ?_) (fun h => ?_)
  · have h : ((ba m).size : Int) > 0 := of_decide_eq_true h
    cases m with
    | nil => rw [ba_size] at h; simp at h
    | cons c r =>
      refine gd_mk (decide_eq_true h) (vIf_mk (fun hc => ?_) (fun hc => ?_))
      · rw [ba_byte (c := c) rfl] at hc
        have hc : c = 48 := UInt8.toNat_inj.1 (by have h' : (c.toNat : Int) = 48 := (by simpa using hc); show c.toNat = 48; omega)
        refine gd_mk (decide_eq_true (by rw [ba_size]; simp; omega)) (jnC_mk (hC _ _ ⟨rfl, r, ?_, ?_⟩ ?_))
        · rw [ba_extract, ba_size]; simp
        · rw [← hm, (strip_step rfl).1 hc]
        · show ((ba (c :: r)).extract 1 (ba (c :: r)).size).size < (ba (c :: r)).size
          rw [ba_extract, ba_size, ba_size]; simp
      · rw [ba_byte (c := c) rfl] at hc
        have hc : c ≠ 48 := fun e => by rw [e] at hc; simp at hc
        exact ⟨by rw [← hm, (strip_step rfl).2 hc], rfl⟩
  · have h : ¬ ((ba m).size : Int) > 0 := of_decide_eq_false h
    have : m = [] := by
      rw [ba_size] at h
      exact List.length_eq_zero_iff.1 (by omega)
    subst this
    exact ⟨by rw [← hm]; rfl, rfl⟩
theorem trimB_calls (l : Bs) (w : World) : Calls Tryd.prog 35 #[.string (ba l), .int .u8 48] w fun e w' => e = .returned (.string (ba (strip l))) ∧ w' = w := by
  refine (F35.of (ba l) 48 w (Q := fun v w' => v = .string (ba (strip l)) ∧ w' = w) ?_).mono (fun e w' ⟨v, he, hv, h⟩ => ⟨by rw [he, hv], h⟩)
  refine jnC_mk (loop_rule (fun s u => u = w ∧ ∃ m : Bs, s = (ba m, (48 : Int), ()) ∧ strip m = strip l) (fun s _ => s.1.size) ?_ _ _ ⟨rfl, l, rfl, rfl⟩)
  rintro s u C ⟨rfl, m, rfl, hm⟩ hC _
  refine vIf_mk (fun h => ?_) (fun h => ?_)
  · have h : ((ba m).size : Int) > 0 := of_decide_eq_true h
    cases m with
    | nil => rw [ba_size] at h; simp at h
    | cons c r =>
      refine gd_mk (decide_eq_true h) (vIf_mk (fun hc => ?_) (fun hc => ?_))
      · rw [ba_byte (c := c) rfl] at hc
        have hc : c = 48 := UInt8.toNat_inj.1 (by have h' : (c.toNat : Int) = 48 := (by simpa using hc); show c.toNat = 48; omega)
        refine gd_mk (decide_eq_true (by rw [ba_size]; simp; omega)) (jnC_mk (hC _ _ ⟨rfl, r, ?_, ?_⟩ ?_))
        · rw [ba_extract, ba_size]; simp
        · rw [← hm, (strip_step rfl).1 hc]
        · show ((ba (c :: r)).extract 1 (ba (c :: r)).size).size < (ba (c :: r)).size
          rw [ba_extract, ba_size, ba_size]; simp
      · rw [ba_byte (c := c) rfl] at hc
        have hc : c ≠ 48 := fun e => by rw [e] at hc; simp at hc
        exact ⟨by rw [← hm, (strip_step rfl).2 hc], rfl⟩
  · have h : ¬ ((ba m).size : Int) > 0 := of_decide_eq_false h
    have : m = [] := by
      rw [ba_size] at h
      exact List.length_eq_zero_iff.1 (by omega)
    subst this
    exact ⟨by rw [← hm]; rfl, rfl⟩
set_option maxRecDepth 100000 in
theorem trim_calls (l : Bs) (w : World) : Calls Tryd.prog 30 #[.string (ba l), .string (⟨#[48]⟩ : ByteArray)] w fun e w' => e = .returned (.string (ba (strip l))) ∧ w' = w := by
  refine (F30.of (ba l) (⟨#[48]⟩ : ByteArray) w (Q := fun v w' => v = .string (ba (strip l)) ∧ w' = w) ?_).mono (fun e w' ⟨v, he, hv, h⟩ => ⟨by rw [he, hv], h⟩)
  refine vIf_mk (fun h => ⟨?_, rfl⟩) (fun h => vIf_f (by show ((ba [48]).toList == (ba []).toList) = false; rw [ba_beq]; decide) (jnC_mk (fun _ => vIf_t rfl (gd_mk rfl (jnC_mk (fun _ => vIf_t rfl (gd_mk rfl ((trimB_calls l w).mono ?_))))))))
  · have h : ((ba l).toList == (ba []).toList) = true := h
    rw [ba_beq] at h
    rw [of_decide_eq_true h]; rfl
  · rintro r w2 ⟨rfl, rfl⟩
    exact ⟨_, rfl, rfl, rfl⟩
/-! ### orders -/
theorem cmpI_calls (a b : Int) (w : World) : Calls Tryd.prog 31 #[.int .i64 a, .int .i64 b] w fun e w' => e = .returned (.int .i64 (cmpI a b)) ∧ w' = w := by
  refine (F31.of a b w (Q := fun v w' => v = .int .i64 (cmpI a b) ∧ w' = w) ?_).mono (fun e w' ⟨v, he, hv, h⟩ => ⟨by rw [he, hv], h⟩)
  have nan : ∀ (x : Int) (u : World), Calls Tryd.prog 39 #[.int .i64 x] u fun e w' => e = .returned (.bool false) ∧ w' = u := fun x u => by
    refine (F39.of x u (Q := fun v w' => v = .bool false ∧ w' = u) ?_).mono (fun e w' ⟨v, he, hv, h⟩ => ⟨by rw [he, hv], h⟩)
    exact ⟨by simp, rfl⟩
  refine (nan a w).mono ?_
  rintro r u ⟨rfl, rfl⟩
  refine ⟨_, rfl, (nan b u).mono ?_⟩
  rintro r v ⟨rfl, rfl⟩
  refine ⟨_, rfl, vIf_f rfl (vIf_f rfl (vIf_mk (fun h => ⟨?_, rfl⟩) (fun h => vIf_mk (fun h2 => ⟨?_, rfl⟩) (fun h2 => ⟨?_, rfl⟩))))⟩
  · unfold cmpI; rw [if_pos (of_decide_eq_true h)]
  · unfold cmpI; rw [if_neg (of_decide_eq_false h), if_pos (of_decide_eq_true h2)]
  · unfold cmpI; rw [if_neg (of_decide_eq_false h), if_neg (of_decide_eq_false h2)]
theorem scmp_calls (a b : Bs) (w : World) : Calls Tryd.prog 24 #[.string (ba a), .string (ba b)] w fun e w' => e = .returned (.int .i64 (compareBytes a b)) ∧ w' = w := strcmp_calls (ba a) (ba b) w
theorem numbers_calls (a b : Bs) (w : World) : Calls Tryd.prog 23 #[.string (ba a), .string (ba b)] w fun e w' => e = .returned (.int .i64 (numC a b)) ∧ w' = w := by
  refine (F23.of (ba a) (ba b) w (Q := fun v w' => v = .int .i64 (numC a b) ∧ w' = w) ?_).mono (fun e w' ⟨v, he, hv, h⟩ => ⟨by rw [he, hv], h⟩)
  refine (trim_calls a w).mono ?_
  rintro r u ⟨rfl, rfl⟩
  refine ⟨_, rfl, (trim_calls b u).mono ?_⟩
  rintro r v ⟨rfl, rfl⟩
  have z1 := cmpI_ord.ze (strip a).length (strip b).length
  have z2 := cb_ord.ze (strip a) (strip b)
  refine ⟨_, rfl, vIf_mk (fun h => ?_) (fun h => vIf_mk (fun h2 => ?_) (fun h2 => ?_))⟩
  · rw [ba_size, ba_size] at h ⊢
    have h : ((strip a).length : Int) ≠ (strip b).length := by simpa using h
    refine (cmpI_calls _ _ v).mono ?_
    rintro r u ⟨rfl, rfl⟩
    exact ⟨_, rfl, by unfold numC; rw [if_pos (fun e => h (z1.1 e))], rfl⟩
  · rw [ba_size, ba_size] at h
    have h : ((strip a).length : Int) = (strip b).length := by simpa using h
    rw [ba_beq] at h2
    have h2 : strip a ≠ strip b := by simpa using h2
    refine (scmp_calls _ _ v).mono ?_
    rintro r u ⟨rfl, rfl⟩
    exact ⟨_, rfl, by unfold numC; rw [if_neg (by rw [z1.2 h]; decide), if_pos (fun e => h2 (z2.1 e))], rfl⟩
  · rw [ba_size, ba_size] at h
    have h : ((strip a).length : Int) = (strip b).length := by simpa using h
    rw [ba_beq] at h2
    have h2 : strip a = strip b := by simpa using h2
    rw [ba_size, ba_size]
    refine (cmpI_calls _ _ v).mono ?_
    rintro r u ⟨rfl, rfl⟩
    exact ⟨_, rfl, by unfold numC; rw [if_neg (by rw [z1.2 h]; decide), if_neg (by rw [z2.2 h2]; decide)], rfl⟩
theorem part_calls (a b : Bs) (w : World) (ha : a ≠ []) (hb : b ≠ []) : Calls Tryd.prog 17 #[.string (ba a), .string (ba b)] w fun e w' => e = .returned (.int .i64 (prtC a b)) ∧ w' = w.drew := by
  refine (F17.of (ba a) (ba b) w (Q := fun v w' => v = .int .i64 (prtC a b) ∧ w' = w.drew) ?_).mono (fun e w' ⟨v, he, hv, h⟩ => ⟨by rw [he, hv], h⟩)
  obtain ⟨x, p, rfl⟩ := List.exists_cons_of_ne_nil ha
  obtain ⟨y, q, rfl⟩ := List.exists_cons_of_ne_nil hb
  refine gd_mk (decide_eq_true (by rw [ba_size]; simp)) (gd_mk (decide_eq_true (by rw [ba_size]; simp)) ?_)
  rw [ba_byte (l := x :: p) (i := 0) rfl, ba_byte (l := y :: q) (i := 0) rfl]
  refine (figure_calls x w.drew).mono ?_
  rintro r u ⟨rfl, rfl⟩
  refine ⟨_, rfl, (figure_calls y w.drew).mono ?_⟩
  rintro r v ⟨rfl, rfl⟩
  have hx : hd (x :: p) = fig x := rfl
  have hy : hd (y :: q) = fig y := rfl
  refine ⟨_, rfl, vIf_mk (fun h1 => jnC_mk (fun _ => vIf_mk (fun h2 => ?_) (fun h2 => vIf_t h1 ⟨?_, rfl⟩))) (fun h1 => jnC_mk (fun _ => vIf_f rfl (vIf_f h1 (vIf_mk (fun h2 => ⟨?_, rfl⟩) (fun h2 => jnC_mk (fun _ => ?_))))))⟩
  · refine (numbers_calls _ _ _).mono ?_
    rintro r u ⟨rfl, rfl⟩
    exact ⟨_, rfl, by unfold prtC; rw [hx, hy, h1, show fig y = true from h2]; rfl, rfl⟩
  · unfold prtC; rw [hx, hy, h1, show fig y = false from h2]; rfl
  · unfold prtC; rw [hx, hy, h1, show fig y = true from h2]; rfl
  · refine (scmp_calls _ _ _).mono ?_
    rintro r u ⟨rfl, rfl⟩
    exact ⟨_, rfl, by unfold prtC; rw [hx, hy, h1, show fig y = false from h2]; rfl, rfl⟩
theorem rless_calls (a b : Bs) (w : World) (ha : a ≠ []) (hb : b ≠ []) : Calls Tryd.prog 18 #[.string (ba a), .string (ba b)] w fun e w' => e = .returned (.bool (lessP a b)) ∧ Fr (fun _ => False) w w' := by
  refine (F18.of (ba a) (ba b) w (Q := fun v w' => v = .bool (lessP a b) ∧ Fr (fun _ => False) w w') ?_).mono (fun e w' ⟨v, he, hv, h⟩ => ⟨by rw [he, hv], h⟩)
  obtain ⟨x, p, rfl⟩ := List.exists_cons_of_ne_nil ha
  obtain ⟨y, q, rfl⟩ := List.exists_cons_of_ne_nil hb
  have fd := Fr.drew (fun _ => False) w
  refine gd_mk (decide_eq_true (by rw [ba_size]; simp)) (gd_mk (decide_eq_true (by rw [ba_size]; simp)) ?_)
  rw [ba_byte (l := x :: p) (i := 0) rfl, ba_byte (l := y :: q) (i := 0) rfl]
  refine (rfigure_calls x w.drew).mono ?_
  rintro r u ⟨rfl, rfl⟩
  refine ⟨_, rfl, (rfigure_calls y w.drew).mono ?_⟩
  rintro r v ⟨rfl, rfl⟩
  have hx : hd (x :: p) = fig x := rfl
  have hy : hd (y :: q) = fig y := rfl
  refine ⟨_, rfl, vIf_mk (fun h1 => ⟨?_, fd⟩) (fun h1 => vIf_mk (fun h2 => ⟨?_, fd⟩) (fun h2 => ?_))⟩
  · unfold lessP; rw [hx, hy, if_pos (by simpa using h1)]
  · have h1 : fig x = fig y := by simpa using h1
    have h2 : fig x = false := by simpa using h2
    unfold lessP; rw [hx, hy, if_neg (by simpa using h1), if_pos h2, ba_lt]
  · have h1 : fig x = fig y := by simpa using h1
    have h2 : fig x = true := by simpa using h2
    refine (value_calls (x :: p) _).mono ?_
    rintro r u hr
    have hu : r = .returned (.string (ba (strip (x :: p)))) ∧ Fr (fun _ => False) w u := by
      rcases hr with ⟨h, rfl⟩ | ⟨h, rfl⟩
      · exact ⟨h, fd.trans1 (Fr.drew _ _)⟩
      · exact ⟨h, fd⟩
    obtain ⟨rfl, fu⟩ := hu
    refine ⟨_, rfl, (value_calls (y :: q) u).mono ?_⟩
    rintro r v hr
    have hv : r = .returned (.string (ba (strip (y :: q)))) ∧ Fr (fun _ => False) w v := by
      rcases hr with ⟨h, rfl⟩ | ⟨h, rfl⟩
      · exact ⟨h, fu.trans1 (Fr.drew _ _)⟩
      · exact ⟨h, fu⟩
    obtain ⟨rfl, fv⟩ := hv
    have e : ∀ (s t : Prop) [Decidable s] [Decidable t], (s ↔ t) → decide s = decide t := fun s t _ _ h => by rw [Bool.eq_iff_iff, decide_eq_true_iff, decide_eq_true_iff]; exact h
    unfold lessP
    rw [hx, hy, if_neg (by simpa using h1), if_neg (by rw [h2]; decide)]
    refine ⟨_, rfl, vIf_mk (fun h3 => ⟨?_, fv⟩) (fun h3 => vIf_mk (fun h4 => ⟨?_, fv⟩) (fun h4 => ⟨?_, fv⟩))⟩
    · rw [ba_beq] at h3
      rw [if_pos (of_decide_eq_true h3), ba_size, ba_size]
      congr 1
      exact e _ _ (by omega)
    · rw [ba_beq] at h3
      rw [ba_size, ba_size] at h4
      rw [if_neg (of_decide_eq_false h3), if_pos (by have h' : ((strip (x :: p)).length : Int) = (strip (y :: q)).length := (by simpa using h4); omega), ba_lt]
    · rw [ba_beq] at h3
      rw [ba_size, ba_size] at h4 ⊢
      rw [if_neg (of_decide_eq_false h3), if_neg (by have h' : ¬ ((strip (x :: p)).length : Int) = (strip (y :: q)).length := (by simpa using h4); omega)]
      congr 1
      exact e _ _ (by omega)
end Go.Proofs.YtegihbpdemjeaaaDoor
