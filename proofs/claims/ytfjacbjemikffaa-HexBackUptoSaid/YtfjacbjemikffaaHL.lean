/- chapter 03: the laws. -/
import Derived.Test.YtfjacbjemikffaaH
import Derived.Test.YtfjacbjemikffaaG9
import Derived.Test.YtfjacbjemikffaaRows
namespace Go.Proofs.Ytfjacbjemikffaa
open Go.GV Go.RowKit Go.ChangeShapes Go.WideShapes Go.ChangeAt
set_option linter.unusedVariables false
theorem lives_calls (w : World) : Calls Try.prog 8 #[] w fun e w' => e = .returned (.bool true) ∧ Fr (fun _ => False) w w' := by
  refine (F8.of w (Q := fun v w' => v = .bool true ∧ Fr (fun _ => False) w w') ?_).mono (fun e w' ⟨v, he, hv, h⟩ => ⟨by rw [he, hv], h⟩)
  refine (read_calls ⟨#[48, 48, 97, 98]⟩ w (by decide)).mono ?_
  rintro e w1 ⟨v, rfl, f1, A, n, c, r, rfl, h1⟩
  obtain ⟨_, rfl, hr⟩ : okHex [48, 48, 97, 98] = true ∧ r = 0 ∧ Row w1 w.heap.size 5 1 A n c ((dec [48, 48, 97, 98]).map bv) := by
    rcases h1 with h | ⟨h, _⟩
    · exact h
    · exact absurd h (by decide)
  have hd : dec [48, 48, 97, 98] = [0, 171] := by decide
  rw [hd] at hr
  refine ⟨A, n, c, 0, rfl, nw_mk ?_⟩
  have r2 : Row (w1.alloc (.cells ([0, 171].map bv).toArray 5)) 0 5 1 (some ⟨w1.heap.size, 0, none⟩) 2 2 ([0, 171].map bv) := Row.new (Nat.zero_le _) rfl
  refine (text_calls (some ⟨w1.heap.size, 0, none⟩) 2 2 [0, 171] _ r2.sl (by omega)).mono ?_
  rintro e w2 ⟨rfl, f2⟩
  refine ⟨_, rfl, vIf_t (by decide +kernel) (vIf_t rfl (nw_mk ?_))⟩
  have f12 : Fr (fun _ => False) w1 w2 := (Fr.alloc _ _ _).trans1 f2
  have hr2 := f12.row hr (fun _ _ h => h)
  have f3 : Fr (fun _ => False) w2 (w2.alloc (.cells ([0, 171].map bv).toArray 5)) := Fr.alloc _ _ _
  have r3 : Row (w2.alloc (.cells ([0, 171].map bv).toArray 5)) 0 5 1 (some ⟨w2.heap.size, 0, none⟩) 2 2 ([0, 171].map bv) := Row.new (Nat.zero_le _) rfl
  have hn : n = 2 := by have := hr.len; simpa using this.symm
  refine (same_calls A n c [0, 171] (some ⟨w2.heap.size, 0, none⟩) 2 2 [0, 171] _ (f3.row hr2 (fun _ _ h => h)).sl r3.sl (by omega)).mono ?_
  rintro e w3 ⟨rfl, f4⟩
  exact ⟨true, rfl, rfl, ((f1.trans1 f12).trans1 f3).trans1 f4⟩
theorem texts_law (A : Option Addr) (n c : Nat) (l : List UInt8) (w : World) (h : Sl w 1 A n (l.map bv)) (hn : n ≤ 1048576) :
    Calls Try.prog 3 #[.slice A n c] w fun e w' => e = .returned (.bool true) ∧ Fr (fun _ => False) w w' := by
  refine (F3.of A n c w (Q := fun v w' => v = .bool true ∧ Fr (fun _ => False) w w') ?_).mono (fun e w' ⟨v, he, hv, h⟩ => ⟨by rw [he, hv], h⟩)
  refine (text_calls A n c l w h (by omega)).mono ?_
  rintro e w1 ⟨rfl, f1⟩
  refine ⟨_, rfl, (rtext_calls A n c l w1 (f1.sl h (fun _ _ _ h => h)) (by omega)).mono ?_⟩
  rintro e w2 ⟨rfl, f2⟩
  refine ⟨_, rfl, vIf_t (beq_self_eq_true _) ((lives_calls w2).mono ?_)⟩
  rintro e w3 ⟨rfl, f3⟩
  exact ⟨true, rfl, rfl, (f1.trans1 f2).trans1 f3⟩
theorem reads_law (s : ByteArray) (w : World) (hs : s.size ≤ 1048576) :
    Calls Try.prog 4 #[.string s] w fun e w' => e = .returned (.bool true) ∧ Fr (fun _ => False) w w' := by
  refine (F4.of s w (Q := fun v w' => v = .bool true ∧ Fr (fun _ => False) w w') ?_).mono (fun e w' ⟨v, he, hv, h⟩ => ⟨by rw [he, hv], h⟩)
  refine (read_calls s w (by omega)).mono ?_
  rintro e w1 ⟨v, rfl, f1, A, n, c, r, rfl, h1⟩
  refine ⟨A, n, c, r, rfl, (rread_calls s w1 (by omega)).mono ?_⟩
  rintro e w2 ⟨v, rfl, f2, A', n', c', r', rfl, h2⟩
  refine ⟨A', n', c', r', rfl, ?_⟩
  have key : ∃ l : List UInt8, Sl w2 1 A n (l.map bv) ∧ Sl w2 1 A' n' (l.map bv) ∧ n < 4611686018427387904 ∧ r = r' := by
    have hsz := size_l s
    rcases h1 with ⟨o1, e1, r1⟩ | ⟨o1, e1, rfl, rfl, rfl⟩ <;> rcases h2 with ⟨o2, e2, r2⟩ | ⟨o2, e2, rfl, rfl, rfl⟩
    · refine ⟨_, (f2.row r1 (fun _ _ h => h)).sl, r2.sl, ?_, by rw [e1, e2]⟩
      have hl := r1.len
      have h3 : (enc (dec s.data.toList)).length = s.data.toList.length := by rw [enc_dec _ o1]
      rw [enc_length] at h3
      simp only [List.length_map] at hl
      omega
    · rw [o1] at o2; cases o2
    · rw [o1] at o2; cases o2
    · exact ⟨[], Sl.nil _ _ _, Sl.nil _ _ _, by omega, by rw [e1, e2]⟩
  obtain ⟨l, s1, s2, hn, rfl⟩ := key
  refine (same_calls A n c l A' n' c' l w2 s1 s2 hn).mono ?_
  rintro e w3 ⟨rfl, f3⟩
  refine ⟨_, rfl, vIf_t (beq_self_eq_true _) (vIf_t (beq_self_eq_true _) ((lives_calls w3).mono ?_))⟩
  rintro e w4 ⟨rfl, f4⟩
  exact ⟨true, rfl, rfl, ((f1.trans1 f2).trans1 f3).trans1 f4⟩
theorem back_law (A : Option Addr) (n c : Nat) (l : List UInt8) (s : ByteArray) (w : World) (h : Sl w 1 A n (l.map bv)) (hn : n ≤ 1048576) (hs : s.size ≤ 1048576) :
    Calls Try.prog 5 #[.slice A n c, .string s] w fun e w' => e = .returned (.bool true) ∧ Fr (fun _ => False) w w' := by
  have hl : l.length = n := by simpa using h.1
  have hsz := size_l s
  refine (F5.of A n c s w (Q := fun v w' => v = .bool true ∧ Fr (fun _ => False) w w') ?_).mono (fun e w' ⟨v, he, hv, h⟩ => ⟨by rw [he, hv], h⟩)
  refine (text_calls A n c l w h (by omega)).mono ?_
  rintro e w1 ⟨rfl, f1⟩
  have hes : (⟨(enc l).toArray⟩ : ByteArray).size = (enc l).length := by simp [ByteArray.size]
  refine ⟨_, rfl, (read_calls ⟨(enc l).toArray⟩ w1 (by rw [hes, enc_length]; omega)).mono ?_⟩
  rintro e w2 ⟨v, rfl, f2, A2, n2, c2, r2, rfl, h2⟩
  have h2' : r2 = 0 ∧ Row w2 w1.heap.size 5 1 A2 n2 c2 (l.map bv) := by
    rcases h2 with ⟨_, h3, h4⟩ | ⟨h3, _⟩
    · have e : (⟨(enc l).toArray⟩ : ByteArray).data.toList = enc l := by simp
      rw [e, dec_enc] at h4
      exact ⟨h3, h4⟩
    · have e : (⟨(enc l).toArray⟩ : ByteArray).data.toList = enc l := by simp
      rw [e, enc_ok] at h3; cases h3
  obtain ⟨rfl, hrow2⟩ := h2'
  refine ⟨A2, n2, c2, 0, rfl, (read_calls s w2 (by omega)).mono ?_⟩
  rintro e w3 ⟨v, rfl, f3, A3, n3, c3, r3, rfl, h3⟩
  have f13 := (f1.trans1 f2).trans1 f3
  refine ⟨A3, n3, c3, r3, rfl, vIf_t rfl ((same_calls A n c l A2 n2 c2 l w3 (f13.sl h (fun _ _ _ h => h)) (f3.row hrow2 (fun _ _ h => h)).sl (by omega)).mono ?_)⟩
  rintro e w4 ⟨rfl, f4⟩
  have f14 := f13.trans1 f4
  refine ⟨_, rfl, vIf_t (beq_self_eq_true _) ?_⟩
  have fin : ∀ u, Fr (fun _ => False) w u → Calls Try.prog 8 #[] u fun e w' => ∃ t : Bool, e = .returned (.bool t) ∧ (Value.bool t = .bool true ∧ Fr (fun _ => False) w w') := fun u fu => by
    refine (lives_calls u).mono ?_
    rintro e w5 ⟨rfl, f5⟩
    exact ⟨true, rfl, rfl, fu.trans1 f5⟩
  rcases h3 with ⟨o3, rfl, hr3⟩ | ⟨o3, rfl, rfl, rfl, rfl⟩
  · refine vIf_f rfl (vIf_t rfl ?_)
    have hd : (enc (dec s.data.toList)).length = s.data.toList.length := by rw [enc_dec _ o3]
    rw [enc_length] at hd
    have hn3 : (dec s.data.toList).length = n3 := by simpa using hr3.len
    refine (text_calls A3 n3 c3 (dec s.data.toList) w4 (f4.row hr3 (fun _ _ h => h)).sl (by omega)).mono ?_
    rintro e w5 ⟨rfl, f5⟩
    have he : (⟨(enc (dec s.data.toList)).toArray⟩ : ByteArray) = s := by rw [enc_dec _ o3]
    rw [he]
    exact ⟨s, rfl, vIf_t (beq_self_eq_true _) (fin w5 (f14.trans1 f5))⟩
  · exact vIf_t rfl (vIf_t rfl (fin w4 f14))
end Go.Proofs.Ytfjacbjemikffaa
