/- The library's slices.Clone, Grow and Concat at bytes. -/
import Derived.Test.YtihifmamdeafdaaV
import Derived.Test.YtihifmamdeafdaaG8
namespace Go.Proofs.Ytihifmamdeafdaa
open Go.GV Go.RowKit
set_option linter.unusedVariables false
theorem clone_calls (A : Option Addr) (n c : Nat) (l : List UInt8) (w : World) (h : Sl w 1 A n (l.map bv)) (h0 : A = none → n = 0) (hn : n ≤ 1099511627776) :
    Calls Try.prog 21 #[.slice A n c] w fun e w' => Fr (fun _ => False) w w' ∧ ∃ A' c', e = .returned (.slice A' n c') ∧ Row w' w.heap.size 5 1 A' n c' (l.map bv) := by
  refine (F21.of A n c w (Q := fun v w' => Fr (fun _ => False) w w' ∧ ∃ A' c', v = .slice A' n c' ∧ Row w' w.heap.size 5 1 A' n c' (l.map bv)) ?_).mono (fun e w' ⟨v, he, hf, A', c', hv, h⟩ => ⟨hf, A', c', by rw [he, hv], h⟩)
  have hl : l.length = n := by simpa using h.1
  refine vIf_mk (fun hA => ?_) (fun hA => nw_mk ?_)
  · have hA : A = none := by simpa using hA
    have := h0 hA
    subst this
    have : l = [] := List.length_eq_zero_iff.1 hl
    subst this
    exact ⟨Fr.refl _ _, none, 0, rfl, Row.nil _ _ _ _⟩
  · have f1 : Fr (fun _ => False) w (w.alloc (.cells ([] : List Value).toArray 5)) := Fr.alloc _ _ _
    have r1 : Row (w.alloc (.cells ([] : List Value).toArray 5)) w.heap.size 5 1 (some ⟨w.heap.size, 0, none⟩) 0 0 [] := Row.new (Nat.le_refl _) rfl
    refine app_row r1 (f1.sl h (fun _ _ _ h => h)).src (bvs_one l) rfl (by omega) (by omega) f1.size ?_
    intro A' c' w2 r2 f2
    rw [Nat.zero_add] at r2 ⊢
    rw [List.nil_append] at r2
    exact ⟨f1.trans f2 (fun _ _ h => h) (fun k hk h => by simp only [blkOf, Option.some.injEq] at h; omega), A', c', rfl, r2⟩
theorem grow_calls (m : Nat) (w : World) (hm : m ≤ 1099511627776) :
    Calls Try.prog 23 #[.slice none 0 0, .int .i64 m] w fun e w' => Fr (fun _ => False) w w' ∧ ∃ A' c', e = .returned (.slice A' 0 c') ∧ Row w' w.heap.size 5 1 A' 0 c' [] := by
  refine (F23.of none 0 0 m w (Q := fun v w' => Fr (fun _ => False) w w' ∧ ∃ A' c', v = .slice A' 0 c' ∧ Row w' w.heap.size 5 1 A' 0 c' []) ?_).mono (fun e w' ⟨v, he, hf, A', c', hv, h⟩ => ⟨hf, A', c', by rw [he, hv], h⟩)
  refine vIf_f (decide_eq_false (by omega)) (jnC_mk (fun _ => ?_))
  have e0 : IntKind.wrap .i64 ((m : Int) - IntKind.wrap .i64 (((0 : Nat) : Int) - ((0 : Nat) : Int))) = m := by
    rw [i64_id (n := ((0 : Nat) : Int) - ((0 : Nat) : Int)) (by omega) (by omega), i64_id (by omega) (by omega)]; omega
  show vIf (decide (IntKind.wrap .i64 ((m : Int) - IntKind.wrap .i64 (((0 : Nat) : Int) - ((0 : Nat) : Int))) > 0)) _ _
  refine vIf_mk (fun h0 => ?_) (fun h0 => ⟨Fr.refl _ _, none, 0, rfl, Row.nil _ _ _ _⟩)
  refine gd_mk rfl (gd_mk rfl ?_)
  show appZ w 1 1 [Value.int .u8 0] 5 none 0 0 (IntKind.wrap .i64 ((m : Int) - IntKind.wrap .i64 (((0 : Nat) : Int) - ((0 : Nat) : Int)))) _
  refine appZ_row (Row.nil w w.heap.size 5 1) (m := m) (by rw [e0, i64_id (by omega) (by omega)]) (by omega) (by intro v hv; simp only [List.mem_singleton] at hv; subst hv; rfl) rfl (by omega) (by omega) (Nat.le_refl _) ?_
  intro A' c' w2 r2 f2
  refine gd_mk rfl (gd_mk (decide_eq_true (by show ((0 : Nat) : Int) ≤ (c' : Int); omega)) ⟨f2.mono (fun _ _ h => by simp [blkOf] at h), _, c', rfl, ?_⟩)
  have hsl : slA A' c' 0 1 = A' := by
    unfold slA
    split
    · rfl
    · cases A' with
      | none => rfl
      | some a => simp [Addr.add]
  show Row w2 w.heap.size 5 1 (slA A' c' 0 1) 0 c' []
  rw [hsl]
  refine ⟨rfl, Nat.zero_le _, ?_⟩
  rcases r2.at_ with ⟨h1, h2, h3⟩ | ⟨b, cs, h1, h2, h3, h4, h5⟩
  · exact .inl ⟨h1, rfl, h3⟩
  · exact .inr ⟨b, cs, h1, h2, h3, h4, by simp⟩
/-- Concat of rows of bytes that stay as they are -/
theorem concat_calls (A : Option Addr) (n c : Nat) (vs : List Value) (ls : List (List UInt8)) (w : World) (h : Sl w 1 A n vs) (hn : n = ls.length) (hs : ∀ (i : Nat) (l : List UInt8), ls[i]? = some l → ∃ (B : Option Addr) (m k : Nat), vs[i]? = some (Value.slice B m k) ∧ Sl w 1 B m (l.map bv))
    (hm : ls.flatten.length ≤ 1099511627776) (hn2 : n ≤ 1099511627776) :
    Calls Try.prog 20 #[.slice A n c] w fun e w' => Fr (fun _ => False) w w' ∧ ∃ A' c', e = .returned (.slice A' ls.flatten.length c') ∧ Row w' w.heap.size 5 1 A' ls.flatten.length c' (ls.flatten.map bv) := by
  refine (F20.of A n c w (Q := fun v w' => Fr (fun _ => False) w w' ∧ ∃ A' c', v = .slice A' ls.flatten.length c' ∧ Row w' w.heap.size 5 1 A' ls.flatten.length c' (ls.flatten.map bv)) ?_).mono (fun e w' ⟨v, he, hf, A', c', hv, h⟩ => ⟨hf, A', c', by rw [he, hv], h⟩)
  have tk : ∀ i l, ls[i]? = some l → (ls.take (i + 1)).flatten = (ls.take i).flatten ++ l := fun i l hi => by rw [List.take_add_one, hi]; simp
  have le : ∀ i, (ls.take i).flatten.length ≤ ls.flatten.length := fun i => by
    have := congrArg (fun x => x.flatten.length) (List.take_append_drop i ls)
    simp only [List.flatten_append, List.length_append] at this
    omega
  refine jnC_mk ?_
  refine loop_rule (fun s u => u = w ∧ ∃ i : Nat, i ≤ n ∧ s = ((A, n, c), (((ls.take i).flatten.length : Nat) : Int), (A, n, c), (n : Int), (i : Int), ()))
    (fun s _ => (n - s.2.2.2.2.1).toNat) ?_ _ _ ⟨rfl, 0, by omega, rfl⟩
  rintro s u C ⟨rfl, i, hi, rfl⟩ hC _
  refine vIf_mk (fun hlt => ?_) (fun hge => ?_)
  · have hlt2 : (i : Int) < n := of_decide_eq_true hlt
    obtain ⟨l, hl⟩ : ∃ l, ls[i]? = some l := ⟨_, List.getElem?_eq_getElem (by omega)⟩
    obtain ⟨B, m, k, hv, hB⟩ := hs i l hl
    obtain ⟨b, o, hA', hc⟩ := h.get (i := i) (by omega) hv
    subst hA'
    have hml : l.length = m := by simpa using hB.1
    have h1 := le (i + 1)
    rw [tk i l hl, List.length_append] at h1
    have e1 : IntKind.wrap .i64 ((((ls.take i).flatten.length : Nat) : Int) + (m : Int)) = (((ls.take (i + 1)).flatten.length : Nat) : Int) := by
      rw [i64_id (by omega) (by omega), tk i l hl, List.length_append]; omega
    refine dr_mk (gd_mk (decide_eq_true (Int.natCast_nonneg i)) (gd_mk (decide_eq_true hlt2) ⟨B, m, k, hc, vIf_f (decide_eq_false ?_) (jnC_mk (hC _ _ ⟨rfl, i + 1, by omega, ?_⟩ ?_))⟩))
    · show ¬ (IntKind.wrap .i64 ((((ls.take i).flatten.length : Nat) : Int) + (m : Int)) < 0)
      rw [e1]; omega
    · show ((_, n, c), IntKind.wrap .i64 ((((ls.take i).flatten.length : Nat) : Int) + (m : Int)), (_, n, c), (n : Int), IntKind.wrap .i64 ((i : Int) + 1), ()) = _
      rw [e1, i64_id (by omega) (by omega)]; rfl
    · show ((n : Int) - IntKind.wrap .i64 ((i : Int) + 1)).toNat < ((n : Int) - i).toNat
      rw [i64_id (by omega) (by omega)]; omega
  · have hge2 : ¬ ((i : Int) < n) := of_decide_eq_false hge
    have hin : i = ls.length := by omega
    subst hin
    show Calls Try.prog 23 #[.slice none 0 0, .int .i64 (((ls.take ls.length).flatten.length : Nat) : Int)] u _
    rw [List.take_length]
    refine (grow_calls _ u hm).mono ?_
    rintro e w1 ⟨f1, R, rc, rfl, r1⟩
    refine ⟨R, 0, rc, rfl, jnC_mk ?_⟩
    refine loop_rule (fun s x => Fr (fun _ => False) u x ∧ ∃ (i : Nat) (R : Option Addr) (rc : Nat), i ≤ n ∧ s = ((R, (ls.take i).flatten.length, rc), (A, n, c), (n : Int), (i : Int), ()) ∧ Row x u.heap.size 5 1 R (ls.take i).flatten.length rc ((ls.take i).flatten.map bv))
      (fun s _ => (n - s.2.2.2.1).toNat) ?_ _ _ ⟨f1, 0, R, rc, by omega, rfl, r1⟩
    rintro s x C2 ⟨hf, i, R, rc, hi, rfl, hr⟩ hC2 _
    have hRb : ∀ k, k < u.heap.size → blkOf R = some k → False := fun k hk hb => by have := (hr.blt hb).1; omega
    refine vIf_mk (fun hlt => ?_) (fun hge => ?_)
    · have hlt2 : (i : Int) < n := of_decide_eq_true hlt
      obtain ⟨l, hl⟩ : ∃ l, ls[i]? = some l := ⟨_, List.getElem?_eq_getElem (by omega)⟩
      obtain ⟨B, m, k, hv, hB⟩ := hs i l hl
      obtain ⟨b, o, hA', hc⟩ := (hf.sl h (fun _ _ _ h => h)).get (i := i) (by omega) hv
      subst hA'
      have hml : l.length = m := by simpa using hB.1
      have h1 := le (i + 1)
      rw [tk i l hl, List.length_append] at h1
      refine dr_mk (gd_mk (decide_eq_true (Int.natCast_nonneg i)) (gd_mk (decide_eq_true hlt2) ⟨B, m, k, hc, ?_⟩))
      refine app_row hr (hf.sl hB (fun _ _ _ h => h)).src (bvs_one l) rfl (by show ((ls.take i).flatten.length + m) * 1 ≤ _; omega) (by show (ls.take i).flatten.length + m ≤ _; omega) hf.size ?_
      intro R' rc' w4 r4 f4
      have e2 : (ls.take i).flatten.length + m = (ls.take (i + 1)).flatten.length := by rw [tk i l hl, List.length_append, hml]
      refine jnC_mk (hC2 _ _ ⟨hf.trans f4 (fun _ _ h => h) (fun k hk h => hRb k hk h), i + 1, R', rc', by omega, ?_, ?_⟩ ?_)
      · show ((R', (ls.take i).flatten.length + m, rc'), (_, n, c), (n : Int), IntKind.wrap .i64 ((i : Int) + 1), ()) = _
        rw [i64_id (by omega) (by omega), e2]; rfl
      · rw [← e2, tk i l hl, List.map_append]
        exact r4
      · show ((n : Int) - IntKind.wrap .i64 ((i : Int) + 1)).toNat < ((n : Int) - i).toNat
        rw [i64_id (by omega) (by omega)]; omega
    · have hge2 : ¬ ((i : Int) < n) := of_decide_eq_false hge
      have hin : i = ls.length := by omega
      subst hin
      rw [List.take_length] at hr ⊢
      exact ⟨hf, R, rc, rfl, hr⟩
end Go.Proofs.Ytihifmamdeafdaa
