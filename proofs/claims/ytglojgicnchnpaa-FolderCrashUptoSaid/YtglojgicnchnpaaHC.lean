/- chapter 11: the document's find, put, without, Behind -/
import Derived.Test.YtglojgicnchnpaaHB
namespace Go.Proofs.Ytglojgicnchnpaa
open Go.GV Go.RowKit Go.Lib Go.Stb
set_option linter.unusedVariables false
set_option linter.unusedSimpArgs false
theorem gtr_cmp (a b : ByteArray) : (!((Op.bytesLess a.toList b.toList) || (a.toList == b.toList))) = decide (cmpN b a < 0) := by
  rw [nlt, neq, Bool.eq_iff_iff]
  have h1 := cmpN_anti a b
  have h2 := cmpN_zero a b
  by_cases h : a = b
  · subst h; simp [cmpN_self]
  · have : cmpN a b ≠ 0 := fun h' => h (h2.1 h')
    simp only [h, decide_false, Bool.or_false, Bool.not_eq_true', decide_eq_false_iff_not, decide_eq_true_iff]
    omega
theorem push_n {w : World} {B : Nat} {A : Option Addr} {n c : Nat} {out : List Nm} {x : Nm} {K : Option Addr → Nat → Nat → World → Prop} (hr : NRow w B A n c out) (hB : B ≤ w.heap.size) (hn : n ≤ 1073741824)
    (hK : ∀ A' c' w', NRow w' B A' (n + 1) c' (out ++ [x]) → Fr (fun k => blkOf A = some k) w w' → K A' (n + 1) c' w') : nw w (encN x ++ []) 48 fun b w' => app w' 2 24 [Value.string (⟨#[]⟩ : ByteArray), Value.int .i64 0] 48 A n c (.slice (some ⟨b, 0, none⟩) 1 1) K := by
  refine nw_mk ?_
  rw [List.append_nil]
  have f1 : Fr (fun _ => False) w (w.alloc (.cells (encN x).toArray 48)) := Fr.alloc _ _ _
  have r1 : Row (w.alloc (.cells (encN x).toArray 48)) 0 48 2 (some ⟨w.heap.size, 0, none⟩) 1 1 (encN x) := Row.new (Nat.zero_le _) rfl
  have hs : (w.alloc (.cells (encN x).toArray 48)).heap.size = w.heap.size + 1 := alloc_size _ _
  generalize w.alloc (.cells (encN x).toArray 48) = w1 at f1 r1 hs ⊢
  refine app_row (hr.fr0 f1).1 r1.sl.src (encN_o.one x) rfl (by omega) (by omega) (by omega) (fun A' c' w' hr' f' => hK A' c' w' ⟨?_, by rw [List.length_append, hr.2]; rfl⟩ ?_)
  · rw [flt_app, flt_one]; exact hr'
  · exact f1.trans f' (fun _ _ h => h.elim) (fun _ _ h => h)
theorem rfind_calls (A : Option Addr) (n c : Nat) (l : List Nm) (s : ByteArray) (w : World) (h : NSl w A n l) (hn : n ≤ 17179869184) :
    Calls Try.prog 26 #[.slice A n c, .string s] w fun e w' => e = .returned (.tuple #[.int .i64 ((findN s l).getD 0), .bool (findN s l).isSome]) ∧ Fr (fun _ => False) w w' := by
  refine (F26.of A n c s w (Q := fun v w' => v = .tuple #[.int .i64 ((findN s l).getD 0), .bool (findN s l).isSome] ∧ Fr (fun _ => False) w w') ?_).mono (fun e w' ⟨v, he, hv, h⟩ => ⟨by rw [he, hv], h⟩)
  have hl := h.2
  refine jnC_mk (loop_rule (fun t u => Fr (fun _ => False) w u ∧ ∃ i : Nat, i ≤ n ∧ t = ((A, n, c), s, (i : Int), ()) ∧ ∀ z ∈ l.take i, z.1 ≠ s) (fun t _ => (n - t.2.2.1).toNat) ?_ _ _ ⟨Fr.refl _ _, 0, by omega, rfl, by simp⟩)
  rintro t u C ⟨hf, i, hi, rfl, hall⟩ hC _
  refine vIf_mk (fun hlt => ?_) (fun hge => ?_)
  · have hlt2 : (i : Int) < (n : Int) := of_decide_eq_true hlt
    have gi : l[i]? = some (l[i]'(by omega)) := List.getElem?_eq_getElem (by omega)
    generalize l[i]'(by omega) = x at gi
    have hl' := h.fr0 hf
    refine n_rdS hl' gi rfl ?_
    dsimp only
    rw [neq]
    refine vIf_mk (fun he => n_rdI hl' gi rfl ⟨?_, hf⟩) (fun hne => jnC_mk (hC _ _ ⟨hf, i + 1, by omega, by rw [ei i (by omega)], fun z hz => ?_⟩ ?_))
    · have he := of_decide_eq_true he
      have e : findN s l = some x.2 := by
        rw [← List.take_append_drop i l, drop_at gi, findN_app, findN_none hall, findN, if_pos he]; rfl
      rw [e]; rfl
    · have hne := of_decide_eq_false hne
      rw [List.take_add_one, gi] at hz
      rcases List.mem_append.1 hz with hz | hz
      · exact hall z hz
      · simp at hz; subst hz; exact hne
    · show ((n : Int) - IntKind.wrap .i64 ((i : Int) + 1)).toNat < ((n : Int) - (i : Int)).toNat
      rw [ei i (by omega)]; omega
  · have hge2 : ¬ (i : Int) < (n : Int) := of_decide_eq_false hge
    rw [List.take_of_length_le (by omega)] at hall
    rw [findN_none hall]
    exact ⟨rfl, hf⟩
theorem rwo_calls (A : Option Addr) (n c : Nat) (l : List Nm) (s : ByteArray) (w : World) (h : NSl w A n l) (hn : n ≤ 1073741824) :
    Calls Try.prog 29 #[.slice A n c, .string s] w fun e w' => Fr (fun _ => False) w w' ∧ ∃ A' c', e = .returned (.slice A' (woN s l).length c') ∧ NRow w' w.heap.size A' (woN s l).length c' (woN s l) := by
  refine (F29.of A n c s w (Q := fun v w' => Fr (fun _ => False) w w' ∧ ∃ A' c', v = .slice A' (woN s l).length c' ∧ NRow w' w.heap.size A' (woN s l).length c' (woN s l)) ?_).mono (fun e w' ⟨v, he, hf, A', c', hv, h⟩ => ⟨hf, A', c', by rw [he, hv], h⟩)
  have hl := h.2
  refine jnC_mk (loop_rule (fun t u => Fr (fun _ => False) w u ∧ ∃ (i : Nat) (A' : Option Addr) (c' : Nat), i ≤ n ∧ t = ((A, n, c), s, (A', (woN s (l.take i)).length, c'), (i : Int), ()) ∧ NRow u w.heap.size A' (woN s (l.take i)).length c' (woN s (l.take i))) (fun t _ => (n - t.2.2.2.1).toNat) ?_ _ _ ⟨Fr.refl _ _, 0, none, 0, by omega, rfl, Row.nil _ _ _ _, rfl⟩)
  rintro t u C ⟨hf, i, A', c', hi, rfl, hr⟩ hC _
  refine vIf_mk (fun hlt => ?_) (fun hge => ?_)
  · have hlt2 : (i : Int) < (n : Int) := of_decide_eq_true hlt
    have gi : l[i]? = some (l[i]'(by omega)) := List.getElem?_eq_getElem (by omega)
    generalize l[i]'(by omega) = x at gi
    have hl' := h.fr0 hf
    have hst := woN_step (s := s) gi
    have hwl := woN_len s (l.take i)
    rw [List.length_take] at hwl
    have hmeas : ((n : Int) - IntKind.wrap .i64 ((i : Int) + 1)).toNat < ((n : Int) - (i : Int)).toNat := by rw [ei i (by omega)]; omega
    refine n_rdS hl' gi rfl ?_
    dsimp only
    rw [neq]
    refine vIf_mk (fun hne => ?_) (fun he => ?_)
    · have hne : x.1 ≠ s := by simpa using hne
      rw [if_pos hne] at hst
      refine n_rd hl' gi rfl (gd_mk rfl (push_n hr (by have := hf.size; omega) (by omega) (fun A2 c2 w2 hr2 f2 => jnC_mk (hC _ _ ⟨?_, i + 1, A2, c2, by omega, ?_, ?_⟩ hmeas))))
      · exact fr_own hf (fun q hq => (hr.1.blt hq).1) (Nat.le_refl _) f2
      · rw [hst, List.length_append, ei i (by omega)]; rfl
      · rw [hst, List.length_append]; exact hr2
    · have he : ¬ x.1 ≠ s := by simpa using he
      rw [if_neg he] at hst
      exact jnC_mk (hC _ _ ⟨hf, i + 1, A', c', by omega, by rw [hst, ei i (by omega)], by rw [hst]; exact hr⟩ hmeas)
  · have hge2 : ¬ (i : Int) < (n : Int) := of_decide_eq_false hge
    have hin : i = n := by omega
    subst hin
    rw [List.take_of_length_le (by omega)] at hr ⊢
    exact ⟨hf, A', c', rfl, hr⟩
theorem putS_len (x : Nm) : ∀ (l : List Nm) (s : List Nm × Bool), (l.foldl (putS x) s).1.length ≤ s.1.length + 2 * l.length
  | [], s => by simp
  | y :: r, s => by
    have ih := putS_len x r (putS x s y)
    have h1 : (putS x s y).1.length ≤ s.1.length + 2 := by
      unfold putS
      split
      · split <;> simp
      · split <;> simp
    rw [List.foldl_cons, List.length_cons]
    omega
theorem rput_calls (A : Option Addr) (n c : Nat) (l : List Nm) (x : Nm) (w : World) (h : NSl w A n l) (ha : AscN l) (hn : n ≤ 500000000) :
    Calls Try.prog 28 #[.slice A n c, ofL (encN x)] w fun e w' => Fr (fun _ => False) w w' ∧ ∃ A' c', e = .returned (.slice A' (putN x l).length c') ∧ NRow w' w.heap.size A' (putN x l).length c' (putN x l) := by
  refine (F28.of A n c _ w (Q := fun v w' => Fr (fun _ => False) w w' ∧ ∃ A' c', v = .slice A' (putN x l).length c' ∧ NRow w' w.heap.size A' (putN x l).length c' (putN x l)) ?_).mono (fun e w' ⟨v, he, hf, A', c', hv, h⟩ => ⟨hf, A', c', by rw [he, hv], h⟩)
  have hl := h.2
  refine nw_mk ?_
  have f1 : Fr (fun _ => False) w (w.alloc (.cells (encN x).toArray 48)) := Fr.alloc _ _ _
  have r1 := RecAt.new w (encN x) 48
  have hs1 : w.heap.size ≤ (w.alloc (.cells (encN x).toArray 48)).heap.size := f1.size
  have hlt1 : w.heap.size < (w.alloc (.cells (encN x).toArray 48)).heap.size := by rw [alloc_size]; omega
  generalize hb1 : w.heap.size = b1 at r1 hlt1 hs1 ⊢
  generalize w.alloc (.cells (encN x).toArray 48) = w1 at f1 r1 hs1 hlt1 ⊢
  have h1 := h.fr0 f1
  have hfold : ∀ i, ((l.take i).foldl (putS x) ([], false)).1.length ≤ 2 * i := fun i => by
    have := putS_len x (l.take i) ([], false)
    rw [List.length_take] at this
    simp only [List.length_nil] at this
    omega
  refine jnC_mk (loop_rule (fun t u => Fr (fun _ => False) w1 u ∧ ∃ (i : Nat) (A' : Option Addr) (c' : Nat), i ≤ n ∧ t = ((A, n, c), (b1, 0), (A', ((l.take i).foldl (putS x) ([], false)).1.length, c'), ((l.take i).foldl (putS x) ([], false)).2, (i : Int), ()) ∧ NRow u w1.heap.size A' ((l.take i).foldl (putS x) ([], false)).1.length c' ((l.take i).foldl (putS x) ([], false)).1) (fun t _ => (n - t.2.2.2.2.1).toNat) ?_ _ _ ⟨Fr.refl _ _, 0, none, 0, by omega, rfl, Row.nil _ _ _ _, rfl⟩)
  rintro t u C ⟨hf, i, A', c', hi, rfl, hr⟩ hC _
  have hfi := hfold i
  have r1u := r1.fr hf (fun h => h)
  have hBu := hf.size
  refine vIf_mk (fun hlt => ?_) (fun hge => ?_)
  · have hlt2 : (i : Int) < (n : Int) := of_decide_eq_true hlt
    have gi : l[i]? = some (l[i]'(by omega)) := List.getElem?_eq_getElem (by omega)
    generalize l[i]'(by omega) = y at gi
    have hst : (l.take (i + 1)).foldl (putS x) ([], false) = putS x ((l.take i).foldl (putS x) ([], false)) y := by
      rw [List.take_add_one, gi, Option.toList_some, List.foldl_append]; rfl
    generalize hS : (l.take i).foldl (putS x) ([], false) = S at hst hr hfi ⊢
    have hmeas : ((n : Int) - IntKind.wrap .i64 ((i : Int) + 1)).toNat < ((n : Int) - (i : Int)).toNat := by rw [ei i (by omega)]; omega
    -- behind the first push
    have k9 : ∀ (v : World) (A2 : Option Addr) (c2 : Nat) (S1 : List Nm × Bool), Fr (fun _ => False) w1 v → (S1 = if S.2 = false ∧ cmpN x.1 y.1 < 0 then (S.1 ++ [x], true) else S) → S1.1.length ≤ 2 * i + 1 → NRow v w1.heap.size A2 S1.1.length c2 S1.1 →
        F28.k9 (fun v w' => Fr (fun _ => False) w w' ∧ ∃ A' c', v = .slice A' (putN x l).length c' ∧ NRow w' b1 A' (putN x l).length c' (putN x l)) C ((A, n, c), (b1, 0), (A2, S1.1.length, c2), S1.2, (i : Int), ()) v := by
      intro v A2 c2 S1 fv hS1 hlen hrv _
      have hrv := hrv.fr0 (Fr.drew _ _)
      have fv : Fr (fun _ => False) w1 v.drew := fv.trans1 (Fr.drew _ _)
      have hlv := h1.fr0 fv
      refine n_rdS hlv gi rfl ⟨x.1, (r1.fr fv (fun h => h)).cell rfl, ?_⟩
      dsimp only
      rw [neq]
      refine vIf_mk (fun hne => ?_) (fun he => ?_)
      · have hne : ¬ y.1 = x.1 := by simpa using hne
        have hput : putS x S y = (S1.1 ++ [y], S1.2) := by unfold putS; rw [if_neg hne, hS1]
        rw [hput] at hst
        refine n_rd hlv gi rfl (gd_mk rfl (push_n hrv (by have := fv.size; omega) (by omega) (fun A3 c3 w3 hr3 f3 => jnC_mk (hC _ _ ⟨?_, i + 1, A3, c3, by omega, ?_, ?_⟩ hmeas))))
        · exact fr_own fv (fun q hq => (hrv.1.blt hq).1) (Nat.le_refl _) f3
        · rw [hst, ei i (by omega), List.length_append]; rfl
        · rw [hst, List.length_append]; exact hr3
      · have he : y.1 = x.1 := by simpa using he
        have hput : putS x S y = S1 := by unfold putS; rw [if_pos he, hS1]
        rw [hput] at hst
        exact jnC_mk (hC _ _ ⟨fv, i + 1, A2, c2, by omega, by rw [hst, ei i (by omega)], by rw [hst]; exact hrv⟩ hmeas)
    refine vIf_mk (fun hin => ?_) (fun hin => ?_)
    · have hin : S.2 = false := by simpa using hin
      have hrd := hr.fr0 (Fr.drew (fun _ => False) u)
      have fd : Fr (fun _ => False) w1 u.drew := hf.trans1 (Fr.drew _ _)
      refine n_rdS (h1.fr0 fd) gi rfl ⟨x.1, (r1.fr fd (fun h => h)).cell rfl, jnC_mk (fun _ => ?_)⟩
      dsimp only
      rw [gtr_cmp]
      refine vIf_mk (fun hlt' => ?_) (fun hnlt => ?_)
      · have hlt' : cmpN x.1 y.1 < 0 := of_decide_eq_true hlt'
        refine ⟨encN x, rfl, (r1.fr fd (fun h => h)).cells (fun j v hj => by simpa using hj), gd_mk rfl (push_n hrd (by have := fd.size; omega) (by show S.1.length ≤ 1073741824; omega) (fun A3 c3 w3 hr3 f3 => jnC_mk ?_))⟩
        have := k9 w3 A3 c3 (S.1 ++ [x], true) (fr_own fd (fun q hq => (hrd.1.blt hq).1) (Nat.le_refl _) f3) (by rw [if_pos ⟨hin, hlt'⟩]) (by rw [List.length_append]; simp; omega) (by rw [List.length_append]; exact hr3)
        rw [List.length_append] at this
        exact this
      · have hnlt : ¬ cmpN x.1 y.1 < 0 := of_decide_eq_false hnlt
        exact jnC_mk (k9 _ A' c' S fd (by rw [if_neg (fun h => hnlt h.2)]) (by omega) hrd)
    · have hin : S.2 = true := by simpa using hin
      refine jnC_mk (fun _ => vIf_f rfl (jnC_mk (k9 _ A' c' S (hf.trans1 (Fr.drew _ _)) (by rw [if_neg (fun h => by rw [hin] at h; cases h.1)]) (by omega) (hr.fr0 (Fr.drew _ _)))))
  · have hge2 : ¬ (i : Int) < (n : Int) := of_decide_eq_false hge
    have hin : i = n := by omega
    subst hin
    have hput := putS_fold x l [] ha
    rw [List.take_of_length_le (by omega)] at hr hfi ⊢
    generalize l.foldl (putS x) ([], false) = S at hput hr hfi ⊢
    rw [List.nil_append] at hput
    refine vIf_mk (fun hin => ?_) (fun hin => ?_)
    · have hin : S.2 = false := by simpa using hin
      have e : putN x l = S.1 ++ [x] := by rw [← hput]; unfold putE; rw [if_neg (by rw [hin]; decide)]
      refine ⟨encN x, rfl, r1u.cells (fun j v hj => by simpa using hj), gd_mk rfl (push_n hr (by omega) (by show S.1.length ≤ 1073741824; omega) (fun A3 c3 w3 hr3 f3 => ⟨?_, A3, c3, ?_, ?_⟩))⟩
      · exact f1.trans1 (fr_own hf (fun q hq => (hr.1.blt hq).1) (Nat.le_refl _) f3)
      · rw [e, List.length_append]; rfl
      · rw [e, List.length_append]; exact ⟨row_low hs1 hr3.1, hr3.2⟩
    · have hin : S.2 = true := by simpa using hin
      have e : putN x l = S.1 := by rw [← hput]; unfold putE; rw [if_pos hin]
      rw [e]
      exact ⟨f1.trans1 hf, A', c', rfl, row_low hs1 hr.1, hr.2⟩
end Go.Proofs.Ytglojgicnchnpaa
