/- chapter 51: the document's parts and order; the order of rows of parts -/
import Derived.Test.YtegihbpdemjeaaaDoorHA
namespace Go.Proofs.YtegihbpdemjeaaaDoor
open Go.GV Go.RowKit Go.Lib
set_option linter.unusedVariables false
set_option linter.unusedSimpArgs false
theorem prt_cut {l : Bs} {f i : Nat} {c : UInt8} (hc : l[f]? = some c) (hfi : f < i) (hi : i ≤ l.length) (hu : ∀ j x, f ≤ j → j < i → l[j]? = some x → fig x = fig c) (hb : ∀ x, l[i]? = some x → fig x ≠ fig c) :
    prt (l.drop f) = ((l.drop f).take (i - f)) :: prt (l.drop i) := by
  obtain ⟨h1, rfl⟩ := List.getElem?_eq_some_iff.1 hc
  have e1 : l.drop f = l[f] :: l.drop (f + 1) := List.drop_eq_getElem_cons h1
  have e2 : l.drop (f + 1) = (l.drop (f + 1)).take (i - (f + 1)) ++ l.drop i := by
    conv => lhs; rw [← List.take_append_drop (i - (f + 1)) (l.drop (f + 1))]
    rw [List.drop_drop, show f + 1 + (i - (f + 1)) = i by omega]
  have e3 : (l.drop f).take (i - f) = l[f] :: (l.drop (f + 1)).take (i - (f + 1)) := by
    rw [e1, show i - f = (i - (f + 1)) + 1 by omega, List.take_succ_cons]
  rw [e3]
  conv => lhs; rw [e1, e2]
  refine prt_app (fun x hx => ?_) (fun x hx => ?_)
  · obtain ⟨j, hj⟩ := List.mem_iff_getElem?.1 hx
    rw [List.getElem?_take] at hj
    split at hj
    · rw [List.getElem?_drop] at hj
      exact hu _ x (by omega) (by omega) hj
    · cases hj
  · rw [List.head?_drop] at hx
    exact hb x hx
/-- the part is handed on as bytes -/
theorem extract_part (l : Bs) (f i : Nat) : (ba l).extract f i = ba ((l.drop f).take (i - f)) := ba_extract l f i
theorem rparts_calls (l : Bs) (w : World) (hn : l.length ≤ 4294967296) :
    Calls Tryd.prog 11 #[.string (ba l)] w fun e w' => Fr (fun _ => False) w w' ∧ ∃ A c, e = .returned (.slice A (prt l).length c) ∧ Row w' w.heap.size 9 1 A (prt l).length c (svs ((prt l).map ba)) := by
  refine (F11.of (ba l) w (Q := fun v w' => Fr (fun _ => False) w w' ∧ ∃ A c, v = .slice A (prt l).length c ∧ Row w' w.heap.size 9 1 A (prt l).length c (svs ((prt l).map ba))) ?_).mono (fun e w' ⟨v, he, hf, A, c, hv, h⟩ => ⟨hf, A, c, by rw [he, hv], h⟩)
  refine jnC_mk (loop_rule (fun s u => Fr (fun _ => False) w u ∧ ∃ (out : List Bs) (A : Option Addr) (c f i : Nat), s = (ba l, (A, out.length, c), (f : Int), (i : Int), ()) ∧ Row u w.heap.size 9 1 A out.length c (svs (out.map ba)) ∧
      f < i ∧ i ≤ l.length + 1 ∧ (i = l.length + 1 → f = l.length) ∧ out ++ prt (l.drop f) = prt l ∧ (∀ j x c, f ≤ j → j < i → l[j]? = some x → l[f]? = some c → fig x = fig c))
    (fun s _ => (l.length + 1 - s.2.2.2.1).toNat) ?_ _ _ ⟨Fr.refl _ _, [], none, 0, 0, 1, rfl, Row.nil _ _ _ _, by omega, by omega, fun h => by omega, by rw [List.drop_zero]; rfl, fun j x c h1 h2 h3 h4 => ?_⟩)
  rotate_left
  · obtain rfl : j = 0 := by omega
    rw [h3] at h4
    rw [Option.some.inj h4]
  rintro s u C ⟨hf, out, A, c, f, i, rfl, hr, hfi, hil, hend, hout, hu⟩ hC _
  have hol : out.length ≤ 4294967296 := by
    have h1 := congrArg List.length hout
    rw [List.length_append] at h1
    have := prt_len l
    omega
  refine vIf_mk (fun hlt => ?_) (fun hge => ?_)
  · have hlt : (i : Int) ≤ ((ba l).size : Int) := of_decide_eq_true hlt
    rw [ba_size] at hlt
    have hlt2 : i ≤ l.length := by omega
    have gf : l[f]? = some (l[f]'(by omega)) := List.getElem?_eq_getElem (by omega)
    generalize l[f]'(by omega) = c0 at gf
    have fd := hf.trans1 (Fr.drew _ u)
    have hrd := (Fr.drew (fun _ => False) u).row hr (fun _ _ h => h)
    have ms : ((l.length : Int) + 1 - IntKind.wrap .i64 ((i : Int) + 1)).toNat < ((l.length : Int) + 1 - (i : Int)).toNat := by rw [ei i (by omega)]; omega
    -- the part is put behind
    have push : (∀ x, l[i]? = some x → fig x ≠ fig c0) → ∀ v, Fr (fun _ => False) w v → Row v w.heap.size 9 1 A out.length c (svs (out.map ba)) →
        jnC (F11.k7 (fun v w' => Fr (fun _ => False) w w' ∧ ∃ A c, v = .slice A (prt l).length c ∧ Row w' w.heap.size 9 1 A (prt l).length c (svs ((prt l).map ba))) C) (ba l, (A, out.length, c), (f : Int), (i : Int), true, ()) v := by
      intro hb v hv hr'
      have hcut := prt_cut gf hfi hlt2 (fun j x h1 h2 h3 => hu j x c0 h1 h2 h3 gf) hb
      refine jnC_mk (fun _ => vIf_t rfl (gd_mk (decide_eq_true (by show (0 : Int) ≤ (i : Int); omega)) (gd_mk (decide_eq_true (by show (i : Int) ≤ (((ba l).size : Nat) : Int); rw [ba_size]; omega)) (gd_mk (decide_eq_true (by show (0 : Int) ≤ (f : Int); omega)) (gd_mk (decide_eq_true (by show (f : Int) ≤ (((i : Int).toNat : Nat) : Int); omega)) ?_)))))
      dsimp only
      rw [Int.toNat_natCast, Int.toNat_natCast, extract_part]
      refine push_s hr' hv.size (by omega) (fun A' c' w' hr2 f2 => jnC_mk (hC _ _ ⟨?_, out ++ [(l.drop f).take (i - f)], A', c', i, i + 1, ?_, ?_, by omega, by omega, fun h => by omega, ?_, fun j x c h1 h2 h3 h4 => ?_⟩ ms))
      · exact hv.trans f2 (fun _ _ h => h) (fun k hk h => by have := (hr'.blt h).1; omega)
      · rw [ei i (by omega), List.length_append, List.length_singleton]
      · rw [List.length_append, List.length_singleton, List.map_append]; exact hr2
      · rw [List.append_assoc, List.singleton_append, ← hcut, hout]
      · obtain rfl : j = i := by omega
        rw [h3] at h4
        rw [Option.some.inj h4]
    refine vIf_mk (fun he => ?_) (fun hne => ?_)
    · have he : (i : Int) = ((ba l).size : Int) := by simpa using he
      rw [ba_size] at he
      exact push (fun x hx => by rw [List.getElem?_eq_none (by omega)] at hx; cases hx) _ fd hrd
    · have hne : ¬ (i : Int) = ((ba l).size : Int) := by simpa using hne
      rw [ba_size] at hne
      have gi : l[i]? = some (l[i]'(by omega)) := List.getElem?_eq_getElem (by omega)
      generalize l[i]'(by omega) = ci at gi
      have gp : l[i - 1]? = some (l[i - 1]'(by omega)) := List.getElem?_eq_getElem (by omega)
      generalize l[i - 1]'(by omega) = cp at gp
      have ep : IntKind.wrap .i64 ((i : Int) - 1) = ((i - 1 : Nat) : Int) := by rw [i64_id (by omega) (by omega)]; omega
      dsimp only
      rw [ep]
      refine gd_mk (decide_eq_true (by omega)) (gd_mk (decide_eq_true (by rw [ba_size]; omega)) (gd_mk (decide_eq_true (by omega)) (gd_mk (decide_eq_true (by rw [ba_size]; omega)) ?_)))
      rw [Int.toNat_natCast, Int.toNat_natCast, ba_byte gi, ba_byte gp]
      refine (rfigure_calls ci _).mono ?_
      rintro r v ⟨rfl, rfl⟩
      refine ⟨_, rfl, (rfigure_calls cp _).mono ?_⟩
      rintro r v ⟨rfl, rfl⟩
      have hcp : fig cp = fig c0 := hu (i - 1) cp c0 (by omega) (by omega) gp gf
      refine ⟨_, rfl, ?_⟩
      cases hb : (!(fig ci == fig cp)) with
      | true =>
        refine push (fun x hx => ?_) _ fd hrd
        rw [gi] at hx
        rw [← Option.some.inj hx, ← hcp]
        simpa using hb
      | false =>
        have hb : fig ci = fig cp := by simpa using hb
        refine jnC_mk (fun _ => vIf_f rfl (jnC_mk (hC _ _ ⟨fd, out, A, c, f, i + 1, ?_, hrd, by omega, by omega, fun h => by omega, hout, fun j x c' h1 h2 h3 h4 => ?_⟩ ms)))
        · rw [ei i (by omega)]
        · by_cases hj : j < i
          · exact hu j x c' h1 hj h3 h4
          · obtain rfl : j = i := by omega
            rw [gi] at h3
            rw [gf] at h4
            rw [← Option.some.inj h3, ← Option.some.inj h4, hb, hcp]
  · have hge : ¬ (i : Int) ≤ ((ba l).size : Int) := of_decide_eq_false hge
    rw [ba_size] at hge
    have h1 := hend (by omega)
    rw [h1, List.drop_length, prt_nil, List.append_nil] at hout
    subst hout
    exact ⟨hf, A, c, rfl, hr⟩
theorem map_at {l : List Bs} {i : Nat} {x : Bs} (h : l[i]? = some x) : (l.map ba)[i]? = some (ba x) := by rw [List.getElem?_map, h]; rfl
theorem take_eq_succ {a b : List Bs} {i : Nat} {x : Bs} (h : a.take i = b.take i) (ha : a[i]? = some x) (hb : b[i]? = some x) : a.take (i + 1) = b.take (i + 1) := by
  rw [List.take_add_one, List.take_add_one, h, ha, hb]
theorem drop_cons {a : List Bs} {i : Nat} {x : Bs} (h : a[i]? = some x) : a.drop i = x :: a.drop (i + 1) := by
  obtain ⟨h1, rfl⟩ := List.getElem?_eq_some_iff.1 h
  exact List.drop_eq_getElem_cons h1
/-- CompareFunc at the parts' order -/
theorem cmpF_calls (A : Option Addr) (n c : Nat) (A' : Option Addr) (n' c' : Nat) (a b : List Bs) (w : World) (h : Sl w 1 A n (svs (a.map ba))) (h' : Sl w 1 A' n' (svs (b.map ba))) (ha : ∀ p ∈ a, p ≠ []) (hb : ∀ p ∈ b, p ≠ []) (hn : n ≤ 17179869184) (hn' : n' ≤ 17179869184) :
    Calls Tryd.prog 16 #[.slice A n c, .slice A' n' c', .func (.func 17) #[] #[]] w fun e w' => e = .returned (.int .i64 (lexC a b)) ∧ Gr w w' := by
  refine (F16s.of A n c A' n' c' w (Q := fun v w' => v = .int .i64 (lexC a b) ∧ Gr w w') ?_).mono (fun e w' ⟨v, he, hv, h⟩ => ⟨by rw [he, hv], h⟩)
  have hl := ss_n h
  have hl' := ss_n h'
  rw [List.length_map] at hl hl'
  refine jnC_mk (loop_rule (fun s u => Gr w u ∧ ∃ i : Nat, i ≤ n ∧ i ≤ n' ∧ s = ((A, n, c), (A', n', c'), (), (A, n, c), (n : Int), (i : Int), ()) ∧ a.take i = b.take i) (fun s _ => (n - s.2.2.2.2.2.1).toNat) ?_ _ _ ⟨Gr.refl _, 0, by omega, by omega, rfl, rfl⟩)
  rintro s u C ⟨hf, i, hi, hi', rfl, ht⟩ hC _
  have hsk := lexC_skip i a b ht (by omega) (by omega)
  refine vIf_mk (fun hlt => ?_) (fun hge => ?_)
  · have hlt2 : (i : Int) < (n : Int) := of_decide_eq_true hlt
    have gi : a[i]? = some (a[i]'(by omega)) := List.getElem?_eq_getElem (by omega)
    generalize a[i]'(by omega) = x at gi
    refine ss_rd (hf.fr.sl h (fun _ _ _ h => h)) (by omega) (map_at gi) (vIf_mk (fun hq => ⟨?_, hf⟩) (fun hq => ?_))
    · have hq : (i : Int) ≥ (n' : Int) := of_decide_eq_true hq
      rw [hsk, drop_cons gi, List.drop_of_length_le (l := b) (by omega)]
      rfl
    · have hq : ¬ (i : Int) ≥ (n' : Int) := of_decide_eq_false hq
      have gb : b[i]? = some (b[i]'(by omega)) := List.getElem?_eq_getElem (by omega)
      generalize b[i]'(by omega) = y at gb
      refine ss_rd (hf.fr.sl h' (fun _ _ _ h => h)) (by omega) (map_at gb) ((part_calls x y u (ha x (List.mem_of_getElem? gi)) (hb y (List.mem_of_getElem? gb))).mono ?_)
      rintro r v ⟨rfl, rfl⟩
      rw [drop_cons gi, drop_cons gb, lexC] at hsk
      refine ⟨_, rfl, vIf_mk (fun hz => ⟨?_, hf.trans (Gr.drew u)⟩) (fun hz => jnC_mk (hC _ _ ⟨hf.trans (Gr.drew u), i + 1, by omega, by omega, ?_, ?_⟩ ?_))⟩
      · rw [hsk, if_pos (by simpa using hz)]
      · rw [ei i (by omega)]
      · have hz : prtC x y = 0 := by simpa using hz
        have e := (prtC_ord.ze x y).1 hz
        subst e
        exact take_eq_succ ht gi gb
      · show ((n : Int) - IntKind.wrap .i64 ((i : Int) + 1)).toNat < ((n : Int) - (i : Int)).toNat
        rw [ei i (by omega)]; omega
  · have hge : ¬ (i : Int) < (n : Int) := of_decide_eq_false hge
    rw [List.drop_of_length_le (l := a) (by omega)] at hsk
    refine vIf_mk (fun hq => ⟨?_, hf⟩) (fun hq => ⟨?_, hf⟩)
    · have hq : (n : Int) < (n' : Int) := of_decide_eq_true hq
      have gb : b[i]? = some (b[i]'(by omega)) := List.getElem?_eq_getElem (by omega)
      rw [hsk, drop_cons gb]; rfl
    · have hq : ¬ (n : Int) < (n' : Int) := of_decide_eq_false hq
      rw [hsk, List.drop_of_length_le (l := b) (by omega)]; rfl
theorem rLess_calls (a b : Bs) (w : World) (hn : a.length ≤ 4294967296) (hn' : b.length ≤ 4294967296) :
    Calls Tryd.prog 7 #[.string (ba a), .string (ba b)] w fun e w' => e = .returned (.bool (decide (verC a b < 0))) ∧ Fr (fun _ => False) w w' := by
  refine (F7.of (ba a) (ba b) w (Q := fun v w' => v = .bool (decide (verC a b < 0)) ∧ Fr (fun _ => False) w w') ?_).mono (fun e w' ⟨v, he, hv, h⟩ => ⟨by rw [he, hv], h⟩)
  refine (rparts_calls a w hn).mono ?_
  rintro r w1 ⟨f1, A, c, rfl, h1⟩
  refine ⟨_, _, _, rfl, (rparts_calls b w1 hn').mono ?_⟩
  rintro r w6 ⟨f2, A', c', rfl, h2⟩
  have f6 := f1.trans1 f2
  have h1 := (f2.row h1 (fun _ _ h => h)).sl
  have h2 := h2.sl
  have hla := prt_len a
  have hlb := prt_len b
  have hna := prt_ne a
  have hnb := prt_ne b
  unfold verC
  generalize prt a = x at h1 hla hna ⊢
  generalize prt b = y at h2 hlb hnb ⊢
  have hend : ∀ i, x.take i = y.take i → i ≤ x.length → i ≤ y.length → ¬ (i < x.length ∧ i < y.length) → decide (lexC x y < 0) = decide (((x.length : Nat) : Int) < ((y.length : Nat) : Int)) := by
    intro i ht h1 h2 h3
    rw [lexC_skip i x y ht h1 h2, Bool.eq_iff_iff, decide_eq_true_iff, decide_eq_true_iff]
    by_cases hx : i < x.length
    · rw [drop_cons (List.getElem?_eq_getElem hx), List.drop_of_length_le (l := y) (by omega), lexC]; omega
    · rw [List.drop_of_length_le (l := x) (by omega)]
      by_cases hy : i < y.length
      · rw [drop_cons (List.getElem?_eq_getElem hy), lexC]; omega
      · rw [List.drop_of_length_le (l := y) (by omega), lexC]; omega
  refine ⟨_, _, _, rfl, jnC_mk (loop_rule (fun s u => Fr (fun _ => False) w6 u ∧ ∃ i : Nat, i ≤ x.length ∧ i ≤ y.length ∧ s = ((A, x.length, c), (A', y.length, c'), (i : Int), ()) ∧ x.take i = y.take i) (fun s _ => (x.length - s.2.2.1).toNat) ?_ _ _ ⟨Fr.refl _ _, 0, by omega, by omega, rfl, rfl⟩)⟩
  rintro s u C ⟨hf, i, hi, hi', rfl, ht⟩ hC _
  have hfw := f6.trans1 hf
  refine vIf_mk (fun hlt => vIf_mk (fun hlt2 => ?_) (fun hge => ?_)) (fun hge => ?_)
  · have hlt : (i : Int) < (x.length : Int) := of_decide_eq_true hlt
    have hlt2 : (i : Int) < (y.length : Int) := of_decide_eq_true hlt2
    have gi : x[i]? = some (x[i]'(by omega)) := List.getElem?_eq_getElem (by omega)
    generalize x[i]'(by omega) = p at gi
    have gb : y[i]? = some (y[i]'(by omega)) := List.getElem?_eq_getElem (by omega)
    generalize y[i]'(by omega) = q at gb
    have fd := hf.trans1 (Fr.drew _ u)
    have h1d := fd.sl h1 (fun _ _ _ h => h)
    have h2d := fd.sl h2 (fun _ _ _ h => h)
    have fdd := fd.trans1 (Fr.drew _ _)
    refine jnC_mk (fun _ => ss_rd h1d (by omega) (map_at gi) (ss_rd h2d (by omega) (map_at gb) (vIf_mk (fun hne => ?_) (fun he => jnC_mk (hC _ _ ⟨fd, i + 1, by omega, by omega, ?_, ?_⟩ ?_)))))
    · rw [ba_beq] at hne
      have hne : p ≠ q := by simpa using hne
      refine ss_rd (fdd.sl h1 (fun _ _ _ h => h)) (by omega) (map_at gi) (ss_rd (fdd.sl h2 (fun _ _ _ h => h)) (by omega) (map_at gb) ((rless_calls p q _ (hna p (List.mem_of_getElem? gi)) (hnb q (List.mem_of_getElem? gb))).mono ?_))
      rintro r v ⟨rfl, fv⟩
      refine ⟨_, rfl, ?_, (f6.trans1 fdd).trans1 fv⟩
      rw [lexC_skip i x y ht (by omega) (by omega), drop_cons gi, drop_cons gb, lexC, if_pos (fun h => hne ((prtC_ord.ze p q).1 h)), lessP_eq]
    · rw [ei i (by omega)]
    · rw [ba_beq] at he
      have he : p = q := by simpa using he
      subst he
      exact take_eq_succ ht gi gb
    · show ((x.length : Int) - IntKind.wrap .i64 ((i : Int) + 1)).toNat < ((x.length : Int) - (i : Int)).toNat
      rw [ei i (by omega)]; omega
  · have hge : ¬ (i : Int) < (y.length : Int) := of_decide_eq_false hge
    exact jnC_mk (fun _ => ⟨by rw [hend i ht (by omega) (by omega) (by omega)], hfw⟩)
  · have hge : ¬ (i : Int) < (x.length : Int) := of_decide_eq_false hge
    exact jnC_mk (fun _ => ⟨by rw [hend i ht (by omega) (by omega) (by omega)], hfw⟩)
end Go.Proofs.YtegihbpdemjeaaaDoor
