/- chapter 37: End and Open -/
import Derived.Test.YtihifmamdeafdaaHS
import Derived.Test.YtihifmamdeafdaaLIntSort
namespace Go.Proofs.Ytihifmamdeafdaa
open Go.GV Go.RowKit
set_option linter.unusedVariables false
set_option linter.unusedSimpArgs false
theorem end_calls (b : Nat) (id : Int) (w : World) (D : Nat → Prop) (T : Tab) (last : Int) (h : UpAt w b D T last) :
    Calls Try.prog 14 #[.pointer (some ⟨b, 0, none⟩), .int .i64 id] w fun e w' => e = .returned (.int .i64 (endT T id).1) ∧ UpAt w' b D (endT T id).2 last ∧ Fr (fun k => k = b) w w' := by
  refine (F14.of (some ⟨b, 0, none⟩) id w (Q := fun v w' => v = .int .i64 (endT T id).1 ∧ UpAt w' b D (endT T id).2 last ∧ Fr (fun k => k = b) w w') ?_).mono (fun e w' ⟨v, he, hv, h⟩ => ⟨by rw [he, hv], h⟩)
  refine (find_calls b id w D T last h).mono ?_
  rintro e w1 ⟨rfl, rfl⟩
  cases hf : fnd T id with
  | none =>
    have hE : endT T id = (6, T) := by unfold endT; rw [hf]
    rw [hE]
    exact ⟨0, 6, rfl, vIf_f rfl ⟨rfl, h, Fr.refl _ _⟩⟩
  | some i =>
    have hE : endT T id = (0, T.set i (0, [])) := by unfold endT; rw [hf]
    rw [hE]
    obtain ⟨x, hx, hxi⟩ := Go.Proofs.Ytihifmamdeafdaa.fnd_some hf
    obtain ⟨cs, ty, hr, hc⟩ := h
    have hi : i < 8 := by
      have := (List.getElem?_eq_some_iff.1 hx).1
      rw [hc.tlen] at this; exact this
    refine ⟨(i : Int), 0, rfl, vIf_t rfl (dr_mk (gd_mk (decide_eq_true (Int.natCast_nonneg i)) (gd_mk (decide_eq_true (by show (i : Int) < 8; omega)) (gd_mk rfl ?_))))⟩
    rw [Int.toNat_natCast]
    refine hr.st_mk (o := 0 + i * 2) (vs := [Value.int .i64 0, Value.slice none 0 0]) (by rw [hc.len]; simp; omega) (one2 rfl rfl) (fun r2 f2 => ?_)
    have g2 : ∀ j, (splice cs (0 + i * 2) [Value.int .i64 0, Value.slice none 0 0])[j]? = if j < 2 * i then cs[j]? else if j = 2 * i then some (.int .i64 0) else if j = 2 * i + 1 then some (.slice none 0 0) else cs[j]? := fun j => by
      rw [splice_get (by rw [hc.len]; simp; omega)]
      by_cases h1 : j < 2 * i
      · rw [if_pos (by omega), if_pos h1]
      · rw [if_neg (by omega), if_neg h1]
        by_cases h2 : j = 2 * i
        · subst h2; rw [if_pos (by simp; omega), if_pos rfl]
          rw [show 2 * i - (0 + i * 2) = 0 by omega]; rfl
        · rw [if_neg h2]
          by_cases h3 : j = 2 * i + 1
          · subst h3; rw [if_pos (by simp; omega), if_pos rfl]
            rw [show 2 * i + 1 - (0 + i * 2) = 1 by omega]; rfl
          · rw [if_neg (by simp; omega), if_neg h3]
    refine ⟨rfl, ⟨_, _, r2, ?_⟩, f2⟩
    refine hc.set (D' := D) (fun _ h => h) (x := (0, [])) hr f2 hi (by rw [splice_len (by rw [hc.len]; simp; omega), hc.len]) ?_ ?_ ⟨none, 0, 0, ?_, Sl.nil _ _ _, fun _ h => by cases h⟩ (fun j h1 h2 h3 => ?_)
    · rw [g2, if_neg (by omega), if_neg (by omega), if_neg (by omega)]; exact hc.last_
    · rw [g2, if_neg (by omega), if_pos rfl]
    · rw [g2, if_neg (by omega), if_neg (by omega), if_pos rfl]
    · rw [g2]
      by_cases h4 : j < 2 * i
      · rw [if_pos h4]
      · rw [if_neg h4, if_neg h1, if_neg h2]
theorem open_calls (b : Nat) (w : World) (D : Nat → Prop) (T : Tab) (last : Int) (h : UpAt w b D T last) :
    Calls Try.prog 17 #[.pointer (some ⟨b, 0, none⟩)] w fun e w' => Fr (fun _ => False) w w' ∧ ∃ A c l, e = .returned (.slice A l.length c) ∧ Sl w' 1 A l.length (ivs l) ∧ l.Perm ((T.filter nz).map (·.1)) ∧ l.Pairwise (· ≤ ·) := by
  refine (F17.of (some ⟨b, 0, none⟩) w (Q := fun v w' => Fr (fun _ => False) w w' ∧ ∃ A c l, v = .slice A l.length c ∧ Sl w' 1 A l.length (ivs l) ∧ l.Perm ((T.filter nz).map (·.1)) ∧ l.Pairwise (· ≤ ·)) ?_).mono (fun e w' ⟨v, he, hf, A, c, l, hv, h⟩ => ⟨hf, A, c, l, by rw [he, hv], h⟩)
  obtain ⟨cs, ty, hr, hc⟩ := h
  have hcl := hc.len
  have htl := hc.tlen
  refine vIf_f rfl (dr_mk ⟨cs.take 16, by rw [List.length_take]; omega, hr.cells (o := 0) (fun j v hj => ?_), jnC_mk ?_⟩)
  · rw [List.getElem?_take] at hj
    split at hj
    · rw [Nat.zero_add]; exact hj
    · cases hj
  have elem : ∀ (i : Nat) (x : Ent), T[i]? = some x → ∃ A n c, ((cs.take 16).drop (i * 2)).take 2 = [Value.int .i64 x.1, .slice A n c] := by
    intro i x hx
    have hi := (List.getElem?_eq_some_iff.1 hx).1
    obtain ⟨A, n, c, h2, _⟩ := hc.row i x hx
    have h1 := hc.id i x hx
    refine ⟨A, n, c, ?_⟩
    apply List.ext_getElem?
    intro j
    rw [List.getElem?_take, List.getElem?_drop, List.getElem?_take]
    match j with
    | 0 => rw [if_pos (by omega), if_pos (by omega), show i * 2 + 0 = 2 * i by omega, h1]; rfl
    | 1 => rw [if_pos (by omega), if_pos (by omega), show i * 2 + 1 = 2 * i + 1 by omega, h2]; rfl
    | j + 2 => rw [if_neg (by omega)]; simp
  refine loop_rule (fun s u => Fr (fun _ => False) w u ∧ ∃ (i : Nat) (out : List Int) (A : Option Addr) (c : Nat), i ≤ 8 ∧ s = ((A, out.length, c), cs.take 16, (i : Int), ()) ∧ out = ((T.take i).filter nz).map (·.1) ∧ Row u w.heap.size 3 1 A out.length c (ivs out))
    (fun s _ => (8 - s.2.2.1).toNat) ?_ _ _ ⟨Fr.refl _ _, 0, [], none, 0, by omega, rfl, rfl, Row.nil _ _ _ _⟩
  rintro s u C ⟨hf, i, out, A, c, hi, rfl, hout, hrow⟩ hC _
  have hol : out.length ≤ i := by rw [hout, List.length_map]; exact Nat.le_trans (List.length_filter_le _ _) (by rw [List.length_take]; omega)
  refine vIf_mk (fun hlt => ?_) (fun hge => ?_)
  · have hlt2 : (i : Int) < 8 := of_decide_eq_true hlt
    have gi : T[i]? = some (T[i]'(by omega)) := List.getElem?_eq_getElem (by omega)
    generalize T[i]'(by omega) = x at gi
    obtain ⟨Ax, nx, cx, hel⟩ := elem i x gi
    have tk : ((T.take (i + 1)).filter nz).map (·.1) = out ++ (if nz x then [x.1] else []) := by
      rw [List.take_add_one, gi, List.filter_append, List.map_append, ← hout]
      cases hz : nz x with
      | true => simp [hz]
      | false => simp [hz]
    have hm : ((8 : Int) - IntKind.wrap .i64 ((i : Int) + 1)).toNat < ((8 : Int) - (i : Int)).toNat := by rw [ei i (by omega)]; omega
    refine gd_mk (decide_eq_true (by show (0 : Int) ≤ (i : Int); omega)) (gd_mk (decide_eq_true (by show (i : Int) < 8; omega)) (nw_mk ?_))
    dsimp only
    rw [Int.toNat_natCast, hel]
    refine gd_mk rfl ?_
    have f1 : Fr (fun _ => False) u (u.alloc (.cells [Value.int .i64 0, Value.slice none 0 0].toArray 56)) := Fr.alloc _ _ _
    refine st2 (RecAt.new u [Value.int .i64 0, Value.slice none 0 0] 56) rfl rfl (one2 rfl rfl) (fun u2 f2 r2 => ?_)
    have f12 : Fr (fun _ => False) u u2 := fr_own f1 f2 (Nat.le_refl _)
    have g2 := hf.trans1 f12
    have hrow2 := f12.row hrow (fun _ _ h => h)
    refine ⟨x.1, r2.cell rfl, vIf_mk (fun hn => ?_) (fun hz => ?_)⟩
    · rw [if_pos (show nz x = true from hn)] at tk
      refine ⟨x.1, r2.cell rfl, push_int (n := out.length) hrow2 g2.size (by omega) (fun A' c' w' hr' f' => ?_)⟩
      have hl1 : out.length + 1 = (out ++ [x.1]).length := by simp
      rw [hl1] at hr' ⊢
      exact jnC_mk (hC _ _ ⟨own_fr g2 hrow2 f', i + 1, out ++ [x.1], A', c', by omega, by rw [ei i (by omega)], tk.symm, hr'⟩ hm)
    · rw [if_neg (by rw [show nz x = false from hz]; simp), List.append_nil] at tk
      exact jnC_mk (hC _ _ ⟨g2, i + 1, out, A, c, by omega, by rw [ei i (by omega)], tk.symm, hrow2⟩ hm)
  · have hge2 : ¬ (i : Int) < 8 := of_decide_eq_false hge
    rw [List.take_of_length_le (by omega)] at hout
    cases A with
    | none =>
      have h0 : out.length = 0 ∧ c = 0 := by
        rcases hrow.at_ with ⟨_, h', h''⟩ | ⟨_, _, h', _⟩
        · exact ⟨h', h''⟩
        · cases h'
      have ho : out = [] := List.length_eq_zero_iff.1 h0.1
      rw [h0.1] at hrow ⊢
      refine (sort_nil c u).mono ?_
      rintro e w2 ⟨rfl, rfl⟩
      refine ⟨rfl, hf, none, c, [], rfl, Sl.nil _ _ _, ?_, List.Pairwise.nil⟩
      rw [← hout, ho]
    | some a =>
      obtain ⟨bb, ha⟩ : ∃ bb, a = ⟨bb, 0, none⟩ := by
        rcases hrow.at_ with ⟨h', _⟩ | ⟨bb, _, h', _⟩
        · cases h'
        · exact ⟨bb, Option.some.inj h'⟩
      subst ha
      refine (sort_int w.heap.size _ bb c out out.length u hrow (by omega)).mono ?_
      rintro e w2 ⟨rfl, f2, r, hr2, hp, hs⟩
      have hrl := hp.length_eq
      rw [← hrl] at hr2 ⊢
      refine ⟨rfl, fr_own hf f2 (hrow.blt (b := bb) rfl).1, _, c, r, rfl, hr2.sl, ?_, hs⟩
      rw [← hout]; exact hp
end Go.Proofs.Ytihifmamdeafdaa
