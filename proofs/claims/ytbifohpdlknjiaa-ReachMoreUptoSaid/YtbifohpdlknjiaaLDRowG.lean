/- rows of digests: Row, Has -/
import Derived.Test.YtbifohpdlknjiaaLDRowF
import Derived.Shelf.SlSortCmp.NoneTotal
namespace Go.Proofs.Ytbifohpdlknjiaa
open Go.GV Go.RowKit Go.Lib
set_option linter.unusedVariables false
set_option linter.unusedSimpArgs false
theorem sort_nil (c : Nat) (w : World) : Calls Try.prog 22 #[.slice none 0 c, .func (.func 23) #[] #[]] w fun e w' => e = .returned (.tuple #[]) ∧ w' = w :=
  AnyF.slices_SortFunc_none Try.sortD none c (.func (.func 23) #[] #[]) w
theorem row_calls (A : Option Addr) (n c : Nat) (r : List Dig) (w : World) (h : Sl w 32 A n (dcs r)) (hw : W32 r) (hn : n ≤ 1099511627776) :
    Calls Try.prog 15 #[.slice A n c] w fun e w' => Fr (fun _ => False) w w' ∧ ∃ A' c' r', e = .returned (.slice A' r'.length c') ∧ Row w' w.heap.size 27 32 A' r'.length c' (dcs r') ∧ W32 r' ∧ Asc r' ∧ r'.length ≤ n ∧ ∀ d, d ∈ r' ↔ d ∈ r := by
  refine (F15.of A n c w (Q := fun v w' => Fr (fun _ => False) w w' ∧ ∃ A' c' r', v = .slice A' r'.length c' ∧ Row w' w.heap.size 27 32 A' r'.length c' (dcs r') ∧ W32 r' ∧ Asc r' ∧ r'.length ≤ n ∧ ∀ d, d ∈ r' ↔ d ∈ r) ?_).mono (fun e w' ⟨v, he, hf, A', c', r', hv, h⟩ => ⟨hf, A', c', r', by rw [he, hv], h⟩)
  have hrl := sl_len h hw
  refine (clone_dig A n c r w h hw hn).mono ?_
  rintro e w1 ⟨A1, c1, rfl, f1, h1⟩
  refine ⟨_, _, _, rfl, ?_⟩
  have fin : ∀ (u : World) (r1 : List Dig), Fr (fun k => blkOf A1 = some k) w1 u → W32 r1 → Row u w.heap.size 27 32 A1 n c1 (dcs r1) → r1.Perm r → r1.Pairwise LeD →
      Calls Try.prog 24 #[.slice A1 n c1] u fun e9 w8 => ∃ (A10 : Option Addr) (n11 c12 : Nat), e9 = .returned (.slice A10 n11 c12) ∧ (Fr (fun _ => False) w w8 ∧ ∃ A' c' r', Value.slice A10 n11 c12 = .slice A' r'.length c' ∧ Row w8 w.heap.size 27 32 A' r'.length c' (dcs r') ∧ W32 r' ∧ Asc r' ∧ r'.length ≤ n ∧ ∀ d, d ∈ r' ↔ d ∈ r) := by
    intro u r1 fu hw1 hr1 hp hs
    have hl1 := sl_len hr1.sl hw1
    refine (compact_dig w.heap.size _ A1 c1 r1 n u hr1 hw1 hn).mono ?_
    rintro e w8 ⟨rfl, f8, h8⟩
    refine ⟨_, _, _, rfl, ?_, A1, c1, cpt r1 n, rfl, h8, cpt_W32 hw1 n, cpt_asc hs n (by omega), cpt_len r1 n, fun d => ?_⟩
    · have hA : ∀ k, blkOf A1 = some k → w.heap.size ≤ k := fun k hk => (h1.blt hk).1
      exact (f1.trans fu (fun _ _ h => h) (fun k hk h' => by have := hA k h'; omega)).trans f8 (fun _ _ h => h) (fun k hk h' => by have := hA k h'; omega)
    · rw [cpt_mem, List.take_of_length_le (by omega)]; exact hp.mem_iff
  cases A1 with
  | none =>
    have hn0 : n = 0 ∧ c1 = 0 := by
      rcases h1.at_ with ⟨_, h', h''⟩ | ⟨_, _, h', _⟩
      · exact ⟨h', h''⟩
      · cases h'
    obtain ⟨rfl, rfl⟩ := hn0
    have : r = [] := List.length_eq_zero_iff.1 hrl
    subst this
    refine (sort_nil 0 w1).mono ?_
    rintro e w2 ⟨rfl, rfl⟩
    exact ⟨rfl, fin w2 [] (Fr.refl _ _) hw h1 (List.Perm.refl _) List.Pairwise.nil⟩
  | some a =>
    have ha : ∃ b, a = ⟨b, 0, none⟩ := by
      rcases h1.at_ with ⟨h', _⟩ | ⟨b, _, h', _⟩
      · cases h'
      · exact ⟨b, Option.some.inj h'⟩
    obtain ⟨b, rfl⟩ := ha
    refine (sort_dig w.heap.size _ b c1 r n w1 h1 hw (by omega)).mono ?_
    rintro e w2 ⟨rfl, f2, r2, hw2, hr2, hp, hs⟩
    exact ⟨rfl, fin w2 r2 (f2.mono (fun k _ hk => by subst hk; rfl)) hw2 hr2 hp hs⟩
theorem has_calls (A : Option Addr) (n c : Nat) (r : List Dig) (d : Dig) (w : World) (h : Sl w 32 A n (dcs r)) (hw : W32 r) (hr : Asc r) (hd : d.length = 32) (hn : n ≤ 1099511627776) :
    Calls Try.prog 17 #[.slice A n c, ofL (d.map bv)] w fun e w' => e = .returned (.bool (decide (d ∈ r))) ∧ Fr (fun _ => False) w w' := by
  refine (F17.of A n c (d.map bv) w (Q := fun v w' => v = .bool (decide (d ∈ r)) ∧ Fr (fun _ => False) w w') ?_).mono (fun e w' ⟨v, he, hv, h⟩ => ⟨by rw [he, hv], h⟩)
  have hrl := sl_len h hw
  have ld : (d.map bv).length = 32 := by simp [hd]
  have cell : ∀ {l : List UInt8} {u : World} {g : Nat} {ty : TypeId}, RecAt u g ty (l.map bv) → cellsAt u g 0 (l.map bv) := fun r => r.cells (o := 0) (fun q v hq => by simpa using hq)
  have hp := List.pairwise_iff_getElem.1 hr
  refine nw_mk ?_
  have f1 : Fr (fun _ => False) w (w.alloc (.cells (d.map bv).toArray 27)) := Fr.alloc _ _ _
  have r1 : RecAt (w.alloc (.cells (d.map bv).toArray 27)) w.heap.size 27 (d.map bv) := RecAt.new w _ _
  generalize w.alloc (.cells (d.map bv).toArray 27) = w1 at f1 r1 ⊢
  refine ⟨_, ld, cell r1, ?_⟩
  refine (F25s.of A n c (d.map bv) w1 (Q := fun v w' => (∃ i : Int, v = .tuple #[.int .i64 i, .bool (decide (d ∈ r))]) ∧ Fr (fun _ => False) w w') ?_).mono ?_
  rotate_left
  · rintro e w2 ⟨v, rfl, ⟨i, rfl⟩, f2⟩
    exact ⟨_, _, rfl, rfl, f2⟩
  refine nw_mk (jnC_mk ?_)
  have f2 : Fr (fun _ => False) w1 (w1.alloc (.cells (d.map bv).toArray 27)) := Fr.alloc _ _ _
  have r2 : RecAt (w1.alloc (.cells (d.map bv).toArray 27)) w1.heap.size 27 (d.map bv) := RecAt.new w1 _ _
  have f12 := f1.trans1 f2
  generalize w1.alloc (.cells (d.map bv).toArray 27) = w2 at f2 r2 f12 ⊢
  generalize w1.heap.size = b1 at r2 ⊢
  refine loop_rule (fun s u => Fr (fun _ => False) w u ∧ RecAt u b1 27 (d.map bv) ∧ ∃ i j : Nat, i ≤ j ∧ j ≤ n ∧ s = ((A, n, c), (), (b1, 0), (n : Int), (i : Int), (j : Int), ()) ∧ (∀ (q : Nat) (x : Dig), q < i → r[q]? = some x → LtD x d) ∧ (∀ (q : Nat) (x : Dig), j ≤ q → r[q]? = some x → ¬ LtD x d))
    (fun s _ => (s.2.2.2.2.2.1 - s.2.2.2.2.1).toNat) ?_ _ _ ⟨f12, r2, 0, n, by omega, by omega, rfl, fun q x hq => by omega, fun q x hq hx => by rw [List.getElem?_eq_none (by omega)] at hx; cases hx⟩
  rintro s u C ⟨hf, hr1, i, j, hij, hj, rfl, hlo, hhi⟩ hC _
  have hsu := hf.sl h (fun _ _ _ h => h)
  have fd : Fr (fun _ => False) u u.drew := Fr.drew _ _
  have hsd := fd.sl hsu (fun _ _ _ h => h)
  refine vIf_mk (fun hlt => ?_) (fun hge => ?_)
  · have hlt2 : (i : Int) < (j : Int) := of_decide_eq_true hlt
    have em : IntKind.wrap .i64 (Int.fdiv (IntKind.wrap .u64 (IntKind.wrap .i64 ((i : Int) + (j : Int)))) (2 ^ 1)) = (((i + j) / 2 : Nat) : Int) := by
      rw [i64_id (n := (i : Int) + (j : Int)) (by omega) (by omega), IntKind.wrap_u64, Int.fdiv_eq_ediv_of_nonneg _ (by decide), i64_id (by omega) (by omega)]; omega
    generalize hm : (i + j) / 2 = m at em
    have hmi : i ≤ m := by omega
    have hmj : m < j := by omega
    obtain ⟨b, o, hA, hcell⟩ := sl_dig hsd hw (i := m) (by omega)
    have gm : r[m]? = some (r[m]'(by omega)) := List.getElem?_eq_getElem (by omega)
    have lm := hw.at gm
    have hA' : A = some ⟨b, o, none⟩ := hA
    subst hA'
    dsimp only
    rw [em]
    simp only [Int.toNat_natCast]
    refine dr_mk (gd_mk (decide_eq_true (by omega)) (gd_mk (decide_eq_true (by omega)) ⟨_, by rw [List.length_map]; exact lm, hcell m _ gm, _, ld, cell (show RecAt u.drew b1 _ _ from hr1), (cmp_calls _ d u.drew lm hd).mono ?_⟩))
    rintro e u2 ⟨rfl, f2'⟩
    have fu2 := fd.trans1 f2'
    refine ⟨_, rfl, vIf_mk (fun hl => ?_) (fun hl => ?_)⟩
    · have hl : LtD (r[m]'(by omega)) d := of_decide_eq_true (p := compareBytes _ _ < 0) hl
      refine jnC_mk (hC _ _ ⟨hf.trans1 fu2, hr1.fr fu2 (fun h => h), m + 1, j, by omega, hj, ?_, fun q x hq hx => ?_, hhi⟩ ?_)
      · show (_, _, _, _, IntKind.wrap .i64 ((m : Int) + 1), _, ()) = _
        rw [i64_id (by omega) (by omega)]; rfl
      · have hql := (List.getElem?_eq_some_iff.1 hx).1
        have hxe : r[q]'hql = x := (List.getElem?_eq_some_iff.1 hx).2
        by_cases hqm : q = m
        · subst hqm; rw [← hxe]; exact hl
        · rw [← hxe]; exact (hp q m hql (by omega) (by omega)).trans hl
      · show ((j : Int) - IntKind.wrap .i64 ((m : Int) + 1)).toNat < ((j : Int) - (i : Int)).toNat
        rw [i64_id (by omega) (by omega)]; omega
    · have hl : ¬ LtD (r[m]'(by omega)) d := of_decide_eq_false (p := compareBytes _ _ < 0) hl
      refine jnC_mk (hC _ _ ⟨hf.trans1 fu2, hr1.fr fu2 (fun h => h), i, m, by omega, by omega, rfl, hlo, fun q x hq hx => ?_⟩ ?_)
      · have hql := (List.getElem?_eq_some_iff.1 hx).1
        have hxe : r[q]'hql = x := (List.getElem?_eq_some_iff.1 hx).2
        rw [← hxe]
        by_cases hqm : q = m
        · subst hqm; exact hl
        · intro h'; exact hl ((hp m q (by omega) hql (by omega)).trans h')
      · show ((m : Int) - (i : Int)).toNat < ((j : Int) - (i : Int)).toNat
        omega
  · have hge2 : ¬ (i : Int) < (j : Int) := of_decide_eq_false hge
    have hij2 : i = j := by omega
    subst hij2
    have only : d ∈ r → r[i]? = some d := by
      intro hm
      obtain ⟨q, hq, hqd⟩ := List.mem_iff_getElem.1 hm
      have hqs : r[q]? = some d := by rw [List.getElem?_eq_getElem hq, hqd]
      rcases Nat.lt_trichotomy q i with h1 | h1 | h1
      · exact absurd (hlo q d h1 hqs) LtD.irrefl
      · subst h1; exact hqs
      · have hlt' := hp i q (by omega) hq h1
        rw [hqd] at hlt'
        exact absurd hlt' (hhi i _ (Nat.le_refl _) (List.getElem?_eq_getElem (by omega)))
    refine vIf_mk (fun hin => ?_) (fun hin => ?_)
    · have hin2 : (i : Int) < (n : Int) := of_decide_eq_true hin
      obtain ⟨b, o, hA, hcell⟩ := sl_dig hsd hw (i := i) (by omega)
      have gm : r[i]? = some (r[i]'(by omega)) := List.getElem?_eq_getElem (by omega)
      have lm := hw.at gm
      have hA' : A = some ⟨b, o, none⟩ := hA
      subst hA'
      dsimp only
      simp only [Int.toNat_natCast]
      refine dr_mk (gd_mk (decide_eq_true (by omega)) (gd_mk (decide_eq_true hin2) ⟨_, by rw [List.length_map]; exact lm, hcell i _ gm, _, ld, cell (show RecAt u.drew b1 _ _ from hr1), (cmp_calls _ d u.drew lm hd).mono ?_⟩))
      rintro e u2 ⟨rfl, f2'⟩
      refine ⟨_, rfl, ⟨(i : Int), ?_⟩, hf.trans1 (fd.trans1 f2')⟩
      have hb : (compareBytes (r[i]'(by omega)) d == 0) = decide (d ∈ r) := by
        by_cases hdr : d ∈ r
        · have h1 := only hdr
          rw [gm] at h1
          have h2 := Option.some.inj h1
          rw [decide_eq_true hdr, h2, cmp_self]; rfl
        · rw [decide_eq_false hdr]
          have : compareBytes (r[i]'(by omega)) d ≠ 0 := fun h0 => hdr ((cmp_zero _ _).1 h0 ▸ List.getElem_mem _)
          simpa using this
      rw [hb]
    · have hin2 : ¬ (i : Int) < (n : Int) := of_decide_eq_false hin
      refine ⟨⟨(i : Int), ?_⟩, hf.trans1 fd⟩
      have hdr : ¬ d ∈ r := by
        intro hm
        have h1 := only hm
        rw [List.getElem?_eq_none (by omega)] at h1
        cases h1
      rw [decide_eq_false hdr]
end Go.Proofs.Ytbifohpdlknjiaa
