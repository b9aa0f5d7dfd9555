/- rows of digests: Row (for a seat without Has; the same text as DRowG's first part) -/
import Derived.Test.YtnablplljilahaaLDRowF
import Derived.Shelf.SlSortCmp.NoneTotal
namespace Go.Proofs.Ytnablplljilahaa.Dg
open Go.GV Go.RowKit Go.Lib
set_option linter.unusedVariables false
set_option linter.unusedSimpArgs false
theorem sort_nil (c : Nat) (w : World) : Calls Try.prog 55 #[.slice none 0 c, .func (.func 56) #[] #[]] w fun e w' => e = .returned (.tuple #[]) ∧ w' = w :=
  AnyF.slices_SortFunc_none Try.sortD none c (.func (.func 56) #[] #[]) w
theorem row_calls (A : Option Addr) (n c : Nat) (r : List Dig) (w : World) (h : Sl w 32 A n (dcs r)) (hw : W32 r) (hn : n ≤ 1099511627776) :
    Calls Try.prog 46 #[.slice A n c] w fun e w' => Fr (fun _ => False) w w' ∧ ∃ A' c' r', e = .returned (.slice A' r'.length c') ∧ Row w' w.heap.size 29 32 A' r'.length c' (dcs r') ∧ W32 r' ∧ Asc r' ∧ r'.length ≤ n ∧ ∀ d, d ∈ r' ↔ d ∈ r := by
  refine (F46.of A n c w (Q := fun v w' => Fr (fun _ => False) w w' ∧ ∃ A' c' r', v = .slice A' r'.length c' ∧ Row w' w.heap.size 29 32 A' r'.length c' (dcs r') ∧ W32 r' ∧ Asc r' ∧ r'.length ≤ n ∧ ∀ d, d ∈ r' ↔ d ∈ r) ?_).mono (fun e w' ⟨v, he, hf, A', c', r', hv, h⟩ => ⟨hf, A', c', r', by rw [he, hv], h⟩)
  have hrl := sl_len h hw
  refine (clone_dig A n c r w h hw hn).mono ?_
  rintro e w1 ⟨A1, c1, rfl, f1, h1⟩
  refine ⟨_, _, _, rfl, ?_⟩
  have fin : ∀ (u : World) (r1 : List Dig), Fr (fun k => blkOf A1 = some k) w1 u → W32 r1 → Row u w.heap.size 29 32 A1 n c1 (dcs r1) → r1.Perm r → r1.Pairwise LeD →
      Calls Try.prog 57 #[.slice A1 n c1] u fun e9 w8 => ∃ (A10 : Option Addr) (n11 c12 : Nat), e9 = .returned (.slice A10 n11 c12) ∧ (Fr (fun _ => False) w w8 ∧ ∃ A' c' r', Value.slice A10 n11 c12 = .slice A' r'.length c' ∧ Row w8 w.heap.size 29 32 A' r'.length c' (dcs r') ∧ W32 r' ∧ Asc r' ∧ r'.length ≤ n ∧ ∀ d, d ∈ r' ↔ d ∈ r) := by
    intro u r1 fu hw1 hr1 hp hs
    have hl1 := sl_len hr1.sl hw1
    refine (compact_dig w.heap.size _ A1 c1 r1 n u hr1 hw1 hn).mono ?_
    rintro e w8 ⟨rfl, f8, h8⟩
    refine ⟨_, _, _, rfl, ?_, A1, c1, cpt r1 n, rfl, h8, cpt_W32 hw1 n, cpt_asc hs n (by omega), cpt_len r1 n, fun d => ?_⟩
    · have hA : ∀ k, blkOf A1 = some k → w.heap.size ≤ k := fun k hk => (h1.blt hk).1
      exact (f1.trans fu (fun _ _ h => h) (fun k hk h' => by have := hA k h'; omega)).trans f8 (fun _ _ h => h) (fun k hk h' => by have := hA k h'; omega)
    · rw [cpt_mem, List.take_of_length_le (by omega)]; exact hp.mem_iff
  cases A1 with
  | none =>
    have hn0 : n = 0 ∧ c1 = 0 := by
      rcases h1.at_ with ⟨_, h', h''⟩ | ⟨_, _, h', _⟩
      · exact ⟨h', h''⟩
      · cases h'
    obtain ⟨rfl, rfl⟩ := hn0
    have : r = [] := List.length_eq_zero_iff.1 hrl
    subst this
    refine (sort_nil 0 w1).mono ?_
    rintro e w2 ⟨rfl, rfl⟩
    exact ⟨rfl, fin w2 [] (Fr.refl _ _) hw h1 (List.Perm.refl _) List.Pairwise.nil⟩
  | some a =>
    have ha : ∃ b, a = ⟨b, 0, none⟩ := by
      rcases h1.at_ with ⟨h', _⟩ | ⟨b, _, h', _⟩
      · cases h'
      · exact ⟨b, Option.some.inj h'⟩
    obtain ⟨b, rfl⟩ := ha
    refine (sort_dig w.heap.size _ b c1 r n w1 h1 hw (by omega)).mono ?_
    rintro e w2 ⟨rfl, f2, r2, hw2, hr2, hp, hs⟩
    exact ⟨rfl, fin w2 r2 (f2.mono (fun k _ hk => by subst hk; rfl)) hw2 hr2 hp hs⟩
end Go.Proofs.Ytnablplljilahaa.Dg
