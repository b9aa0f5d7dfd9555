/- opening a slice of digests, and a digest -/
import Derived.Test.YtbifohpdlknjiaaLZ
import Derived.Test.YtbifohpdlknjiaaLDRowD
import Derived.Test.YtbifohpdlknjiaaG11
namespace Go.Proofs.Ytbifohpdlknjiaa
open Go.GV Go.ChangeShapes Go.WideShapes Go.ChangeAt Go.RowKit
set_option linter.unusedVariables false
theorem cD : Try.prog.cellsOf 27 = 32 := by kernel_rfl
theorem cB : Try.prog.cellsOf 5 = 1 := by kernel_rfl
theorem tr_dig {H : Type} {enc : TypeId × Value → H} {w : World} {fuel : Nat} {cs : List Value} {x : DataW H × List MemPlace} (h : TR enc Try.prog w fuel 27 cs x) : ∃ l : List UInt8, cs = l.map bv ∧ l.length = 32 :=
  tr_byteArray (P := Try.prog) Try.underlying27 Try.underlying5 cB cD h
set_option maxRecDepth 100000 in
theorem open_dig {H : Type} {enc : TypeId × Value → H} {w : World} {b0 : Nat} {v : Value} {d : DataW H} {ps : List MemPlace} (hv : Value.okWide Try.prog w .any b0 27 v) (h : DataW.Trod enc Try.prog w 0 (fun _ => true) true 27 v d ps) : ∃ l : List UInt8, v = ofL (l.map bv) ∧ l.length = 32 := by
  obtain ⟨fuel, ht⟩ := h
  obtain ⟨cs, rfl, hcs⟩ := agg_of_array Try.underlying27 hv
  rw [hcs] at ht
  obtain ⟨l, rfl, hl⟩ := tr_dig ht
  exact ⟨l, rfl, hl⟩
/-- a slice of digests, from its cells -/
theorem tr_digs {H : Type} {enc : TypeId × Value → H} {w : World} {fuel : Nat} {cs : List Value} {x : DataW H × List MemPlace} (h : TR enc Try.prog w fuel 22 cs x) :
    ∃ (A : Option Addr) (n c : Nat) (r : List Dig), cs = [Value.slice A n c] ∧ Sl w 32 A n (dcs r) ∧ W32 r ∧ n ≤ Rows.uptoBulk x.1 := by
  obtain ⟨A, n, c, vss, hcs, h1, h2, h3, h4, h5, h6⟩ := tr_slice (P := Try.prog) (e := 27) Try.underlying22 (by rw [cD]; decide) h
  rcases h6 with ⟨h7, rfl, rfl, rfl⟩ | ⟨es, sp, h7, h8, h9, h10⟩
  · exact ⟨none, 0, 0, [], hcs, Sl.nil _ _ _, (fun d hd => by cases hd), Nat.zero_le _⟩
  · obtain ⟨r, hrl, hr⟩ := choose_list (R := fun _ v (l : List UInt8) => v = l.map bv ∧ l.length = 32) vss (fun i v hi => by
      obtain ⟨m, y, hy, _⟩ := h10 i v hi
      exact tr_dig hy)
    have hv : vss = r.map (fun d => d.map bv) := by
      apply List.ext_getElem?
      intro i
      by_cases hi : i < vss.length
      · obtain ⟨l, hl, hl2, _⟩ := hr i _ (List.getElem?_eq_getElem hi)
        rw [List.getElem?_map, hl, List.getElem?_eq_getElem hi, hl2]; rfl
      · rw [List.getElem?_eq_none (by omega), List.getElem?_eq_none (by simp; omega)]
    have hw : W32 r := by
      intro d hd
      obtain ⟨i, hi, hid⟩ := List.mem_iff_getElem.1 hd
      obtain ⟨l, hl, _, hl3⟩ := hr i _ (List.getElem?_eq_getElem (show i < vss.length by omega))
      rw [List.getElem?_eq_getElem hi, hid] at hl
      injection hl with hl
      rw [hl]; exact hl3
    rw [cD, hv] at h5
    refine ⟨A, n, c, r, hcs, h5, hw, ?_⟩
    rw [h7]
    have := length_le es
    simp only [Rows.uptoBulk]
    omega
set_option maxRecDepth 100000 in
theorem open_digs {H : Type} {enc : TypeId × Value → H} {w : World} {v : Value} {d : DataW H} {ps : List MemPlace} (hv : Value.okWide Try.prog w .any 0 22 v) (h : DataW.Trod enc Try.prog w 0 (fun _ => true) true 22 v d ps) :
    ∃ (A : Option Addr) (n c : Nat) (r : List Dig), v = Value.slice A n c ∧ Sl w 32 A n (dcs r) ∧ W32 r ∧ n ≤ Rows.uptoBulk d := by
  obtain ⟨fuel, ht⟩ := h
  obtain ⟨A, n, c, r, hcs, h1, h2, h3⟩ := tr_digs ht
  exact ⟨A, n, c, r, slice_of_cells Try.underlying22 hv hcs, h1, h2, h3⟩
end Go.Proofs.Ytbifohpdlknjiaa
