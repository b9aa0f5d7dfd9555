/- chapter 33: what isn't reached, by the program and by the document -/
import Derived.Test.YtbifohpdlknjiaaHD
namespace Go.Proofs.Ytbifohpdlknjiaa
open Go.GV Go.RowKit Go.Lib
set_option linter.unusedVariables false
set_option linter.unusedSimpArgs false
theorem recAt_one {w : World} {b : Nat} {e e' : TypeId} {v v' : Value} (h : RecAt w b e [v]) (h' : RecAt w b e' [v']) : v = v' := by
  have := h.get (h'.cell (o := 0) rfl)
  simpa using this
theorem keep_mem {met r : List Dig} {d : Dig} : d ∈ keep met r ↔ d ∈ r ∧ d ∉ met := by simp [keep]
theorem keep_asc {met r : List Dig} (h : Asc r) : Asc (keep met r) := h.sublist List.filter_sublist
theorem keep_W32 {met r : List Dig} (h : W32 r) : W32 (keep met r) := fun d hd => h d (keep_mem.1 hd).1
theorem missing_calls (A : Option Addr) (n c : Nat) (a : List Dig) (R : Option Addr) (nr cr : Nat) (r : List Dig) (L : Option Addr) (nl cl : Nat) (l : List Lnk) (w : World) (ha : Sl w 32 A n (dcs a)) (hwa : W32 a) (h : Sl w 32 R nr (dcs r)) (hw : W32 r) (hl : Sl w 64 L nl (lks l)) (hwl : WL l) (hna : n ≤ 17179869184) (hn : nr ≤ 17179869184) (hnl : nl ≤ 17179869184) :
    Calls Try.prog 13 #[.slice A n c, .slice R nr cr, .slice L nl cl] w fun e w' => Fr (fun _ => False) w w' ∧ ∃ A' c' r', e = .returned (.slice A' r'.length c') ∧ Row w' w.heap.size 27 32 A' r'.length c' (dcs r') ∧ W32 r' ∧ Asc r' ∧ r'.length ≤ n ∧ ∀ d, d ∈ r' ↔ d ∈ a ∧ ¬ Rch r l d := by
  refine (F13.of A n c R nr cr L nl cl w (Q := fun v w' => Fr (fun _ => False) w w' ∧ ∃ A' c' r', v = .slice A' r'.length c' ∧ Row w' w.heap.size 27 32 A' r'.length c' (dcs r') ∧ W32 r' ∧ Asc r' ∧ r'.length ≤ n ∧ ∀ d, d ∈ r' ↔ d ∈ a ∧ ¬ Rch r l d) ?_).mono (fun e w' ⟨v, he, hf, A', c', r', hv, h⟩ => ⟨hf, A', c', r', by rw [he, hv], h⟩)
  refine (of_calls R nr cr r L nl cl l w h hw hl hwl hn hnl).mono ?_
  rintro e w1 ⟨f1, M, cm, m, rfl, hm, hwm, ham, hml, hmm⟩
  refine ⟨_, _, _, rfl, nw_mk ?_⟩
  have f2 : Fr (fun _ => False) w1 (w1.alloc (.cells [Value.slice none 0 0].toArray 22)) := Fr.alloc _ _ _
  have r2 : RecAt (w1.alloc (.cells [Value.slice none 0 0].toArray 22)) w1.heap.size 22 [Value.slice none 0 0] := RecAt.new w1 _ _
  have s2 : (w1.alloc (.cells [Value.slice none 0 0].toArray 22)).heap.size = w1.heap.size + 1 := alloc_size _ _
  generalize w1.alloc (.cells [Value.slice none 0 0].toArray 22) = w2 at f2 r2 s2 ⊢
  refine r2.st_mk (o := 0) (by simp) (fun v hv => by simp at hv; subst hv; rfl) (fun r3 f3 => ?_)
  rw [splice_full (by simp)] at r3
  generalize stB w2 w1.heap.size 0 [Value.slice M m.length cm] = w3 at r3 f3 ⊢
  have f13 : Fr (fun _ => False) w1 w3 := f2.trans f3 (fun _ _ h => h) (fun q hq h' => by omega)
  have f03 := f1.trans1 f13
  have s3 : w2.heap.size ≤ w3.heap.size := f3.size
  have s1 : w.heap.size ≤ w1.heap.size := f1.size
  refine (row_calls A n c a w3 (f03.sl ha (fun _ _ _ h => h)) hwa (by omega)).mono ?_
  rintro e w4 ⟨f4, N, cn, k, rfl, hk, hwk, hak, hkl, hkm⟩
  have hM4 := f4.row (f13.row hm (fun _ _ h => h)) (fun _ _ h => h)
  have r4 := r3.fr f4 (fun h => h)
  have held : Held w4 w1.heap.size m := ⟨⟨M, cm, _, r4, hM4.sl⟩, hwm, ham, by omega⟩
  refine ⟨_, _, _, rfl, (delete_calls w3.heap.size 27 N k.length cn k w1.heap.size m w4 hk hwk held (by omega) (fun q hq => by omega) (fun A' c' e' hr' q hq => ?_)).mono ?_⟩
  · have := recAt_one hr' r4
    injection this with h1
    subst h1
    have := (hm.blt hq).2
    omega
  rintro e w5 ⟨rfl, f5, hr5⟩
  have f05 : Fr (fun _ => False) w w5 := (f03.trans1 f4).trans f5 (fun _ _ h => h) (fun q hq h' => by
    have := (hk.blt h').1
    omega)
  refine ⟨_, _, _, rfl, f05, N, cn, keep m k, rfl, row_low (by omega) hr5, keep_W32 hwk, keep_asc hak, by have := keep_len m k; omega, fun d => ?_⟩
  rw [keep_mem, hkm, hmm]
set_option maxHeartbeats 1000000 in
theorem rmissing_calls (A : Option Addr) (n c : Nat) (a : List Dig) (R : Option Addr) (nr cr : Nat) (r : List Dig) (L : Option Addr) (nl cl : Nat) (l : List Lnk) (w : World) (ha : Sl w 32 A n (dcs a)) (hwa : W32 a) (h : Sl w 32 R nr (dcs r)) (hw : W32 r) (hl : Sl w 64 L nl (lks l)) (hwl : WL l) (hna : n ≤ 17179869184) (hn : nr ≤ 17179869184) (hnl : nl ≤ 17179869184) :
    Calls Try.prog 14 #[.slice A n c, .slice R nr cr, .slice L nl cl] w fun e w' => Fr (fun _ => False) w w' ∧ ∃ A' c' r', e = .returned (.slice A' r'.length c') ∧ Row w' w.heap.size 27 32 A' r'.length c' (dcs r') ∧ W32 r' ∧ Asc r' ∧ r'.length ≤ n ∧ ∀ d, d ∈ r' ↔ d ∈ a ∧ ¬ Rch r l d := by
  refine (F14.of A n c R nr cr L nl cl w (Q := fun v w' => Fr (fun _ => False) w w' ∧ ∃ A' c' r', v = .slice A' r'.length c' ∧ Row w' w.heap.size 27 32 A' r'.length c' (dcs r') ∧ W32 r' ∧ Asc r' ∧ r'.length ≤ n ∧ ∀ d, d ∈ r' ↔ d ∈ a ∧ ¬ Rch r l d) ?_).mono (fun e w' ⟨v, he, hf, A', c', r', hv, h⟩ => ⟨hf, A', c', r', by rw [he, hv], h⟩)
  refine (rof_calls R nr cr r L nl cl l w h hw hl hwl hn hnl).mono ?_
  rintro e w1 ⟨f1, M, cm, m, rfl, hm, hwm, ham, hml, hmm⟩
  refine ⟨_, _, _, rfl, (rrow_calls A n c a w1 (f1.sl ha (fun _ _ _ h => h)) hwa (by omega)).mono ?_⟩
  rintro e w4 ⟨f4, N, cn, k, rfl, hk, hwk, hak, hkl, hkm⟩
  refine ⟨_, _, _, rfl, jnC_mk ?_⟩
  have s1 : w.heap.size ≤ w1.heap.size := f1.size
  have s4 : w1.heap.size ≤ w4.heap.size := f4.size
  have hM4 := f4.row hm (fun _ _ h => h)
  refine loop_rule (fun s u => Fr (fun _ => False) w4 u ∧ ∃ (i : Nat) (A5 : Option Addr) (c5 : Nat), i ≤ k.length ∧ s = ((M, m.length, cm), (A5, (keep m (k.take i)).length, c5), (N, k.length, cn), (i : Int), ()) ∧ Row u w4.heap.size 27 32 A5 (keep m (k.take i)).length c5 (dcs (keep m (k.take i))))
    (fun s _ => (k.length - s.2.2.2.1).toNat) ?_ _ _ ⟨Fr.refl _ _, 0, none, 0, by omega, rfl, Row.nil _ _ _ _⟩
  rintro s u C ⟨hf, i, A5, c5, hi, rfl, hr5⟩ hC _
  have hus := hf.size
  refine vIf_mk (fun hlt => ?_) (fun hge => ?_)
  · have hlt2 : (i : Int) < (k.length : Int) := of_decide_eq_true hlt
    have gi : k[i]? = some (k[i]'(by omega)) := List.getElem?_eq_getElem (by omega)
    have li := hwk.at gi
    obtain ⟨b, o', hA, hcell⟩ := sl_dig (hf.sl hk.sl (fun _ _ _ h => h)) hwk (i := i) (by omega)
    subst hA
    have hsn := keep_snoc (met := m) gi
    have hle := keep_len m (k.take i)
    rw [List.length_take] at hle
    generalize hx : k[i]'(by omega) = x at gi li hsn
    have lx : (x.map bv).length = 32 := by simp [li]
    have ci : ∀ {v : World}, Fr (fun _ => False) u v → cellsAt v b (o' + ((i : Int)).toNat * 32) (x.map bv) := fun fv => by rw [Int.toNat_natCast]; exact fv.cells (hcell i x gi) (fun h => h)
    have d0 : decide (0 ≤ (i : Int)) = true := decide_eq_true (by omega)
    have hmeas : ((k.length : Int) - IntKind.wrap .i64 ((i : Int) + 1)).toNat < ((k.length : Int) - (i : Int)).toNat := by rw [ei64 i (by omega)]; omega
    refine dr_mk (gd_mk d0 (gd_mk (decide_eq_true hlt2) ⟨x.map bv, lx, ci (Fr.refl _ _), (rhas_calls M m.length cm m x u (hf.sl hM4.sl (fun _ _ _ h => h)) hwm li (by omega)).mono ?_⟩))
    rintro e u2 ⟨rfl, f2⟩
    have hu2 := f2.size
    refine ⟨_, rfl, vIf_mk (fun hnd => ?_) (fun hde => ?_)⟩
    · have hout : x ∉ m := fun h' => by rw [decide_eq_true h'] at hnd; cases hnd
      rw [if_neg hout] at hsn
      refine dr_mk (gd_mk d0 (gd_mk (decide_eq_true hlt2) ⟨x.map bv, lx, ci f2, gd_mk (by rw [lx]; rfl) ?_⟩))
      refine push_dig (n := (keep m (k.take i)).length) (f2.row hr5 (fun _ _ h => h)) li (by omega) (by omega) (fun A' c' u3 hr' f3 => ?_)
      have f03 : Fr (fun _ => False) w4 u3 := (hf.trans1 f2).trans f3 (fun _ _ h => h) (fun q hq h' => by
        have := (hr5.blt h').1
        omega)
      refine jnC_mk (hC _ _ ⟨f03, i + 1, A', c', by omega, ?_, ?_⟩ hmeas)
      · rw [hsn, List.length_append, ei64 i (by omega)]; rfl
      · rw [hsn, List.length_append]; exact hr'
    · have hin : x ∈ m := by
        by_cases h' : x ∈ m
        · exact h'
        · rw [decide_eq_false h'] at hde; cases hde
      rw [if_pos hin, List.append_nil] at hsn
      exact jnC_mk (hC _ _ ⟨hf.trans1 f2, i + 1, A5, c5, by omega, by rw [hsn, ei64 i (by omega)], by rw [hsn]; exact f2.row hr5 (fun _ _ h => h)⟩ hmeas)
  · have hge2 : ¬ (i : Int) < (k.length : Int) := of_decide_eq_false hge
    have hta : k.take i = k := List.take_of_length_le (by omega)
    rw [hta] at hr5
    rw [hta]
    refine ⟨(f1.trans1 f4).trans1 hf, A5, c5, keep m k, rfl, row_low (by omega) hr5, keep_W32 hwk, keep_asc hak, by have := keep_len m k; omega, fun d => ?_⟩
    rw [keep_mem, hkm, hmm]
end Go.Proofs.Ytbifohpdlknjiaa
