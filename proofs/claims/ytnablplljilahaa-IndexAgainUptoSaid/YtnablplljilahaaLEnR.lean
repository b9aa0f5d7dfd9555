/- rows of entries, as they lie -/
import Derived.Test.YtnablplljilahaaLEnF
import Derived.Test.YtnablplljilahaaLChunk
namespace Go.Proofs.Ytnablplljilahaa
open Go.GV Go.RowKit Go.Lib
set_option linter.unusedVariables false
set_option linter.unusedSimpArgs false
theorem EnP.mono {P P' : Nat → Prop} {w : World} {cs : List Value} {e : En} (h : EnP P w cs e) (hP : ∀ k, k < w.heap.size → P k → P' k) : EnP P' w cs e := by
  obtain ⟨A, n, c, h1, h2, h3, h4⟩ := h
  exact ⟨A, n, c, h1, h2, h3, fun h0 k hk => hP k (h2.blt (by decide) h0 hk) (h4 h0 k hk)⟩
theorem EnP.fr {P D : Nat → Prop} {w w' : World} {cs : List Value} {e : En} (h : EnP P w cs e) (f : Fr D w w') (hD : ∀ k, P k → ¬ D k) : EnP P w' cs e := by
  obtain ⟨A, n, c, h1, h2, h3, h4⟩ := h
  exact ⟨A, n, c, h1, f.sl h2 (fun h0 k hk => hD k (h4 h0 k hk)), h3, h4⟩
theorem EnP.fr0 {P : Nat → Prop} {w w' : World} {cs : List Value} {e : En} (h : EnP P w cs e) (f : Fr (fun _ => False) w w') : EnP P w' cs e := h.fr f (fun _ _ h => h)
theorem EnP.len {P : Nat → Prop} {w : World} {cs : List Value} {e : En} (h : EnP P w cs e) : cs.length = 38 := h.at.len
theorem EnP.one {P : Nat → Prop} {w : World} {cs : List Value} {e : En} (h : EnP P w cs e) : ∀ v ∈ cs, v.oneCell' = true := h.at.one
structure ERow (P : Nat → Prop) (w : World) (vs : List Value) (l : List En) : Prop where
  len : vs.length = l.length * 38
  at_ : ∀ (i : Nat) (e : En), l[i]? = some e → EnP P w (chunk vs i) e
theorem ERow.nil (P : Nat → Prop) (w : World) : ERow P w [] [] := ⟨rfl, fun i e h => by simp at h⟩
theorem ERow.mono {P P' : Nat → Prop} {w : World} {vs : List Value} {l : List En} (h : ERow P w vs l) (hP : ∀ k, k < w.heap.size → P k → P' k) : ERow P' w vs l := ⟨h.len, fun i e hi => (h.at_ i e hi).mono hP⟩
theorem ERow.fr {P D : Nat → Prop} {w w' : World} {vs : List Value} {l : List En} (h : ERow P w vs l) (f : Fr D w w') (hD : ∀ k, P k → ¬ D k) : ERow P w' vs l := ⟨h.len, fun i e hi => (h.at_ i e hi).fr f hD⟩
theorem ERow.one {P : Nat → Prop} {w : World} {cs : List Value} {e : En} (h : EnP P w cs e) : ERow P w cs [e] := by
  refine ⟨by rw [h.len]; rfl, fun i x hi => ?_⟩
  match i, hi with
  | 0, hi => injection hi with hi; subst hi; rw [chunk_one h.len]; exact h
  | i + 1, hi => simp at hi
theorem ERow.app {P : Nat → Prop} {w : World} {vs us : List Value} {l m : List En} (h : ERow P w vs l) (h' : ERow P w us m) : ERow P w (vs ++ us) (l ++ m) := by
  refine ⟨by rw [List.length_append, List.length_append, h.len, h'.len, Nat.add_mul], fun i e hi => ?_⟩
  by_cases hil : i < l.length
  · rw [List.getElem?_append_left hil] at hi
    rw [chunk_l (by rw [h.len]; exact Nat.mul_le_mul_right _ hil)]
    exact h.at_ i e hi
  · rw [List.getElem?_append_right (by omega)] at hi
    have : i = l.length + (i - l.length) := by omega
    rw [this, chunk_r h.len]
    exact h'.at_ _ e hi
theorem ERow.take {P : Nat → Prop} {w : World} {vs : List Value} {l : List En} (h : ERow P w vs l) (k : Nat) : ERow P w (vs.take (k * 38)) (l.take k) := by
  refine ⟨by rw [List.length_take, List.length_take, h.len]; omega, fun i e hi => ?_⟩
  rw [List.getElem?_take] at hi
  split at hi
  · rw [chunk_take (by assumption)]; exact h.at_ i e hi
  · cases hi
theorem ERow.drop {P : Nat → Prop} {w : World} {vs : List Value} {l : List En} (h : ERow P w vs l) (k : Nat) : ERow P w (vs.drop (k * 38)) (l.drop k) := by
  refine ⟨by rw [List.length_drop, List.length_drop, h.len]; omega, fun i e hi => ?_⟩
  rw [List.getElem?_drop] at hi
  rw [chunk_drop]; exact h.at_ _ e hi
theorem ERow.set {P : Nat → Prop} {w : World} {vs cs : List Value} {l : List En} {k : Nat} {e : En} (h : ERow P w vs l) (he : EnP P w cs e) (hk : k < l.length) : ERow P w (splice vs (k * 38) cs) (l.set k e) := by
  have hfit : (k + 1) * 38 ≤ vs.length := by rw [h.len]; exact Nat.mul_le_mul_right _ hk
  have hl := he.len
  refine ⟨by rw [splice_length (by omega), List.length_set]; exact h.len, fun i x hi => ?_⟩
  rw [chunk_set hl hfit]
  by_cases hik : i = k
  · subst hik
    rw [if_pos rfl]
    rw [List.getElem?_set_self hk] at hi
    injection hi with hi; subst hi; exact he
  · rw [if_neg hik]
    rw [List.getElem?_set_ne (fun h => hik h.symm)] at hi
    exact h.at_ i x hi
theorem ERow.ones {P : Nat → Prop} {w : World} {vs : List Value} {l : List En} (h : ERow P w vs l) : ∀ v ∈ vs, v.oneCell' = true := by
  intro v hv
  obtain ⟨j, hj, rfl⟩ := List.mem_iff_getElem.1 hv
  have hi : j / 38 < l.length := by
    have := h.len
    omega
  have h1 := h.at_ (j / 38) _ (List.getElem?_eq_getElem hi)
  refine h1.one _ (List.mem_of_getElem? (i := j % 38) ?_)
  rw [chunk_get (by omega), List.getElem?_eq_some_iff]
  refine ⟨by omega, ?_⟩
  congr 1; omega
/-- a table that can be read -/
def RE (P : Nat → Prop) (w : World) (A : Option Addr) (n : Nat) (l : List En) : Prop := ∃ vs, Sl w 38 A n vs ∧ ERow P w vs l
theorem RE.len {P : Nat → Prop} {w : World} {A : Option Addr} {n : Nat} {l : List En} (h : RE P w A n l) : l.length = n := by
  obtain ⟨vs, h1, h2⟩ := h
  have := h1.1
  rw [h2.len] at this
  omega
theorem RE.fr {P D : Nat → Prop} {w w' : World} {A : Option Addr} {n : Nat} {l : List En} (h : RE P w A n l) (f : Fr D w w') (hD : ∀ k, P k → ¬ D k) (hA : n ≠ 0 → ∀ k, blkOf A = some k → ¬ D k) : RE P w' A n l := by
  obtain ⟨vs, h1, h2⟩ := h
  exact ⟨vs, f.sl h1 hA, h2.fr f hD⟩
theorem RE.fr0 {P : Nat → Prop} {w w' : World} {A : Option Addr} {n : Nat} {l : List En} (h : RE P w A n l) (f : Fr (fun _ => False) w w') : RE P w' A n l := h.fr f (fun _ _ h => h) (fun _ _ _ h => h)
theorem RE.mono {P P' : Nat → Prop} {w : World} {A : Option Addr} {n : Nat} {l : List En} (h : RE P w A n l) (hP : ∀ k, k < w.heap.size → P k → P' k) : RE P' w A n l := by
  obtain ⟨vs, h1, h2⟩ := h
  exact ⟨vs, h1, h2.mono hP⟩
theorem RE.nil (P : Nat → Prop) (w : World) (A : Option Addr) : RE P w A 0 [] := ⟨[], Sl.nil _ _ _, ERow.nil _ _⟩
/-- a step of a loop over a table -/
theorem e_rd {P : Nat → Prop} {w : World} {A : Option Addr} {n : Nat} {l : List En} (h : RE P w A n l) {i : Nat} {e : En} (hi : l[i]? = some e) {X : Nat → Nat → Prop}
    (hX : ∀ b o cs, A = some ⟨b, o, none⟩ → EnP P w cs e → cellsAt w b (o + ((i : Int)).toNat * 38) cs → X b o) : dr A fun b o => gd (decide (0 ≤ (i : Int))) (gd (decide ((i : Int) < ((n : Nat) : Int))) (X b o)) := by
  have hl := h.len
  have hil := (List.getElem?_eq_some_iff.1 hi).1
  obtain ⟨vs, h1, h2⟩ := h
  obtain ⟨b, o, rfl, hc⟩ := h1.2 (by omega)
  have ht := h2.at_ i e hi
  refine dr_mk (gd_mk (decide_eq_true (by omega)) (gd_mk (decide_eq_true (by omega)) (hX b o _ rfl ht ?_)))
  rw [Int.toNat_natCast]
  intro j v hj
  have hj38 : j < 38 := by have := (List.getElem?_eq_some_iff.1 hj).1; rw [ht.len] at this; exact this
  rw [chunk_get hj38] at hj
  rw [Nat.add_assoc]
  exact hc _ v hj
theorem e_dig {P : Nat → Prop} {w w' : World} {cs : List Value} {e : En} {b p : Nat} (h : EnP P w' cs e) (hc : cellsAt w b p cs) : cellsAt w b p (e.d.map bv) := by
  obtain ⟨A, n, c, rfl, _⟩ := h
  intro j v hj
  have hj' := (List.getElem?_eq_some_iff.1 hj).1
  refine hc j v ?_
  unfold En.cs
  rw [List.getElem?_append_left hj']; exact hj
theorem e_fld {P : Nat → Prop} {w w' : World} {cs : List Value} {e : En} {b p : Nat} (h : EnP P w' cs e) (hc : cellsAt w b p cs) {j : Nat} {v : Value} (hj : [Value.int .i64 e.k, .int .i64 e.z, .int .i64 e.s, .int .i64 e.o, .int .i64 e.q][j]? = some v) : cellAt w b (p + (32 + j)) = some v := by
  obtain ⟨A, n, c, rfl, _, hd, _⟩ := h
  have hj' := (List.getElem?_eq_some_iff.1 hj).1
  refine hc (32 + j) v ?_
  unfold En.cs
  rw [List.getElem?_append_right (by simp [hd])]
  rw [show 32 + j - (e.d.map bv).length = j by simp [hd]]
  have : [Value.int .i64 e.k, .int .i64 e.z, .int .i64 e.s, .int .i64 e.o, .int .i64 e.q, .slice A n c] = [Value.int .i64 e.k, .int .i64 e.z, .int .i64 e.s, .int .i64 e.o, .int .i64 e.q] ++ [.slice A n c] := rfl
  rw [this, List.getElem?_append_left hj']; exact hj
theorem EnP.dl {P : Nat → Prop} {w : World} {cs : List Value} {e : En} (h : EnP P w cs e) : e.d.length = 32 := by
  obtain ⟨A, n, c, _, _, hd, _⟩ := h
  exact hd
/-- a table of one's own -/
def OE (P : Nat → Prop) (w : World) (B : Nat) (A : Option Addr) (n c : Nat) (l : List En) : Prop := ∃ vs, Row w B 42 38 A n c vs ∧ ERow (fun k => blkOf A ≠ some k ∧ P k) w vs l
theorem OE.rt {P : Nat → Prop} {w : World} {B : Nat} {A : Option Addr} {n c : Nat} {l : List En} (h : OE P w B A n c l) : RE P w A n l := by
  obtain ⟨vs, h1, h2⟩ := h
  exact ⟨vs, h1.sl, h2.mono (fun _ _ h => h.2)⟩
theorem OE.nil (P : Nat → Prop) (w : World) (B : Nat) : OE P w B none 0 0 [] := ⟨[], Row.nil _ _ _ _, ERow.nil _ _⟩
theorem OE.fr {P D : Nat → Prop} {w w' : World} {B : Nat} {A : Option Addr} {n c : Nat} {l : List En} (h : OE P w B A n c l) (f : Fr D w w') (hD : ∀ k, P k → ¬ D k) (hA : ∀ k, blkOf A = some k → ¬ D k) : OE P w' B A n c l := by
  obtain ⟨vs, h1, h2⟩ := h
  exact ⟨vs, f.row h1 hA, h2.fr f (fun k hk => hD k hk.2)⟩
theorem OE.fr0 {P : Nat → Prop} {w w' : World} {B : Nat} {A : Option Addr} {n c : Nat} {l : List En} (h : OE P w B A n c l) (f : Fr (fun _ => False) w w') : OE P w' B A n c l := h.fr f (fun _ _ h => h) (fun _ _ h => h)
theorem OE.mono {P P' : Nat → Prop} {w : World} {B B' : Nat} {A : Option Addr} {n c : Nat} {l : List En} (h : OE P w B A n c l) (hB : B' ≤ B) (hP : ∀ k, k < w.heap.size → P k → P' k) : OE P' w B' A n c l := by
  obtain ⟨vs, h1, h2⟩ := h
  exact ⟨vs, row_low hB h1, h2.mono (fun k hk h => ⟨h.1, hP k hk h.2⟩)⟩
theorem OE.blt {P : Nat → Prop} {w : World} {B : Nat} {A : Option Addr} {n c : Nat} {l : List En} (h : OE P w B A n c l) {k : Nat} (hk : blkOf A = some k) : B ≤ k ∧ k < w.heap.size := by
  obtain ⟨vs, h1, h2⟩ := h
  exact h1.blt hk
theorem z34e : ∀ v ∈ Z42, v.oneCell' = true := by decide
set_option maxRecDepth 10000 in
theorem pushE {P : Nat → Prop} {w : World} {B : Nat} {A : Option Addr} {n c : Nat} {l : List En} {cs : List Value} {e : En} {K : Option Addr → Nat → Nat → World → Prop} (hr : OE P w B A n c l) (he : EnP (fun k => blkOf A ≠ some k ∧ P k) w cs e) (hB : B ≤ w.heap.size) (hn : n ≤ 1073741824)
    (hK : ∀ A' c' w', OE P w' B A' (n + 1) c' (l ++ [e]) → Fr (fun k => blkOf A = some k) w w' → (∀ k, blkOf A' = some k → blkOf A = some k ∨ w.heap.size ≤ k) → K A' (n + 1) c' w') :
    gd (cs.length == 38) (nw w (cs ++ []) 42 fun b w' => app w' 38 96 Z42 42 A n c (.slice (some ⟨b, 0, none⟩) 1 1) K) := by
  refine gd_mk (by rw [he.len]; rfl) (nw_mk ?_)
  rw [List.append_nil]
  have hl := he.len
  have f1 : Fr (fun _ => False) w (w.alloc (.cells cs.toArray 42)) := Fr.alloc _ _ _
  have r1 : Row (w.alloc (.cells cs.toArray 42)) 0 42 38 (some ⟨w.heap.size, 0, none⟩) 1 1 cs := Row.new (Nat.zero_le _) (by rw [hl])
  have hs : (w.alloc (.cells cs.toArray 42)).heap.size = w.heap.size + 1 := alloc_size _ _
  have h1 := he.one
  obtain ⟨vs, hv, ht⟩ := hr
  have hA : ∀ k, blkOf A = some k → k < w.heap.size := fun k hk => (hv.blt hk).2
  have ht1 := (ht.app (ERow.one he)).mono (P' := fun k => (blkOf A ≠ some k ∧ P k) ∧ k < w.heap.size) (fun k hk h => ⟨h, hk⟩)
  have ht1 := ht1.fr f1 (fun _ _ h => h)
  generalize w.alloc (.cells cs.toArray 42) = w1 at f1 r1 hs ht1 ⊢
  refine app_row2 (f1.row hv (fun _ _ h => h)) r1.sl.src h1 rfl (by omega) (by omega) (by omega) (fun A' c' w' hr' f' hnew => hK A' c' w' ⟨_, hr', ?_⟩ ?_ ?_)
  · refine (ht1.fr f' (fun k hk h => hk.1.1 h)).mono (fun k _ hk => ⟨fun h => ?_, hk.1.2⟩)
    rcases hnew k h with h' | h'
    · exact hk.1.1 h'
    · have := hk.2; omega
  · exact f1.trans f' (fun _ _ h => h.elim) (fun _ _ h => h)
  · intro k hk
    rcases hnew k hk with h' | h'
    · exact .inl h'
    · exact .inr (by omega)
end Go.Proofs.Ytnablplljilahaa
