/- chapter 21: rows of names' entries, as they lie -/
import Derived.Test.YtklanoocjlpemaaHP
namespace Go.Proofs.Ytklanoocjlpemaa
open Go.GV Go.RowKit Go.Lib
set_option linter.unusedVariables false
set_option linter.unusedSimpArgs false
theorem TnP.mono {P P' : Nat → Prop} {w : World} {cs : List Value} {e : Tn} (h : TnP P w cs e) (hP : ∀ k, k < w.heap.size → P k → P' k) : TnP P' w cs e := by
  obtain ⟨A, n, c, h1, h2, h3, h4⟩ := h
  exact ⟨A, n, c, h1, h2, h3, fun h0 k hk => hP k (h2.blt (by decide) h0 hk) (h4 h0 k hk)⟩
theorem TnP.fr {P D : Nat → Prop} {w w' : World} {cs : List Value} {e : Tn} (h : TnP P w cs e) (f : Fr D w w') (hD : ∀ k, P k → ¬ D k) : TnP P w' cs e := by
  obtain ⟨A, n, c, h1, h2, h3, h4⟩ := h
  exact ⟨A, n, c, h1, f.sl h2 (fun h0 k hk => hD k (h4 h0 k hk)), h3, h4⟩
theorem TnP.fr0 {P : Nat → Prop} {w w' : World} {cs : List Value} {e : Tn} (h : TnP P w cs e) (f : Fr (fun _ => False) w w') : TnP P w' cs e := h.fr f (fun _ _ h => h)
theorem TnP.len {P : Nat → Prop} {w : World} {cs : List Value} {e : Tn} (h : TnP P w cs e) : cs.length = 38 := h.at.len
theorem TnP.one {P : Nat → Prop} {w : World} {cs : List Value} {e : Tn} (h : TnP P w cs e) : ∀ v ∈ cs, v.oneCell' = true := h.at.one
/-! ### a row of cells as chunks -/
def chunk (vs : List Value) (i : Nat) : List Value := (vs.drop (i * 38)).take 38
theorem chunk_l {vs us : List Value} {i : Nat} (h : (i + 1) * 38 ≤ vs.length) : chunk (vs ++ us) i = chunk vs i := by
  unfold chunk
  rw [List.drop_append_of_le_length (by omega), List.take_append_of_le_length (by rw [List.length_drop]; omega)]
theorem chunk_r {vs us : List Value} {n j : Nat} (h : vs.length = n * 38) : chunk (vs ++ us) (n + j) = chunk us j := by
  unfold chunk
  rw [Nat.add_mul, ← h, List.drop_append, List.drop_of_length_le (by omega), List.nil_append]
  congr 2; omega
theorem chunk_take {vs : List Value} {k i : Nat} (h : i < k) : chunk (vs.take (k * 38)) i = chunk vs i := by
  unfold chunk
  rw [List.drop_take, List.take_take, Nat.min_eq_left (by omega)]
theorem chunk_drop {vs : List Value} {k i : Nat} : chunk (vs.drop (k * 38)) i = chunk vs (k + i) := by
  unfold chunk
  rw [List.drop_drop, Nat.add_mul]
theorem chunk_one {cs : List Value} (h : cs.length = 38) : chunk cs 0 = cs := by
  unfold chunk
  rw [Nat.zero_mul, List.drop_zero, List.take_of_length_le (by omega)]
theorem chunk_get {vs : List Value} {i j : Nat} (hj : j < 38) : (chunk vs i)[j]? = vs[i * 38 + j]? := by
  unfold chunk
  rw [List.getElem?_take, if_pos hj, List.getElem?_drop]
theorem chunk_set {vs cs : List Value} {k i : Nat} (hl : cs.length = 38) (hk : (k + 1) * 38 ≤ vs.length) : chunk (splice vs (k * 38) cs) i = if i = k then cs else chunk vs i := by
  have hfit : k * 38 + cs.length ≤ vs.length := by omega
  apply List.ext_getElem?
  intro j
  by_cases hj : j < 38
  · rw [chunk_get hj, splice_get hfit, hl]
    by_cases hik : i = k
    · subst hik
      rw [if_pos rfl, if_neg (by omega), if_pos (by omega)]
      congr 1; omega
    · rw [if_neg hik, chunk_get hj]
      by_cases h1 : i < k
      · rw [if_pos (by omega)]
      · rw [if_neg (by omega), if_neg (by omega)]
  · have hlen : ∀ x : List Value, (chunk x i)[j]? = none := fun x => by
      unfold chunk
      rw [List.getElem?_take, if_neg hj]
    rw [hlen]
    split
    · rw [List.getElem?_eq_none (by omega)]
    · rw [hlen]
structure TRow (P : Nat → Prop) (w : World) (vs : List Value) (l : List Tn) : Prop where
  len : vs.length = l.length * 38
  at_ : ∀ (i : Nat) (e : Tn), l[i]? = some e → TnP P w (chunk vs i) e
theorem TRow.nil (P : Nat → Prop) (w : World) : TRow P w [] [] := ⟨rfl, fun i e h => by simp at h⟩
theorem TRow.mono {P P' : Nat → Prop} {w : World} {vs : List Value} {l : List Tn} (h : TRow P w vs l) (hP : ∀ k, k < w.heap.size → P k → P' k) : TRow P' w vs l := ⟨h.len, fun i e hi => (h.at_ i e hi).mono hP⟩
theorem TRow.fr {P D : Nat → Prop} {w w' : World} {vs : List Value} {l : List Tn} (h : TRow P w vs l) (f : Fr D w w') (hD : ∀ k, P k → ¬ D k) : TRow P w' vs l := ⟨h.len, fun i e hi => (h.at_ i e hi).fr f hD⟩
theorem TRow.one {P : Nat → Prop} {w : World} {cs : List Value} {e : Tn} (h : TnP P w cs e) : TRow P w cs [e] := by
  refine ⟨by rw [h.len]; rfl, fun i x hi => ?_⟩
  match i, hi with
  | 0, hi => injection hi with hi; subst hi; rw [chunk_one h.len]; exact h
  | i + 1, hi => simp at hi
theorem TRow.app {P : Nat → Prop} {w : World} {vs us : List Value} {l m : List Tn} (h : TRow P w vs l) (h' : TRow P w us m) : TRow P w (vs ++ us) (l ++ m) := by
  refine ⟨by rw [List.length_append, List.length_append, h.len, h'.len, Nat.add_mul], fun i e hi => ?_⟩
  by_cases hil : i < l.length
  · rw [List.getElem?_append_left hil] at hi
    rw [chunk_l (by rw [h.len]; exact Nat.mul_le_mul_right _ hil)]
    exact h.at_ i e hi
  · rw [List.getElem?_append_right (by omega)] at hi
    have : i = l.length + (i - l.length) := by omega
    rw [this, chunk_r h.len]
    exact h'.at_ _ e hi
theorem TRow.take {P : Nat → Prop} {w : World} {vs : List Value} {l : List Tn} (h : TRow P w vs l) (k : Nat) : TRow P w (vs.take (k * 38)) (l.take k) := by
  refine ⟨by rw [List.length_take, List.length_take, h.len]; omega, fun i e hi => ?_⟩
  rw [List.getElem?_take] at hi
  split at hi
  · rw [chunk_take (by assumption)]; exact h.at_ i e hi
  · cases hi
theorem TRow.drop {P : Nat → Prop} {w : World} {vs : List Value} {l : List Tn} (h : TRow P w vs l) (k : Nat) : TRow P w (vs.drop (k * 38)) (l.drop k) := by
  refine ⟨by rw [List.length_drop, List.length_drop, h.len]; omega, fun i e hi => ?_⟩
  rw [List.getElem?_drop] at hi
  rw [chunk_drop]; exact h.at_ _ e hi
theorem TRow.set {P : Nat → Prop} {w : World} {vs cs : List Value} {l : List Tn} {k : Nat} {e : Tn} (h : TRow P w vs l) (he : TnP P w cs e) (hk : k < l.length) : TRow P w (splice vs (k * 38) cs) (l.set k e) := by
  have hfit : (k + 1) * 38 ≤ vs.length := by rw [h.len]; exact Nat.mul_le_mul_right _ hk
  have hl := he.len
  refine ⟨by rw [splice_length (by omega), List.length_set]; exact h.len, fun i x hi => ?_⟩
  rw [chunk_set hl hfit]
  by_cases hik : i = k
  · subst hik
    rw [if_pos rfl]
    rw [List.getElem?_set_self hk] at hi
    injection hi with hi; subst hi; exact he
  · rw [if_neg hik]
    rw [List.getElem?_set_ne (fun h => hik h.symm)] at hi
    exact h.at_ i x hi
theorem TRow.ones {P : Nat → Prop} {w : World} {vs : List Value} {l : List Tn} (h : TRow P w vs l) : ∀ v ∈ vs, v.oneCell' = true := by
  intro v hv
  obtain ⟨j, hj, rfl⟩ := List.mem_iff_getElem.1 hv
  have hi : j / 38 < l.length := by
    have := h.len
    omega
  have h1 := h.at_ (j / 38) _ (List.getElem?_eq_getElem hi)
  refine h1.one _ (List.mem_of_getElem? (i := j % 38) ?_)
  rw [chunk_get (by omega), List.getElem?_eq_some_iff]
  refine ⟨by omega, ?_⟩
  congr 1; omega
/-- a table that can be read -/
def RT (P : Nat → Prop) (w : World) (A : Option Addr) (n : Nat) (l : List Tn) : Prop := ∃ vs, Sl w 38 A n vs ∧ TRow P w vs l
theorem RT.len {P : Nat → Prop} {w : World} {A : Option Addr} {n : Nat} {l : List Tn} (h : RT P w A n l) : l.length = n := by
  obtain ⟨vs, h1, h2⟩ := h
  have := h1.1
  rw [h2.len] at this
  omega
theorem RT.fr {P D : Nat → Prop} {w w' : World} {A : Option Addr} {n : Nat} {l : List Tn} (h : RT P w A n l) (f : Fr D w w') (hD : ∀ k, P k → ¬ D k) (hA : n ≠ 0 → ∀ k, blkOf A = some k → ¬ D k) : RT P w' A n l := by
  obtain ⟨vs, h1, h2⟩ := h
  exact ⟨vs, f.sl h1 hA, h2.fr f hD⟩
theorem RT.fr0 {P : Nat → Prop} {w w' : World} {A : Option Addr} {n : Nat} {l : List Tn} (h : RT P w A n l) (f : Fr (fun _ => False) w w') : RT P w' A n l := h.fr f (fun _ _ h => h) (fun _ _ _ h => h)
theorem RT.mono {P P' : Nat → Prop} {w : World} {A : Option Addr} {n : Nat} {l : List Tn} (h : RT P w A n l) (hP : ∀ k, k < w.heap.size → P k → P' k) : RT P' w A n l := by
  obtain ⟨vs, h1, h2⟩ := h
  exact ⟨vs, h1, h2.mono hP⟩
theorem RT.nil (P : Nat → Prop) (w : World) (A : Option Addr) : RT P w A 0 [] := ⟨[], Sl.nil _ _ _, TRow.nil _ _⟩
/-- a step of a loop over a table -/
theorem t_rd {P : Nat → Prop} {w : World} {A : Option Addr} {n : Nat} {l : List Tn} (h : RT P w A n l) {i : Nat} {e : Tn} (hi : l[i]? = some e) {X : Nat → Nat → Prop}
    (hX : ∀ b o cs, A = some ⟨b, o, none⟩ → TnP P w cs e → cellsAt w b (o + ((i : Int)).toNat * 38) cs → X b o) : dr A fun b o => gd (decide (0 ≤ (i : Int))) (gd (decide ((i : Int) < ((n : Nat) : Int))) (X b o)) := by
  have hl := h.len
  have hil := (List.getElem?_eq_some_iff.1 hi).1
  obtain ⟨vs, h1, h2⟩ := h
  obtain ⟨b, o, rfl, hc⟩ := h1.2 (by omega)
  have ht := h2.at_ i e hi
  refine dr_mk (gd_mk (decide_eq_true (by omega)) (gd_mk (decide_eq_true (by omega)) (hX b o _ rfl ht ?_)))
  rw [Int.toNat_natCast]
  intro j v hj
  have hj38 : j < 38 := by have := (List.getElem?_eq_some_iff.1 hj).1; rw [ht.len] at this; exact this
  rw [chunk_get hj38] at hj
  rw [Nat.add_assoc]
  exact hc _ v hj
theorem c_nm {P : Nat → Prop} {w w' : World} {cs : List Value} {e : Tn} {b p : Nat} (h : TnP P w' cs e) (hc : cellsAt w b p cs) : cellAt w b p = some (.string e.nm) := by
  obtain ⟨A, n, c, rfl, _⟩ := h
  exact hc 0 _ rfl
theorem c_gone {P : Nat → Prop} {w w' : World} {cs : List Value} {e : Tn} {b p : Nat} (h : TnP P w' cs e) (hc : cellsAt w b p cs) : cellAt w b (p + 33) = some (.bool e.g) := by
  obtain ⟨A, n, c, rfl, _, hd, _⟩ := h
  refine hc 33 _ ?_
  unfold Tn.cs
  rw [List.getElem?_append_right (by simp), List.getElem?_append_right (by simp [hd])]
  simp [hd]
theorem c_dig {P : Nat → Prop} {w w' : World} {cs : List Value} {e : Tn} {b p : Nat} (h : TnP P w' cs e) (hc : cellsAt w b p cs) : cellsAt w b (p + 1) (e.d.map bv) := by
  obtain ⟨A, n, c, rfl, _⟩ := h
  intro j v hj
  have hj' := (List.getElem?_eq_some_iff.1 hj).1
  rw [Nat.add_assoc]
  refine hc (1 + j) v ?_
  unfold Tn.cs
  rw [List.getElem?_append_right (by simp), List.getElem?_append_left (by simpa using hj')]
  simpa using hj
theorem TnP.dl {P : Nat → Prop} {w : World} {cs : List Value} {e : Tn} (h : TnP P w cs e) : e.d.length = 32 := by
  obtain ⟨A, n, c, _, _, hd, _⟩ := h
  exact hd
/-- a table of one's own -/
def OT (P : Nat → Prop) (w : World) (B : Nat) (A : Option Addr) (n c : Nat) (l : List Tn) : Prop := ∃ vs, Row w B 34 38 A n c vs ∧ TRow (fun k => blkOf A ≠ some k ∧ P k) w vs l
theorem OT.rt {P : Nat → Prop} {w : World} {B : Nat} {A : Option Addr} {n c : Nat} {l : List Tn} (h : OT P w B A n c l) : RT P w A n l := by
  obtain ⟨vs, h1, h2⟩ := h
  exact ⟨vs, h1.sl, h2.mono (fun _ _ h => h.2)⟩
theorem OT.nil (P : Nat → Prop) (w : World) (B : Nat) : OT P w B none 0 0 [] := ⟨[], Row.nil _ _ _ _, TRow.nil _ _⟩
theorem OT.fr {P D : Nat → Prop} {w w' : World} {B : Nat} {A : Option Addr} {n c : Nat} {l : List Tn} (h : OT P w B A n c l) (f : Fr D w w') (hD : ∀ k, P k → ¬ D k) (hA : ∀ k, blkOf A = some k → ¬ D k) : OT P w' B A n c l := by
  obtain ⟨vs, h1, h2⟩ := h
  exact ⟨vs, f.row h1 hA, h2.fr f (fun k hk => hD k hk.2)⟩
theorem OT.fr0 {P : Nat → Prop} {w w' : World} {B : Nat} {A : Option Addr} {n c : Nat} {l : List Tn} (h : OT P w B A n c l) (f : Fr (fun _ => False) w w') : OT P w' B A n c l := h.fr f (fun _ _ h => h) (fun _ _ h => h)
theorem OT.mono {P P' : Nat → Prop} {w : World} {B B' : Nat} {A : Option Addr} {n c : Nat} {l : List Tn} (h : OT P w B A n c l) (hB : B' ≤ B) (hP : ∀ k, k < w.heap.size → P k → P' k) : OT P' w B' A n c l := by
  obtain ⟨vs, h1, h2⟩ := h
  exact ⟨vs, row_low hB h1, h2.mono (fun k hk h => ⟨h.1, hP k hk h.2⟩)⟩
theorem OT.blt {P : Nat → Prop} {w : World} {B : Nat} {A : Option Addr} {n c : Nat} {l : List Tn} (h : OT P w B A n c l) {k : Nat} (hk : blkOf A = some k) : B ≤ k ∧ k < w.heap.size := by
  obtain ⟨vs, h1, h2⟩ := h
  exact h1.blt hk
theorem z34o : ∀ v ∈ Z34, v.oneCell' = true := by decide
set_option maxRecDepth 10000 in
theorem pushT {P : Nat → Prop} {w : World} {B : Nat} {A : Option Addr} {n c : Nat} {l : List Tn} {cs : List Value} {e : Tn} {K : Option Addr → Nat → Nat → World → Prop} (hr : OT P w B A n c l) (he : TnP (fun k => blkOf A ≠ some k ∧ P k) w cs e) (hB : B ≤ w.heap.size) (hn : n ≤ 1073741824)
    (hK : ∀ A' c' w', OT P w' B A' (n + 1) c' (l ++ [e]) → Fr (fun k => blkOf A = some k) w w' → (∀ k, blkOf A' = some k → blkOf A = some k ∨ w.heap.size ≤ k) → K A' (n + 1) c' w') :
    gd (cs.length == 38) (nw w (cs ++ []) 34 fun b w' => app w' 38 104 Z34 34 A n c (.slice (some ⟨b, 0, none⟩) 1 1) K) := by
  refine gd_mk (by rw [he.len]; rfl) (nw_mk ?_)
  rw [List.append_nil]
  have hl := he.len
  have f1 : Fr (fun _ => False) w (w.alloc (.cells cs.toArray 34)) := Fr.alloc _ _ _
  have r1 : Row (w.alloc (.cells cs.toArray 34)) 0 34 38 (some ⟨w.heap.size, 0, none⟩) 1 1 cs := Row.new (Nat.zero_le _) (by rw [hl])
  have hs : (w.alloc (.cells cs.toArray 34)).heap.size = w.heap.size + 1 := alloc_size _ _
  have h1 := he.one
  obtain ⟨vs, hv, ht⟩ := hr
  have hA : ∀ k, blkOf A = some k → k < w.heap.size := fun k hk => (hv.blt hk).2
  have ht1 := (ht.app (TRow.one he)).mono (P' := fun k => (blkOf A ≠ some k ∧ P k) ∧ k < w.heap.size) (fun k hk h => ⟨h, hk⟩)
  have ht1 := ht1.fr f1 (fun _ _ h => h)
  generalize w.alloc (.cells cs.toArray 34) = w1 at f1 r1 hs ht1 ⊢
  refine app_row2 (f1.row hv (fun _ _ h => h)) r1.sl.src h1 rfl (by omega) (by omega) (by omega) (fun A' c' w' hr' f' hnew => hK A' c' w' ⟨_, hr', ?_⟩ ?_ ?_)
  · refine (ht1.fr f' (fun k hk h => hk.1.1 h)).mono (fun k _ hk => ⟨fun h => ?_, hk.1.2⟩)
    rcases hnew k h with h' | h'
    · exact hk.1.1 h'
    · have := hk.2; omega
  · exact f1.trans f' (fun _ _ h => h.elim) (fun _ _ h => h)
  · intro k hk
    rcases hnew k hk with h' | h'
    · exact .inl h'
    · exact .inr (by omega)
end Go.Proofs.Ytklanoocjlpemaa
