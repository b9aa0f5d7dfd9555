/- MY OWN ENGINE, part 8: words for proofs: frames, rows, loops. -/
import Derived.Test.YtfhimpkpfelilaaDoorG7
import Derived.RowKit
namespace Go.GV
open Go Go.RowKit
set_option linter.unusedSimpArgs false
set_option linter.unusedVariables false

/-! ### loops -/
theorem loop_rule {σ : Type} {B : σ → World → (σ → World → Prop) → Prop} (I : σ → World → Prop) (m : σ → World → Nat)
    (h : ∀ s w C, I s w → (∀ s' w', I s' w' → m s' w' < m s w → C s' w') → B s w C) (s : σ) (w : World) (hI : I s w) : ∃ n, loopC B n s w := by
  have key : ∀ n s w, I s w → m s w < n → loopC B n s w := by
    intro n
    induction n with
    | zero => intro s w _ h; omega
    | succ n ih =>
      intro s w hI hm
      exact h s w _ hI (fun s' w' hI' hlt => ih s' w' hI' (by omega))
  exact ⟨_, key _ s w hI (Nat.lt_succ_self _)⟩

/-! ### frames: what lies outside S is as it was -/
structure Fr (S : Nat → Prop) (w w' : World) : Prop where
  os : w'.os = w.os
  tape : w'.tape = w.tape
  output : w'.output = w.output
  size : w.heap.size ≤ w'.heap.size
  block : ∀ k, k < w.heap.size → ¬ S k → w'.heap[k]? = w.heap[k]?
theorem Fr.refl (S : Nat → Prop) (w : World) : Fr S w w := ⟨rfl, rfl, rfl, Nat.le_refl _, fun _ _ _ => rfl⟩
theorem Fr.mono {S T : Nat → Prop} {w w' : World} (h : Fr S w w') (hh : ∀ k, k < w.heap.size → S k → T k) : Fr T w w' :=
  ⟨h.os, h.tape, h.output, h.size, fun k hk hn => h.block k hk (fun hs => hn (hh k hk hs))⟩
theorem Fr.trans {S T U : Nat → Prop} {a b c : World} (h : Fr S a b) (k : Fr T b c) (hS : ∀ i, i < a.heap.size → S i → U i) (hT : ∀ i, i < a.heap.size → T i → U i) : Fr U a c :=
  ⟨k.os.trans h.os, k.tape.trans h.tape, k.output.trans h.output, Nat.le_trans h.size k.size,
    fun i hi hn => (k.block i (Nat.lt_of_lt_of_le hi h.size) (fun ht => hn (hT i hi ht))).trans (h.block i hi (fun hs => hn (hS i hi hs)))⟩
theorem Fr.trans1 {S : Nat → Prop} {a b c : World} (h : Fr S a b) (k : Fr S b c) : Fr S a c := h.trans k (fun _ _ h => h) (fun _ _ h => h)
theorem Fr.drew (S : Nat → Prop) (w : World) : Fr S w w.drew := ⟨rfl, rfl, rfl, Nat.le_refl _, fun _ _ _ => rfl⟩
theorem heap_alloc_at (w : World) (o : Obj) : (w.alloc o).heap[w.heap.size]? = some o := by unfold World.alloc; simp
theorem heap_alloc_lt {w : World} {o : Obj} {k : Nat} (h : k < w.heap.size) : (w.alloc o).heap[k]? = w.heap[k]? := by
  unfold World.alloc; simp [Array.getElem?_push, Nat.ne_of_lt h]
theorem alloc_size (w : World) (o : Obj) : (w.alloc o).heap.size = w.heap.size + 1 := by unfold World.alloc; simp
theorem Fr.alloc (S : Nat → Prop) (w : World) (o : Obj) : Fr S w (w.alloc o) := ⟨rfl, rfl, rfl, by rw [alloc_size]; omega, fun k hk _ => heap_alloc_lt hk⟩
theorem Fr.st {S : Nat → Prop} {w : World} {b o : Nat} {vs : List Value} (h : b < w.heap.size → S b) : Fr S w (stB w b o vs) :=
  ⟨rfl, rfl, rfl, by rw [stB_size]; exact Nat.le_refl _, fun k hk hn => stB_other (fun e => hn (by subst e; exact h hk))⟩
theorem itW_heap {w : World} {b : Nat} {s : ByteArray} {p : Nat} (h : b < w.heap.size) : (itW w b s p).heap[b]? = some (.stringIter s p) := by
  simp [itW, h]
theorem itW_other {w : World} {b k : Nat} {s : ByteArray} {p : Nat} (h : k ≠ b) : (itW w b s p).heap[k]? = w.heap[k]? := by
  simp [itW, Array.getElem?_setIfInBounds, (Ne.symm h)]
theorem itW_size (w : World) (b : Nat) (s : ByteArray) (p : Nat) : (itW w b s p).heap.size = w.heap.size := by simp [itW]
theorem Fr.it {S : Nat → Prop} {w : World} {b : Nat} {s : ByteArray} {p : Nat} (h : b < w.heap.size → S b) : Fr S w (itW w b s p) :=
  ⟨rfl, rfl, rfl, by rw [itW_size]; exact Nat.le_refl _, fun k hk hn => itW_other (fun e => hn (by subst e; exact h hk))⟩
theorem Fr.of_below {S : Nat → Prop} {B : Nat} {w w' : World} (h : Below B w w') (hS : ∀ k, k < w.heap.size → B ≤ k → S k) : Fr S w w' :=
  ⟨h.os, h.tape, h.output, h.size, fun k hk hn => h.block k (by rcases Nat.lt_or_ge k B with hh | hh; exact hh; exact absurd (hS k hk hh) hn)⟩
theorem Fr.below {S : Nat → Prop} {B : Nat} {w w' : World} (h : Fr S w w') (hS : ∀ k, S k → B ≤ k) (hB : B ≤ w.heap.size) : Below B w w' :=
  ⟨h.os, h.tape, h.output, h.size, fun k hk => h.block k (by omega) (fun hs => by have := hS k hs; omega)⟩
theorem heap_lt {w : World} {k : Nat} {o : Obj} (h : w.heap[k]? = some o) : k < w.heap.size := (Array.getElem?_eq_some_iff.1 h).1
theorem Fr.at {S : Nat → Prop} {w w' : World} (h : Fr S w w') {k : Nat} {o : Obj} (hk : w.heap[k]? = some o) (hn : ¬ S k) : w'.heap[k]? = some o :=
  (h.block k (heap_lt hk) hn).trans hk

/-! ### reading -/
theorem cellAt_of_heap {w w' : World} {b o : Nat} (h : w'.heap[b]? = w.heap[b]?) : cellAt w' b o = cellAt w b o := by simp [cellAt, World.cell?, h]
theorem cellAt_blk {w : World} {b o : Nat} {c : Array Value} {e : TypeId} {f : Nat × Nat} (h : w.heap[b]? = some (.cells c e f)) : cellAt w b o = c[o]? := by
  simp [cellAt, World.cell?, h]
theorem cellAt_lt {w : World} {b o : Nat} {v : Value} (h : cellAt w b o = some v) : b < w.heap.size := World.block_lt_of_cell? _ _ h
theorem Fr.cell {S : Nat → Prop} {w w' : World} (h : Fr S w w') {b o : Nat} {v : Value} (hc : cellAt w b o = some v) (hn : ¬ S b) : cellAt w' b o = some v :=
  (cellAt_of_heap (h.block b (cellAt_lt hc) hn)).trans hc
theorem Fr.cells {S : Nat → Prop} {w w' : World} (h : Fr S w w') {b o : Nat} {vs : List Value} (hc : cellsAt w b o vs) (hn : ¬ S b) : cellsAt w' b o vs :=
  fun j v hj => h.cell (hc j v hj) hn
def blkOf : Option Addr → Option Nat
  | some a => some a.block
  | none => none
/-- the slice (A, n) reads as these cells, sz an element -/
def Sl (w : World) (sz : Nat) (A : Option Addr) (n : Nat) (vs : List Value) : Prop :=
  vs.length = n * sz ∧ (n ≠ 0 → ∃ b o, A = some ⟨b, o, none⟩ ∧ cellsAt w b o vs)
theorem Sl.src {w : World} {sz : Nat} {A : Option Addr} {n c : Nat} {vs : List Value} (h : Sl w sz A n vs) : srcOf w sz (.slice A n c) n vs :=
  ⟨rfl, h.1, fun h0 => by obtain ⟨b, o, rfl, hc⟩ := h.2 h0; exact hc⟩
theorem Fr.sl {S : Nat → Prop} {w w' : World} (h : Fr S w w') {sz : Nat} {A : Option Addr} {n : Nat} {vs : List Value} (hs : Sl w sz A n vs) (hn : n ≠ 0 → ∀ b, blkOf A = some b → ¬ S b) : Sl w' sz A n vs :=
  ⟨hs.1, fun h0 => by obtain ⟨b, o, rfl, hc⟩ := hs.2 h0; exact ⟨b, o, rfl, h.cells hc (hn h0 b rfl)⟩⟩
theorem Sl.nil (w : World) (sz : Nat) (A : Option Addr) : Sl w sz A 0 [] := ⟨by simp, fun h => absurd rfl h⟩
theorem Sl.get {w : World} {A : Option Addr} {n : Nat} {vs : List Value} (h : Sl w 1 A n vs) {i : Nat} (hi : i < n) {v : Value} (hv : vs[i]? = some v) : ∃ b o, A = some ⟨b, o, none⟩ ∧ cellAt w b (o + i * 1) = some v := by
  obtain ⟨b, o, e, hc⟩ := h.2 (by omega)
  exact ⟨b, o, e, by rw [Nat.mul_one]; exact hc i v hv⟩
theorem Sl.blt {w : World} {sz : Nat} {A : Option Addr} {n : Nat} {vs : List Value} (h : Sl w sz A n vs) (hz : sz ≠ 0) (h0 : n ≠ 0) {b : Nat} (hb : blkOf A = some b) : b < w.heap.size := by
  obtain ⟨b', o, rfl, hc⟩ := h.2 h0
  simp only [blkOf, Option.some.injEq] at hb
  subst hb
  have hl : 0 < vs.length := by rw [h.1]; exact Nat.mul_pos (by omega) (by omega)
  exact cellAt_lt (hc 0 _ (List.getElem?_eq_getElem hl))
/-! ### a row of one's own: it begins its block, which nothing freezes -/
structure Row (w : World) (B : Nat) (e : TypeId) (sz : Nat) (A : Option Addr) (n c : Nat) (vs : List Value) : Prop where
  len : vs.length = n * sz
  le : n ≤ c
  at_ : (A = none ∧ n = 0 ∧ c = 0) ∨ ∃ b cs, A = some ⟨b, 0, none⟩ ∧ B ≤ b ∧ w.heap[b]? = some (.cells cs e (0, 0)) ∧ cs.size = c * sz ∧ cs.toList.take (n * sz) = vs
theorem Row.nil (w : World) (B : Nat) (e : TypeId) (sz : Nat) : Row w B e sz none 0 0 [] := ⟨by simp, Nat.le_refl _, .inl ⟨rfl, rfl, rfl⟩⟩
theorem cellsAt_take {w : World} {b : Nat} {cs : Array Value} {e : TypeId} {f : Nat × Nat} {m : Nat} {vs : List Value} (h : w.heap[b]? = some (.cells cs e f)) (ht : cs.toList.take m = vs) : cellsAt w b 0 vs := by
  intro j v hj
  rw [cellAt_blk h, Nat.zero_add]
  subst ht
  rw [List.getElem?_take] at hj
  split at hj
  · simpa using hj
  · cases hj
theorem Row.sl {w : World} {B : Nat} {e : TypeId} {sz : Nat} {A : Option Addr} {n c : Nat} {vs : List Value} (h : Row w B e sz A n c vs) : Sl w sz A n vs := by
  refine ⟨h.len, fun h0 => ?_⟩
  rcases h.at_ with ⟨_, h1, _⟩ | ⟨b, cs, rfl, _, hb, hs, ht⟩
  · exact absurd h1 h0
  · exact ⟨b, 0, rfl, cellsAt_take hb ht⟩
theorem Fr.row {S : Nat → Prop} {w w' : World} (h : Fr S w w') {B : Nat} {e : TypeId} {sz : Nat} {A : Option Addr} {n c : Nat} {vs : List Value} (hr : Row w B e sz A n c vs) (hn : ∀ b, blkOf A = some b → ¬ S b) : Row w' B e sz A n c vs := by
  refine ⟨hr.len, hr.le, ?_⟩
  rcases hr.at_ with h1 | ⟨b, cs, rfl, hB, hb, hs, ht⟩
  · exact .inl h1
  · exact .inr ⟨b, cs, rfl, hB, h.at hb (hn b rfl), hs, ht⟩
theorem Row.blt {w : World} {B : Nat} {e : TypeId} {sz : Nat} {A : Option Addr} {n c : Nat} {vs : List Value} (h : Row w B e sz A n c vs) {b : Nat} (hb : blkOf A = some b) : B ≤ b ∧ b < w.heap.size := by
  rcases h.at_ with ⟨rfl, _, _⟩ | ⟨b', cs, rfl, hB, hh, _, _⟩
  · simp [blkOf] at hb
  · simp only [blkOf, Option.some.injEq] at hb; subst hb; exact ⟨hB, heap_lt hh⟩
theorem splice_take {c : List Value} {n : Nat} {old vs : List Value} (ht : c.take n = old) (hn : old.length = n) : (splice c n vs).take (n + vs.length) = old ++ vs := by
  unfold splice
  rw [ht, List.take_append_of_le_length (by simp [hn]), List.take_of_length_le (by simp [hn])]
theorem splice_length {c : List Value} {n : Nat} {vs : List Value} (h : n + vs.length ≤ c.length) : (splice c n vs).length = c.length := by
  simp [splice]; omega
/-- APPEND to a row of one's own. -/
theorem app_row2 {w : World} {B : Nat} {e : TypeId} {sz bytes : Nat} {z : List Value} {A : Option Addr} {n c : Nat} {x : Value} {old us : List Value} {m : Nat} {K : Option Addr → Nat → Nat → World → Prop}
    (hr : Row w B e sz A n c old) (hx : srcOf w sz x m us) (h1 : ∀ v ∈ us, v.oneCell' = true) (hz : z.length = sz) (hb : (n + m) * bytes ≤ 140737488355328) (hm : n + m ≤ 9223372036854775807) (hB : B ≤ w.heap.size)
    (hK : ∀ A' c' w', Row w' B e sz A' (n + m) c' (old ++ us) → Fr (fun k => blkOf A = some k) w w' → (∀ k, blkOf A' = some k → blkOf A = some k ∨ w.heap.size ≤ k) → K A' (n + m) c' w') : app w sz bytes z e A n c x K := by
  have hul : us.length = m * sz := by
    unfold srcOf at hx
    split at hx
    · obtain ⟨rfl, h, _⟩ := hx; exact h
    · obtain ⟨rfl, rfl, rfl⟩ := hx; simp
    · exact hx.elim
  refine ⟨m, us, hx, h1, hb, hm, fun hle => ⟨fun h0 => ?_, fun h0 => ?_⟩, fun hlt => ⟨old, hr.sl.src, fun cap hc1 hc2 => ?_⟩⟩
  · subst h0
    have : us = [] := List.length_eq_zero_iff.1 (by simpa using hul)
    subst this
    exact hK A c w (by rw [List.append_nil]; exact hr) (Fr.refl _ _) (fun _ h => .inl h)
  · rcases hr.at_ with ⟨rfl, rfl, rfl⟩ | ⟨b, cs, rfl, hBb, hh, hs, ht⟩
    · omega
    · have hfit : n * sz + us.length ≤ cs.size := by rw [hs, hul, ← Nat.add_mul]; exact Nat.mul_le_mul_right _ hle
      show st w b (0 + n * sz) us _
      rw [Nat.zero_add]
      refine ⟨⟨cs, e, 0, 0, hh, hfit, .inl (Nat.zero_le _)⟩, h1, ?_⟩
      refine hK _ _ _ ⟨by rw [List.length_append, hr.len, hul, Nat.add_mul], hle, .inr ⟨b, _, rfl, hBb, stB_heap hh, ?_, ?_⟩⟩ (Fr.st (fun _ => rfl)) (fun _ h => .inl h)
      · simp only [List.size_toArray]; rw [splice_length (by simpa using hfit)]; simpa using hs
      · have := splice_take (vs := us) ht hr.len
        rw [hul, ← Nat.add_mul] at this
        simpa using this
  · refine hK _ _ _ ⟨by rw [List.length_append, hr.len, hul, Nat.add_mul], hc1, .inr ⟨_, _, rfl, ?_, heap_alloc_at _ _, ?_, ?_⟩⟩ ?_ (fun k hk => .inr (by simp only [blkOf, Option.some.injEq] at hk; subst hk; exact Nat.le_refl _))
    · exact hB
    · simp only [List.size_toArray, List.length_append, zeros_length, hr.len, hul, hz, ← Nat.add_mul]
      congr 1; omega
    · simp only [List.append_assoc]
      rw [← List.append_assoc, List.take_append_of_le_length (by rw [List.length_append, hr.len, hul, ← Nat.add_mul]; exact Nat.le_refl _), List.take_of_length_le (by rw [List.length_append, hr.len, hul, ← Nat.add_mul]; exact Nat.le_refl _)]
    · exact (Fr.drew _ w).trans1 (Fr.alloc _ _ _)
theorem app_row {w : World} {B : Nat} {e : TypeId} {sz bytes : Nat} {z : List Value} {A : Option Addr} {n c : Nat} {x : Value} {old us : List Value} {m : Nat} {K : Option Addr → Nat → Nat → World → Prop}
    (hr : Row w B e sz A n c old) (hx : srcOf w sz x m us) (h1 : ∀ v ∈ us, v.oneCell' = true) (hz : z.length = sz) (hb : (n + m) * bytes ≤ 140737488355328) (hm : n + m ≤ 9223372036854775807) (hB : B ≤ w.heap.size)
    (hK : ∀ A' c' w', Row w' B e sz A' (n + m) c' (old ++ us) → Fr (fun k => blkOf A = some k) w w' → K A' (n + m) c' w') : app w sz bytes z e A n c x K :=
  app_row2 hr hx h1 hz hb hm hB (fun A' c' w' h f _ => hK A' c' w' h f)
/-- .. of zero elements. -/
theorem appZ_row {w : World} {B : Nat} {e : TypeId} {sz bytes : Nat} {z : List Value} {A : Option Addr} {n c : Nat} {x : Int} {old : List Value} {m : Nat} {K : Option Addr → Nat → Nat → World → Prop}
    (hr : Row w B e sz A n c old) (hx : IntKind.wrap .i64 x = (m : Int)) (h48 : (m : Int) * bytes ≤ 281474976710656) (h1 : ∀ v ∈ z, v.oneCell' = true) (hz : z.length = sz) (hb : (n + m) * bytes ≤ 140737488355328) (hm : n + m ≤ 9223372036854775807) (hB : B ≤ w.heap.size)
    (hK : ∀ A' c' w', Row w' B e sz A' (n + m) c' (old ++ zeros m z) → Fr (fun k => blkOf A = some k) w w' → K A' (n + m) c' w') : appZ w sz bytes z e A n c x K := by
  have hul : (zeros m z).length = m * sz := by rw [zeros_length, hz]
  have h1z : ∀ v ∈ zeros m z, v.oneCell' = true := fun v hv => by
    simp only [zeros, List.mem_flatten, List.mem_replicate] at hv
    obtain ⟨l, ⟨_, rfl⟩, hv⟩ := hv
    exact h1 v hv
  unfold appZ
  rw [hx, Int.toNat_natCast]
  refine ⟨Int.natCast_nonneg m, h48, h1, hb, hm, fun hle => ⟨fun h0 => ?_, fun h0 => ?_⟩, fun hlt => ⟨old, hr.sl.src, fun cap hc1 hc2 => ?_⟩⟩
  · subst h0
    have : zeros 0 z = [] := rfl
    exact hK A c w (by rw [this, List.append_nil]; exact hr) (Fr.refl _ _)
  · rcases hr.at_ with ⟨rfl, rfl, rfl⟩ | ⟨b, cs, rfl, hBb, hh, hs, ht⟩
    · omega
    · have hfit : n * sz + (zeros m z).length ≤ cs.size := by rw [hs, hul, ← Nat.add_mul]; exact Nat.mul_le_mul_right _ hle
      show st w b (0 + n * sz) (zeros m z) _
      rw [Nat.zero_add]
      refine ⟨⟨cs, e, 0, 0, hh, hfit, .inl (Nat.zero_le _)⟩, h1z, ?_⟩
      refine hK _ _ _ ⟨by rw [List.length_append, hr.len, hul, Nat.add_mul], hle, .inr ⟨b, _, rfl, hBb, stB_heap hh, ?_, ?_⟩⟩ (Fr.st (fun _ => rfl))
      · simp only [List.size_toArray]; rw [splice_length (by simpa using hfit)]; simpa using hs
      · have := splice_take (vs := zeros m z) ht hr.len
        rw [hul, ← Nat.add_mul] at this
        simpa using this
  · refine hK _ _ _ ⟨by rw [List.length_append, hr.len, hul, Nat.add_mul], hc1, .inr ⟨_, _, rfl, ?_, heap_alloc_at _ _, ?_, ?_⟩⟩ ?_
    · exact hB
    · simp only [List.size_toArray, List.length_append, zeros_length, hr.len, hul, hz, ← Nat.add_mul]
      congr 1; omega
    · simp only [List.append_assoc]
      rw [← List.append_assoc, List.take_append_of_le_length (by rw [List.length_append, hr.len, hul, ← Nat.add_mul]; exact Nat.le_refl _), List.take_of_length_le (by rw [List.length_append, hr.len, hul, ← Nat.add_mul]; exact Nat.le_refl _)]
    · exact (Fr.drew _ w).trans1 (Fr.alloc _ _ _)
/-- the slice literal's row: new, and whole -/
theorem Row.new {w : World} {B : Nat} {e : TypeId} {sz n : Nat} {vs : List Value} (hB : B ≤ w.heap.size) (hl : vs.length = n * sz) : Row (w.alloc (.cells vs.toArray e)) B e sz (some ⟨w.heap.size, 0, none⟩) n n vs :=
  ⟨hl, Nat.le_refl _, .inr ⟨_, _, rfl, hB, heap_alloc_at _ _, by simp [hl], by simp [← hl]⟩⟩
/-- a made row, some of it in use -/
theorem Row.made {w : World} {B : Nat} {e : TypeId} {sz n c : Nat} {z : List Value} (hB : B ≤ w.heap.size) (hz : z.length = sz) (hn : n ≤ c) : Row (w.alloc (.cells (zeros c z).toArray e)) B e sz (some ⟨w.heap.size, 0, none⟩) n c (zeros n z) := by
  refine ⟨by rw [zeros_length, hz], hn, .inr ⟨_, _, rfl, hB, heap_alloc_at _ _, by simp [zeros_length, hz], ?_⟩⟩
  have e1 : zeros c z = zeros n z ++ zeros (c - n) z := by
    unfold zeros
    rw [← List.flatten_append, List.replicate_append_replicate]
    congr 2; omega
  simp only [e1]
  rw [List.take_append_of_le_length (by rw [zeros_length, hz]; exact Nat.le_refl _), List.take_of_length_le (by rw [zeros_length, hz]; exact Nat.le_refl _)]
/-! ### a block that is known whole -/
def RecAt (w : World) (b : Nat) (e : TypeId) (cs : List Value) : Prop := w.heap[b]? = some (.cells cs.toArray e (0, 0))
theorem RecAt.lt {w : World} {b : Nat} {e : TypeId} {cs : List Value} (h : RecAt w b e cs) : b < w.heap.size := heap_lt h
theorem RecAt.cell {w : World} {b : Nat} {e : TypeId} {cs : List Value} (h : RecAt w b e cs) {o : Nat} {v : Value} (hv : cs[o]? = some v) : cellAt w b o = some v := by rw [cellAt_blk h]; simpa using hv
theorem RecAt.get {w : World} {b : Nat} {e : TypeId} {cs : List Value} (h : RecAt w b e cs) {o : Nat} {v : Value} (hc : cellAt w b o = some v) : cs[o]? = some v := by rw [cellAt_blk h] at hc; simpa using hc
theorem RecAt.cells {w : World} {b : Nat} {e : TypeId} {cs : List Value} (h : RecAt w b e cs) {o : Nat} {vs : List Value} (hv : ∀ j v, vs[j]? = some v → cs[o + j]? = some v) : cellsAt w b o vs := fun j v hj => h.cell (hv j v hj)
theorem RecAt.fr {S : Nat → Prop} {w w' : World} {b : Nat} {e : TypeId} {cs : List Value} (f : Fr S w w') (h : RecAt w b e cs) (hn : ¬ S b) : RecAt w' b e cs := f.at h hn
theorem RecAt.new (w : World) (cs : List Value) (e : TypeId) : RecAt (w.alloc (.cells cs.toArray e)) w.heap.size e cs := heap_alloc_at _ _
theorem RecAt.st {w : World} {b : Nat} {e : TypeId} {cs : List Value} (h : RecAt w b e cs) {o : Nat} {vs : List Value} : RecAt (stB w b o vs) b e (splice cs o vs) := by
  have := stB_heap (o := o) (vs := vs) h
  simpa [RecAt] using this
theorem RecAt.st_mk {w : World} {b : Nat} {e : TypeId} {cs : List Value} (h : RecAt w b e cs) {o : Nat} {vs : List Value} {K : World → Prop} (hl : o + vs.length ≤ cs.length) (h1 : ∀ v ∈ vs, v.oneCell' = true) (hK : RecAt (stB w b o vs) b e (splice cs o vs) → Fr (fun k => k = b) w (stB w b o vs) → K (stB w b o vs)) : Go.GV.st w b o vs K :=
  ⟨⟨_, _, 0, 0, h, by simpa using hl, .inl (Nat.zero_le _)⟩, h1, hK h.st (Fr.st (fun _ => rfl))⟩
theorem splice_get {c : List Value} {o : Nat} {vs : List Value} (h : o + vs.length ≤ c.length) (j : Nat) : (splice c o vs)[j]? = if j < o then c[j]? else if j < o + vs.length then vs[j - o]? else c[j]? := by
  unfold splice
  by_cases h1 : j < o
  · rw [if_pos h1, List.append_assoc, List.getElem?_append_left (by simp; omega), List.getElem?_take, if_pos h1]
  · rw [if_neg h1]
    by_cases h2 : j < o + vs.length
    · rw [if_pos h2, List.append_assoc, List.getElem?_append_right (by simp; omega), List.getElem?_append_left (by simp; omega)]
      congr 1; simp; omega
    · rw [if_neg h2, List.append_assoc, List.getElem?_append_right (by simp; omega), List.getElem?_append_right (by simp; omega), List.getElem?_drop]
      congr 1; simp; omega
theorem splice_len {c : List Value} {o : Nat} {vs : List Value} (h : o + vs.length ≤ c.length) : (splice c o vs).length = c.length := splice_length h
/-- bytes do not lie in a block that holds none -/
theorem Sl.not_in {w : World} {A : Option Addr} {n : Nat} {l : List UInt8} (h : Sl w 1 A n (l.map bv)) {b : Nat} {e : TypeId} {cs : List Value} (hr : RecAt w b e cs) (hno : ∀ (j : Nat) (x : UInt8), cs[j]? ≠ some (bv x)) (h0 : n ≠ 0) : ∀ k, blkOf A = some k → k ≠ b := by
  intro k hk he
  subst he
  obtain ⟨b', o, rfl, hc⟩ := h.2 h0
  simp only [blkOf, Option.some.injEq] at hk
  subst hk
  have hl : 0 < l.length := by have := h.1; simp at this; omega
  have hg := hc 0 (bv l[0]) (by rw [List.getElem?_map, List.getElem?_eq_getElem hl]; rfl)
  exact hno _ _ (hr.get hg)
theorem nw_mk {w : World} {cs : List Value} {e : TypeId} {K : Nat → World → Prop} (h : K w.heap.size (w.alloc (.cells cs.toArray e))) : nw w cs e K := h
theorem freeze_cell (w : World) (b n m b' o : Nat) : cellAt (w.freeze ⟨b, n, none⟩ m) b' o = cellAt w b' o := by
  unfold World.freeze
  split
  · rfl
  · unfold cellAt World.cell?
    simp only [Array.getElem?_modify]
    by_cases h : b = b'
    · subst h
      simp only [if_true]
      cases hh : w.heap[b]? with
      | none => rfl
      | some x => cases x <;> rfl
    · rw [if_neg h]
theorem freeze_fr (w : World) (b n m : Nat) : Fr (fun k => k = b) w (w.freeze ⟨b, n, none⟩ m) := by
  unfold World.freeze
  split
  · exact Fr.refl _ _
  · exact ⟨rfl, rfl, rfl, by simp, fun k _ hn => by simp only [Array.getElem?_modify]; rw [if_neg (fun h => hn h.symm)]⟩
theorem mkS_mk {w : World} {b : Nat} {e : TypeId} {cs : List Value} {K : World → Prop} (h : RecAt w b e cs) (hK : ∀ w', Fr (fun k => k = b) w w' → (∀ b' o, cellAt w' b' o = cellAt w b' o) → K w') : mkS w b K :=
  ⟨_, _, _, h, hK _ (freeze_fr _ _ _ _) (fun b' o => freeze_cell _ _ _ _ _ _)⟩
theorem Sl.same {w w' : World} {sz : Nat} {A : Option Addr} {n : Nat} {vs : List Value} (h : Sl w sz A n vs) (hs : ∀ b' o, cellAt w' b' o = cellAt w b' o) : Sl w' sz A n vs :=
  ⟨h.1, fun h0 => by obtain ⟨b, o, rfl, hc⟩ := h.2 h0; exact ⟨b, o, rfl, fun j v hj => (hs _ _).trans (hc j v hj)⟩⟩
theorem itr_mk {w : World} {s : ByteArray} {K : Nat → World → Prop} (h : K w.heap.size (w.alloc (.stringIter s 0))) : itr w s K := h
theorem jnC_mk {σ : Type} {J : σ → World → Prop} {s : σ} {w : World} (h : J s w) : jnC J s w := h
theorem dr_mk {b o : Nat} {K : Nat → Nat → Prop} (h : K b o) : dr (some ⟨b, o, none⟩) K := h
theorem gd_mk {c : Bool} {A : Prop} (h1 : c = true) (h2 : A) : gd c A := gd_iff.2 ⟨h1, h2⟩
theorem vIf_t {b : Bool} {A B : Prop} (h : b = true) (hA : A) : vIf b A B := by subst h; exact hA
theorem vIf_f {b : Bool} {A B : Prop} (h : b = false) (hB : B) : vIf b A B := by subst h; exact hB
theorem vIf_mk {b : Bool} {A B : Prop} (hA : b = true → A) (hB : b = false → B) : vIf b A B := vIf_iff.2 ⟨hA, hB⟩
theorem kp_mk {S : Nat → Prop} {w w' : World} {b o n : Nat} {A : Prop} (f : Fr S w w') (hb : b < w.heap.size) (hn : ¬ S b) (h : A) : kp w b o n w' A := ⟨fun _ _ => cellAt_of_heap (f.block b hb hn), h⟩
theorem tdiv_nat (a b : Nat) : Int.tdiv (a : Int) (b : Int) = ((a / b : Nat) : Int) := by rw [Int.tdiv_eq_ediv_of_nonneg (by omega)]; rfl
theorem tmod_nat (a b : Nat) : Int.tmod (a : Int) (b : Int) = ((a % b : Nat) : Int) := by rw [Int.tmod_eq_emod_of_nonneg (by omega)]; rfl
/-- the measure of a walk over a string -/
def itM (w : World) (b : Nat) : Nat :=
  match w.heap[b]? with
  | some (.stringIter s p) => s.size - p
  | _ => 0
theorem nxt_mk {w : World} {b : Nat} {K1 : Int → Int → World → Prop} {K2 : Prop} {s : ByteArray} {p : Nat} (h : w.heap[b]? = some (.stringIter s p))
    (h1 : p < s.size → K1 (p : Int) ((Utf8.decode s p).1 : Int) (itW w b s (p + (Utf8.decode s p).2))) (h2 : ¬ p < s.size → K2) : nxt w b K1 K2 := ⟨s, p, h, h1, h2⟩
/-! ### bytes -/
theorem bv_inj {a b : UInt8} (h : bv a = bv b) : a = b := by
  unfold bv at h
  injection h with _ h
  exact UInt8.toNat_inj.1 (by omega)
theorem bvs_inj : ∀ {a b : List UInt8}, a.map bv = b.map bv → a = b
  | [], [], _ => rfl
  | x :: a, y :: b, h => by simp only [List.map_cons, List.cons.injEq] at h; rw [bv_inj h.1, bvs_inj h.2]
  | [], _ :: _, h => by simp at h
  | _ :: _, [], h => by simp at h
theorem bv_one (b : UInt8) : (bv b).oneCell' = true := rfl
theorem bvs_one (l : List UInt8) : ∀ v ∈ l.map bv, v.oneCell' = true := by
  intro v hv
  obtain ⟨b, _, rfl⟩ := List.mem_map.1 hv
  rfl
theorem b2s_sl {w : World} {A : Option Addr} {n : Nat} {l : List UInt8} {K : ByteArray → Prop} (h : Sl w 1 A n (l.map bv)) (hK : K ⟨l.toArray⟩) : b2s w A n K := by
  have hl : l.length = n := by simpa using h.1
  refine ⟨fun h0 => ?_, fun h0 => ?_⟩
  · have : l = [] := List.length_eq_zero_iff.1 (by omega)
    subst this; exact hK
  · obtain ⟨b, o, rfl, hc⟩ := h.2 h0
    exact ⟨l, hl, hc, hK⟩
theorem byteAt_eq {s : ByteArray} {i : Nat} (h : i < s.size) : byteAt s i = ((s[i]'h).toNat : Int) := by
  unfold byteAt
  have : s.data.toList.getD i 0 = s[i]'h := by
    rw [List.getD_eq_getElem?_getD, Array.getElem?_toList]
    have e : s.data[i]? = some (s[i]'h) := Array.getElem?_eq_getElem h
    rw [e]; rfl
  rw [this]
theorem i64_id {n : Int} (h1 : -9223372036854775808 ≤ n) (h2 : n ≤ 9223372036854775807) : IntKind.wrap .i64 n = n := by
  rw [IntKind.wrap_i64]; omega
theorem u8_id {n : Int} (h1 : 0 ≤ n) (h2 : n < 256) : IntKind.wrap .u8 n = n := by
  rw [IntKind.wrap_u8]; omega
end Go.GV
