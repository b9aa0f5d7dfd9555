/- MY OWN ENGINE, part 5: the operations that turn the world. -/
import Derived.Test.YtfhimpkpfelilaaDoorG4
namespace Go.GV
open Go
set_option linter.unusedSimpArgs false
set_option linter.unusedVariables false

def zeros (n : Nat) (z : List Value) : List Value := (List.replicate n z).flatten
theorem zeros_length (n : Nat) (z : List Value) : (zeros n z).length = n * z.length := by simp [zeros]
theorem zeros_get (z : List Value) : ∀ (n i : Nat), i < n * z.length → (zeros n z)[i]? = z[i % z.length]?
  | 0, i, h => by simp at h
  | n + 1, i, h => by
    have e : zeros (n + 1) z = z ++ zeros n z := by simp [zeros, List.replicate_succ]
    rw [e]
    by_cases hi : i < z.length
    · rw [List.getElem?_append_left hi, Nat.mod_eq_of_lt hi]
    · rw [List.getElem?_append_right (by omega), zeros_get z n (i - z.length) (by rw [Nat.succ_mul] at h; omega)]
      have := Nat.mod_eq_sub_mod (show i ≥ z.length by omega)
      rw [this]
theorem zeros_range (n : Nat) (z : List Value) : (Array.range (n * z.length)).map (fun i => z.toArray[i % z.length]!) = (zeros n z).toArray := by
  apply Array.ext_getElem?
  intro i
  by_cases h : i < n * z.length
  · have hz : i % z.length < z.length := by
      rcases Nat.eq_zero_or_pos z.length with h0 | h0
      · rw [h0] at h; omega
      · exact Nat.mod_lt _ h0
    have h2 := zeros_get z n i h
    simp only [Array.getElem?_map, List.getElem?_toArray, h2]
    simp [h, hz]
  · have h2 := zeros_length n z
    rw [Array.getElem?_eq_none (by simp; omega), Array.getElem?_eq_none (by simp [h2]; omega)]
theorem zeroCells_eq (n : Nat) (z : List Value) : Builtin.zeroCells z.toArray n = (zeros n z).toArray := by
  unfold Builtin.zeroCells
  rw [← zeros_range]
  simp

/-- what an append or a copy takes: so many elements, these cells -/
def srcOf (w : World) (sz : Nat) (x : Value) (m : Nat) (vs : List Value) : Prop :=
  match x with
  | .slice A n _ => n = m ∧ vs.length = m * sz ∧ (m ≠ 0 → dr A (fun b o => cellsAt w b o vs))
  | .string s => sz = 1 ∧ m = s.size ∧ vs = s.data.toList.map bv
  | _ => False
def vcAlloc (P : Program) (w : World) (t : TypeId) (K : Value → World → Prop) : Prop :=
  match zeroOf P t with
  | some z => nw w z t (fun b w1 => K (.pointer (some ⟨b, 0, none⟩)) w1)
  | none => False
def vcBox (w : World) (t : TypeId) (x : Value) (K : Value → World → Prop) : Prop :=
  nw w x.cells.toList t (fun b w1 => K (.pointer (some ⟨b, 0, none⟩)) w1)
def vcBuildSl (P : Program) (w : World) (t : TypeId) (len : Nat) (parts : List (Nat × Value)) (K : Value → World → Prop) : Prop :=
  match P.underlying t with
  | some (.slice e) =>
    (match zeroOf P e with
    | some z => gd (szOf P e != 0) (gd (z.length == szOf P e) (gd (decide (len * szOf P e ≤ 16777216)) (setCh (List.replicate len z) parts (fun ch => nw w ch.flatten e (fun b w1 => K (.slice (some ⟨b, 0, none⟩) len len) w1)))))
    | none => False)
  | _ => False
def vcSto (P : Program) (w : World) (t : TypeId) (a x : Value) (K : World → Prop) : Prop :=
  match a with
  | .pointer q => dr q (fun b o => gd (szOf P t != 0) (gd (x.cells.toList.length == szOf P t) (st w b o x.cells.toList K)))
  | _ => False
def vcMake (P : Program) (w : World) (t : TypeId) (l c : Value) (K : Value → World → Prop) : Prop :=
  match P.underlying t, l, c with
  | some (.slice e), .int _ l, .int _ c =>
    (match zeroOf P e with
    | some z => gd (szOf P e != 0) (gd (z.length == szOf P e) (gd (decide (0 ≤ l)) (gd (decide (l ≤ c)) (gd (decide (c * byOf P e ≤ 281474976710656 ∧ c ≤ 9223372036854775807)) (nw w (zeros c.toNat z) e (fun b w1 => K (.slice (some ⟨b, 0, none⟩) l.toNat c.toNat) w1))))))
    | none => False)
  | _, _, _ => False
/-- append of m elements with the cells vs -/
def app (w : World) (sz bytes : Nat) (z : List Value) (e : TypeId) (A : Option Addr) (n c : Nat) (x : Value) (K : Option Addr → Nat → Nat → World → Prop) : Prop :=
  ∃ m vs, srcOf w sz x m vs ∧ (∀ v ∈ vs, v.oneCell' = true) ∧ (n + m) * bytes ≤ 140737488355328 ∧ n + m ≤ 9223372036854775807 ∧
    (n + m ≤ c → (m = 0 → K A (n + m) c w) ∧ (m ≠ 0 → dr A (fun b o => st w b (o + n * sz) vs (fun w1 => K A (n + m) c w1)))) ∧
    (c < n + m → ∃ old, srcOf w sz (.slice A n c) n old ∧ ∀ cap, n + m ≤ cap → cap ≤ 9223372036854775807 → nw w.drew (old ++ vs ++ zeros (cap - (n + m)) z) e (fun b w1 => K (some ⟨b, 0, none⟩) (n + m) cap w1))
/-- append of so many zero elements -/
def appZ (w : World) (sz bytes : Nat) (z : List Value) (e : TypeId) (A : Option Addr) (n c : Nat) (x : Int) (K : Option Addr → Nat → Nat → World → Prop) : Prop :=
  0 ≤ IntKind.wrap .i64 x ∧ IntKind.wrap .i64 x * bytes ≤ 281474976710656 ∧ (∀ v ∈ z, v.oneCell' = true) ∧ (n + (IntKind.wrap .i64 x).toNat) * bytes ≤ 140737488355328 ∧ n + (IntKind.wrap .i64 x).toNat ≤ 9223372036854775807 ∧
    (n + (IntKind.wrap .i64 x).toNat ≤ c → ((IntKind.wrap .i64 x).toNat = 0 → K A (n + (IntKind.wrap .i64 x).toNat) c w) ∧ ((IntKind.wrap .i64 x).toNat ≠ 0 → dr A (fun b o => st w b (o + n * sz) (zeros (IntKind.wrap .i64 x).toNat z) (fun w1 => K A (n + (IntKind.wrap .i64 x).toNat) c w1)))) ∧
    (c < n + (IntKind.wrap .i64 x).toNat → ∃ old, srcOf w sz (.slice A n c) n old ∧ ∀ cap, n + (IntKind.wrap .i64 x).toNat ≤ cap → cap ≤ 9223372036854775807 → nw w.drew (old ++ zeros (IntKind.wrap .i64 x).toNat z ++ zeros (cap - (n + (IntKind.wrap .i64 x).toNat)) z) e (fun b w1 => K (some ⟨b, 0, none⟩) (n + (IntKind.wrap .i64 x).toNat) cap w1))
def vcApp (P : Program) (w : World) (t t2 : TypeId) (s x : Value) (K : Value → World → Prop) : Prop :=
  match P.underlying t, s with
  | some (.slice e), .slice A n c =>
    (match zeroOf P e, P.underlying t2 with
    | some z, some (.slice _) => gd (szOf P e != 0) (gd (z.length == szOf P e) (app w (szOf P e) (byOf P e) z e A n c x (fun A n c w1 => K (.slice A n c) w1)))
    | some z, some .string => gd (szOf P e != 0) (gd (z.length == szOf P e) (app w (szOf P e) (byOf P e) z e A n c x (fun A n c w1 => K (.slice A n c) w1)))
    | some z, some (.int _) => (match x with | .int _ i => gd (szOf P e != 0) (gd (z.length == szOf P e) (appZ w (szOf P e) (byOf P e) z e A n c i (fun A n c w1 => K (.slice A n c) w1))) | _ => False)
    | _, _ => False)
  | _, _ => False
def cpy (w : World) (sz : Nat) (A : Option Addr) (n : Nat) (x : Value) (K : Nat → World → Prop) : Prop :=
  ∃ m vs, srcOf w sz x m vs ∧ (min m n = 0 → K 0 w) ∧ (min m n ≠ 0 → dr A (fun b o => st w b o (vs.take (min m n * sz)) (fun w1 => K (min m n) w1)))
def vcCopy (P : Program) (w : World) (t : TypeId) (d x : Value) (K : Value → World → Prop) : Prop :=
  match P.underlying t, d with
  | some (.slice e), .slice A n _ => gd (szOf P e != 0) (cpy w (szOf P e) A n x (fun n w1 => K (.int .i64 n) w1))
  | _, _ => False
def vcClear (P : Program) (w : World) (t : TypeId) (d : Value) (K : World → Prop) : Prop :=
  match P.underlying t, d with
  | some (.slice e), .slice A n _ =>
    (match zeroOf P e with
    | some z => gd (z.length == szOf P e) (vIf (n == 0) (K w) (dr A (fun b o => st w b o (zeros n z) K)))
    | none => False)
  | _, _ => False

section
variable {P : Program} {w : World}
theorem newRow_run (e : TypeId) (cs : Array Value) : (newRow e cs).run P w = .ok ⟨w.heap.size, 0, none⟩ (w.alloc (.cells cs e)) := by
  rfl
theorem vcAlloc_run {t : TypeId} {K : Value → World → Prop} (h : vcAlloc P w t K) : ∃ v w', (Instr.alloc t true (.tuple #[])).run P w = .ok v w' ∧ K v w' := by
  unfold vcAlloc at h
  split at h
  · rename_i z hz
    obtain ⟨v, hv, hvz⟩ := zeroOf_run (w := w) hz
    refine ⟨_, _, ?_, h⟩
    have : v.cells = z.toArray := by rw [← hvz]
    simp only [Instr.alloc, Sem.run_bind, hv, Result.andThen, newVar, newRow_run, this]
    simp
  · exact h.elim
theorem vcBox_run {t : TypeId} {x : Value} {K : Value → World → Prop} (h : vcBox w t x K) : ∃ v w', (Instr.box t x).run P w = .ok v w' ∧ K v w' := by
  refine ⟨_, _, ?_, h⟩
  simp only [Instr.box, Sem.run_bind, Result.andThen, newVar, newRow_run]
  simp
theorem vcBuildSl_run {t : TypeId} {len : Nat} {parts : Array (Nat × Value)} {K : Value → World → Prop} (h : vcBuildSl P w t len parts.toList K) : ∃ v w', (Instr.buildSlice t len parts).run P w = .ok v w' ∧ K v w' := by
  unfold vcBuildSl at h
  split at h
  · rename_i e hu
    split at h
    · rename_i z hz
      simp only [gd_iff, beq_iff_eq, decide_eq_true_eq] at h
      obtain ⟨h1, h2, h3, h⟩ := h
      obtain ⟨v, hv, hvz⟩ := zeroOf_run (w := w) hz
      obtain ⟨ch', e1, _, hK⟩ := fill_run (fun i => some (i * szOf P e, szOf P e)) (List.replicate len (szOf P e)) (fun i m hm => by
        obtain ⟨hi, hm⟩ := List.getElem?_eq_some_iff.1 hm
        simp only [List.length_replicate] at hi
        simp only [List.getElem_replicate] at hm
        rw [List.take_replicate, List.sum_replicate_nat, Nat.min_eq_left (by omega), hm]) parts.toList _ _ (by simp [h2]) h
      refine ⟨_, _, ?_, hK⟩
      have hz' : v.cells = z.toArray := by rw [← hvz]
      have hr := zeros_range len z
      rw [h2] at hr
      have e2 : ((List.replicate len z).flatten).toArray = (zeros len z).toArray := rfl
      rw [e2] at e1
      unfold Instr.buildSlice
      have h3' : ¬ (len * szOf P e > 2 ^ 24) := by omega
      simp only [Sem.run_bind, run_underlying hu, Result.andThen, sz_run h1, if_neg h3']
      by_cases h0 : len * szOf P e = 0
      · have hzn : zeros len z = [] := List.length_eq_zero_iff.1 (by rw [zeros_length, h2]; exact h0)
        rw [hzn] at e1
        simp only [if_pos h0, Sem.run_bind, Sem.run_pure, Result.andThen]
        rw [h0]
        have er : ∀ f : Nat → Value, (Array.range 0).map f = #[] := fun f => by simp
        simp only [er]
        have e1' : Instr.fill (fun i => some (i * szOf P e, szOf P e)) #[] parts.toList = some ch'.flatten.toArray := e1
        simp only [e1', Sem.run_bind, newRow_run, Result.andThen, Sem.run_pure]
      · simp only [if_neg h0, Sem.run_bind, hv, Sem.run_pure, Result.andThen, hz', List.size_toArray, h2, hr, e1, newRow_run]
    · exact h.elim
  · exact h.elim
theorem vcSto_run {t : TypeId} {a x : Value} {K : World → Prop} (h : vcSto P w t a x K) : ∃ w', (Instr.storeAt t a x).run P w = .ok () w' ∧ K w' := by
  unfold vcSto at h
  split at h
  · rename_i q
    simp only [dr_iff, gd_iff, beq_iff_eq] at h
    obtain ⟨b, o, rfl, h1, h2, ⟨c, e, lo, hi, hb, hl, hf⟩, ho, hK⟩ := h
    refine ⟨_, ?_, hK⟩
    have hs := st_run (P := P) b o x.cells.toList 0 w c e lo hi hb (by simpa using hl) (by simpa using hf) ho
    have h2' : ¬ (x.cells.size ≠ szOf P t) := by simpa using h2
    unfold Instr.storeAt storeVar
    simp only [Instr.sureAddr, Sem.run_bind, Sem.run_pure, Result.andThen, sz_run h1, if_neg h2']
    simpa using hs
  · exact h.elim
theorem info_of_zero {e : TypeId} {z : List Value} (h : zeroOf P e = some z) : ∃ i v, P.info? e = some i ∧ i.zero = some v ∧ v.cells = z.toArray ∧ szOf P e = i.size ∧ byOf P e = i.bytes := by
  unfold zeroOf at h
  cases hi : P.info? e with
  | none => rw [hi] at h; cases h
  | some i =>
    rw [hi] at h
    simp only [Option.bind_some, Option.map_eq_some_iff] at h
    obtain ⟨v, hz, e1⟩ := h
    exact ⟨i, v, rfl, hz, by rw [← e1], by simp [szOf, hi], by simp [byOf, hi]⟩
theorem src_len {sz m : Nat} {x : Value} {vs : List Value} (h : srcOf w sz x m vs) : (Builtin.lenOf x).run P w = .ok m w ∧ vs.length = m * sz := by
  unfold srcOf at h
  split at h
  · obtain ⟨rfl, h2, _⟩ := h; exact ⟨by simp [Builtin.lenOf], h2⟩
  · obtain ⟨h1, rfl, rfl⟩ := h; exact ⟨by simp [Builtin.lenOf], by rw [h1, List.length_map]; simp⟩
  · exact h.elim
theorem src_first {sz m k : Nat} {x : Value} {vs : List Value} (h : srcOf w sz x m vs) (hk : k ≤ m) (w' : World) (hw : ∀ b o, cellAt w' b o = cellAt w b o) :
    (Builtin.firstCells sz k x).run P w' = .ok (vs.take (k * sz)).toArray w' := by
  unfold srcOf at h
  split at h
  · rename_i A n c
    obtain ⟨rfl, h2, h3⟩ := h
    by_cases h0 : n = 0
    · subst h0
      have hk0 : k = 0 := by omega
      subst hk0
      have : vs = [] := List.length_eq_zero_iff.1 (by simpa using h2)
      subst this
      cases A <;> simp [Builtin.firstCells, loadCells, loadCellsFrom]
    · have h3 := h3 h0
      rw [dr_iff] at h3
      obtain ⟨b, o, rfl, hc⟩ := h3
      refine run_firstCells_some w' sz k ⟨b, o, none⟩ n c _ ?_ ?_
      · rw [List.length_take, h2]; exact Nat.min_eq_left (Nat.mul_le_mul_right _ hk)
      · intro j v hj
        rw [add_none]
        rw [List.getElem?_take] at hj
        split at hj
        · exact (hw b (o + j)).trans (hc j v hj)
        · cases hj
  · rename_i s
    obtain ⟨rfl, rfl, rfl⟩ := h
    simp only [Builtin.firstCells, Sem.run_pure, Nat.mul_one]
    congr 1
    apply Array.toList_inj.1
    simp only [Array.toList_map, ByteArray.data_extract]
    rw [Array.toList_extract]
    simp [List.extract]
    rfl
  · exact h.elim
theorem app_run {t t2 ty e : TypeId} {A : Option Addr} {n c : Nat} {z : List Value} {x : Value} {K : Option Addr → Nat → Nat → World → Prop} (hu : P.underlying t = some (.slice e)) (hz : zeroOf P e = some z)
    (hd : (∃ e2, P.underlying t2 = some (.slice e2)) ∨ P.underlying t2 = some .string) (hs : szOf P e ≠ 0) (hzl : z.length = szOf P e) (h : app w (szOf P e) (byOf P e) z e A n c x K) :
    ∃ A' n' c' w', (Builtin.append_ #[t, t2] ty #[.slice A n c, x]).run P w = .ok (.slice A' n' c') w' ∧ K A' n' c' w' := by
  obtain ⟨i, zv, hi, hiz, hzv, hsz, hby⟩ := info_of_zero hz
  rw [hby] at h
  obtain ⟨m, vs, hsrc, ho, hb, h63, hroom, hgrow⟩ := h
  have hsr : ∀ w, (sizeOf e).run P w = .ok (szOf P e) w := fun w => sz_run (by simpa using hs)
  have hlen := (src_len (P := P) hsrc).1
  have hvl := (src_len (P := P) hsrc).2
  have hfs : ∀ w' : World, (∀ b o, cellAt w' b o = cellAt w b o) → (Builtin.firstCells (szOf P e) m x).run P w' = .ok vs.toArray w' := fun w' hw => by
    have := src_first (P := P) hsrc (Nat.le_refl m) w' hw
    rwa [← hvl, List.take_length] at this
  have hti : ∀ w, (typeInfo e).run P w = .ok i w := fun w => by simp [typeInfo, Sem.run_bind, program, Sem.run, Result.andThen, hi]
  have hzr : ∀ w, (zeroValue e).run P w = .ok zv w := fun w => by simp [zeroValue, Sem.run_bind, hti, Result.andThen, hiz]
  by_cases hr : n + m ≤ c
  · by_cases hm : m = 0
    · have hv0 : vs = [] := List.length_eq_zero_iff.1 (by rw [hvl, hm]; simp)
      refine ⟨A, n + m, c, w, ?_, (hroom hr).1 hm⟩
      have hf := hfs w (fun _ _ => rfl)
      rw [hv0] at hf
      rcases hd with ⟨e2, hd⟩ | hd <;> cases A <;> simp [Builtin.append_, run_underlying hu, run_underlying hd, hsr, hlen, hf, hr, storeCells, Result.andThen]
    · have hst := (hroom hr).2 hm
      rw [dr_iff] at hst
      obtain ⟨b, o, rfl, ⟨cc, ee, lo, hi', hcell, hl, hfz⟩, ho', hK⟩ := hst
      have hs' := st_run (P := P) b (o + n * szOf P e) vs 0 w cc ee lo hi' hcell (by simpa using hl) (by simpa using hfz) ho'
      have hf := hfs w (fun _ _ => rfl)
      refine ⟨_, _, _, _, ?_, hK⟩
      rcases hd with ⟨e2, hd⟩ | hd <;> simp [Builtin.append_, run_underlying hu, run_underlying hd, hsr, hlen, hf, hr, add_none, hs', Result.andThen]
  · obtain ⟨old, hold, hK⟩ := hgrow (by omega)
    have hfo := src_first (P := P) hold (Nat.le_refl n) w.drew (fun _ _ => rfl)
    rw [← (src_len (P := P) hold).2, List.take_length] at hfo
    have hf := hfs w.drew (fun _ _ => rfl)
    have h48 : ¬ (281474976710656 < Builtin.nextslicecap (n + m) c * i.bytes) := by
      have := growslice_fits (need := n + m) (old := c) (bytes := i.bytes) (by omega) hb
      omega
    have h63' : ¬ (9223372036854775807 < ((n : Int) + (m : Int))) := by omega
    have hg1 := grownCap_ge w (n + m) c e
    have hg2 := grownCap_le_maxLen w (n + m) c e (by unfold maxLen; omega)
    unfold maxLen at hg2
    refine ⟨_, _, _, _, ?_, hK (grownCap w (n + m) c e) hg1 hg2⟩
    have hn : ¬ (n + m ≤ c) := hr
    have hzz : ∀ k, Builtin.zeroCells zv.cells k = (zeros k z).toArray := fun k => by rw [hzv, zeroCells_eq]
    rcases hd with ⟨e2, hd⟩ | hd
    · simp [Builtin.append_, run_underlying hu, run_underlying hd, hsr, hlen, hn, hti, hzr, h63', h48, Question.forced, hf, hfo, newRow_run, grownCap, hzz, Result.andThen]
    · simp [Builtin.append_, run_underlying hu, run_underlying hd, hsr, hlen, hn, hti, hzr, h63', h48, Question.forced, hf, hfo, newRow_run, grownCap, hzz, Result.andThen]
theorem appZ_run {t t2 ty e : TypeId} {A : Option Addr} {n c : Nat} {z : List Value} {x : Int} {kx k2 : IntKind} {K : Option Addr → Nat → Nat → World → Prop} (hu : P.underlying t = some (.slice e)) (hz : zeroOf P e = some z)
    (hd : P.underlying t2 = some (.int k2)) (hs : szOf P e ≠ 0) (hzl : z.length = szOf P e) (h : appZ w (szOf P e) (byOf P e) z e A n c x K) :
    ∃ A' n' c' w', (Builtin.append_ #[t, t2] ty #[.slice A n c, .int kx x]).run P w = .ok (.slice A' n' c') w' ∧ K A' n' c' w' := by
  obtain ⟨i, zv, hi, hiz, hzv, hsz, hby⟩ := info_of_zero hz
  rw [hby] at h
  unfold appZ at h
  generalize hl : IntKind.wrap .i64 x = l at h
  obtain ⟨h0, h48, ho, hb, h63, hroom, hgrow⟩ := h
  generalize hm' : l.toNat = m at h0 h48 ho hb h63 hroom hgrow
  have hlm : l = (m : Int) := by omega
  subst hlm
  clear hm'
  have hsr : ∀ w, (sizeOf e).run P w = .ok (szOf P e) w := fun w => sz_run (by simpa using hs)
  have hti : ∀ w, (typeInfo e).run P w = .ok i w := fun w => by simp [typeInfo, Sem.run_bind, program, Sem.run, Result.andThen, hi]
  have hzr : ∀ w, (zeroValue e).run P w = .ok zv w := fun w => by simp [zeroValue, Sem.run_bind, hti, Result.andThen, hiz]
  have hzz : ∀ k, Builtin.zeroCells zv.cells k = (zeros k z).toArray := fun k => by rw [hzv, zeroCells_eq]
  have hn0 : ¬ ((m : Int) < 0) := by omega
  have hn48 : ¬ ((m : Int) * (i.bytes : Int) > 281474976710656) := by omega
  by_cases hr : n + m ≤ c
  · by_cases hm : m = 0
    · refine ⟨A, n + m, c, w, ?_, (hroom hr).1 hm⟩
      subst hm
      have hr' : n ≤ c := by omega
      have hr2 : ¬ c < n := by omega
      simp only [Int.ofNat_zero] at hl hn0 hn48
      cases A <;> simp [Builtin.append_, run_underlying hu, run_underlying hd, hsr, asInt, asIntOf, hl, hn0, hti, hn48, storeCells, Result.andThen, hr', hr2]
    · have hst := (hroom hr).2 hm
      rw [dr_iff] at hst
      obtain ⟨b, o, rfl, ⟨cc, ee, lo, hi', hcell, hl', hfz⟩, ho', hK⟩ := hst
      have hs' := st_run (P := P) b (o + n * szOf P e) (zeros m z) 0 w cc ee lo hi' hcell (by simpa using hl') (by simpa using hfz) ho'
      refine ⟨_, _, _, _, ?_, hK⟩
      have hms : ¬ (m * szOf P e = 0) := Nat.mul_ne_zero hm hs
      simp [Builtin.append_, run_underlying hu, run_underlying hd, hsr, asInt, asIntOf, hl, hn0, hti, hn48, Result.andThen, hr, hms, hzr, hzz, add_none, hs']
  · obtain ⟨old, hold, hK⟩ := hgrow (by omega)
    have hfo := src_first (P := P) hold (Nat.le_refl n) w.drew (fun _ _ => rfl)
    rw [← (src_len (P := P) hold).2, List.take_length] at hfo
    have h48' : ¬ (281474976710656 < Builtin.nextslicecap (n + m) c * i.bytes) := by
      have := growslice_fits (need := n + m) (old := c) (bytes := i.bytes) (by omega) hb
      omega
    have h63' : ¬ (9223372036854775807 < ((n : Int) + (m : Int))) := by omega
    have hg1 := grownCap_ge w (n + m) c e
    have hg2 := grownCap_le_maxLen w (n + m) c e (by unfold maxLen; omega)
    unfold maxLen at hg2
    refine ⟨_, _, _, _, ?_, hK (grownCap w (n + m) c e) hg1 hg2⟩
    have hif : ∀ u : World, (if m * szOf P e = 0 then Result.ok #[] u else Result.ok (zeros m z).toArray u) = Result.ok (zeros m z).toArray u := fun u => by
      split
      · rename_i h00
        have hm0 : m = 0 := by
          rcases Nat.mul_eq_zero.1 h00 with h | h
          · exact h
          · exact absurd h hs
        subst hm0
        simp [zeros]
      · rfl
    simp [Builtin.append_, run_underlying hu, run_underlying hd, hsr, asInt, asIntOf, hl, hn0, hti, hn48, hr, hif, hzr, h63', h48', Question.forced, hfo, newRow_run, grownCap, hzz, Result.andThen]
theorem vcApp_run {t t2 ty : TypeId} {s x : Value} {K : Value → World → Prop} (h : vcApp P w t t2 s x K) : ∃ v w', (Builtin.append_ #[t, t2] ty #[s, x]).run P w = .ok v w' ∧ K v w' := by
  unfold vcApp at h
  split at h
  · rename_i e A n c hu
    split at h
    · rename_i z e2 hz hd
      simp only [gd_iff, beq_iff_eq] at h
      obtain ⟨h1, h2, h⟩ := h
      obtain ⟨A', n', c', w', hr, hK⟩ := app_run (ty := ty) hu hz (.inl ⟨_, hd⟩) (by simpa using h1) h2 h
      exact ⟨_, _, hr, hK⟩
    · rename_i z hz hd
      simp only [gd_iff, beq_iff_eq] at h
      obtain ⟨h1, h2, h⟩ := h
      obtain ⟨A', n', c', w', hr, hK⟩ := app_run (ty := ty) hu hz (.inr hd) (by simpa using h1) h2 h
      exact ⟨_, _, hr, hK⟩
    · rename_i z k2 hz hd
      split at h
      · simp only [gd_iff, beq_iff_eq] at h
        obtain ⟨h1, h2, h⟩ := h
        obtain ⟨A', n', c', w', hr, hK⟩ := appZ_run (ty := ty) hu hz hd (by simpa using h1) h2 h
        exact ⟨_, _, hr, hK⟩
      · exact h.elim
    · exact h.elim
  · exact h.elim
theorem vcCopy_run {t t2 ty : TypeId} {d x : Value} {K : Value → World → Prop} (h : vcCopy P w t d x K) : ∃ v w', (Builtin.copy_ #[t, t2] ty #[d, x]).run P w = .ok v w' ∧ K v w' := by
  unfold vcCopy at h
  split at h
  · rename_i e A n c hu
    simp only [gd_iff] at h
    obtain ⟨h1, m, vs, hsrc, h0, hS⟩ := h
    have hlen := (src_len (P := P) hsrc).1
    have hvl := (src_len (P := P) hsrc).2
    have hf := src_first (P := P) (k := min m n) hsrc (Nat.min_le_left _ _) w (fun _ _ => rfl)
    have hmin : Nat.min m n = min m n := rfl
    by_cases hm : min m n = 0
    · refine ⟨_, _, ?_, h0 hm⟩
      rw [hm] at hf
      simp only [Nat.zero_mul, List.take_zero] at hf
      unfold Builtin.copy_
      cases A <;> simp [run_underlying hu, hlen, sz_run h1, hmin, hm, hf, storeCells, goInt, Result.andThen]
    · have hS := hS hm
      rw [dr_iff] at hS
      obtain ⟨b, o, rfl, ⟨cc, ee, lo, hi', hcell, hl, hfz⟩, ho', hK⟩ := hS
      have hs' := st_run (P := P) b o _ 0 w cc ee lo hi' hcell (by simpa using hl) (by simpa using hfz) ho'
      refine ⟨_, _, ?_, hK⟩
      unfold Builtin.copy_
      simp [run_underlying hu, hlen, sz_run h1, hmin, hf, hs', goInt, Result.andThen]
  · exact h.elim
theorem vcMake_run {t : TypeId} {l c : Value} {K : Value → World → Prop} (h : vcMake P w t l c K) : ∃ v w', (Instr.makeSlice t l c).run P w = .ok v w' ∧ K v w' := by
  unfold vcMake at h
  split at h
  · rename_i e k1 l k2 c hu
    split at h
    · rename_i z hz
      simp only [gd_iff, beq_iff_eq, decide_eq_true_eq] at h
      obtain ⟨h1, h2, h3, h4, ⟨h5, h6⟩, hK⟩ := h
      obtain ⟨i, zv, hi, hiz, hzv, hsz, hby⟩ := info_of_zero hz
      have hti : ∀ w, (typeInfo e).run P w = .ok i w := fun w => by simp [typeInfo, Sem.run_bind, program, Sem.run, Result.andThen, hi]
      have hm := run_make (P := P) w t e i zv hu hi hiz k1 k2 l c h3 h4 (by rw [hby] at h5; rw [Int.mul_comm]; exact h5) (by omega)
      refine ⟨_, _, hm, ?_⟩
      have hmc : madeCells zv.cells (c.toNat * i.size) = (zeros c.toNat z).toArray := by
        unfold madeCells
        rw [← zeros_range, hzv, ← hsz, h2]
        simp [h2]
      rw [hmc]
      exact hK
    · exact h.elim
  · exact h.elim
theorem vcClear_run {t ty : TypeId} {d : Value} {K : World → Prop} (h : vcClear P w t d K) : ∃ w', (Builtin.clear_ #[t] ty #[d]).run P w = .ok (.tuple #[]) w' ∧ K w' := by
  unfold vcClear at h
  split at h
  · rename_i e A n c hu
    split at h
    · rename_i z hz
      simp only [gd_iff, beq_iff_eq, vIf_iff] at h
      obtain ⟨h1, h0, hS⟩ := h
      obtain ⟨v, hv, hvz⟩ := zeroOf_run (w := w) hz
      have hvz' : v.cells = z.toArray := by rw [← hvz]
      by_cases hn : n = 0
      · subst hn
        refine ⟨w, ?_, h0 rfl⟩
        unfold Builtin.clear_
        cases A <;> simp [run_underlying hu, Result.andThen]
      · have hS := hS (by simpa using hn)
        rw [dr_iff] at hS
        obtain ⟨b, o, rfl, ⟨cc, ee, lo, hi', hcell, hl, hfz⟩, ho', hK⟩ := hS
        have hs' := st_run (P := P) b o _ 0 w cc ee lo hi' hcell (by simpa using hl) (by simpa using hfz) ho'
        refine ⟨_, ?_, hK⟩
        unfold Builtin.clear_
        simp [run_underlying hu, hv, hvz', zeroCells_eq, hs', Result.andThen]
    · exact h.elim
  · exact h.elim

/-! ### bytes and strings -/
def s2b (w : World) (e : TypeId) (s : ByteArray) (K : Nat → Nat → World → Prop) : Prop :=
  ∀ cap, s.size ≤ cap → cap ≤ 9223372036854775807 →
    K w.heap.size cap (w.drew.alloc (.cells (s.data.toList.map bv ++ List.replicate (cap - s.size) (Value.int .u8 0)).toArray e (cap, cap + 1)))
def vcS2B (w : World) (e : TypeId) (s : ByteArray) (K : Value → World → Prop) : Prop := s2b w e s (fun b cap w1 => K (.slice (some ⟨b, 0, none⟩) s.size cap) w1)
def b2s (w : World) (A : Option Addr) (n : Nat) (K : ByteArray → Prop) : Prop :=
  (n = 0 → K ⟨#[]⟩) ∧ (n ≠ 0 → dr A (fun b o => ∃ l : List UInt8, l.length = n ∧ cellsAt w b o (l.map bv) ∧ K ⟨l.toArray⟩))
def vcB2S (w : World) (x : Value) (K : ByteArray → Prop) : Prop :=
  match x with
  | .slice A n _ => b2s w A n K
  | _ => False
/-- bytes that a string's conversion made are marked -/
def mkS (w : World) (b : Nat) (K : World → Prop) : Prop := ∃ c e f, w.heap[b]? = some (.cells c e f) ∧ K (w.freeze ⟨b, c.size, none⟩ 1)
def vcCv (P : Program) (w : World) (s d : TypeId) (x : Value) (K : Value → World → Prop) : Prop :=
  match P.underlying s, P.underlying d, x with
  | some .string, some (.slice e), .string s => (match P.underlying e with | some (.int .u8) => gd (decide (s.size ≤ 9223372036854775806)) (vcS2B w e s K) | _ => False)
  | some (.slice e), some .string, x => (match P.underlying e with | some (.int .u8) => vcB2S w x (fun s => K (.string s) w) | _ => False)
  | some (.slice _), some (.slice e), .slice (some a) n c => (match P.underlying e with | some (.int .u8) => gd (s == d) (mkS w a.block (fun w1 => K (.slice (some a) n c) w1)) | _ => False)
  | _, _, _ => vcConv P s d x (fun v => K v w)
theorem vcCv_run {s d : TypeId} {x : Value} {K : Value → World → Prop} (h : vcCv P w s d x K) : ∃ v w', (convert s d x).run P w = .ok v w' ∧ K v w' := by
  unfold vcCv at h
  split at h
  · rename_i e s' hs hd
    split at h
    · rename_i he
      simp only [gd_iff, decide_eq_true_eq] at h
      obtain ⟨h1, h⟩ := h
      have hg1 := grownCap_ge w s'.size 0 e
      have hg2 := grownCap_le_maxLen w s'.size 0 e (by unfold maxLen; omega)
      unfold maxLen at hg2
      refine ⟨_, _, run_bytes_of_string w s d e s' hs hd he, ?_⟩
      have hK := h (grownCap w s'.size 0 e) hg1 hg2
      have hb : bytesRow s' (grownCap w s'.size 0 e) = (s'.data.toList.map bv ++ List.replicate (grownCap w s'.size 0 e - s'.size) (Value.int .u8 0)).toArray := by
        unfold bytesRow
        apply Array.toList_inj.1
        simp
        exact fun _ _ => rfl
      have hsz : (bytesRow s' (grownCap w s'.size 0 e)).size = grownCap w s'.size 0 e := by
        rw [hb]; simp; omega
      rw [hsz, hb]
      exact hK
    · exact h.elim
  · rename_i e hs hd
    split at h
    · rename_i he
      unfold vcB2S at h
      split at h
      · rename_i A n c
        by_cases hn : n = 0
        · have hK := h.1 hn
          subst hn
          refine ⟨_, _, ?_, hK⟩
          unfold convert
          simp only [Sem.run_bind, run_underlying hs, run_underlying hd, run_underlying he, Result.andThen]
          cases A <;> simp [Conv.bytesToString, loadCells, loadCellsFrom, he, ByteArray.empty, ByteArray.emptyWithCapacity] <;> rfl
        · have hK := h.2 hn
          rw [dr_iff] at hK
          obtain ⟨b, o, rfl, l, rfl, hc, hK⟩ := hK
          have := run_convert_bytes_back w s d e ⟨b, o, none⟩ c l hs he hd (fun j hj => by
            rw [add_none]
            exact hc j _ (by rw [List.getElem?_map, List.getElem?_eq_getElem hj]; rfl))
          exact ⟨_, _, this, hK⟩
      · exact h.elim
    · exact h.elim
  · rename_i e0 e a n c hs hd
    split at h
    · rename_i he
      simp only [gd_iff, beq_iff_eq] at h
      obtain ⟨rfl, cc, ee, f, hb, hK⟩ := h
      refine ⟨_, _, ?_, hK⟩
      unfold convert
      simp [Sem.run_bind, run_underlying hd, run_underlying he, Result.andThen, markStringish, World.shape?, hb]
    · exact h.elim
  · obtain ⟨v, hv, hK⟩ := vcConv_run (w := w) h
    exact ⟨v, w, hv, hK⟩

/-! ### going through a string -/
def itW (w : World) (b : Nat) (s : ByteArray) (p : Nat) : World := { w with heap := w.heap.setIfInBounds b (.stringIter s p) }
def itr (w : World) (s : ByteArray) (K : Nat → World → Prop) : Prop := K w.heap.size (w.alloc (.stringIter s 0))
def nxt (w : World) (b : Nat) (K1 : Int → Int → World → Prop) (K2 : Prop) : Prop :=
  ∃ s p, w.heap[b]? = some (.stringIter s p) ∧ (p < s.size → K1 (p : Int) ((Utf8.decode s p).1 : Int) (itW w b s (p + (Utf8.decode s p).2))) ∧ (¬ p < s.size → K2)
def vcRange (P : Program) (w : World) (t : TypeId) (x : Value) (K : Value → World → Prop) : Prop :=
  match P.underlying t, x with
  | some .string, .string s => itr w s (fun b w1 => K (.pointer (some ⟨b, 0, none⟩)) w1)
  | _, _ => False
def vcNext (w : World) (x : Value) (isS : Bool) (K : Value → World → Prop) : Prop :=
  match x with
  | .pointer (some a) => gd (Nat.beq a.off 0 && isS) (nxt w a.block (fun i c w1 => K (.tuple #[.bool true, .int .i64 i, .int .i32 c]) w1) (K (.tuple #[.bool false]) w))
  | _ => False
theorem vcRange_run {t : TypeId} {x : Value} {K : Value → World → Prop} (h : vcRange P w t x K) : ∃ v w', (Instr.range t x).run P w = .ok v w' ∧ K v w' := by
  unfold vcRange at h
  split at h
  · rename_i s hu
    refine ⟨_, _, ?_, h⟩
    simp [Instr.range, run_underlying hu, newObj, Sem.run_bind, Result.andThen]
    rfl
  · exact h.elim
theorem vcNext_run {ty : TypeId} {x : Value} {isS : Bool} {K : Value → World → Prop} (h : vcNext w x isS K) : ∃ v w', (Instr.next x isS ty).run P w = .ok v w' ∧ K v w' := by
  unfold vcNext at h
  split at h
  · rename_i a
    simp only [gd_iff, Bool.and_eq_true] at h
    obtain ⟨⟨h1, h2⟩, s, p, hb, hK1, hK2⟩ := h
    have e0 := Nat.eq_of_beq_eq_true h1
    obtain ⟨b, o, sp⟩ := a
    simp only at e0 hb hK1
    subst e0; subst h2
    by_cases hp : p < s.size
    · refine ⟨_, _, ?_, hK1 hp⟩
      simp [Instr.next, getObj, setObj, Sem.run_bind, Sem.run, hb, Result.andThen, hp, goInt, itW]
    · refine ⟨_, _, ?_, hK2 hp⟩
      simp [Instr.next, getObj, Sem.run_bind, Sem.run, hb, Result.andThen, hp]
  · exact h.elim
end
end Go.GV
