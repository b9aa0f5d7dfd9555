/- MY OWN ENGINE, part 3: what is built, laid, stored, appended. -/
import Derived.Test.YtfhimpkpfelilaaDoorG2
namespace Go.GV
open Go
set_option linter.unusedSimpArgs false
set_option linter.unusedVariables false

/-! ### building -/
def splitBy : List Nat → List Value → List (List Value)
  | [], _ => []
  | n :: r, l => l.take n :: splitBy r (l.drop n)
/-- parts put in their places; each of the size of its place -/
def setCh : List (List Value) → List (Nat × Value) → (List (List Value) → Prop) → Prop
  | ch, [], K => K ch
  | ch, (i, v) :: r, K =>
    match ch[i]? with
    | some c => gd (v.cells.toList.length == c.length) (setCh (ch.set i v.cells.toList) r K)
    | none => False
def offs (fs : List Field) (sz : List Nat) : Bool := go fs sz 0
  where
  go : List Field → List Nat → Nat → Bool
    | [], [], _ => true
    | f :: fs, n :: r, o => f.offset == o && go fs r (o + n)
    | _, _, _ => false
def zeroOf (P : Program) (t : TypeId) : Option (List Value) := (P.info? t).bind fun i => i.zero.map fun v => v.cells.toList
def vcBuild (P : Program) (t : TypeId) (parts : List (Nat × Value)) (K : Value → Prop) : Prop :=
  match P.underlying t, zeroOf P t with
  | some (.struct fs), some z =>
    let sz := fs.toList.map fun f => szOf P f.type
    gd (sz.all (· != 0)) (gd (offs fs.toList sz) (gd (sz.sum == z.length) (setCh (splitBy sz z) parts (fun ch => K (ofL ch.flatten)))))
  | some (.array n e), some z =>
    gd (szOf P e != 0) (gd (n * szOf P e == z.length) (setCh (splitBy (List.replicate n (szOf P e)) z) parts (fun ch => K (ofL ch.flatten))))
  | _, _ => False

theorem splitBy_flatten : ∀ (sz : List Nat) (l : List Value), sz.sum = l.length → (splitBy sz l).flatten = l
  | [], l, h => by
    have : l = [] := List.length_eq_zero_iff.1 (by simpa using h.symm)
    simp [splitBy, this]
  | n :: r, l, h => by
    simp only [List.sum_cons] at h
    rw [splitBy, List.flatten_cons, splitBy_flatten r (l.drop n) (by rw [List.length_drop]; omega), List.take_append_drop]
theorem splitBy_lens : ∀ (sz : List Nat) (l : List Value), sz.sum = l.length → (splitBy sz l).map List.length = sz
  | [], l, h => rfl
  | n :: r, l, h => by
    simp only [List.sum_cons] at h
    rw [splitBy, List.map_cons, splitBy_lens r (l.drop n) (by rw [List.length_drop]; omega)]
    congr 1
    rw [List.length_take]; omega
theorem foldl_put (off : Nat) : ∀ (vs : List Value) (j : Nat) (L m R : List Value), L.length = off + j → m.length = vs.length →
    (vs.zipIdx j).foldl (fun (cs : Array Value) x => cs.setIfInBounds (off + x.2) x.1) (L ++ m ++ R).toArray = (L ++ vs ++ R).toArray
  | [], j, L, m, R, _, hm => by
    have : m = [] := List.length_eq_zero_iff.1 hm
    simp [this]
  | v :: r, j, L, [], R, _, hm => by simp at hm
  | v :: r, j, L, x :: m, R, hL, hm => by
    have h1 : ((L ++ x :: m ++ R).toArray.setIfInBounds (off + j) v) = ((L ++ [v]) ++ m ++ R).toArray := by
      rw [← hL]
      simp
    rw [List.zipIdx_cons, List.foldl_cons, h1, foldl_put off r (j + 1) (L ++ [v]) m R (by simp; omega) (by simpa using hm)]
    simp
theorem flat_parts (ch : List (List Value)) (i : Nat) (c : List Value) (h : ch[i]? = some c) (vs : List Value) :
    ch.flatten = (ch.take i).flatten ++ c ++ (ch.drop (i + 1)).flatten ∧ (ch.set i vs).flatten = (ch.take i).flatten ++ vs ++ (ch.drop (i + 1)).flatten := by
  have hi : i < ch.length := (List.getElem?_eq_some_iff.1 h).1
  have hc : ch[i] = c := (List.getElem?_eq_some_iff.1 h).2
  constructor
  · conv => lhs; rw [← List.take_append_drop i ch]
    rw [List.flatten_append, List.drop_eq_getElem_cons hi, List.flatten_cons, hc, List.append_assoc]
  · rw [List.set_eq_take_append_cons_drop, if_pos hi, List.flatten_append, List.flatten_cons, List.append_assoc]
theorem fill_run (place : Nat → Option (Nat × Nat)) (lens : List Nat) (hp : ∀ i n, lens[i]? = some n → place i = some ((lens.take i).sum, n)) :
    ∀ (parts : List (Nat × Value)) (ch : List (List Value)) (K : List (List Value) → Prop), ch.map List.length = lens → setCh ch parts K →
      ∃ ch', Instr.fill place ch.flatten.toArray parts = some ch'.flatten.toArray ∧ ch'.map List.length = lens ∧ K ch'
  | [], ch, K, hl, h => ⟨ch, rfl, hl, h⟩
  | (i, v) :: r, ch, K, hl, h => by
    unfold setCh at h
    split at h
    · rename_i c hc
      simp only [gd_iff, beq_iff_eq] at h
      obtain ⟨hvl, h⟩ := h
      have hlen : lens[i]? = some c.length := by rw [← hl, List.getElem?_map, hc]; rfl
      obtain ⟨f1, f2⟩ := flat_parts ch i c hc v.cells.toList
      have hpl := hp i _ hlen
      have hs : (lens.take i).sum = ((ch.take i).flatten).length := by rw [← hl, ← List.map_take, List.length_flatten]
      have hset : (ch.set i v.cells.toList).map List.length = lens := by
        rw [List.map_set, hl, hvl]
        apply List.ext_getElem?
        intro j
        rw [List.getElem?_set]
        split
        · rename_i e; subst e; rw [hlen]; simp [(List.getElem?_eq_some_iff.1 hlen).1]
        · rfl
      obtain ⟨ch', e1, e2, hK⟩ := fill_run place lens hp r _ K hset h
      refine ⟨ch', ?_, e2, hK⟩
      rw [← e1]
      rw [Instr.fill, hpl]
      have hsz : v.cells.size = c.length := by simpa using hvl
      have hfit : ¬ ((lens.take i).sum + v.cells.size > ch.flatten.toArray.size) := by
        rw [hs, hsz, List.size_toArray, f1]
        simp
      simp only [hsz, bne_self_eq_false, Bool.false_or, decide_eq_true_eq]
      rw [if_neg (by rw [← hsz]; simpa [hsz] using hfit)]
      congr 1
      rw [f1, f2, hs]
      have := foldl_put ((ch.take i).flatten.length) v.cells.toList 0 (ch.take i).flatten c (ch.drop (i + 1)).flatten (by simp) hvl.symm
      rw [← this, ← Array.foldl_toList, Array.toList_zipIdx]
    · exact h.elim
section
variable {P : Program} {w : World}
theorem zeroOf_run {t : TypeId} {z : List Value} (h : zeroOf P t = some z) : ∃ v, (zeroValue t).run P w = .ok v w ∧ v.cells.toList = z := by
  unfold zeroOf at h
  cases hi : P.info? t with
  | none => rw [hi] at h; cases h
  | some i =>
    rw [hi] at h
    simp only [Option.bind_some, Option.map_eq_some_iff] at h
    obtain ⟨v, hz, e⟩ := h
    refine ⟨v, ?_, e⟩
    unfold zeroValue typeInfo
    simp [Sem.run_bind, program, Sem.run, Result.andThen, hi, hz]
theorem mapM_places (fs : List Field) : ∀ (sz : List Nat), sz = fs.map (fun f => szOf P f.type) → sz.all (· != 0) = true →
    (fs.mapM (fun f => (do pure (f.offset, ← sizeOf f.type) : Sem (Nat × Nat)))).run P w = .ok (fs.map fun f => (f.offset, szOf P f.type)) w := by
  induction fs with
  | nil => intro _ _ _; simp
  | cons f fs ih =>
    intro sz e h
    subst e
    simp only [List.map_cons, List.all_cons, Bool.and_eq_true] at h
    rw [List.mapM_cons]
    simp only [Sem.run_bind, sz_run h.1, Result.andThen, Sem.run_pure, ih _ rfl h.2]
    simp
theorem offs_place : ∀ (fs : List Field) (sz : List Nat) (o : Nat), offs.go fs sz o = true → ∀ i n, sz[i]? = some n → ∃ f, fs[i]? = some f ∧ f.offset = o + (sz.take i).sum
  | [], [], _, _, i, n, h => by simp at h
  | f :: fs, m :: r, o, h, 0, n, hn => by
    simp only [offs.go, Bool.and_eq_true, beq_iff_eq] at h
    exact ⟨f, rfl, by simp [h.1]⟩
  | f :: fs, m :: r, o, h, i + 1, n, hn => by
    simp only [offs.go, Bool.and_eq_true, beq_iff_eq] at h
    obtain ⟨g, hg, e⟩ := offs_place fs r (o + m) h.2 i n (by simpa using hn)
    exact ⟨g, by simpa using hg, by rw [e]; simp; omega⟩
  | [], _ :: _, _, h, _, _, _ => by simp [offs.go] at h
  | _ :: _, [], _, h, _, _, _ => by simp [offs.go] at h
theorem vcBuild_run {t : TypeId} {parts : Array (Nat × Value)} {K : Value → Prop} (h : vcBuild P t parts.toList K) : ∃ v, (Instr.build t parts).run P w = .ok v w ∧ K v := by
  unfold vcBuild at h
  split at h
  · rename_i fs z hu hz
    simp only [gd_iff, beq_iff_eq] at h
    obtain ⟨h1, h2, h3, h⟩ := h
    obtain ⟨v, hv, hvz⟩ := zeroOf_run (w := w) hz
    have hm := mapM_places (P := P) (w := w) fs.toList _ rfl h1
    obtain ⟨ch', e1, _, hK⟩ := fill_run (fun i => ((fs.toList.map fun f => (f.offset, szOf P f.type)).toArray)[i]?) (fs.toList.map fun f => szOf P f.type) (fun i n hn => by
      obtain ⟨f, hf, e⟩ := offs_place _ _ _ h2 i n hn
      simp only [Nat.zero_add] at e
      rw [← e]
      have : n = szOf P f.type := by
        rw [List.getElem?_map, hf] at hn
        simpa using hn.symm
      simp [hf, this]) parts.toList _ _ (splitBy_lens _ _ h3) h
    rw [splitBy_flatten _ _ h3] at e1
    refine ⟨_, ?_, hK⟩
    unfold Instr.build
    have hfm : (fs.mapM (fun f => (do pure (f.offset, ← sizeOf f.type) : Sem (Nat × Nat)))).run P w = .ok ((fs.toList.map fun f => (f.offset, szOf P f.type)).toArray) w := by
      rw [Array.mapM_eq_mapM_toList]
      simp only [map_eq_pure_bind, Sem.run_bind, hm, Result.andThen, Sem.run_pure]
    have hz' : v.cells = z.toArray := by rw [← hvz]
    simp only [Sem.run_bind, hv, run_underlying hu, Result.andThen, hfm, hz', e1, Sem.run_pure]
    rfl
  · rename_i n e z hu hz
    simp only [gd_iff, beq_iff_eq] at h
    obtain ⟨h1, h3, h⟩ := h
    obtain ⟨v, hv, hvz⟩ := zeroOf_run (w := w) hz
    have hsum : (List.replicate n (szOf P e)).sum = z.length := by rw [List.sum_replicate_nat]; exact h3
    obtain ⟨ch', e1, _, hK⟩ := fill_run (fun i => some (i * szOf P e, szOf P e)) (List.replicate n (szOf P e)) (fun i m hm => by
      obtain ⟨hi, hm⟩ := List.getElem?_eq_some_iff.1 hm
      simp only [List.length_replicate] at hi
      simp only [List.getElem_replicate] at hm
      rw [List.take_replicate, List.sum_replicate_nat, Nat.min_eq_left (by omega), hm]) parts.toList _ _ (splitBy_lens _ _ hsum) h
    rw [splitBy_flatten _ _ hsum] at e1
    refine ⟨_, ?_, hK⟩
    unfold Instr.build
    have hz' : v.cells = z.toArray := by rw [← hvz]
    simp only [Sem.run_bind, hv, run_underlying hu, Result.andThen, sz_run h1, hz', e1, Sem.run_pure]
    rfl
  · exact h.elim
end
end Go.GV
