/- chapter 37: the table of eight against the document's rising row, plainly -/
import Derived.Test.YtihifmamdeafdaaHF
namespace Go.Proofs.Ytihifmamdeafdaa
open Go.GV Go.RowKit
set_option linter.unusedVariables false
set_option linter.unusedSimpArgs false
abbrev Ent := Int × List UInt8
def nz (x : Ent) : Bool := x.1 != 0
def rfind (R : Tab) (id : Int) : Option (List UInt8) := (R.find? (fun x => x.1 == id)).map (·.2)
def rbegin (R : Tab) (last : Int) : Tab × Int × Int × Int := if 8 ≤ R.length then (R, last, 0, 8) else (R ++ [(last + 1, [])], last + 1, last + 1, 0)
def upd (id : Int) (v : List UInt8) (x : Ent) : Ent := if x.1 = id then (x.1, v) else x
def rchunk (R : Tab) (id off : Int) (b : List UInt8) (most : Int) : Tab × Int :=
  match rfind R id with
  | none => (R, 6)
  | some old => if off ≠ (old.length : Int) then (R, 17) else if ((old.length + b.length : Nat) : Int) > most then (R, 18) else (R.map (upd id (old ++ b)), 0)
def rend (R : Tab) (id : Int) : Tab × Int :=
  match rfind R id with
  | none => (R, 6)
  | some _ => (R.filter (fun x => x.1 != id), 0)
structure Rel (T R : Tab) (last : Int) : Prop where
  tlen : T.length = 8
  last0 : 0 ≤ last
  perm : (T.filter nz).Perm R
  asc : R.Pairwise (fun a b => a.1 < b.1)
  low : ∀ x ∈ R, 0 < x.1
  high : ∀ x ∈ R, x.1 ≤ last
  inj : ∀ (i j : Nat) (x y : Ent), T[i]? = some x → T[j]? = some y → x.1 = y.1 → x.1 ≠ 0 → i = j
theorem Rel.mem {T R : Tab} {last : Int} (h : Rel T R last) {i : Nat} {x : Ent} (hi : T[i]? = some x) (h0 : x.1 ≠ 0) : x ∈ R :=
  h.perm.mem_iff.1 (List.mem_filter.2 ⟨List.mem_of_getElem? hi, by simpa [nz] using h0⟩)
theorem Rel.back {T R : Tab} {last : Int} (h : Rel T R last) {x : Ent} (hx : x ∈ R) : ∃ i : Nat, T[i]? = some x ∧ x.1 ≠ 0 := by
  have h1 := List.mem_filter.1 (h.perm.mem_iff.2 hx)
  obtain ⟨i, hi, hix⟩ := List.mem_iff_getElem.1 h1.1
  exact ⟨i, by rw [List.getElem?_eq_getElem hi, hix], by simpa [nz] using h1.2⟩
theorem rfind_of {R : Tab} (h : R.Pairwise (fun a b => a.1 < b.1)) {x : Ent} (hx : x ∈ R) : rfind R x.1 = some x.2 := by
  induction R with
  | nil => cases hx
  | cons y r ih =>
    have hc := List.pairwise_cons.1 h
    unfold rfind
    rcases List.mem_cons.1 hx with rfl | hx
    · simp
    · have := hc.1 x hx
      rw [List.find?_cons_of_neg (by simp; omega)]
      exact ih hc.2 hx
theorem rfind_none {R : Tab} {id : Int} (h : ∀ x ∈ R, x.1 ≠ id) : rfind R id = none := by
  unfold rfind
  rw [List.find?_eq_none.2 (fun x hx => by simpa using h x hx)]; rfl
theorem pos_none {T : Tab} {id : Int} (h : pos T id = none) : ∀ (i : Nat) (x : Ent), T[i]? = some x → x.1 ≠ id := by
  intro i x hi
  have := List.findIdx?_eq_none_iff.1 h x (List.mem_of_getElem? hi)
  simpa using this
theorem Rel.fnd_none {T R : Tab} {last : Int} (h : Rel T R last) {id : Int} (hf : fnd T id = none) : rfind R id = none := by
  refine rfind_none (fun x hx he => ?_)
  obtain ⟨i, hi, h0⟩ := h.back hx
  unfold fnd at hf
  split at hf
  · rename_i h1; exact h0 (by omega)
  · exact pos_none hf i x hi he
theorem Rel.fnd_some {T R : Tab} {last : Int} (h : Rel T R last) {id : Int} {i : Nat} (hf : fnd T id = some i) : ∃ x, T[i]? = some x ∧ x.1 = id ∧ id ≠ 0 ∧ x ∈ R ∧ rfind R id = some x.2 := by
  obtain ⟨x, hx, hxi⟩ := Go.Proofs.Ytihifmamdeafdaa.fnd_some hf
  have h0 : id ≠ 0 := by
    intro h0
    rw [h0] at hf
    simp [fnd] at hf
  have hm := h.mem hx (by omega)
  exact ⟨x, hx, hxi, h0, hm, by rw [← hxi]; exact rfind_of h.asc hm⟩
theorem Rel.data {T R : Tab} {last : Int} (h : Rel T R last) (id : Int) : dataT T id = rfind R id := by
  unfold dataT
  cases hf : fnd T id with
  | none => rw [h.fnd_none hf]; rfl
  | some i =>
    obtain ⟨x, hx, _, _, _, hr⟩ := h.fnd_some hf
    rw [hr]
    show (T[i]?).map (·.2) = _
    rw [hx]; rfl
/-- an entry that stands in the table alone is changed -/
theorem set_map {T : Tab} {i : Nat} {x : Ent} (f : Ent → Ent) (hi : T[i]? = some x) (ho : ∀ (j : Nat) (y : Ent), T[j]? = some y → j ≠ i → f y = y) : T.set i (f x) = T.map f := by
  apply List.ext_getElem?
  intro j
  by_cases hj : i = j
  · subst hj
    rw [List.getElem?_set_self (List.getElem?_eq_some_iff.1 hi).1, List.getElem?_map, hi]; rfl
  · rw [List.getElem?_set_ne hj, List.getElem?_map]
    cases hy : T[j]? with
    | none => rfl
    | some y => rw [Option.map_some, ho j y hy (fun h => hj h.symm)]
theorem filter_map_nz {T : Tab} {f : Ent → Ent} (h : ∀ x, nz (f x) = nz x) : (T.map f).filter nz = (T.filter nz).map f := by
  induction T with
  | nil => rfl
  | cons a r ih =>
    rw [List.map_cons]
    cases ha : nz a with
    | true => rw [List.filter_cons_of_pos (by rw [h]; exact ha), List.filter_cons_of_pos ha, List.map_cons, ih]
    | false => rw [List.filter_cons_of_neg (by rw [h, ha]; simp), List.filter_cons_of_neg (by rw [ha]; simp), ih]
theorem filter_gone {T : Tab} {id : Int} : (T.map (fun x : Ent => if x.1 = id then ((0 : Int), ([] : List UInt8)) else x)).filter nz = (T.filter nz).filter (fun x => x.1 != id) := by
  induction T with
  | nil => rfl
  | cons a r ih =>
    rw [List.map_cons]
    by_cases h1 : a.1 = id
    · rw [if_pos h1, List.filter_cons_of_neg (by simp [nz]), ih]
      cases ha : nz a with
      | true => rw [List.filter_cons_of_pos ha, List.filter_cons_of_neg (by simp [h1])]
      | false => rw [List.filter_cons_of_neg (by rw [ha]; simp)]
    · rw [if_neg h1]
      cases ha : nz a with
      | true => rw [List.filter_cons_of_pos ha, List.filter_cons_of_pos ha, List.filter_cons_of_pos (by simpa using h1), ih]
      | false => rw [List.filter_cons_of_neg (by rw [ha]; simp), List.filter_cons_of_neg (by rw [ha]; simp), ih]
theorem filter_new {T : Tab} {i : Nat} {x y : Ent} (hi : T[i]? = some x) (hx : nz x = false) (hy : nz y = true) : ((T.set i y).filter nz).Perm (y :: T.filter nz) := by
  induction T generalizing i with
  | nil => cases hi
  | cons a r ih =>
    cases i with
    | zero =>
      injection hi with hi
      subst hi
      rw [List.set_cons_zero, List.filter_cons_of_pos hy, List.filter_cons_of_neg (by rw [hx]; simp)]
    | succ i =>
      rw [List.set_cons_succ]
      have := ih (i := i) hi
      cases ha : nz a with
      | true =>
        rw [List.filter_cons_of_pos ha, List.filter_cons_of_pos ha]
        exact (this.cons a).trans (List.Perm.swap y a _)
      | false => rw [List.filter_cons_of_neg (by rw [ha]; simp), List.filter_cons_of_neg (by rw [ha]; simp)]; exact this
theorem Rel.full {T R : Tab} {last : Int} (h : Rel T R last) (hp : pos T 0 = none) : 8 ≤ R.length := by
  have : T.filter nz = T := List.filter_eq_self.2 (fun x hx => by
    obtain ⟨i, hi, hix⟩ := List.mem_iff_getElem.1 hx
    have := pos_none hp i x (by rw [List.getElem?_eq_getElem hi, hix])
    simpa [nz] using this)
  have h1 := h.perm.length_eq
  rw [this, h.tlen] at h1
  omega
theorem Rel.room {T R : Tab} {last : Int} (h : Rel T R last) {i : Nat} (hp : pos T 0 = some i) : ¬ 8 ≤ R.length := by
  obtain ⟨x, hx, hx0⟩ := pos_some hp
  have h1 := (filter_new (y := (1, [])) hx (by simp [nz, hx0]) rfl).length_eq
  have h2 := List.length_filter_le nz (T.set i (1, []))
  rw [List.length_set, h.tlen] at h2
  have h3 := h.perm.length_eq
  simp at h1
  omega
theorem Rel.begin {T R : Tab} {last : Int} (h : Rel T R last) {i : Nat} (hp : pos T 0 = some i) : Rel (T.set i (last + 1, [])) (R ++ [(last + 1, [])]) (last + 1) := by
  obtain ⟨x, hx, hx0⟩ := pos_some hp
  have hl := h.last0
  refine ⟨by rw [List.length_set]; exact h.tlen, by omega, ?_, ?_, ?_, ?_, ?_⟩
  · refine (filter_new hx (by simp [nz, hx0]) (by simp [nz]; omega)).trans ?_
    exact (h.perm.cons _).trans (List.perm_append_singleton _ _).symm
  · exact List.pairwise_append.2 ⟨h.asc, List.pairwise_singleton _ _, fun a ha b hb => by
      simp at hb; subst hb
      have := h.high a ha
      show a.1 < last + 1
      omega⟩
  · intro y hy
    rcases List.mem_append.1 hy with h1 | h1
    · exact h.low y h1
    · simp at h1; subst h1; show 0 < last + 1; omega
  · intro y hy
    rcases List.mem_append.1 hy with h1 | h1
    · have := h.high y h1; omega
    · simp at h1; subst h1; exact Int.le_refl _
  · intro a b y z ha hb he h0
    have new : ∀ (j : Nat) (y : Ent), j ≠ i → (T.set i (last + 1, []))[j]? = some y → y.1 ≠ 0 → y.1 ≤ last := by
      intro j y hj hy h0
      rw [List.getElem?_set_ne (fun h => hj h.symm)] at hy
      exact h.high y (h.mem hy h0)
    by_cases hai : a = i
    · by_cases hbi : b = i
      · omega
      · subst hai
        rw [List.getElem?_set_self (List.getElem?_eq_some_iff.1 hx).1] at ha
        injection ha with ha
        subst ha
        have := new b z hbi hb (by omega)
        simp only at he
        omega
    · by_cases hbi : b = i
      · subst hbi
        rw [List.getElem?_set_self (List.getElem?_eq_some_iff.1 hx).1] at hb
        injection hb with hb
        subst hb
        have := new a y hai ha h0
        simp only at he
        omega
      · rw [List.getElem?_set_ne (fun h => hai h.symm)] at ha
        rw [List.getElem?_set_ne (fun h => hbi h.symm)] at hb
        exact h.inj a b y z ha hb he h0
theorem Rel.others {T R : Tab} {last : Int} (h : Rel T R last) {id : Int} {i : Nat} {x : Ent} (hx : T[i]? = some x) (hxi : x.1 = id) (h0 : id ≠ 0) : ∀ (j : Nat) (y : Ent), T[j]? = some y → j ≠ i → y.1 ≠ id :=
  fun j y hy hj he => hj (h.inj j i y x hy hx (by omega) (by omega))
theorem Rel.chunk {T R : Tab} {last : Int} (h : Rel T R last) (id off : Int) (b : List UInt8) (most : Int) : (chunkT T id off b most).1 = (rchunk R id off b most).2 ∧ Rel (chunkT T id off b most).2 (rchunk R id off b most).1 last := by
  unfold chunkT rchunk
  cases hf : fnd T id with
  | none => rw [h.fnd_none hf]; exact ⟨rfl, h⟩
  | some i =>
    obtain ⟨x, hx, hxi, h0, hm, hr⟩ := h.fnd_some hf
    rw [hr]
    simp only [hx]
    by_cases h1 : off ≠ (x.2.length : Int)
    · rw [if_pos h1, if_pos h1]; exact ⟨rfl, h⟩
    rw [if_neg h1, if_neg h1]
    by_cases h2 : ((x.2.length + b.length : Nat) : Int) > most
    · rw [if_pos h2, if_pos h2]; exact ⟨rfl, h⟩
    rw [if_neg h2, if_neg h2]
    have he : T.set i (x.1, x.2 ++ b) = T.map (upd id (x.2 ++ b)) := by
      have := set_map (T := T) (i := i) (x := x) (upd id (x.2 ++ b)) hx (fun j y hy hj => if_neg (h.others hx hxi h0 j y hy hj))
      rw [← this]
      congr 1
      unfold upd
      rw [if_pos hxi]
    have hid : ∀ y : Ent, (upd id (x.2 ++ b) y).1 = y.1 := fun y => by unfold upd; split <;> rfl
    refine ⟨rfl, ⟨by rw [List.length_set]; exact h.tlen, h.last0, ?_, ?_, ?_, ?_, ?_⟩⟩
    · show ((T.set i (x.1, x.2 ++ b)).filter nz).Perm (R.map (upd id (x.2 ++ b)))
      rw [he, filter_map_nz (fun y => by unfold nz; rw [hid])]
      exact h.perm.map _
    · exact List.pairwise_map.2 (h.asc.imp (fun {a c} hac => by rw [hid, hid]; exact hac))
    · intro y hy
      obtain ⟨z, hz, rfl⟩ := List.mem_map.1 hy
      rw [hid]; exact h.low z hz
    · intro y hy
      obtain ⟨z, hz, rfl⟩ := List.mem_map.1 hy
      rw [hid]; exact h.high z hz
    · intro a c y z ha hc heq hn
      have ha : (T.set i (x.1, x.2 ++ b))[a]? = some y := ha
      have hc : (T.set i (x.1, x.2 ++ b))[c]? = some z := hc
      rw [he, List.getElem?_map] at ha hc
      cases h3 : T[a]? with
      | none => rw [h3] at ha; cases ha
      | some y' =>
        cases h4 : T[c]? with
        | none => rw [h4] at hc; cases hc
        | some z' =>
          rw [h3] at ha
          rw [h4] at hc
          injection ha with ha
          injection hc with hc
          subst ha; subst hc
          rw [hid, hid] at heq
          rw [hid] at hn
          exact h.inj a c y' z' h3 h4 heq hn
def endT (T : Tab) (id : Int) : Int × Tab :=
  match fnd T id with
  | none => (6, T)
  | some i => (0, T.set i (0, []))
theorem Rel.end_ {T R : Tab} {last : Int} (h : Rel T R last) (id : Int) : (endT T id).1 = (rend R id).2 ∧ Rel (endT T id).2 (rend R id).1 last := by
  unfold endT rend
  cases hf : fnd T id with
  | none => rw [h.fnd_none hf]; exact ⟨rfl, h⟩
  | some i =>
    obtain ⟨x, hx, hxi, h0, hm, hr⟩ := h.fnd_some hf
    rw [hr]
    have he : T.set i (0, []) = T.map (fun y : Ent => if y.1 = id then ((0 : Int), ([] : List UInt8)) else y) := by
      have := set_map (T := T) (i := i) (x := x) (fun y : Ent => if y.1 = id then ((0 : Int), ([] : List UInt8)) else y) hx (fun j y hy hj => if_neg (h.others hx hxi h0 j y hy hj))
      rw [← this]
      congr 1
      exact (if_pos hxi).symm
    refine ⟨rfl, ⟨by rw [List.length_set]; exact h.tlen, h.last0, ?_, ?_, ?_, ?_, ?_⟩⟩
    · show ((T.set i (0, [])).filter nz).Perm (R.filter (fun x => x.1 != id))
      rw [he, filter_gone]
      exact h.perm.filter _
    · exact h.asc.sublist List.filter_sublist
    · intro y hy; exact h.low y (List.mem_filter.1 hy).1
    · intro y hy; exact h.high y (List.mem_filter.1 hy).1
    · intro a c y z ha hc heq hn
      have ha : (T.set i (0, []))[a]? = some y := ha
      have hc : (T.set i (0, []))[c]? = some z := hc
      have old : ∀ (j : Nat) (y : Ent), (T.set i (0, []))[j]? = some y → y.1 ≠ 0 → T[j]? = some y := by
        intro j y hj hn
        by_cases hij : i = j
        · subst hij
          rw [List.getElem?_set_self (List.getElem?_eq_some_iff.1 hx).1] at hj
          injection hj with hj
          subst hj
          exact absurd rfl hn
        · rwa [List.getElem?_set_ne hij] at hj
      exact h.inj a c y z (old a y ha hn) (old c z hc (by omega)) heq hn
theorem Rel.start : Rel (List.replicate 8 (0, [])) [] 0 := by
  refine ⟨rfl, Int.le_refl _, ?_, List.Pairwise.nil, (fun x hx => by cases hx), (fun x hx => by cases hx), ?_⟩
  · have : (List.replicate 8 ((0 : Int), ([] : List UInt8))).filter nz = [] := rfl
    rw [this]
  · intro i j x y hi hj he h0
    have := List.mem_of_getElem? hi
    rw [List.mem_replicate] at this
    rw [this.2] at h0
    exact absurd rfl h0
/-- which numbers are open -/
theorem Rel.ids {T R : Tab} {last : Int} (h : Rel T R last) {l : List Int} (hp : l.Perm ((T.filter nz).map (·.1))) (hs : l.Pairwise (· ≤ ·)) : l = R.map (·.1) := by
  have h1 : l.Perm (R.map (·.1)) := hp.trans (h.perm.map _)
  have h2 : (R.map (·.1)).Pairwise (· ≤ ·) := List.pairwise_map.2 (h.asc.imp (fun h => by omega))
  exact h1.eq_of_pairwise (fun a b _ _ h1 h2 => by omega) hs h2
/-- no bytes are longer than all -/
theorem Rel.bound {T R : Tab} {last : Int} (h : Rel T R last) {m : Nat} (hR : ∀ x ∈ R, x.2.length ≤ m) (hz : ∀ x ∈ T, x.1 = 0 → x.2 = []) : ∀ (i : Nat) (x : Ent), T[i]? = some x → x.2.length ≤ m := by
  intro i x hi
  by_cases h0 : x.1 = 0
  · rw [hz x (List.mem_of_getElem? hi) h0]; simp
  · exact hR x (h.mem hi h0)
end Go.Proofs.Ytihifmamdeafdaa
