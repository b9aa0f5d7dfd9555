/- Open addressing, plainly: a round row of places; each key stands behind its home with no free place between. No program in sight. -/
namespace Go.Slots
set_option linter.unusedVariables false
def dist (N a b : Nat) : Nat := if a ≤ b then b - a else b + N - a
def adv (N a t : Nat) : Nat := if a + t < N then a + t else a + t - N
theorem adv_lt {N a t : Nat} (ha : a < N) (ht : t < N) : adv N a t < N := by unfold adv; split <;> omega
theorem dist_lt {N a b : Nat} (ha : a < N) (hb : b < N) : dist N a b < N := by unfold dist; split <;> omega
theorem adv_dist {N a b : Nat} (ha : a < N) (hb : b < N) : adv N a (dist N a b) = b := by unfold adv dist; split <;> split <;> omega
theorem dist_adv {N a t : Nat} (ha : a < N) (ht : t < N) : dist N a (adv N a t) = t := by unfold adv dist; split <;> split <;> omega
theorem mod_adv {N a t : Nat} (ha : a < N) (ht : t ≤ N) : (a + t) % N = if t = N then a else adv N a t := by
  unfold adv
  by_cases h : t = N
  · subst h; rw [if_pos rfl, Nat.add_mod_right, Nat.mod_eq_of_lt ha]
  · rw [if_neg h]
    split
    · rw [Nat.mod_eq_of_lt (by omega)]
    · rw [Nat.mod_eq_sub_mod (by omega), Nat.mod_eq_of_lt (by omega)]
section
variable {K V : Type} {home : K → Nat} {S : List (Option (K × V))} {N i : Nat} {k k' : K} {v v' : V}
/-- the place holds this key and value -/
def At (S : List (Option (K × V))) (i : Nat) (k : K) (v : V) : Prop := S[i]? = some (some (k, v))
def Full (S : List (Option (K × V))) (i : Nat) : Prop := ∃ k v, At S i k v
def Free (S : List (Option (K × V))) (i : Nat) : Prop := S[i]? = some none
structure Inv (home : K → Nat) (N : Nat) (S : List (Option (K × V))) : Prop where
  len : S.length = N
  hom : ∀ k, home k < N
  chain : ∀ p k v, At S p k v → ∀ t, t < dist N (home k) p → Full S (adv N (home k) t)
  one : ∀ p q k v v', At S p k v → At S q k v' → p = q
theorem At.lt (h : At S i k v) (hl : S.length = N) : i < N := by
  have := (List.getElem?_eq_some_iff.1 h).1; omega
theorem Full.lt (h : Full S i) (hl : S.length = N) : i < N := by obtain ⟨k, v, h⟩ := h; exact h.lt hl
theorem full_or_free (hl : S.length = N) (hi : i < N) : Full S i ∨ Free S i := by
  have h := List.getElem?_eq_getElem (l := S) (i := i) (by omega)
  cases hs : S[i]'(by omega) with
  | none => rw [hs] at h; exact .inr h
  | some x => rw [hs] at h; obtain ⟨k, v⟩ := x; exact .inl ⟨k, v, h⟩
theorem Full.not_free (h : Full S i) : ¬ Free S i := by
  obtain ⟨k, v, h⟩ := h
  intro hf
  unfold At at h; unfold Free at hf
  rw [h] at hf; cases hf
theorem At.uniq (h : At S i k v) (h' : At S i k' v') : k = k' ∧ v = v' := by
  unfold At at h h'
  rw [h] at h'
  injection h' with h'; injection h' with h'
  exact ⟨(Prod.mk.inj h').1, (Prod.mk.inj h').2⟩
/-- where a search for a key ends: t places behind the home -/
structure Ends (home : K → Nat) (N : Nat) (S : List (Option (K × V))) (k : K) (t : Nat) : Prop where
  lt : t < N
  before : ∀ t', t' < t → ∃ k' v', At S (adv N (home k) t') k' v' ∧ k' ≠ k
theorem Ends.absent (hI : Inv home N S) {k : K} {t : Nat} (h : Ends home N S k t) (hf : Free S (adv N (home k) t)) : ∀ p v, ¬ At S p k v := by
  intro p v hp
  have hpl := hp.lt hI.len
  have hh := hI.hom k
  have hd := dist_lt hh hpl
  rcases Nat.lt_trichotomy t (dist N (home k) p) with h1 | h1 | h1
  · exact (hI.chain p k v hp t h1).not_free hf
  · subst h1
    rw [adv_dist hh hpl] at hf
    exact Full.not_free ⟨k, v, hp⟩ hf
  · obtain ⟨k', v', h2, h3⟩ := h.before _ h1
    rw [adv_dist hh hpl] at h2
    exact h3 (h2.uniq hp).1
theorem set_at {i j : Nat} {o : Option (K × V)} (hi : i < S.length) : (S.set i o)[j]? = if i = j then some o else S[j]? := by
  rw [List.getElem?_set]
  by_cases h : i = j
  · rw [if_pos h, if_pos h, if_pos hi]
  · rw [if_neg h, if_neg h]
/-- a new key, put where its search ended -/
theorem Ends.put (hI : Inv home N S) {k : K} {t : Nat} (v : V) (h : Ends home N S k t) (hf : Free S (adv N (home k) t)) : Inv home N (S.set (adv N (home k) t) (some (k, v))) := by
  have hab := h.absent hI hf
  have hh := hI.hom k
  have hil : adv N (home k) t < S.length := by rw [hI.len]; exact adv_lt hh h.lt
  have keep : ∀ q, Full S q → Full (S.set (adv N (home k) t) (some (k, v))) q := fun q ⟨k', v', hq⟩ => by
    refine ⟨k', v', ?_⟩
    unfold At
    rw [set_at hil, if_neg]
    · exact hq
    · intro e; subst e; exact Full.not_free ⟨k', v', hq⟩ hf
  have old : ∀ p k' v', At (S.set (adv N (home k) t) (some (k, v))) p k' v' → (p = adv N (home k) t ∧ k' = k ∧ v' = v) ∨ At S p k' v' := fun p k' v' hp => by
    unfold At at hp
    rw [set_at hil] at hp
    split at hp
    · rename_i e
      injection hp with hp; injection hp with hp
      exact .inl ⟨e.symm, (Prod.mk.inj hp).1.symm, (Prod.mk.inj hp).2.symm⟩
    · exact .inr hp
  refine ⟨by rw [List.length_set]; exact hI.len, hI.hom, fun p k' v' hp s hs => ?_, fun p q k' v' v'' hp hq => ?_⟩
  · rcases old p k' v' hp with ⟨rfl, rfl, rfl⟩ | hp
    · rw [dist_adv hh h.lt] at hs
      obtain ⟨k2, v2, h2, _⟩ := h.before s hs
      exact keep _ ⟨k2, v2, h2⟩
    · exact keep _ (hI.chain p k' v' hp s hs)
  · rcases old p k' v' hp with ⟨a1, a2, a3⟩ | hp2 <;> rcases old q k' v'' hq with ⟨b1, b2, b3⟩ | hq2
    · rw [a1, b1]
    · rw [a2] at hq2; exact absurd hq2 (hab q v'')
    · rw [b2] at hp2; exact absurd hp2 (hab p v')
    · exact hI.one p q k' v' v'' hp2 hq2
/-- another value for a key that is there -/
theorem Inv.over (hI : Inv home N S) {i : Nat} {k : K} {v0 : V} (v : V) (h : At S i k v0) : Inv home N (S.set i (some (k, v))) := by
  have hil : i < S.length := by rw [hI.len]; exact h.lt hI.len
  have keep : ∀ q, Full S q → Full (S.set i (some (k, v))) q := fun q ⟨k', v', hq⟩ => by
    by_cases e : i = q
    · subst e; exact ⟨k, v, by unfold At; rw [set_at hil, if_pos rfl]⟩
    · exact ⟨k', v', by unfold At; rw [set_at hil, if_neg e]; exact hq⟩
  have old : ∀ p k' v', At (S.set i (some (k, v))) p k' v' → ∃ v2, At S p k' v2 := fun p k' v' hp => by
    unfold At at hp
    rw [set_at hil] at hp
    split at hp
    · rename_i e; subst e
      injection hp with hp; injection hp with hp
      obtain ⟨rfl, _⟩ := Prod.mk.inj hp
      exact ⟨v0, h⟩
    · exact ⟨v', hp⟩
  refine ⟨by rw [List.length_set]; exact hI.len, hI.hom, fun p k' v' hp s hs => ?_, fun p q k' v' v'' hp hq => ?_⟩
  · obtain ⟨v2, h2⟩ := old p k' v' hp
    exact keep _ (hI.chain p k' v2 h2 s hs)
  · obtain ⟨v2, h2⟩ := old p k' v' hp
    obtain ⟨v3, h3⟩ := old q k' v'' hq
    exact hI.one p q k' v2 v3 h2 h3
/-! ### taking a key away: the hole wanders -/
/-- the row with a hole: as if nothing stood there -/
structure Hole (home : K → Nat) (N : Nat) (S : List (Option (K × V))) (hole s e : Nat) : Prop where
  len : S.length = N
  hom : ∀ k, home k < N
  hlt : hole < N
  free : Free S hole
  elt : Free S e ∧ e ≠ hole
  s1 : 1 ≤ s
  sN : s ≤ dist N hole e
  chain : ∀ p k v, At S p k v → ∀ t, t < dist N (home k) p → Full S (adv N (home k) t) ∨ adv N (home k) t = hole
  scan : ∀ t, 1 ≤ t → t < s → ∃ k v, At S (adv N hole t) k v ∧ dist N (home k) (adv N hole t) < t
  one : ∀ p q k v v', At S p k v → At S q k v' → p = q
theorem Free.lt (h : Free S i) (hl : S.length = N) : i < N := by have := (List.getElem?_eq_some_iff.1 h).1; omega
theorem Hole.start (hI : Inv home N S) {i e : Nat} {k : K} {v : V} (h : At S i k v) (he : Free S e) : Hole home N (S.set i none) i 1 e := by
  have hil := h.lt hI.len
  have hil' : i < S.length := by rw [hI.len]; exact hil
  have hei : i ≠ e := by intro e'; subst e'; exact Full.not_free ⟨k, v, h⟩ he
  have helt := he.lt hI.len
  have old : ∀ p k' v', At (S.set i none) p k' v' → At S p k' v' := fun p k' v' hp => by
    unfold At at hp; rw [set_at hil'] at hp
    split at hp
    · cases hp
    · exact hp
  refine ⟨by rw [List.length_set]; exact hI.len, hI.hom, hil, by unfold Free; rw [set_at hil', if_pos rfl], ⟨by unfold Free; rw [set_at hil', if_neg hei]; exact he, fun h => hei h.symm⟩, by omega, ?_, fun p k' v' hp t ht => ?_, fun t h1 h2 => by omega, fun p q k' v' v'' hp hq => hI.one p q k' v' v'' (old p k' v' hp) (old q k' v'' hq)⟩
  · unfold dist; split <;> omega
  · obtain ⟨k2, v2, h2⟩ := hI.chain p k' v' (old p k' v' hp) t ht
    by_cases e2 : i = adv N (home k') t
    · exact .inr e2.symm
    · exact .inl ⟨k2, v2, by unfold At; rw [set_at hil', if_neg e2]; exact h2⟩
/-- the place that is looked at stays -/
theorem Hole.stay {hole s e : Nat} (h : Hole home N S hole s e) {k : K} {v : V} (hat : At S (adv N hole s) k v) (hb : dist N (home k) (adv N hole s) < s) : Hole home N S hole (s + 1) e := by
  have helt := h.elt.1.lt h.len
  have hd := dist_lt h.hlt helt
  have hne : s ≠ dist N hole e := by
    intro hs
    rw [hs, adv_dist h.hlt helt] at hat
    exact Full.not_free ⟨k, v, hat⟩ h.elt.1
  have := h.sN
  refine ⟨h.len, h.hom, h.hlt, h.free, h.elt, by omega, by omega, h.chain, fun t h1 h2 => ?_, h.one⟩
  by_cases ht : t = s
  · subst ht; exact ⟨k, v, hat, hb⟩
  · exact h.scan t h1 (by omega)
/-- it moves into the hole, and leaves one -/
theorem Hole.move {hole s e : Nat} (h : Hole home N S hole s e) {k : K} {v : V} (hat : At S (adv N hole s) k v) (hb : s ≤ dist N (home k) (adv N hole s)) : Hole home N ((S.set hole (some (k, v))).set (adv N hole s) none) (adv N hole s) 1 e := by
  have helt := h.elt.1.lt h.len
  have hd := dist_lt h.hlt helt
  have hsN := h.sN
  have hs1 := h.s1
  have hlt := h.hlt
  have hil := hat.lt h.len
  have hne : s ≠ dist N hole e := by
    intro hs
    rw [hs, adv_dist h.hlt helt] at hat
    exact Full.not_free ⟨k, v, hat⟩ h.elt.1
  have hih : adv N hole s ≠ hole := by unfold adv; split <;> omega
  have hie : adv N hole s ≠ e := by
    intro he; rw [he] at hat; exact Full.not_free ⟨k, v, hat⟩ h.elt.1
  have hl1 : hole < S.length := by rw [h.len]; exact hlt
  have hl2 : adv N hole s < (S.set hole (some (k, v))).length := by rw [List.length_set, h.len]; exact hil
  have get : ∀ j, ((S.set hole (some (k, v))).set (adv N hole s) none)[j]? = if adv N hole s = j then some none else if hole = j then some (some (k, v)) else S[j]? := fun j => by
    rw [set_at hl2]
    split
    · rfl
    · rw [set_at hl1]
  have old : ∀ p k' v', At ((S.set hole (some (k, v))).set (adv N hole s) none) p k' v' → (p = hole ∧ k' = k ∧ v' = v) ∨ (At S p k' v' ∧ p ≠ adv N hole s ∧ p ≠ hole) := fun p k' v' hp => by
    unfold At at hp
    rw [get] at hp
    split at hp
    · cases hp
    · rename_i e1
      split at hp
      · rename_i e2
        injection hp with hp; injection hp with hp
        exact .inl ⟨e2.symm, (Prod.mk.inj hp).1.symm, (Prod.mk.inj hp).2.symm⟩
      · rename_i e2
        exact .inr ⟨hp, fun h => e1 h.symm, fun h => e2 h.symm⟩
  have keep : ∀ q, Full S q → q ≠ adv N hole s → Full ((S.set hole (some (k, v))).set (adv N hole s) none) q := fun q ⟨k', v', hq⟩ hqi => by
    by_cases e2 : hole = q
    · exact ⟨k, v, by unfold At; rw [get, if_neg (fun h => hqi h.symm), if_pos e2]⟩
    · exact ⟨k', v', by unfold At; rw [get, if_neg (fun h => hqi h.symm), if_neg e2]; exact hq⟩
  have hfull : Full ((S.set hole (some (k, v))).set (adv N hole s) none) hole := ⟨k, v, by unfold At; rw [get, if_neg hih, if_pos rfl]⟩
  have hh := h.hom k
  refine ⟨by rw [List.length_set, List.length_set]; exact h.len, h.hom, hil, by unfold Free; rw [get, if_pos rfl], ⟨by unfold Free; rw [get, if_neg hie, if_neg (fun h' => h.elt.2 h'.symm)]; exact h.elt.1, fun h' => hie h'.symm⟩, by omega, ?_, fun p k' v' hp t ht => ?_, fun t h1 h2 => by omega, fun p q k' v' v'' hp hq => ?_⟩
  · unfold dist; split <;> omega
  · rcases old p k' v' hp with ⟨rfl, rfl, rfl⟩ | ⟨hp, hp1, hp2⟩
    · have hdd : dist N (home k') (adv N p s) = dist N (home k') p + s := by
        revert hb
        unfold dist adv
        split <;> split <;> split <;> omega
      have hne2 : adv N (home k') t ≠ p := by
        intro he
        have := dist_adv hh (show t < N by have := dist_lt hh hlt; omega)
        rw [he] at this; omega
      have hne3 : adv N (home k') t ≠ adv N p s := by
        intro he
        have := dist_adv hh (show t < N by have := dist_lt hh hlt; omega)
        rw [he, hdd] at this; omega
      rcases h.chain _ k' v' hat t (by omega) with h3 | h3
      · exact .inl (keep _ h3 hne3)
      · exact absurd h3 hne2
    · rcases h.chain p k' v' hp t ht with h3 | h3
      · by_cases e3 : adv N (home k') t = adv N hole s
        · exact .inr e3
        · exact .inl (keep _ h3 e3)
      · rw [h3]; exact .inl hfull
  · rcases old p k' v' hp with ⟨a1, a2, a3⟩ | ⟨hp2, hp3, hp4⟩ <;> rcases old q k' v'' hq with ⟨b1, b2, b3⟩ | ⟨hq2, hq3, hq4⟩
    · rw [a1, b1]
    · rw [a2] at hq2; exact absurd (h.one _ _ _ _ _ hat hq2) (fun h => hq3 h.symm)
    · rw [b2] at hp2; exact absurd (h.one _ _ _ _ _ hp2 hat) hp3
    · exact h.one p q k' v' v'' hp2 hq2
/-- a free place behind the hole: the row is whole -/
theorem Hole.done {hole s e : Nat} (h : Hole home N S hole s e) (hf : Free S (adv N hole s)) : Inv home N S := by
  have helt := h.elt.1.lt h.len
  have hd := dist_lt h.hlt helt
  have hsN := h.sN
  have hs1 := h.s1
  have hlt := h.hlt
  refine ⟨h.len, h.hom, fun p k v hp t ht => ?_, h.one⟩
  rcases h.chain p k v hp t ht with h1 | h1
  · exact h1
  · exfalso
    have hpl := hp.lt h.len
    have hh := h.hom k
    have hdp := dist_lt hh hpl
    have hph : p ≠ hole := by intro he; subst he; exact Full.not_free ⟨k, v, hp⟩ h.free
    have hu : dist N (home k) p = t + dist N hole p := by
      revert h1 ht
      unfold dist adv
      split <;> split <;> split <;> omega
    have hup := dist_lt hlt hpl
    have hu1 : dist N hole p ≠ 0 := by unfold dist; split <;> omega
    rcases Nat.lt_trichotomy (dist N hole p) s with h2 | h2 | h2
    · obtain ⟨k', v', h3, h4⟩ := h.scan (dist N hole p) (by omega) h2
      rw [adv_dist hlt hpl] at h3 h4
      obtain ⟨rfl, rfl⟩ := h3.uniq hp
      omega
    · rw [← h2, adv_dist hlt hpl] at hf
      exact Full.not_free ⟨k, v, hp⟩ hf
    · have ha : adv N (home k) (t + s) = adv N hole s := by
        revert h1
        unfold adv
        have := hu
        split <;> split <;> split <;> omega
      rcases h.chain p k v hp (t + s) (by omega) with h3 | h3
      · rw [ha] at h3; exact h3.not_free hf
      · rw [ha] at h3
        revert h3
        unfold adv
        split <;> omega
end
end Go.Slots
