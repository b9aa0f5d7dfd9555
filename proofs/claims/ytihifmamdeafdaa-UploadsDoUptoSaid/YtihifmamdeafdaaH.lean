/- chapter 37: what each function answers. -/
import Derived.Test.YtihifmamdeafdaaLSame
import Derived.Test.YtihifmamdeafdaaLBytes
namespace Go.Proofs.Ytihifmamdeafdaa
open Go.GV Go.RowKit
set_option linter.unusedVariables false
abbrev Tab := List (Int × List UInt8)
/-- the uploads' cells: eight of a number and bytes, and the last number -/
structure UpC (w : World) (D : Nat → Prop) (T : Tab) (last : Int) (cs : List Value) : Prop where
  len : cs.length = 17
  tlen : T.length = 8
  last_ : cs[16]? = some (.int .i64 last)
  id : ∀ (i : Nat) (x : Int × List UInt8), T[i]? = some x → cs[2 * i]? = some (.int .i64 x.1)
  row : ∀ (i : Nat) (x : Int × List UInt8), T[i]? = some x → ∃ (A : Option Addr) (n c : Nat), cs[2 * i + 1]? = some (Value.slice A n c) ∧ Sl w 1 A n (x.2.map bv) ∧ ∀ k, blkOf A = some k → D k
def UpAt (w : World) (b : Nat) (D : Nat → Prop) (T : Tab) (last : Int) : Prop := ∃ cs e, RecAt w b e cs ∧ UpC w D T last cs
theorem UpC.noB {w : World} {D : Nat → Prop} {T : Tab} {last : Int} {cs : List Value} (h : UpC w D T last cs) : ∀ (j : Nat) (x : UInt8), cs[j]? ≠ some (bv x) := by
  intro j x hj
  have hl := (List.getElem?_eq_some_iff.1 hj).1
  rw [h.len] at hl
  by_cases h16 : j = 16
  · subst h16; rw [h.last_] at hj; cases hj
  · obtain ⟨y, hy⟩ : ∃ y, T[j / 2]? = some y := ⟨_, List.getElem?_eq_getElem (by rw [h.tlen]; omega)⟩
    by_cases he : j % 2 = 0
    · have := h.id _ _ hy
      rw [show 2 * (j / 2) = j by omega, hj] at this
      cases this
    · obtain ⟨A, n, c, h1, _, _⟩ := h.row _ _ hy
      rw [show 2 * (j / 2) + 1 = j by omega, hj] at h1
      cases h1
theorem UpAt.fr {S D : Nat → Prop} {w w' : World} {b : Nat} {T : Tab} {last : Int} (f : Fr S w w') (h : UpAt w b D T last) (hb : ¬ S b) (hn : ∀ k, D k → ¬ S k) : UpAt w' b D T last := by
  obtain ⟨cs, e, hr, hc⟩ := h
  refine ⟨cs, e, hr.fr f hb, hc.len, hc.tlen, hc.last_, hc.id, fun i x hx => ?_⟩
  obtain ⟨A, n, c, h1, h2, h3⟩ := hc.row i x hx
  exact ⟨A, n, c, h1, f.sl h2 (fun h0 k hk => hn k (h3 k hk)), h3⟩
theorem UpAt.fr0 {D : Nat → Prop} {w w' : World} {b : Nat} {T : Tab} {last : Int} (f : Fr (fun _ => False) w w') (h : UpAt w b D T last) : UpAt w' b D T last := h.fr f (fun h => h) (fun _ _ h => h)
theorem UpAt.mono {D D' : Nat → Prop} {w : World} {b : Nat} {T : Tab} {last : Int} (h : UpAt w b D T last) (hh : ∀ k, D k → D' k) : UpAt w b D' T last := by
  obtain ⟨cs, e, hr, hc⟩ := h
  refine ⟨cs, e, hr, hc.len, hc.tlen, hc.last_, hc.id, fun i x hx => ?_⟩
  obtain ⟨A, n, c, h1, h2, h3⟩ := hc.row i x hx
  exact ⟨A, n, c, h1, h2, fun k hk => hh k (h3 k hk)⟩
def pos (T : Tab) (id : Int) : Option Nat := T.findIdx? (fun x => x.1 == id)
theorem pos_some {T : Tab} {id : Int} {i : Nat} (h : pos T id = some i) : ∃ x, T[i]? = some x ∧ x.1 = id := by
  obtain ⟨h1, h2, h3⟩ := List.findIdx?_eq_some_iff_getElem.1 h
  exact ⟨T[i], List.getElem?_eq_getElem h1, by simpa using h2⟩
theorem place_calls (b : Nat) (id : Int) (w : World) (D : Nat → Prop) (T : Tab) (last : Int) (h : UpAt w b D T last) :
    Calls Try.prog 18 #[.pointer (some ⟨b, 0, none⟩), .int .i64 id] w fun e w' => e = .returned (.int .i64 (match pos T id with | some i => (i : Int) | none => -1)) ∧ w' = w := by
  refine (F18.of (some ⟨b, 0, none⟩) id w (Q := fun v w' => v = .int .i64 (match pos T id with | some i => (i : Int) | none => -1) ∧ w' = w) ?_).mono (fun e w' ⟨v, he, hv, h⟩ => ⟨by rw [he, hv], h⟩)
  obtain ⟨cs, e, hr, hc⟩ := h
  have htl := hc.tlen
  refine jnC_mk ?_
  refine loop_rule (fun s u => u = w ∧ ∃ i : Nat, i ≤ 8 ∧ s = (some ⟨b, 0, none⟩, id, (i : Int), ()) ∧ ∀ j x, j < i → T[j]? = some x → x.1 ≠ id)
    (fun s _ => (8 - s.2.2.1).toNat) ?_ _ _ ⟨rfl, 0, by omega, rfl, fun j x hj => by omega⟩
  rintro s u C ⟨rfl, i, hi, rfl, hne⟩ hC _
  refine vIf_mk (fun hlt => ?_) (fun hge => ?_)
  · have hlt2 : (i : Int) < 8 := of_decide_eq_true hlt
    obtain ⟨x, hx⟩ : ∃ x, T[i]? = some x := ⟨_, List.getElem?_eq_getElem (by omega)⟩
    have hcell : cellAt u b (0 + ((i : Int)).toNat * 2) = some (.int .i64 x.1) := by
      rw [Int.toNat_natCast, Nat.zero_add, Nat.mul_comm]
      exact hr.cell (hc.id i x hx)
    refine dr_mk (gd_mk (decide_eq_true (Int.natCast_nonneg i)) (gd_mk (decide_eq_true hlt2) ⟨_, hcell, vIf_mk (fun he => ⟨?_, rfl⟩) (fun he => jnC_mk (hC _ _ ⟨rfl, i + 1, by omega, ?_, ?_⟩ ?_))⟩))
    · have he : x.1 = id := by simpa using he
      have : pos T id = some i := by
        refine List.findIdx?_eq_some_iff_getElem.2 ⟨by omega, ?_, fun j hj => ?_⟩
        · have := (List.getElem?_eq_some_iff.1 hx).2
          rw [this]; simpa using he
        · have := hne j _ hj (List.getElem?_eq_getElem (by omega))
          simpa using this
      rw [this]
    · show (_, id, IntKind.wrap .i64 ((i : Int) + 1), ()) = _
      rw [i64_id (by omega) (by omega)]; rfl
    · intro j y hj hy
      by_cases hji : j = i
      · subst hji
        have : y = x := Option.some.inj (hy.symm.trans hx)
        subst this
        simpa using he
      · exact hne j y (by omega) hy
    · show ((8 : Int) - IntKind.wrap .i64 ((i : Int) + 1)).toNat < ((8 : Int) - i).toNat
      rw [i64_id (by omega) (by omega)]; omega
  · have hge2 : ¬ ((i : Int) < 8) := of_decide_eq_false hge
    refine ⟨?_, rfl⟩
    have : pos T id = none := by
      refine List.findIdx?_eq_none_iff.2 (fun x hx => ?_)
      obtain ⟨j, hj⟩ := List.mem_iff_getElem?.1 hx
      have hjl := (List.getElem?_eq_some_iff.1 hj).1
      have := hne j x (by omega) hj
      simpa using this
    rw [this]
/-- find's answer: where, or that it is not there -/
def fnd (T : Tab) (id : Int) : Option Nat := if id = 0 then none else pos T id
theorem find_calls (b : Nat) (id : Int) (w : World) (D : Nat → Prop) (T : Tab) (last : Int) (h : UpAt w b D T last) :
    Calls Try.prog 19 #[.pointer (some ⟨b, 0, none⟩), .int .i64 id] w fun e w' => e = .returned (match fnd T id with | some i => .tuple #[.int .i64 (i : Int), .int .i64 0] | none => .tuple #[.int .i64 0, .int .i64 6]) ∧ w' = w := by
  refine (F19.of (some ⟨b, 0, none⟩) id w (Q := fun v w' => v = (match fnd T id with | some i => .tuple #[.int .i64 (i : Int), .int .i64 0] | none => .tuple #[.int .i64 0, .int .i64 6]) ∧ w' = w) ?_).mono (fun e w' ⟨v, he, hv, h⟩ => ⟨by rw [he, hv], h⟩)
  refine vIf_f rfl ((place_calls b id w D T last h).mono ?_)
  rintro e w1 ⟨rfl, rfl⟩
  refine ⟨_, rfl, ?_⟩
  refine vIf_mk (fun h0 => ⟨?_, rfl⟩) (fun h0 => vIf_mk (fun h1 => ⟨?_, rfl⟩) (fun h1 => jnC_mk (fun _ => ⟨?_, rfl⟩)))
  · have h0 : id = 0 := by simpa using h0
    simp [fnd, h0]
  · have h0 : id ≠ 0 := by simpa using h0
    cases hp : pos T id with
    | none => simp [fnd, h0, hp]
    | some i =>
      rw [hp] at h1
      have h1 : (i : Int) < 0 := of_decide_eq_true h1
      omega
  · have h0 : id ≠ 0 := by simpa using h0
    cases hp : pos T id with
    | none =>
      rw [hp] at h1
      have h1 : ¬ ((-1 : Int) < 0) := of_decide_eq_false h1
      omega
    | some i => simp [fnd, h0, hp]
theorem fnd_some {T : Tab} {id : Int} {i : Nat} (h : fnd T id = some i) : ∃ x, T[i]? = some x ∧ x.1 = id := by
  unfold fnd at h
  split at h
  · cases h
  · exact pos_some h
/-- the table with one entry set: the cells that are written -/
theorem UpC.set {D D' : Nat → Prop} {w w' : World} {b : Nat} {e : TypeId} {T : Tab} {last : Int} {cs cs' : List Value} (h : UpC w D T last cs) (hD : ∀ k, D k → D' k) (hr : RecAt w b e cs) (f : Fr (fun k => k = b) w w') {i : Nat} {x : Int × List UInt8} (hi : i < 8) {last' : Int}
    (hlen : cs'.length = 17) (h16 : cs'[16]? = some (.int .i64 last')) (hid : cs'[2 * i]? = some (.int .i64 x.1)) (hrow : ∃ (A : Option Addr) (n c : Nat), cs'[2 * i + 1]? = some (Value.slice A n c) ∧ Sl w' 1 A n (x.2.map bv) ∧ ∀ k, blkOf A = some k → D' k)
    (hoth : ∀ j, j ≠ 2 * i → j ≠ 2 * i + 1 → j ≠ 16 → cs'[j]? = cs[j]?) : UpC w' D' (T.set i x) last' cs' := by
  have htl := h.tlen
  refine ⟨hlen, by rw [List.length_set]; exact h.tlen, h16, fun j y hy => ?_, fun j y hy => ?_⟩
  · have hjl := (List.getElem?_eq_some_iff.1 hy).1
    rw [List.length_set] at hjl
    rw [List.getElem?_set] at hy
    split at hy
    · rename_i hij
      subst hij
      rw [if_pos (by omega)] at hy
      injection hy with hy
      subst hy
      exact hid
    · rw [hoth _ (by omega) (by omega) (by omega)]
      exact h.id j y hy
  · have hjl := (List.getElem?_eq_some_iff.1 hy).1
    rw [List.length_set] at hjl
    rw [List.getElem?_set] at hy
    split at hy
    · rename_i hij
      subst hij
      rw [if_pos (by omega)] at hy
      injection hy with hy
      subst hy
      exact hrow
    · obtain ⟨A, n, c, h1, h2, h3⟩ := h.row j y hy
      refine ⟨A, n, c, by rw [hoth _ (by omega) (by omega) (by omega)]; exact h1, f.sl h2 (fun h0 k hk => h2.not_in hr h.noB h0 k hk), fun k hk => hD k (h3 k hk)⟩
theorem new_calls (w : World) : Calls Try.prog 6 #[] w fun e w' => e = .returned (.pointer (some ⟨w.heap.size, 0, none⟩)) ∧ UpAt w' w.heap.size (fun _ => False) (List.replicate 8 (0, [])) 0 ∧ Fr (fun _ => False) w w' ∧ w.heap.size < w'.heap.size := by
  refine (F6.of w (Q := fun v w' => v = .pointer (some ⟨w.heap.size, 0, none⟩) ∧ UpAt w' w.heap.size (fun _ => False) (List.replicate 8 (0, [])) 0 ∧ Fr (fun _ => False) w w' ∧ w.heap.size < w'.heap.size) ?_).mono (fun e w' ⟨v, he, hv, h⟩ => ⟨by rw [he, hv], h⟩)
  refine nw_mk ⟨rfl, ⟨_, _, RecAt.new w _ _, ?_⟩, Fr.alloc _ _ _, by rw [alloc_size]; omega⟩
  refine ⟨rfl, rfl, rfl, fun i x hx => ?_, fun i x hx => ?_⟩
  · match i, hx with
    | 0, hx | 1, hx | 2, hx | 3, hx | 4, hx | 5, hx | 6, hx | 7, hx => injection hx with hx; subst hx; rfl
    | n + 8, hx => exact absurd (List.getElem?_eq_some_iff.1 hx).1 (by simp)
  · match i, hx with
    | 0, hx | 1, hx | 2, hx | 3, hx | 4, hx | 5, hx | 6, hx | 7, hx => injection hx with hx; subst hx; exact ⟨none, 0, 0, rfl, Sl.nil _ _ _, fun _ h => by cases h⟩
    | n + 8, hx => exact absurd (List.getElem?_eq_some_iff.1 hx).1 (by simp)
end Go.Proofs.Ytihifmamdeafdaa
