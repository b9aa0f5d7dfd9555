/- chapter 37: the deeds. -/
import Derived.Test.YtihifmamdeafdaaH
namespace Go.Proofs.Ytihifmamdeafdaa
open Go.GV Go.RowKit
set_option linter.unusedVariables false
theorem one1 {v : Value} (h : v.oneCell' = true) : ∀ u ∈ [v], u.oneCell' = true := by intro u hu; simp only [List.mem_singleton] at hu; subst hu; exact h
theorem one2 {v v' : Value} (h : v.oneCell' = true) (h' : v'.oneCell' = true) : ∀ u ∈ [v, v'], u.oneCell' = true := by
  intro u hu
  simp only [List.mem_cons, List.not_mem_nil, or_false] at hu
  rcases hu with rfl | rfl
  · exact h
  · exact h'
/-- Begin at a table with room -/
theorem begin_calls (b : Nat) (w : World) (D : Nat → Prop) (T : Tab) (last : Int) (h : UpAt w b D T last) (hl : 0 ≤ last ∧ last < 4611686018427387904) :
    Calls Try.prog 7 #[.pointer (some ⟨b, 0, none⟩)] w fun e w' => (match pos T 0 with
      | none => e = .returned (.tuple #[.int .i64 0, .int .i64 8]) ∧ UpAt w' b D T last
      | some i => e = .returned (.tuple #[.int .i64 (last + 1), .int .i64 0]) ∧ UpAt w' b D (T.set i (last + 1, [])) (last + 1)) ∧ Fr (fun k => k = b) w w' := by
  refine (F7.of (some ⟨b, 0, none⟩) w (Q := fun v w' => (match pos T 0 with
      | none => v = (.tuple #[.int .i64 0, .int .i64 8]) ∧ UpAt w' b D T last
      | some i => v = (.tuple #[.int .i64 (last + 1), .int .i64 0]) ∧ UpAt w' b D (T.set i (last + 1, [])) (last + 1)) ∧ Fr (fun k => k = b) w w') ?_).mono (fun e w' ⟨v, he, hv, h⟩ => ⟨by
        subst he
        cases hp : pos T 0 with
        | none => rw [hp] at hv; exact ⟨by rw [hv.1], hv.2⟩
        | some i => rw [hp] at hv; exact ⟨by rw [hv.1], hv.2⟩, h⟩)
  refine vIf_f rfl ((place_calls b 0 w D T last h).mono ?_)
  rintro e w1 ⟨rfl, rfl⟩
  refine ⟨_, rfl, ?_⟩
  obtain ⟨cs, ty, hr, hc⟩ := h
  cases hp : pos T 0 with
  | none =>
    exact vIf_t rfl ⟨⟨rfl, ⟨cs, ty, hr, hc⟩⟩, Fr.refl _ _⟩
  | some i =>
    have hi : i < 8 := by
      obtain ⟨x, hx, _⟩ := pos_some hp
      have := (List.getElem?_eq_some_iff.1 hx).1
      rw [hc.tlen] at this; exact this
    refine vIf_f (decide_eq_false (by show ¬ ((i : Int) < 0); omega)) (dr_mk ⟨last, hr.cell hc.last_, dr_mk ?_⟩)
    have hw : IntKind.wrap .i64 (last + 1) = last + 1 := i64_id (by omega) (by omega)
    rw [hw]
    refine hr.st_mk (o := 0 + 16) (by simp [hc.len]) (one1 rfl) (fun r1 f1 => ?_)
    have l1 : (splice cs (0 + 16) [Value.int .i64 (last + 1)]).length = 17 := by rw [splice_len (by simp [hc.len]), hc.len]
    have g1 : ∀ j, (splice cs (0 + 16) [Value.int .i64 (last + 1)])[j]? = if j = 16 then some (.int .i64 (last + 1)) else cs[j]? := fun j => by
      rw [splice_get (by simp [hc.len])]
      by_cases h1 : j < 0 + 16
      · rw [if_pos h1, if_neg (by omega)]
      · rw [if_neg h1]
        by_cases h2 : j = 16
        · subst h2; rfl
        · rw [if_neg (by simp; omega), if_neg h2]
    have r1d : RecAt (stB w1 b (0 + 16) [Value.int .i64 (last + 1)]).drew b ty (splice cs (0 + 16) [Value.int .i64 (last + 1)]) := r1
    refine dr_mk ⟨last + 1, r1d.cell (by rw [g1]; rfl), dr_mk (gd_mk (decide_eq_true (Int.natCast_nonneg i)) (gd_mk (decide_eq_true (by show (i : Int) < 8; omega)) (gd_mk rfl ?_)))⟩
    rw [Int.toNat_natCast]
    refine r1d.st_mk (o := 0 + i * 2) (vs := [Value.int .i64 (last + 1), Value.slice none 0 0]) (by rw [l1]; simp; omega) (one2 rfl rfl) (fun r2 f2 => ?_)
    have g2 : ∀ j, (splice (splice cs (0 + 16) [Value.int .i64 (last + 1)]) (0 + i * 2) [Value.int .i64 (last + 1), Value.slice none 0 0])[j]? = if j < 2 * i then (if j = 16 then some (.int .i64 (last + 1)) else cs[j]?) else if j = 2 * i then some (.int .i64 (last + 1)) else if j = 2 * i + 1 then some (.slice none 0 0) else (if j = 16 then some (.int .i64 (last + 1)) else cs[j]?) := fun j => by
      rw [splice_get (by rw [l1]; simp; omega), g1]
      by_cases h1 : j < 2 * i
      · rw [if_pos (by omega), if_pos h1]
      · rw [if_neg (by omega), if_neg h1]
        by_cases h2 : j = 2 * i
        · subst h2; rw [if_pos (by simp; omega), if_pos rfl]
          rw [show 2 * i - (0 + i * 2) = 0 by omega]; rfl
        · rw [if_neg h2]
          by_cases h3 : j = 2 * i + 1
          · subst h3; rw [if_pos (by simp; omega), if_pos rfl]
            rw [show 2 * i + 1 - (0 + i * 2) = 1 by omega]; rfl
          · rw [if_neg (by simp; omega), if_neg h3]
    have f12 : Fr (fun k => k = b) w1 (stB (stB w1 b (0 + 16) [Value.int .i64 (last + 1)]).drew b (0 + i * 2) [Value.int .i64 (last + 1), Value.slice none 0 0]) := (f1.trans1 (Fr.drew _ _)).trans1 f2
    refine dr_mk ⟨last + 1, r2.cell (by rw [g2, if_neg (by omega), if_neg (by omega), if_neg (by omega)]; rfl), ⟨rfl, ⟨_, _, r2, ?_⟩⟩, f12⟩
    refine hc.set (D' := D) (fun _ h => h) (x := (last + 1, [])) hr f12 hi (by rw [splice_len (by rw [l1]; simp; omega), l1]) ?_ ?_ ⟨none, 0, 0, ?_, Sl.nil _ _ _, fun _ h => by cases h⟩ (fun j h1 h2 h3 => ?_)
    · rw [g2, if_neg (by omega), if_neg (by omega), if_neg (by omega)]; rfl
    · rw [g2, if_neg (by omega), if_pos rfl]
    · rw [g2, if_neg (by omega), if_neg (by omega), if_pos rfl]
    · rw [g2]
      by_cases h4 : j < 2 * i
      · rw [if_pos h4, if_neg h3]
      · rw [if_neg h4, if_neg h1, if_neg h2, if_neg h3]
/-- what Chunk answers, and what the table then is -/
def chunkT (T : Tab) (id off : Int) (l : List UInt8) (most : Int) : Int × Tab :=
  match fnd T id with
  | none => (6, T)
  | some i => match T[i]? with
    | none => (6, T)
    | some x => if off ≠ (x.2.length : Int) then (17, T) else if ((x.2.length + l.length : Nat) : Int) > most then (18, T) else (0, T.set i (x.1, x.2 ++ l))
theorem chunk_calls (b : Nat) (id off : Int) (A : Option Addr) (n c : Nat) (l : List UInt8) (most : Int) (w : World) (D : Nat → Prop) (T : Tab) (last : Int) (h : UpAt w b D T last) (hl : Sl w 1 A n (l.map bv)) (hn : n ≤ 1099511627776) (hT : ∀ (i : Nat) (x : Int × List UInt8), T[i]? = some x → x.2.length ≤ 549755813888) (hn2 : n ≤ 549755813888) :
    Calls Try.prog 8 #[.pointer (some ⟨b, 0, none⟩), .int .i64 id, .int .i64 off, .slice A n c, .int .i64 most] w fun e w' => e = .returned (.int .i64 (chunkT T id off l most).1) ∧ UpAt w' b (fun k => D k ∨ (w.heap.size ≤ k ∧ k < w'.heap.size)) (chunkT T id off l most).2 last ∧ Fr (fun k => k = b) w w' := by
  have hll : l.length = n := by simpa using hl.1
  refine (F8.of (some ⟨b, 0, none⟩) id off A n c most w (Q := fun v w' => v = .int .i64 (chunkT T id off l most).1 ∧ UpAt w' b (fun k => D k ∨ (w.heap.size ≤ k ∧ k < w'.heap.size)) (chunkT T id off l most).2 last ∧ Fr (fun k => k = b) w w') ?_).mono (fun e w' ⟨v, he, hv, h⟩ => ⟨by rw [he, hv], h⟩)
  refine (find_calls b id w D T last h).mono ?_
  rintro e w1 ⟨rfl, rfl⟩
  cases hf : fnd T id with
  | none =>
    have hch : chunkT T id off l most = (6, T) := by simp [chunkT, hf]
    rw [hch]
    exact ⟨_, _, rfl, vIf_t rfl ⟨rfl, h.mono (fun _ h => .inl h), Fr.refl _ _⟩⟩
  | some i =>
    obtain ⟨x, hx, hxi⟩ := fnd_some hf
    obtain ⟨cs, ty, hr, hc⟩ := h
    have hi : i < 8 := by
      have := (List.getElem?_eq_some_iff.1 hx).1
      rw [hc.tlen] at this; exact this
    have hxl := hT i x hx
    obtain ⟨B, m, k, hB1, hB2, hBD⟩ := hc.row i x hx
    have hm : x.2.length = m := by simpa using hB2.1
    refine ⟨_, _, rfl, vIf_f rfl (dr_mk (gd_mk (decide_eq_true (Int.natCast_nonneg i)) (gd_mk (decide_eq_true (by show (i : Int) < 8; omega)) ?_)))⟩
    rw [Int.toNat_natCast]
    have hcell : cellAt w1 b (0 + i * 2 + 1) = some (.slice B m k) := hr.cell (by rw [show 0 + i * 2 + 1 = 2 * i + 1 by omega]; exact hB1)
    refine ⟨B, m, k, hcell, vIf_mk (fun h1 => ?_) (fun h1 => vIf_mk (fun h2 => ?_) (fun h2 => dr_mk (gd_mk (decide_eq_true (Int.natCast_nonneg i)) (gd_mk (decide_eq_true (by show (i : Int) < 8; omega)) ?_))))⟩
    · have h1 : off ≠ (m : Int) := by simpa using h1
      have hch : chunkT T id off l most = (17, T) := by simp only [chunkT, hf, hx]; rw [if_pos (by rw [hm]; exact h1)]
      rw [hch]
      exact ⟨rfl, UpAt.mono ⟨cs, ty, hr, hc⟩ (fun _ h => .inl h), Fr.refl _ _⟩
    · have h1 : off = (m : Int) := by simpa using h1
      have h2 : IntKind.wrap .i64 ((m : Int) + (n : Int)) > most := of_decide_eq_true h2
      rw [i64_id (by omega) (by omega)] at h2
      have hch : chunkT T id off l most = (18, T) := by simp only [chunkT, hf, hx]; rw [if_neg (by rw [hm]; exact fun h => h h1), if_pos (by omega)]
      rw [hch]
      exact ⟨rfl, UpAt.mono ⟨cs, ty, hr, hc⟩ (fun _ h => .inl h), Fr.refl _ _⟩
    · have h1 : off = (m : Int) := by simpa using h1
      have h2 : ¬ IntKind.wrap .i64 ((m : Int) + (n : Int)) > most := of_decide_eq_false h2
      rw [i64_id (by omega) (by omega)] at h2
      have hch : chunkT T id off l most = (0, T.set i (x.1, x.2 ++ l)) := by simp only [chunkT, hf, hx]; rw [if_neg (by rw [hm]; exact fun h => h h1), if_neg (by omega)]
      rw [hch]
      refine ⟨B, m, k, hcell, dr_mk (nw_mk ?_)⟩
      have f1 : Fr (fun _ => False) w1 (w1.drew.alloc (.cells [Value.slice B m k, Value.slice A n c].toArray 28)) := (Fr.drew _ _).trans1 (Fr.alloc _ _ _)
      have hrow : Row (w1.drew.alloc (.cells [Value.slice B m k, Value.slice A n c].toArray 28)) 0 28 1 (some ⟨w1.heap.size, 0, none⟩) 2 2 [Value.slice B m k, Value.slice A n c] := Row.new (w := w1.drew) (Nat.zero_le _) rfl
      refine (concat_calls (some ⟨w1.heap.size, 0, none⟩) 2 2 _ [x.2, l] _ hrow.sl rfl (fun j y hy => ?_) (by simp; omega) (by omega)).mono ?_
      · match j, hy with
        | 0, hy => injection hy with hy; subst hy; exact ⟨B, m, k, rfl, f1.sl hB2 (fun _ _ _ h => h)⟩
        | 1, hy => injection hy with hy; subst hy; exact ⟨A, n, c, rfl, f1.sl hl (fun _ _ _ h => h)⟩
      rintro e w2 ⟨f2, R, rc, rfl, hR⟩
      have f12 := f1.trans1 f2
      have hfl : [x.2, l].flatten = x.2 ++ l := by simp
      rw [hfl] at hR ⊢
      refine ⟨R, _, rc, rfl, gd_mk (decide_eq_true (Int.natCast_nonneg i)) (gd_mk (decide_eq_true (by show (i : Int) < 8; omega)) ?_)⟩
      have hr2 := hr.fr f12 (fun h => h)
      have hbl := hr.lt
      have hRb : ∀ g, blkOf R = some g → g ≠ b := fun g hg he => by
        have := (hR.blt hg).1
        have h3 := f1.size
        omega
      refine hr2.st_mk (o := 0 + i * 2 + 1) (by rw [hc.len]; simp; omega) (one1 rfl) (fun r3 f3 => ?_)
      have f13 : Fr (fun k => k = b) w1 (stB w2 b (0 + i * 2 + 1) [Value.slice R (x.2 ++ l).length rc]) := f12.trans f3 (fun _ _ h => h.elim) (fun _ _ h => h)
      have g3 : ∀ j, (splice cs (0 + i * 2 + 1) [Value.slice R (x.2 ++ l).length rc])[j]? = if j = 2 * i + 1 then some (.slice R (x.2 ++ l).length rc) else cs[j]? := fun j => by
        rw [splice_get (by rw [hc.len]; simp; omega)]
        by_cases h4 : j < 0 + i * 2 + 1
        · rw [if_pos h4, if_neg (by omega)]
        · rw [if_neg h4]
          by_cases h5 : j = 2 * i + 1
          · subst h5; rw [if_pos (by simp; omega), if_pos rfl, show 2 * i + 1 - (0 + i * 2 + 1) = 0 by omega]; rfl
          · rw [if_neg (by simp; omega), if_neg h5]
      refine ⟨rfl, ⟨_, _, r3, hc.set (fun _ h => .inl h) (x := (x.1, x.2 ++ l)) hr f13 hi (by rw [splice_len (by rw [hc.len]; simp; omega), hc.len]) ?_ ?_ ⟨R, (x.2 ++ l).length, rc, ?_, ?_, fun g hg => .inr ?_⟩ (fun j h4 h5 h6 => ?_)⟩, f13⟩
      · rw [g3, if_neg (by omega)]; exact hc.last_
      · rw [g3, if_neg (by omega)]; exact hc.id i x hx
      · rw [g3, if_pos rfl]
      · exact f3.sl hR.sl (fun _ g hg => hRb g hg)
      · have h7 := hR.blt hg
        have h8 := f1.size
        rw [stB_size]; omega
      · rw [g3, if_neg h5]
/-- what Data answers -/
def dataT (T : Tab) (id : Int) : Option (List UInt8) := (fnd T id).bind fun i => (T[i]?).map (·.2)
theorem data_calls (b : Nat) (id : Int) (w : World) (D : Nat → Prop) (T : Tab) (last : Int) (h : UpAt w b D T last) (hT : ∀ (i : Nat) (x : Int × List UInt8), T[i]? = some x → x.2.length ≤ 1099511627776) :
    Calls Try.prog 9 #[.pointer (some ⟨b, 0, none⟩), .int .i64 id] w fun e w' => Fr (fun _ => False) w w' ∧ (match dataT T id with
      | none => e = .returned (.tuple #[.slice none 0 0, .int .i64 6])
      | some l => ∃ A n c, e = .returned (.tuple #[.slice A n c, .int .i64 0]) ∧ Row w' w.heap.size 5 1 A n c (l.map bv)) := by
  refine (F9.of (some ⟨b, 0, none⟩) id w (Q := fun v w' => Fr (fun _ => False) w w' ∧ (match dataT T id with
      | none => v = .tuple #[.slice none 0 0, .int .i64 6]
      | some l => ∃ A n c, v = .tuple #[.slice A n c, .int .i64 0] ∧ Row w' w.heap.size 5 1 A n c (l.map bv))) ?_).mono (fun e w' ⟨v, he, hf, hv⟩ => ⟨hf, by
        subst he
        cases hd : dataT T id with
        | none => rw [hd] at hv; exact congrArg _ hv
        | some l => rw [hd] at hv; obtain ⟨A, n, c, hv, h⟩ := hv; exact ⟨A, n, c, by rw [hv], h⟩⟩)
  refine (find_calls b id w D T last h).mono ?_
  rintro e w1 ⟨rfl, rfl⟩
  cases hf : fnd T id with
  | none =>
    have hd : dataT T id = none := by simp [dataT, hf]
    rw [hd]
    exact ⟨_, _, rfl, vIf_t rfl ⟨Fr.refl _ _, rfl⟩⟩
  | some i =>
    obtain ⟨x, hx, hxi⟩ := fnd_some hf
    obtain ⟨cs, ty, hr, hc⟩ := h
    have hi : i < 8 := by
      have := (List.getElem?_eq_some_iff.1 hx).1
      rw [hc.tlen] at this; exact this
    obtain ⟨B, m, k, hB1, hB2, hBD⟩ := hc.row i x hx
    have hd : dataT T id = some x.2 := by simp [dataT, hf, hx]
    rw [hd]
    have hm : x.2.length = m := by simpa using hB2.1
    have hxl := hT i x hx
    refine ⟨_, _, rfl, vIf_f rfl (dr_mk (gd_mk (decide_eq_true (Int.natCast_nonneg i)) (gd_mk (decide_eq_true (by show (i : Int) < 8; omega)) ?_)))⟩
    rw [Int.toNat_natCast]
    refine ⟨B, m, k, hr.cell (by rw [show 0 + i * 2 + 1 = 2 * i + 1 by omega]; exact hB1), ?_⟩
    refine (clone_calls B m k x.2 w1 hB2 (fun hB => ?_) (by omega)).mono ?_
    · rcases Nat.eq_zero_or_pos m with h0 | h0
      · exact h0
      · obtain ⟨b', o, hb', _⟩ := hB2.2 (by omega)
        rw [hB] at hb'; cases hb'
    rintro e w2 ⟨f2, R, rc, rfl, hR⟩
    exact ⟨R, m, rc, rfl, f2, R, m, rc, rfl, hR⟩
end Go.Proofs.Ytihifmamdeafdaa
