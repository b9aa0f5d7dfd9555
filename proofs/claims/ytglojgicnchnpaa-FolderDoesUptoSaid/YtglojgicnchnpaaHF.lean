/- chapter 11: the document's Do; Names, Same -/
import Derived.Test.YtglojgicnchnpaaHE
namespace Go.Proofs.Ytglojgicnchnpaa
open Go.GV Go.RowKit Go.Lib Go.Stb
set_option linter.unusedVariables false
set_option linter.unusedSimpArgs false
set_option maxHeartbeats 2000000 in
theorem rdo_calls (cs : List Value) (F : Fo) (x : Ch) (w : World) (h : FoAt w cs F) (hb : FoB F) (hx : ChB x) :
    Calls Try.prog 7 #[ofL cs, ofL (encC x)] w fun e w' => Fr (fun _ => False) w w' ∧ ∃ cs', e = .returned (.tuple #[ofL cs', .int .i64 (wrongF F x)]) ∧ FoAt w' cs' (doF F x) := by
  refine (F7.of cs _ w (Q := fun v w' => Fr (fun _ => False) w w' ∧ ∃ cs', v = .tuple #[ofL cs', .int .i64 (wrongF F x)] ∧ FoAt w' cs' (doF F x)) ?_).mono (fun e w' ⟨v, he, hf, cs', hv, h⟩ => ⟨hf, cs', by rw [he, hv], h⟩)
  have hb' : F.L.length + F.P.length ≤ 349525 := hb
  refine fo_new (fun b1 w1 f1 _ r1 => ch_new (fun b3 w2 f2 hb3 r3 => fo_new (fun b5 w3 f3 hb5 r5 => ⟨cs, h.len, rec_rd ((r1.fr f2 (fun h => h)).fr f3 (fun h => h)), x.nm, (r3.fr f3 (fun h => h)).cell rfl, ?_⟩)))
  have g := (f1.trans1 f2).trans1 f3
  have r1 := (r1.fr f2 (fun h => h)).fr f3 (fun h => h)
  have r3 := r3.fr f3 (fun h => h)
  have hw5 : w.heap.size ≤ b5 := Nat.le_trans (Nat.le_trans f1.size f2.size) hb5
  refine (rfindF_calls cs F x.nm w3 (h.fr0 g) hb).mono ?_
  rintro r w4 ⟨rfl, f4⟩
  have g := g.trans1 f4
  have r1 := r1.fr f4 (fun h => h)
  have r3 := r3.fr f4 (fun h => h)
  have r5 := r5.fr f4 (fun h => h)
  generalize hin : (findN x.nm (nowF F)).isSome = t
  -- an error
  have bad : ∀ (k : Int), wrongF F x = k → k ≠ 0 → ∃ a : List Value, a.length = 2 ∧ cellsAt w4 b1 0 a ∧ gd (a.length == 2) (st w4 b5 0 a fun w15 => ldA 2 w15 b5 0 fun a16 => Fr (fun _ => False) w w15 ∧ ∃ cs', Value.tuple #[ofL a16, Value.int .i64 k] = .tuple #[ofL cs', .int .i64 (wrongF F x)] ∧ FoAt w15 cs' (doF F x)) := by
    intro k hk h0
    have e : doF F x = F := if_neg (by rw [hk]; exact h0)
    rw [e, hk]
    refine ⟨cs, h.len, rec_rd r1, gd_mk (by rw [h.len]; rfl) (fo_st r5 h.len h.one (fun w5 f5 r5' => ⟨cs, h.len, rec_rd r5', ?_, cs, rfl, ?_⟩))⟩
    · exact g.trans f5 (fun _ _ h => h) (fun k hk h => by omega)
    · exact h.fr0 (g.trans f5 (fun _ _ h => h) (fun k hk h => by omega))
  -- all is well
  have good : wrongF F x = 0 → F7.k12 (fun v w' => Fr (fun _ => False) w w' ∧ ∃ cs', v = .tuple #[ofL cs', .int .i64 (wrongF F x)] ∧ FoAt w' cs' (doF F x)) ((b1, 0), (b3, 0), (b5, 0), ()) w4 := by
    intro h0 _
    have e : doF F x = ⟨F.L, F.P ++ [x]⟩ := if_pos h0
    rw [e, h0]
    obtain ⟨A, n, c, A', n', c', rfl, hL, hP, hPc⟩ := h
    have hPl := hP.2
    have b1l := r1.lt
    have b3l := r3.lt
    have b5l := r5.lt
    refine ⟨A', n', c', r1.cell rfl, app_row (us := flt encC F.P) (m := n') (old := []) (B := w4.heap.size) (Row.nil _ _ _ _) (hP.fr0 g).1.src (encC_o.fo _) rfl (by omega) (by omega) (Nat.le_refl _) (fun A2 c2 u1 h2 q1 => ?_)⟩
    rw [List.nil_append, Nat.zero_add] at h2
    rw [Nat.zero_add]
    have q1 : Fr (fun _ => False) w4 u1 := q1.mono (fun k _ h => by cases h)
    have qd := q1.trans1 (Fr.drew _ u1)
    have r1d := r1.fr qd (fun h => h)
    have r3d := r3.fr qd (fun h => h)
    refine ⟨A, n, c, r1d.cell rfl, encC x, rfl, rec_rd r3d, gd_mk rfl (nw_mk ?_)⟩
    rw [List.append_nil]
    have q2 : Fr (fun _ => False) u1.drew (u1.drew.alloc (.cells (encC x).toArray 27)) := Fr.alloc _ _ _
    have s2 := RecAt.new u1.drew (encC x) 27
    have h2d := (Fr.drew (fun _ => False) u1).row h2 (fun _ _ h => h)
    generalize u1.drew.heap.size = b27 at s2 ⊢
    generalize u1.drew.alloc (.cells (encC x).toArray 27) = u2 at q2 s2 ⊢
    have q12 := qd.trans1 q2
    refine kp_mk q2 r1d.lt (fun h => h) (push_c (q2.row h2d (fun _ _ h => h)) hPl s2 (by have := q12.size; omega) (by omega) (fun A3 c3 u3 hle3 h3 q3 hB3 => ?_))
    have q23 : Fr (fun _ => False) w4 u3 := fr_own q12 (fun k hk => (h2.blt hk).1) (Nat.le_refl _) q3
    refine kp_mk (S := fun k => blkOf A2 = some k) ((q2.mono (fun _ _ h => h.elim)).trans1 q3) r1d.lt (fun h => by have h5 : w4.heap.size ≤ b1 := (h2.blt h).1; omega) (gd_mk rfl (fo_st (r5.fr q23 (fun h => h)) (by rfl) oneP (fun w5 f5 r5' => ⟨_, rfl, rec_rd r5', ?_, _, rfl, A, n, c, A3, _, c3, rfl, ?_, ?_, hle3⟩)))
    · exact (g.trans1 q23).trans f5 (fun _ _ h => h) (fun k hk h => by omega)
    · exact hL.fr0 ((g.trans1 q23).trans f5 (fun _ _ h => h) (fun k hk h => by omega))
    · exact ⟨f5.sl h3.1 (fun _ k hk h => by have := hB3 k hk; omega), h3.2⟩
  have k3 : ∀ t3 : Bool, (t3 = true ↔ x.k < 1 ∨ x.k > 3) → jnC (F7.k3 (fun v w' => Fr (fun _ => False) w w' ∧ ∃ cs', v = .tuple #[ofL cs', .int .i64 (wrongF F x)] ∧ FoAt w' cs' (doF F x))) ((b1, 0), (b3, 0), (b5, 0), t, t3, ()) w4 := by
    intro t3 h3
    refine jnC_mk (fun _ => vIf_mk (fun h => ?_) (fun h => jnC_mk (fun _ => ?_)))
    · have h : t3 = true := h
      have h' := h3.1 h
      refine bad 2 ?_ (by decide)
      unfold wrongF
      rw [if_neg (by omega), if_neg (by omega), if_neg (by omega)]
    have h : t3 = false := h
    have hr : 1 ≤ x.k ∧ x.k ≤ 3 := by
      have : ¬ (x.k < 1 ∨ x.k > 3) := fun h' => by rw [h3.2 h'] at h; cases h
      omega
    refine ⟨x.k, r3.cell rfl, vIf_mk (fun hk => ?_) (fun hk => ?_)⟩
    · have hk : x.k = 1 := by simpa using hk
      refine ⟨x.nm, r3.cell rfl, (rdisk_calls x.nm w4 hx.1).mono ?_⟩
      rintro r w5 ⟨⟨td, rfl, htd⟩, rfl⟩
      refine ⟨_, rfl, jnC_mk (fun _ => vIf_mk (fun h1 => ?_) (fun h1 => jnC_mk (fun _ => ⟨x.k, r3.cell rfl, vIf_t (by rw [hk]; rfl) (jnC_mk (fun _ => vIf_mk (fun h2 => ?_) (fun h2 => ?_)))⟩)))⟩
      · have h1 : td = false := by simpa using h1
        refine bad 12 ?_ (by decide)
        unfold wrongF
        rw [if_pos hk, if_pos (fun h => by rw [htd.2 h] at h1; cases h1)]
      · have h1 : td = true := by simpa using h1
        have h2 : t = true := h2
        refine bad 7 ?_ (by decide)
        unfold wrongF
        rw [if_pos hk, if_neg (not_not_intro (htd.1 h1)), hin, if_pos h2]
      · have h1 : td = true := by simpa using h1
        have h2 : t = false := h2
        refine jnC_mk (fun _ => ⟨x.k, r3.cell rfl, vIf_f (decide_eq_false (by omega)) (jnC_mk (fun _ => vIf_f rfl (jnC_mk (fun _ => ⟨x.k, r3.cell rfl, vIf_f (by rw [hk]; rfl) (jnC_mk (fun _ => vIf_f rfl (jnC_mk (good ?_))))⟩))))⟩)
        unfold wrongF
        rw [if_pos hk, if_neg (not_not_intro (htd.1 h1)), hin, if_neg (by rw [h2]; decide)]
    · have hk : ¬ x.k = 1 := by simpa using hk
      refine jnC_mk (fun _ => vIf_f rfl (jnC_mk (fun _ => ⟨x.k, r3.cell rfl, vIf_f (by simpa using hk) ?_⟩)))
      refine jnC_mk (fun _ => vIf_f rfl (jnC_mk (fun _ => ⟨x.k, r3.cell rfl, vIf_t (decide_eq_true (by omega)) ?_⟩)))
      refine jnC_mk (fun _ => vIf_mk (fun h1 => ?_) (fun h1 => jnC_mk (fun _ => ⟨x.k, r3.cell rfl, vIf_mk (fun hk2 => ?_) (fun hk2 => ?_)⟩)))
      · have h1 : t = false := by simpa using h1
        refine bad 6 ?_ (by decide)
        unfold wrongF
        by_cases hk2 : x.k = 2
        · rw [if_neg hk, if_pos hk2, hin, if_neg (by rw [h1]; decide)]
        · rw [if_neg hk, if_neg hk2, if_pos (by omega), hin, if_neg (by rw [h1]; decide)]
      · have h1 : t = true := by simpa using h1
        have hk2 : x.k = 2 := by simpa using hk2
        refine ⟨x.to, r3.cell rfl, (rdisk_calls x.to w4 hx.2).mono ?_⟩
        rintro r w5 ⟨⟨td, rfl, htd⟩, rfl⟩
        refine ⟨_, rfl, jnC_mk (fun _ => vIf_mk (fun h2 => ?_) (fun h2 => jnC_mk (good ?_)))⟩
        · have h2 : td = false := by simpa using h2
          refine bad 12 ?_ (by decide)
          unfold wrongF
          rw [if_neg hk, if_pos hk2, hin, if_pos h1, if_pos (fun h => by rw [htd.2 h] at h2; cases h2)]
        · have h2 : td = true := by simpa using h2
          unfold wrongF
          rw [if_neg hk, if_pos hk2, hin, if_pos h1, if_neg (not_not_intro (htd.1 h2))]
      · have h1 : t = true := by simpa using h1
        have hk2 : ¬ x.k = 2 := by simpa using hk2
        refine jnC_mk (fun _ => vIf_f rfl (jnC_mk (good ?_)))
        unfold wrongF
        rw [if_neg hk, if_neg hk2, if_pos (by omega), hin, if_pos h1]
  refine ⟨_, _, rfl, x.k, r3.cell rfl, vIf_mk (fun h1 => k3 true ⟨fun _ => .inl (of_decide_eq_true h1), fun _ => rfl⟩) (fun h1 => ⟨x.k, r3.cell rfl, k3 _ ?_⟩)⟩
  have h1 := of_decide_eq_false h1
  rw [decide_eq_true_iff]
  exact ⟨fun h => .inr h, fun h => h.resolve_left h1⟩
/-! ### Names, Same -/
theorem ba_self (a : ByteArray) : (a == a) = true := by
  first
    | exact beq_self_eq_true a
    | exact beq_self_eq_true a.data
    | exact decide_eq_true rfl
theorem mxqL_self : ∀ X : List (ByteArray ⊕ Int), mxqL X X = true
  | [] => rfl
  | .inl a :: r => by simp [mxqL, mxq, mxqL_self r, ba_self]
  | .inr a :: r => by simp [mxqL, mxq, mxqL_self r]
theorem eqN (x : Nm) {K : Bool → Prop} (hK : K true) : eqMx [true, false] (encN x) (encN x) K :=
  ⟨[.inl x.1, .inr x.2], [.inl x.1, .inr x.2], rfl, rfl, rfl, rfl, by rw [mxqL_self]; exact hK⟩
theorem eqC (x : Ch) {K : Bool → Prop} (hK : K true) : eqMx [false, true, true, false] (encC x) (encC x) K :=
  ⟨[.inr x.k, .inl x.nm, .inl x.to, .inr x.id], [.inr x.k, .inl x.nm, .inl x.to, .inr x.id], rfl, rfl, rfl, rfl, by rw [mxqL_self]; exact hK⟩
theorem names_calls (A : Option Addr) (n c : Nat) (A' : Option Addr) (n' c' : Nat) (l : List Nm) (w : World) (h : NSl w A n l) (h' : NSl w A' n' l) (hn : n ≤ 1073741824) :
    Calls Try.prog 11 #[.slice A n c, .slice A' n' c'] w fun e w' => e = .returned (.bool true) ∧ Fr (fun _ => False) w w' := by
  refine (F11.of A n c A' n' c' w (Q := fun v w' => v = .bool true ∧ Fr (fun _ => False) w w') ?_).mono (fun e w' ⟨v, he, hv, h⟩ => ⟨by rw [he, hv], h⟩)
  have hl := h.2
  have hl' := h'.2
  refine vIf_f (by simp; omega) (jnC_mk (loop_rule (fun s u => Fr (fun _ => False) w u ∧ ∃ i : Nat, i ≤ n ∧ s = ((A, n, c), (A', n', c'), (i : Int), ())) (fun s _ => (n - s.2.2.1).toNat) ?_ _ _ ⟨Fr.refl _ _, 0, by omega, rfl⟩))
  rintro s u C ⟨hf, i, hi, rfl⟩ hC _
  refine vIf_mk (fun hlt => ?_) (fun hge => ⟨rfl, hf⟩)
  have hlt2 : (i : Int) < (n : Int) := of_decide_eq_true hlt
  have gi : l[i]? = some (l[i]'(by omega)) := List.getElem?_eq_getElem (by omega)
  generalize l[i]'(by omega) = x at gi
  have fd := hf.trans1 (Fr.drew _ u)
  refine n_rd (h.fr0 fd) gi rfl (n_rd (h'.fr0 fd) gi rfl (eqN x (vIf_f rfl (jnC_mk (hC _ _ ⟨fd, i + 1, by omega, by rw [ei i (by omega)]⟩ ?_)))))
  show ((n : Int) - IntKind.wrap .i64 ((i : Int) + 1)).toNat < ((n : Int) - (i : Int)).toNat
  rw [ei i (by omega)]; omega
theorem same_calls (cs cs' : List Value) (F : Fo) (w : World) (h : FoAt w cs F) (h' : FoAt w cs' F) (hn : F.L.length ≤ 1000000000 ∧ F.P.length ≤ 1000000000) :
    Calls Try.prog 10 #[ofL cs, ofL cs'] w fun e w' => e = .returned (.bool true) ∧ Fr (fun _ => False) w w' := by
  refine (F10.of cs cs' w (Q := fun v w' => v = .bool true ∧ Fr (fun _ => False) w w') ?_).mono (fun e w' ⟨v, he, hv, h⟩ => ⟨by rw [he, hv], h⟩)
  refine fo_new (fun b1 w1 f1 _ r1 => fo_new (fun b3 w2 f2 hb3 r3 => ?_))
  obtain ⟨A, n, c, B, m, d, rfl, hL, hP, _⟩ := h
  obtain ⟨A', n', c', B', m', d', rfl, hL', hP', _⟩ := h'
  have g := f1.trans1 f2
  have r1 := r1.fr f2 (fun h => h)
  have hl := hL.2
  have hl' := hL'.2
  have hp := hP.2
  have hp' := hP'.2
  refine ⟨A, n, c, r1.cell rfl, A', n', c', r3.cell rfl, (names_calls A n c A' n' c' F.L w2 (hL.fr0 g) (hL'.fr0 g) (by omega)).mono ?_⟩
  rintro r w3 ⟨rfl, f3⟩
  have g := g.trans1 f3
  have r1 := r1.fr f3 (fun h => h)
  have r3 := r3.fr f3 (fun h => h)
  refine ⟨_, rfl, vIf_f rfl ⟨B, m, d, r1.cell rfl, B', m', d', r3.cell rfl, vIf_f (by simp; omega) (jnC_mk (fun _ => jnC_mk ?_))⟩⟩
  refine loop_rule (fun s u => Fr (fun _ => False) w3 u ∧ ∃ i : Nat, i ≤ m ∧ s = ((b1, 0), (b3, 0), (i : Int), ())) (fun s _ => (m - s.2.2.1).toNat) ?_ _ _ ⟨Fr.refl _ _, 0, by omega, rfl⟩
  rintro s u C ⟨hf, i, hi, rfl⟩ hC _
  refine ⟨B, m, d, (r1.fr hf (fun h => h)).cell rfl, vIf_mk (fun hlt => ?_) (fun hge => ⟨rfl, g.trans1 hf⟩)⟩
  have hlt2 : (i : Int) < (m : Int) := of_decide_eq_true hlt
  have gi : F.P[i]? = some (F.P[i]'(by omega)) := List.getElem?_eq_getElem (by omega)
  generalize F.P[i]'(by omega) = x at gi
  have fd := hf.trans1 (Fr.drew _ u)
  have r1 := r1.fr fd (fun h => h)
  have r3 := r3.fr fd (fun h => h)
  refine ⟨B, m, d, r1.cell rfl, c_rd ((hP.fr0 g).fr0 fd) gi rfl ⟨B', m', d', r3.cell rfl, c_rd ((hP'.fr0 g).fr0 fd) gi rfl (eqC x (vIf_f rfl (jnC_mk (hC _ _ ⟨fd, i + 1, by omega, by rw [ei i (by omega)]⟩ ?_))))⟩⟩
  show ((m : Int) - IntKind.wrap .i64 ((i : Int) + 1)).toNat < ((m : Int) - (i : Int)).toNat
  rw [ei i (by omega)]; omega
end Go.Proofs.Ytglojgicnchnpaa
