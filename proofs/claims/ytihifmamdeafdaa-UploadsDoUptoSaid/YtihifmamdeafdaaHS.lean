/- chapter 37: the document's Chunk -/
import Derived.Test.YtihifmamdeafdaaHR
namespace Go.Proofs.Ytihifmamdeafdaa
open Go.GV Go.RowKit
set_option linter.unusedVariables false
set_option linter.unusedSimpArgs false
set_option maxHeartbeats 1000000 in
theorem rchunk_calls (B : Nat) (cs : List Value) (E : List Up) (last id off : Int) (A0 : Option Addr) (n0 c0 : Nat) (bl : List UInt8) (most : Int) (w : World) (h : RfAt w B cs E last) (h0l : Sl w 1 A0 n0 (bl.map bv)) (hB : B ≤ w.heap.size) (hn : E.length ≤ 1073741824) (hx : ∀ x ∈ E, x.l.length ≤ 1073741824) (hn0 : n0 ≤ 1073741824) :
    Calls Try.prog 13 #[ofL cs, .int .i64 id, .int .i64 off, .slice A0 n0 c0, .int .i64 most] w fun r w' => Fr (fun _ => False) w w' ∧ ∃ cs' E', r = .returned (.tuple #[ofL cs', .int .i64 (rchunk (E.map Up.e) id off bl most).2]) ∧ E'.map Up.e = (rchunk (E.map Up.e) id off bl most).1 ∧ RfAt w' B cs' E' last := by
  refine (F13.of cs id off A0 n0 c0 most w (Q := fun v w' => Fr (fun _ => False) w w' ∧ ∃ cs' E', v = .tuple #[ofL cs', .int .i64 (rchunk (E.map Up.e) id off bl most).2] ∧ E'.map Up.e = (rchunk (E.map Up.e) id off bl most).1 ∧ RfAt w' B cs' E' last) ?_).mono (fun e w' ⟨v, he, hf, cs', E', hv, h⟩ => ⟨hf, cs', E', by rw [he, hv], h⟩)
  have h0 := h
  obtain ⟨A, n, c, rfl, hr, hb⟩ := h
  have hl := up_n hr.sl
  have hbl : bl.length = n0 := by simpa using h0l.1
  refine nw2 (fun b1 b3 u f r1 r3 hb1 hb3 hne => ?_)
  refine ⟨_, rfl, rec_all r1, (rfind_calls B _ E last id u (h0.fr0 f) (by omega)).mono ?_⟩
  rintro r u1 ⟨f1, rfl⟩
  have g1 := f.trans1 f1
  have r1 := r1.fr f1 (fun h => h)
  have r3 := r3.fr f1 (fun h => h)
  -- nothing is changed
  have same : ∀ k : Int, rchunk (E.map Up.e) id off bl most = (E.map Up.e, k) → ldA 2 u1 b1 0 fun a => gd (a.length == 2) <| st u1 b3 0 a fun w' => ldA 2 w' b3 0 fun a' => Fr (fun _ => False) w w' ∧ ∃ cs' E', Value.tuple #[ofL a', .int .i64 k] = .tuple #[ofL cs', .int .i64 (rchunk (E.map Up.e) id off bl most).2] ∧ E'.map Up.e = (rchunk (E.map Up.e) id off bl most).1 ∧ RfAt w' B cs' E' last := by
    intro k hk
    rw [hk]
    exact ⟨_, rfl, rec_all r1, gd_mk rfl (st2r r3 rfl rfl (one2 rfl rfl) (fun w' f' => ⟨fr_own g1 f' hb3, _, E, rfl, rfl, h0.fr0 (fr_own g1 f' hb3)⟩))⟩
  cases hu : ufind E id with
  | none =>
    have hre : rchunk (E.map Up.e) id off bl most = (E.map Up.e, 6) := by unfold rchunk; rw [ufind_e, hu]; rfl
    exact ⟨none, 0, 0, false, rfl, vIf_t rfl (same 6 hre)⟩
  | some x0 =>
    have hx0 := hb x0 (ufind_mem hu)
    have hx0l := hx x0 (ufind_mem hu)
    have hxn : x0.l.length = x0.n := by simpa using hx0.len
    have hre : rchunk (E.map Up.e) id off bl most = if off ≠ (x0.l.length : Int) then (E.map Up.e, 17) else if ((x0.l.length + bl.length : Nat) : Int) > most then (E.map Up.e, 18) else ((E.map Up.e).map (upd id (x0.l ++ bl)), 0) := by unfold rchunk; rw [ufind_e, hu]; rfl
    refine ⟨x0.A, x0.n, x0.c, true, rfl, vIf_f rfl (vIf_mk (fun h1 => ?_) (fun h1 => vIf_mk (fun h2 => ?_) (fun h2 => ?_)))⟩
    · have h1 : (x0.n : Int) ≠ off := by simpa using h1
      exact same 17 (by rw [hre, if_pos (by rw [hxn]; exact fun h => h1 h.symm)])
    · have h1 : (x0.n : Int) = off := by simpa using h1
      have h2 := of_decide_eq_true h2
      rw [i64_id (by omega) (by omega)] at h2
      exact same 18 (by rw [hre, if_neg (by rw [hxn]; exact fun h => h h1.symm), if_pos (by omega)])
    · have h1 : (x0.n : Int) = off := by simpa using h1
      have h2 := of_decide_eq_false h2
      rw [i64_id (by omega) (by omega)] at h2
      have hre2 : rchunk (E.map Up.e) id off bl most = ((E.map Up.e).map (upd id (x0.l ++ bl)), 0) := by rw [hre, if_neg (by rw [hxn]; exact fun h => h h1.symm), if_neg (by omega)]
      rw [hre2]
      clear same hre hre2
      refine ⟨last, r1.cell rfl, nw_mk (gd_mk rfl ?_)⟩
      have f2 : Fr (fun _ => False) u1 (u1.alloc (.cells [Value.slice none 0 0, Value.int .i64 0].toArray 38)) := Fr.alloc _ _ _
      refine st2 (RecAt.new u1 [Value.slice none 0 0, Value.int .i64 0] 38) rfl rfl (one2 rfl rfl) (fun u3 f3 r16 => jnC_mk ?_)
      have hu1 := g1.size
      generalize hb16 : u1.heap.size = b16 at f3 r16 hu1
      have g3 : Fr (fun _ => False) w u3 := fr_own (g1.trans1 f2) f3 hu1
      have f23 : Fr (fun k => k = b16) u1 u3 := f2.trans f3 (fun _ _ h => h.elim) (fun _ _ h => h)
      have n1 : b1 ≠ b16 := fun h => by have := r1.lt; omega
      have n3 : b3 ≠ b16 := fun h => by have := r3.lt; omega
      have r1 := r1.fr f23 n1
      have r3 := r3.fr f23 n3
      refine loop_rule (fun s v => Fr (fun _ => False) w v ∧ RecAt v b1 38 [.slice A n c, .int .i64 last] ∧ RecAt v b3 38 [.slice none 0 0, .int .i64 0] ∧ ∃ (i : Nat) (O : List Up) (A8 : Option Addr) (c8 : Nat), i ≤ n ∧ s = (id, (A0, n0, c0), (b1, 0), (b3, 0), (x0.A, x0.n, x0.c), (b16, 0), (i : Int), ()) ∧ O.map Up.e = ((E.take i).map Up.e).map (upd id (x0.l ++ bl)) ∧ (∀ x ∈ O, BS v B x) ∧ RecAt v b16 38 [.slice A8 O.length c8, .int .i64 last] ∧ Row v w.heap.size 52 2 A8 O.length c8 (rcs O))
        (fun s _ => (n - s.2.2.2.2.2.2.1).toNat) ?_ _ _ ⟨g3, r1, r3, 0, [], none, 0, by omega, rfl, rfl, (fun x hx => by cases hx), r16, Row.nil _ _ _ _⟩
      clear r1 r3 r16 g3 f23 f3 f2 g1 f1
      rintro s v C ⟨g, r1, r3, i, O, A8, c8, hi, rfl, hO, hOb, r16, hr8⟩ hC _
      have hol : O.length ≤ i := by
        have := congrArg List.length hO
        simp only [List.length_map, List.length_take] at this
        omega
      have hrv := g.row hr (fun _ _ h => h)
      refine ⟨A, n, c, r1.cell rfl, vIf_mk (fun hlt => ?_) (fun hge => ?_)⟩
      · have hlt2 : (i : Int) < (n : Int) := of_decide_eq_true hlt
        have gi : E[i]? = some (E[i]'(by omega)) := List.getElem?_eq_getElem (by omega)
        generalize E[i]'(by omega) = x at gi
        have hxm : x ∈ E := List.mem_of_getElem? gi
        have d0 : decide (0 ≤ (i : Int)) = true := decide_eq_true (by omega)
        have hm : ((n : Int) - IntKind.wrap .i64 ((i : Int) + 1)).toNat < ((n : Int) - (i : Int)).toNat := by rw [ei i (by omega)]; omega
        have tk : ((E.take (i + 1)).map Up.e).map (upd id (x0.l ++ bl)) = O.map Up.e ++ [upd id (x0.l ++ bl) x.e] := by
          rw [List.take_add_one, gi, List.map_append, List.map_append, ← hO]; rfl
        obtain ⟨b, o, hA, hc⟩ := up_at hrv.sl gi
        subst hA
        refine ⟨_, n, c, r1.cell rfl, dr_mk (gd_mk d0 (gd_mk hlt ⟨ucs x, rfl, by rw [Int.toNat_natCast]; exact hc, nw_mk (gd_mk rfl ?_)⟩))⟩
        -- the variable of the round
        have q1 : Fr (fun _ => False) v (v.alloc (.cells [Value.int .i64 0, Value.slice none 0 0].toArray 52)) := Fr.alloc _ _ _
        refine st2 (RecAt.new v [Value.int .i64 0, Value.slice none 0 0] 52) rfl rfl (one2 rfl rfl) (fun v2 q2 r34 => ?_)
        have hsz := g.size
        have l1 := r1.lt
        have l3 := r3.lt
        have l16 := r16.lt
        have l8 : ∀ k, blkOf A8 = some k → k < v.heap.size := fun k hk => (hr8.blt hk).2
        have lO : ∀ y ∈ O, ∀ k, blkOf y.A = some k → k < v.heap.size := fun y hy k hk => ((hOb y hy).blt hk).2
        generalize hb34 : v.heap.size = b34 at q2 r34 hsz l1 l3 l16 l8 lO
        have q : Fr (fun k => k = b34) v v2 := q1.trans q2 (fun _ _ h => h.elim) (fun _ _ h => h)
        have g2 : Fr (fun _ => False) w v2 := fr_own (g.trans1 q1) q2 hsz
        have r1 := r1.fr q (by omega)
        have r3 := r3.fr q (by omega)
        have r16 := r16.fr q (by omega)
        have hr8 := q.row hr8 (fun k hk h => by have := l8 k hk; omega)
        have hOb : ∀ y ∈ O, BS v2 B y := fun y hy => q.row (hOb y hy) (fun k hk h => by have := lO y hy k hk; omega)
        have hx2 : BS v2 B x := g2.row (hb x hxm) (fun _ _ h => h)
        have h34 := r34.lt
        -- the end of the round
        have fin : ∀ (v3 : World) (x' : Up), Fr (fun _ => False) w v3 → RecAt v3 b1 38 [.slice (some ⟨b, o, none⟩) n c, .int .i64 last] → RecAt v3 b3 38 [.slice none 0 0, .int .i64 0] → RecAt v3 b16 38 [.slice A8 O.length c8, .int .i64 last] → Row v3 w.heap.size 52 2 A8 O.length c8 (rcs O) → (∀ y ∈ O, BS v3 B y) →
            RecAt v3 b34 52 (ucs x') → BS v3 B x' → x'.e = upd id (x0.l ++ bl) x.e →
            jnC (F13.k15 (fun v w' => Fr (fun _ => False) w w' ∧ ∃ cs' E', v = .tuple #[ofL cs', .int .i64 0] ∧ E'.map Up.e = (E.map Up.e).map (upd id (x0.l ++ bl)) ∧ RfAt w' B cs' E' last) C) (id, (A0, n0, c0), (b1, 0), (b3, 0), (x0.A, x0.n, x0.c), (b16, 0), (i : Int), (b34, 0), ()) v3 := by
          intro v3 x' g3 r1 r3 r16 hr8 hOb r34 hbx he
          refine jnC_mk (fun _ => ⟨A8, O.length, c8, r16.cell rfl, ucs x', rfl, rec_all r34, gd_mk rfl ?_⟩)
          refine push_up (n := O.length) hr8 g3.size (by omega) (fun A5 c5 v5 hr5 f5 => ?_)
          have g5 := own_fr g3 hr8 f5
          have e1 := r1.fr f5 (fun hk => Row_rec_ne hr8 r1 (by decide) b1 hk rfl)
          have e3 := r3.fr f5 (fun hk => Row_rec_ne hr8 r3 (by decide) b3 hk rfl)
          have e16 := r16.fr f5 (fun hk => Row_rec_ne hr8 r16 (by decide) b16 hk rfl)
          have hl1 : O.length + 1 = (O ++ [x']).length := by simp
          rw [hl1] at hr5 ⊢
          refine e16.st_mk (o := 0) (by simp) (one1 rfl) (fun r6 f6 => jnC_mk (hC _ _ ⟨fr_own g5 f6 hu1, e1.fr f6 n1, e3.fr f6 n3, i + 1, O ++ [x'], A5, c5, by omega, ?_, ?_, ?_, r6, f6.row hr5 (Row_rec_ne hr5 e16 (by decide))⟩ hm))
          · rw [ei i (by omega)]
          · rw [tk, List.map_append, List.map_cons, he]; rfl
          · intro y hy
            have hy3 : BS v3 B y := by
              rcases List.mem_append.1 hy with h1 | h1
              · exact hOb y h1
              · simp at h1; subst h1; exact hbx
            have hy5 : BS v5 B y := f5.row hy3 (fun k hk h => Row_elem_ne hr8 hy3 (by decide) k hk h)
            exact f6.row hy5 (Row_rec_ne hy5 e16 (by decide))
        refine ⟨x.id, r34.cell rfl, vIf_mk (fun he => ?_) (fun hne => ?_)⟩
        · have he : x.id = id := by simpa using he
          have hx0v : BS v2 B x0 := g2.row hx0 (fun _ _ h => h)
          have h0v : Sl v2 1 A0 n0 (bl.map bv) := g2.sl h0l (fun _ _ _ h => h)
          refine app_row (Row.nil v2 v2.heap.size 5 1) hx0v.sl.src (bvs_one _) rfl (by omega) (by omega) (Nat.le_refl _) (fun A38 c40 v4 hr4 f4 => ?_)
          have f4 : Fr (fun _ => False) v2 v4 := f4.mono (fun _ _ h => by simp [blkOf] at h)
          refine app_row hr4 (f4.sl h0v (fun _ _ _ h => h)).src (bvs_one _) rfl (by omega) (by omega) f4.size (fun A42 c44 v5 hr5 f5 => ?_)
          have f5 : Fr (fun _ => False) v2 v5 := own_fr f4 hr4 f5
          rw [List.nil_append, ← List.map_append] at hr5
          have e34 := r34.fr f5 (fun h => h)
          have A42n : ∀ k, blkOf A42 = some k → ¬ k = b34 := fun k hk h => by have := (hr5.blt hk).1; omega
          refine e34.st_mk (o := 0 + 1) (by simp [ucs]) (one1 rfl) (fun r6 f6 => ?_)
          have f26 : Fr (fun k => k = b34) v2 (stB v5 b34 (0 + 1) [Value.slice A42 (0 + x0.n + n0) c44]) := f5.trans f6 (fun _ _ h => h.elim) (fun _ _ h => h)
          have hnn : 0 + x0.n + n0 = x0.n + n0 := by omega
          refine fin _ ⟨x.id, x0.l ++ bl, A42, 0 + x0.n + n0, c44⟩ (fr_own (g2.trans1 f5) f6 hsz) (r1.fr f26 (by omega)) (r3.fr f26 (by omega)) (r16.fr f26 (by omega)) (f26.row hr8 (fun k hk h => by have := l8 k hk; omega)) (fun y hy => f26.row (hOb y hy) (fun k hk h => by have := lO y hy k hk; omega)) r6 ?_ ?_
          · exact row_low (by have := g2.size; omega) (f6.row hr5 A42n)
          · show ((x.id, x0.l ++ bl) : Ent) = upd id (x0.l ++ bl) (x.id, x.l)
            unfold upd
            rw [if_pos he]
        · have hne : x.id ≠ id := by simpa using hne
          refine fin v2 x g2 r1 r3 r16 hr8 hOb r34 hx2 ?_
          show ((x.id, x.l) : Ent) = upd id (x0.l ++ bl) (x.id, x.l)
          unfold upd
          rw [if_neg hne]
      · have hge2 : ¬ (i : Int) < (n : Int) := of_decide_eq_false hge
        rw [List.take_of_length_le (by omega)] at hO
        refine ⟨_, rfl, rec_all r16, gd_mk rfl (st2r r3 rfl rfl (one2 rfl rfl) (fun w' f' => ⟨fr_own g f' hb3, _, O, rfl, hO, A8, _, c8, rfl, row_low hB (f'.row hr8 (Row_rec_ne hr8 r3 (by decide))), fun y hy => f'.row (hOb y hy) (Row_rec_ne (hOb y hy) r3 (by decide))⟩))⟩
end Go.Proofs.Ytihifmamdeafdaa
