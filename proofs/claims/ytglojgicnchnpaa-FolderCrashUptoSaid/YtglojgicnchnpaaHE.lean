/- chapter 11: Now, Find, Crash, Sync, wrong, Do, and the document's; Names, Same -/
import Derived.Test.YtglojgicnchnpaaHD
namespace Go.Proofs.Ytglojgicnchnpaa
open Go.GV Go.RowKit Go.Lib Go.Stb
set_option linter.unusedVariables false
set_option linter.unusedSimpArgs false
def nowF (F : Fo) : List Nm := behF F (F.P.length : Nat)
theorem nowF_asc (F : Fo) : AscN (nowF F) := behF_asc _ _
theorem nowF_len (F : Fo) : (nowF F).length ≤ F.L.length + F.P.length := behF_len _ _
theorem fo_new {w : World} {cs : List Value} {K : Nat → World → Prop} (hK : ∀ b w', Fr (fun _ => False) w w' → w.heap.size ≤ b → RecAt w' b 25 cs → K b w') : nw w cs 25 K :=
  nw_mk (hK _ _ (Fr.alloc _ _ _) (Nat.le_refl _) (RecAt.new w cs 25))
theorem rec_rd {w : World} {b : Nat} {e : TypeId} {cs : List Value} (h : RecAt w b e cs) : cellsAt w b 0 cs := h.cells (fun j v hj => by simpa using hj)
theorem fo_st {w : World} {b : Nat} {e : TypeId} {cs y : List Value} (h : RecAt w b e cs) (hy : y.length = cs.length) (ho : ∀ v ∈ y, v.oneCell' = true) {K : World → Prop} (hK : ∀ w', Fr (fun k => k = b) w w' → RecAt w' b e y → K w') : st w b 0 y K :=
  h.st_mk (o := 0) (by omega) ho (fun r2 f2 => hK _ f2 (by rw [splice_full hy] at r2; exact r2))
theorem now_calls (cs : List Value) (F : Fo) (w : World) (h : FoAt w cs F) (hb : FoB F) :
    Calls Try.prog 12 #[ofL cs] w fun e w' => Fr (fun _ => False) w w' ∧ ∃ A' c', e = .returned (.slice A' (nowF F).length c') ∧ NRow w' w.heap.size A' (nowF F).length c' (nowF F) := by
  refine (F12.of cs w (Q := fun v w' => Fr (fun _ => False) w w' ∧ ∃ A' c', v = .slice A' (nowF F).length c' ∧ NRow w' w.heap.size A' (nowF F).length c' (nowF F)) ?_).mono (fun e w' ⟨v, he, hf, A', c', hv, h⟩ => ⟨hf, A', c', by rw [he, hv], h⟩)
  refine fo_new (fun b w1 f1 _ r1 => ⟨cs, h.len, rec_rd r1, ?_⟩)
  have h1 := h.fr0 f1
  obtain ⟨A, m, c, A', m', c', rfl, hL, hP, hPc⟩ := h
  refine ⟨A', m', c', r1.cell rfl, (beh_calls _ F _ w1 h1 hb).mono ?_⟩
  rintro r w2 ⟨f2, A2, c2, rfl, h2⟩
  have e : behF F ((m' : Nat) : Int) = nowF F := by unfold nowF; rw [hP.2]
  rw [e] at h2 ⊢
  exact ⟨_, _, _, rfl, f1.trans1 f2, A2, c2, rfl, row_low f1.size h2.1, h2.2⟩
theorem rnow_calls (cs : List Value) (F : Fo) (w : World) (h : FoAt w cs F) (hb : FoB F) :
    Calls Try.prog 13 #[ofL cs] w fun e w' => Fr (fun _ => False) w w' ∧ ∃ A' c', e = .returned (.slice A' (nowF F).length c') ∧ NRow w' w.heap.size A' (nowF F).length c' (nowF F) := by
  refine (F13.of cs w (Q := fun v w' => Fr (fun _ => False) w w' ∧ ∃ A' c', v = .slice A' (nowF F).length c' ∧ NRow w' w.heap.size A' (nowF F).length c' (nowF F)) ?_).mono (fun e w' ⟨v, he, hf, A', c', hv, h⟩ => ⟨hf, A', c', by rw [he, hv], h⟩)
  refine fo_new (fun b w1 f1 _ r1 => ⟨cs, h.len, rec_rd r1, ?_⟩)
  have h1 := h.fr0 f1
  obtain ⟨A, m, c, A', m', c', rfl, hL, hP, hPc⟩ := h
  refine ⟨A', m', c', r1.cell rfl, (rbeh_calls _ F _ w1 h1 hb).mono ?_⟩
  rintro r w2 ⟨f2, A2, c2, rfl, h2⟩
  have e : behF F ((m' : Nat) : Int) = nowF F := by unfold nowF; rw [hP.2]
  rw [e] at h2 ⊢
  exact ⟨_, _, _, rfl, f1.trans1 f2, A2, c2, rfl, row_low f1.size h2.1, h2.2⟩
theorem find_calls (cs : List Value) (F : Fo) (s : ByteArray) (w : World) (h : FoAt w cs F) (hb : FoB F) :
    Calls Try.prog 8 #[ofL cs, .string s] w fun e w' => e = .returned (.tuple #[.int .i64 ((findN s (nowF F)).getD 0), .bool (findN s (nowF F)).isSome]) ∧ Fr (fun _ => False) w w' := by
  refine (F8.of cs s w (Q := fun v w' => v = .tuple #[.int .i64 ((findN s (nowF F)).getD 0), .bool (findN s (nowF F)).isSome] ∧ Fr (fun _ => False) w w') ?_).mono (fun e w' ⟨v, he, hv, h⟩ => ⟨by rw [he, hv], h⟩)
  have hnl := nowF_len F
  have hb' : F.L.length + F.P.length ≤ 349525 := hb
  refine fo_new (fun b w1 f1 _ r1 => ⟨cs, h.len, rec_rd r1, (now_calls cs F w1 (h.fr0 f1) hb).mono ?_⟩)
  rintro r w2 ⟨f2, A2, c2, rfl, h2⟩
  refine ⟨_, _, _, rfl, (bsN_calls A2 _ c2 _ s w2 h2.sl (nowF_asc F) (by omega)).mono ?_⟩
  rintro r w3 ⟨f3, i, rfl, hp⟩
  have f := (f1.trans1 f2).trans1 f3
  refine ⟨_, _, rfl, vIf_mk (fun hi => ?_) (fun hi => ?_)⟩
  · have hi : isN s i (nowF F) = false := by simpa using hi
    rw [(wo_out hp (nowF_asc F) hi).2]
    exact ⟨rfl, f⟩
  · have hi : isN s i (nowF F) = true := by simpa using hi
    obtain ⟨x, hx, hs⟩ := isN_at hi
    refine n_rdI (h2.sl.fr0 f3) hx rfl ?_
    rw [find_in hp hx hs]
    exact ⟨rfl, f⟩
theorem rfindF_calls (cs : List Value) (F : Fo) (s : ByteArray) (w : World) (h : FoAt w cs F) (hb : FoB F) :
    Calls Try.prog 9 #[ofL cs, .string s] w fun e w' => e = .returned (.tuple #[.int .i64 ((findN s (nowF F)).getD 0), .bool (findN s (nowF F)).isSome]) ∧ Fr (fun _ => False) w w' := by
  refine (F9.of cs s w (Q := fun v w' => v = .tuple #[.int .i64 ((findN s (nowF F)).getD 0), .bool (findN s (nowF F)).isSome] ∧ Fr (fun _ => False) w w') ?_).mono (fun e w' ⟨v, he, hv, h⟩ => ⟨by rw [he, hv], h⟩)
  have hnl := nowF_len F
  have hb' : F.L.length + F.P.length ≤ 349525 := hb
  refine fo_new (fun b w1 f1 _ r1 => ⟨cs, h.len, rec_rd r1, (rnow_calls cs F w1 (h.fr0 f1) hb).mono ?_⟩)
  rintro r w2 ⟨f2, A2, c2, rfl, h2⟩
  refine ⟨_, _, _, rfl, (rfind_calls A2 _ c2 _ s w2 h2.sl (by omega)).mono ?_⟩
  rintro r w3 ⟨rfl, f3⟩
  exact ⟨_, _, rfl, rfl, (f1.trans1 f2).trans1 f3⟩
theorem oneP {A A' : Option Addr} {n c n' c' : Nat} : ∀ v ∈ [Value.slice A n c] ++ ([Value.slice A' n' c'] ++ []), v.oneCell' = true := by
  intro v hv
  simp at hv
  rcases hv with rfl | rfl <;> rfl
theorem fo_of {w : World} {B : Nat} {A : Option Addr} {c : Nat} {l : List Nm} (h : NRow w B A l.length c l) : FoAt w [.slice A l.length c, .slice none 0 0] ⟨l, []⟩ :=
  ⟨A, _, c, none, 0, 0, rfl, h.sl, ⟨Sl.nil _ _ _, rfl⟩, Nat.le_refl _⟩
theorem crash_calls (cs : List Value) (F : Fo) (n : Int) (w : World) (h : FoAt w cs F) (hb : FoB F) :
    Calls Try.prog 15 #[ofL cs, .int .i64 n] w fun e w' => Fr (fun _ => False) w w' ∧ ∃ cs', e = .returned (ofL cs') ∧ FoAt w' cs' ⟨behF F n, []⟩ := by
  refine (F15.of cs n w (Q := fun v w' => Fr (fun _ => False) w w' ∧ ∃ cs', v = ofL cs' ∧ FoAt w' cs' ⟨behF F n, []⟩) ?_).mono (fun e w' ⟨v, he, hf, cs', hv, h⟩ => ⟨hf, cs', by rw [he, hv], h⟩)
  refine fo_new (fun b w1 f1 _ r1 => fo_new (fun b3 w2 f2 hb3 r3 => ⟨cs, h.len, rec_rd (r1.fr f2 (fun h => h)), (beh_calls cs F n w2 (h.fr0 (f1.trans1 f2)) hb).mono ?_⟩))
  rintro r w3 ⟨f3, A3, c3, rfl, h3⟩
  have hs1 := f1.size
  have hs2 := f2.size
  have hlt := r3.lt
  refine ⟨_, _, _, rfl, gd_mk rfl (fo_st (r3.fr f3 (fun h => h)) (by rfl) oneP (fun w4 f4 r4 => ⟨_, rfl, rec_rd r4, ?_, _, rfl, ?_⟩))⟩
  · exact ((f1.trans1 f2).trans1 f3).trans f4 (fun _ _ h => h) (fun k hk h => by omega)
  · exact fo_of (B := w2.heap.size) ⟨f4.row h3.1 (fun k hk h => by have := (h3.1.blt hk).1; omega), h3.2⟩
theorem sync_calls (cs : List Value) (F : Fo) (w : World) (h : FoAt w cs F) (hb : FoB F) :
    Calls Try.prog 20 #[ofL cs] w fun e w' => Fr (fun _ => False) w w' ∧ ∃ cs', e = .returned (ofL cs') ∧ FoAt w' cs' ⟨nowF F, []⟩ := by
  refine (F20.of cs w (Q := fun v w' => Fr (fun _ => False) w w' ∧ ∃ cs', v = ofL cs' ∧ FoAt w' cs' ⟨nowF F, []⟩) ?_).mono (fun e w' ⟨v, he, hf, cs', hv, h⟩ => ⟨hf, cs', by rw [he, hv], h⟩)
  refine fo_new (fun b w1 f1 _ r1 => fo_new (fun b3 w2 f2 hb3 r3 => ⟨cs, h.len, rec_rd (r1.fr f2 (fun h => h)), (now_calls cs F w2 (h.fr0 (f1.trans1 f2)) hb).mono ?_⟩))
  rintro r w3 ⟨f3, A3, c3, rfl, h3⟩
  have hs1 := f1.size
  have hs2 := f2.size
  have hlt := r3.lt
  refine ⟨_, _, _, rfl, gd_mk rfl (fo_st (r3.fr f3 (fun h => h)) (by rfl) oneP (fun w4 f4 r4 => ⟨_, rfl, rec_rd r4, ?_, _, rfl, ?_⟩))⟩
  · exact ((f1.trans1 f2).trans1 f3).trans f4 (fun _ _ h => h) (fun k hk h => by omega)
  · exact fo_of (B := w2.heap.size) ⟨f4.row h3.1 (fun k hk h => by have := (h3.1.blt hk).1; omega), h3.2⟩
/-! ### Do -/
open Classical in
noncomputable def wrongF (F : Fo) (c : Ch) : Int :=
  if c.k = 1 then (if ¬ DiskP c.nm then 12 else if (findN c.nm (nowF F)).isSome = true then 7 else 0)
  else if c.k = 2 then (if (findN c.nm (nowF F)).isSome = true then (if ¬ DiskP c.to then 12 else 0) else 6)
  else if c.k = 3 then (if (findN c.nm (nowF F)).isSome = true then 0 else 6) else 2
noncomputable def doF (F : Fo) (c : Ch) : Fo := if wrongF F c = 0 then ⟨F.L, F.P ++ [c]⟩ else F
def ChB (c : Ch) : Prop := c.nm.size ≤ 1099511627775 ∧ c.to.size ≤ 1099511627775
theorem ch_new {w : World} {cs : List Value} {K : Nat → World → Prop} (hK : ∀ b w', Fr (fun _ => False) w w' → w.heap.size ≤ b → RecAt w' b 27 cs → K b w') : nw w cs 27 K :=
  nw_mk (hK _ _ (Fr.alloc _ _ _) (Nat.le_refl _) (RecAt.new w cs 27))
theorem wrong_calls (cs : List Value) (F : Fo) (x : Ch) (w : World) (h : FoAt w cs F) (hb : FoB F) (hx : ChB x) :
    Calls Try.prog 21 #[ofL cs, ofL (encC x)] w fun e w' => e = .returned (.int .i64 (wrongF F x)) ∧ Fr (fun _ => False) w w' := by
  refine (F21.of cs _ w (Q := fun v w' => v = .int .i64 (wrongF F x) ∧ Fr (fun _ => False) w w') ?_).mono (fun e w' ⟨v, he, hv, h⟩ => ⟨by rw [he, hv], h⟩)
  refine fo_new (fun b w1 f1 _ r1 => ch_new (fun b3 w2 f2 hb3 r3 => ⟨cs, h.len, rec_rd (r1.fr f2 (fun h => h)), x.nm, r3.cell rfl, (find_calls cs F x.nm w2 (h.fr0 (f1.trans1 f2)) hb).mono ?_⟩))
  rintro r w3 ⟨rfl, f3⟩
  have f := (f1.trans1 f2).trans1 f3
  have r3 := r3.fr f3 (fun h => h)
  have fin : ∀ (t : Bool) (w' : World), Fr (fun _ => False) w w' → t = (findN x.nm (nowF F)).isSome → (wrongF F x = if t = true then 0 else 6) → jnC (F21.k13 (fun v w' => v = .int .i64 (wrongF F x) ∧ Fr (fun _ => False) w w')) (t, ()) w' := by
    intro t w' f' ht he
    refine jnC_mk (fun _ => vIf_mk (fun h1 => ⟨?_, f'⟩) (fun h1 => ⟨?_, f'⟩))
    · have h1 : t = false := by simpa using h1
      rw [he, h1]; rfl
    · have h1 : t = true := by simpa using h1
      rw [he, h1]; rfl
  refine ⟨_, _, rfl, x.k, r3.cell rfl, vIf_mk (fun hk => ?_) (fun hk => vIf_mk (fun hk2 => vIf_mk (fun hin => ?_) (fun hin => ?_)) (fun hk2 => vIf_mk (fun hk3 => ?_) (fun hk3 => ?_)))⟩
  · have hk : x.k = 1 := by simpa using hk
    refine ⟨x.nm, r3.cell rfl, (disk_calls x.nm w3 hx.1).mono ?_⟩
    rintro r w4 ⟨⟨t, rfl, ht⟩, rfl⟩
    refine ⟨_, rfl, vIf_mk (fun h1 => ⟨?_, f⟩) (fun h1 => vIf_mk (fun h2 => ⟨?_, f⟩) (fun h2 => ⟨?_, f⟩))⟩
    · have h1 : t = false := by simpa using h1
      unfold wrongF
      rw [if_pos hk, if_pos (fun h => by rw [ht.2 h] at h1; cases h1)]
    · have h1 : t = true := by simpa using h1
      unfold wrongF
      rw [if_pos hk, if_neg (not_not_intro (ht.1 h1)), if_pos h2]
    · have h1 : t = true := by simpa using h1
      unfold wrongF
      rw [if_pos hk, if_neg (not_not_intro (ht.1 h1)), if_neg (by rw [h2]; decide)]
  · have hk : ¬ x.k = 1 := by simpa using hk
    have hk2 : x.k = 2 := by simpa using hk2
    refine ⟨x.to, r3.cell rfl, (disk_calls x.to w3 hx.2).mono ?_⟩
    rintro r w4 ⟨⟨t, rfl, ht⟩, rfl⟩
    refine ⟨_, rfl, vIf_mk (fun h1 => ⟨?_, f⟩) (fun h1 => fin _ _ f rfl ?_)⟩
    · have h1 : t = false := by simpa using h1
      unfold wrongF
      rw [if_neg hk, if_pos hk2, if_pos hin, if_pos (fun h => by rw [ht.2 h] at h1; cases h1)]
    · have h1 : t = true := by simpa using h1
      unfold wrongF
      rw [if_neg hk, if_pos hk2, if_pos hin, if_neg (not_not_intro (ht.1 h1)), if_pos hin]
  · have hk : ¬ x.k = 1 := by simpa using hk
    have hk2 : x.k = 2 := by simpa using hk2
    refine fin _ _ f rfl ?_
    unfold wrongF
    rw [if_neg hk, if_pos hk2, if_neg (by rw [hin]; decide), if_neg (by rw [hin]; decide)]
  · have hk : ¬ x.k = 1 := by simpa using hk
    have hk2 : ¬ x.k = 2 := by simpa using hk2
    have hk3 : x.k = 3 := by simpa using hk3
    refine fin _ _ f rfl ?_
    unfold wrongF
    rw [if_neg hk, if_neg hk2, if_pos hk3]
  · have hk : ¬ x.k = 1 := by simpa using hk
    have hk2 : ¬ x.k = 2 := by simpa using hk2
    have hk3 : ¬ x.k = 3 := by simpa using hk3
    refine ⟨?_, f⟩
    unfold wrongF
    rw [if_neg hk, if_neg hk2, if_neg hk3]
/-- a change pushed -/
theorem push_c {w : World} {B : Nat} {A : Option Addr} {n c b : Nat} {P : List Ch} {x : Ch} {K : Option Addr → Nat → Nat → World → Prop} (hr : Row w B 27 4 A n c (flt encC P)) (hl : P.length = n) (rb : RecAt w b 27 (encC x)) (hB : B ≤ w.heap.size) (hn : n ≤ 1073741824)
    (hK : ∀ A' c' w', n + 1 ≤ c' → CSl w' A' (n + 1) (P ++ [x]) → Fr (fun k => blkOf A = some k) w w' → (∀ k, blkOf A' = some k → B ≤ k) → K A' (n + 1) c' w') : app w 4 48 Z27 27 A n c (.slice (some ⟨b, 0, none⟩) 1 1) K := by
  refine app_row (us := encC x) (m := 1) hr ⟨rfl, rfl, fun _ => dr_mk (rec_rd rb)⟩ (encC_o.one x) rfl (by omega) (by omega) hB (fun A' c' w' hr' f' => hK A' c' w' hr'.le ⟨?_, by rw [List.length_append, hl]; rfl⟩ f' (fun k hk => (hr'.blt hk).1))
  rw [flt_app, flt_one]; exact hr'.sl
set_option maxHeartbeats 1000000 in
theorem do_calls (cs : List Value) (F : Fo) (x : Ch) (w : World) (h : FoAt w cs F) (hb : FoB F) (hx : ChB x) :
    Calls Try.prog 6 #[ofL cs, ofL (encC x)] w fun e w' => Fr (fun _ => False) w w' ∧ ∃ cs', e = .returned (.tuple #[ofL cs', .int .i64 (wrongF F x)]) ∧ FoAt w' cs' (doF F x) := by
  refine (F6.of cs _ w (Q := fun v w' => Fr (fun _ => False) w w' ∧ ∃ cs', v = .tuple #[ofL cs', .int .i64 (wrongF F x)] ∧ FoAt w' cs' (doF F x)) ?_).mono (fun e w' ⟨v, he, hf, cs', hv, h⟩ => ⟨hf, cs', by rw [he, hv], h⟩)
  have hb' : F.L.length + F.P.length ≤ 349525 := hb
  refine fo_new (fun b1 w1 f1 _ r1 => ch_new (fun b3 w2 f2 hb3 r3 => fo_new (fun b5 w3 f3 hb5 r5 => ⟨cs, h.len, rec_rd ((r1.fr f2 (fun h => h)).fr f3 (fun h => h)), encC x, rfl, rec_rd (r3.fr f3 (fun h => h)), ?_⟩)))
  have g := (f1.trans1 f2).trans1 f3
  have r1 := (r1.fr f2 (fun h => h)).fr f3 (fun h => h)
  have r3 := r3.fr f3 (fun h => h)
  have hw5 : w.heap.size ≤ b5 := Nat.le_trans (Nat.le_trans f1.size f2.size) hb5
  have hlt3 := (r3.lt)
  refine (wrong_calls cs F x w3 (h.fr0 g) hb hx).mono ?_
  rintro r w4 ⟨rfl, f4⟩
  have g := g.trans1 f4
  have r1 := r1.fr f4 (fun h => h)
  have r3 := r3.fr f4 (fun h => h)
  have r5 := r5.fr f4 (fun h => h)
  have hs4 := f4.size
  refine ⟨_, rfl, vIf_mk (fun h0 => ?_) (fun h0 => ?_)⟩
  · have h0 : ¬ wrongF F x = 0 := by simpa using h0
    have e : doF F x = F := if_neg h0
    rw [e]
    refine ⟨cs, h.len, rec_rd r1, gd_mk (by rw [h.len]; rfl) (fo_st r5 h.len h.one (fun w5 f5 r5' => ⟨cs, h.len, rec_rd r5', ?_, cs, rfl, ?_⟩))⟩
    · exact g.trans f5 (fun _ _ h => h) (fun k hk h => by omega)
    · exact h.fr0 (g.trans f5 (fun _ _ h => h) (fun k hk h => by omega))
  · have h0 : wrongF F x = 0 := by simpa using h0
    have e : doF F x = ⟨F.L, F.P ++ [x]⟩ := if_pos h0
    rw [e, h0]
    obtain ⟨A, n, c, A', n', c', rfl, hL, hP, hPc⟩ := h
    have hPl := hP.2
    have fd := Fr.drew (fun _ => False) w4
    have g := g.trans1 fd
    have r1 := r1.fr fd (fun h => h)
    have r3 := r3.fr fd (fun h => h)
    have r5 := r5.fr fd (fun h => h)
    have hsd : w4.drew.heap.size = w4.heap.size := rfl
    have b1l := r1.lt
    have b3l := r3.lt
    have b5l := r5.lt
    -- the end
    have fin : ∀ (u : World) (A2 : Option Addr) (n2 c2 : Nat), Fr (fun _ => False) w4.drew u → n2 ≤ c2 → CSl u A2 n2 (F.P ++ [x]) → (∀ k, blkOf A2 = some k → k ≠ b5) →
        kp w4.drew b1 0 1 u (gd (([Value.slice A n c] ++ ([Value.slice A2 n2 c2] ++ [])).length == 2) (st u b5 0 ([Value.slice A n c] ++ ([Value.slice A2 n2 c2] ++ [])) fun w46 => ldA 2 w46 b5 0 fun a47 => Fr (fun _ => False) w w46 ∧ ∃ cs', Value.tuple #[ofL a47, Value.int .i64 0] = .tuple #[ofL cs', .int .i64 0] ∧ FoAt w46 cs' ⟨F.L, F.P ++ [x]⟩)) := by
      intro u A2 n2 c2 fu hle hs hne
      refine kp_mk fu b1l (fun h => h) (gd_mk rfl (fo_st (r5.fr fu (fun h => h)) (by rfl) oneP (fun w5 f5 r5' => ⟨_, rfl, rec_rd r5', ?_, _, rfl, A, n, c, A2, n2, c2, rfl, ?_, ?_, hle⟩)))
      · exact (g.trans1 fu).trans f5 (fun _ _ h => h) (fun k hk h => by omega)
      · exact hL.fr0 ((g.trans1 fu).trans f5 (fun _ _ h => h) (fun k hk h => by omega))
      · exact ⟨f5.sl hs.1 (fun _ k hk h => hne k hk h), hs.2⟩
    refine ⟨A, n, c, r1.cell rfl, A', n', c', r1.cell rfl, encC x, rfl, rec_rd r3, ?_, ?_⟩
    · refine (ClnCh.clone_calls A' n' c' _ w4.drew (hP.fr0 g).1 (encC_o.fo _) (by omega)).mono ?_
      rintro r u1 ⟨q1, A2, c2, rfl, h2⟩
      refine ⟨_, _, _, rfl, kp_mk q1 b3l (fun h => h) (kp_mk q1 b1l (fun h => h) (gd_mk rfl (nw_mk ?_)))⟩
      rw [List.append_nil]
      have q2 : Fr (fun _ => False) u1 (u1.alloc (.cells (encC x).toArray 27)) := Fr.alloc _ _ _
      have s2 := RecAt.new u1 (encC x) 27
      generalize u1.heap.size = b27 at s2 ⊢
      generalize u1.alloc (.cells (encC x).toArray 27) = u2 at q2 s2 ⊢
      have q12 := q1.trans1 q2
      refine kp_mk q12 b1l (fun h => h) (kp_mk q12 b1l (fun h => h) (push_c (q2.row h2 (fun _ _ h => h)) hPl s2 (by have := q12.size; omega) (by omega) (fun A3 c3 u3 hle3 h3 q3 hB3 => ?_)))
      exact fin u3 A3 _ c3 (fr_own q12 (fun k hk => (h2.blt hk).1) (Nat.le_refl _) q3) hle3 h3 (fun k hk h => by have := hB3 k hk; omega)
    · refine gd_mk rfl (nw_mk ?_)
      rw [List.append_nil]
      have q1 : Fr (fun _ => False) w4.drew (w4.drew.alloc (.cells (encC x).toArray 27)) := Fr.alloc _ _ _
      have s1 := RecAt.new w4.drew (encC x) 27
      have hq1 : w4.drew.heap.size < (w4.drew.alloc (.cells (encC x).toArray 27)).heap.size := by rw [alloc_size]; omega
      generalize hb35 : w4.drew.heap.size = b35 at s1 hq1 ⊢
      generalize w4.drew.alloc (.cells (encC x).toArray 27) = u1 at q1 s1 hq1 ⊢
      refine kp_mk q1 b1l (fun h => h) (kp_mk q1 b1l (fun h => h) ((ClnCh.clone_calls A' n' c' _ u1 ((hP.fr0 g).fr0 q1).1 (encC_o.fo _) (by omega)).mono ?_))
      rintro r u2 ⟨q2, A2, c2, rfl, h2⟩
      have q12 := q1.trans1 q2
      refine ⟨_, _, _, rfl, kp_mk q12 b3l (fun h => h) (kp_mk q12 b1l (fun h => h) (push_c h2 hPl (s1.fr q2 (fun h => h)) q2.size (by omega) (fun A3 c3 u3 hle3 h3 q3 hB3 => ?_)))⟩
      exact fin u3 A3 _ c3 (fr_own q12 (fun k hk => (h2.blt hk).1) (by omega) q3) hle3 h3 (fun k hk h => by have := hB3 k hk; omega)
end Go.Proofs.Ytglojgicnchnpaa
