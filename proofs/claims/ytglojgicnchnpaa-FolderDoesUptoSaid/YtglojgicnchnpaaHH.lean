/- chapter 11: the laws -/
import Derived.Test.YtglojgicnchnpaaHG
namespace Go.Proofs.Ytglojgicnchnpaa
open Go.GV Go.RowKit Go.Lib Go.Stb
set_option linter.unusedVariables false
set_option linter.unusedSimpArgs false
theorem doF_b {F : Fo} {x : Ch} : (doF F x).L.length ≤ F.L.length ∧ (doF F x).P.length ≤ F.P.length + 1 := by
  unfold doF
  split
  · exact ⟨Nat.le_refl _, by simp⟩
  · exact ⟨Nat.le_refl _, by omega⟩
/-- a folder laid in a variable of its own -/
theorem fo_var {w : World} {cs : List Value} {F : Fo} {K : Nat → World → Prop} (h : FoAt w cs F) (hK : ∀ b w', Fr (fun _ => False) w w' → RecAt w' b 25 cs → K b w') :
    nw w [Value.slice none 0 0, Value.slice none 0 0] 25 fun b w1 => gd (cs.length == 2) (st w1 b 0 cs fun w2 => K b w2) :=
  fo_new (fun b w1 f1 hb r1 => gd_mk (by rw [h.len]; rfl) (fo_st r1 h.len h.one (fun w2 f2 r2 => hK b w2 (f1.trans f2 (fun _ _ h => h) (fun k hk h => by omega)) r2)))
set_option maxHeartbeats 1000000 in
theorem does_law (cs : List Value) (F : Fo) (x : Ch) (s : ByteArray) (w : World) (h : FoAt w cs F) (hb : FoB F) (hx : ChB x) :
    Calls Try.prog 3 #[ofL cs, ofL (encC x), .string s] w fun e w' => e = .returned (.bool true) ∧ Fr (fun _ => False) w w' := by
  refine (F3.of cs _ s w (Q := fun v w' => v = .bool true ∧ Fr (fun _ => False) w w') ?_).mono (fun e w' ⟨v, he, hv, h⟩ => ⟨by rw [he, hv], h⟩)
  have hb' : F.L.length + F.P.length ≤ 349525 := hb
  have hd := doF_b (F := F) (x := x)
  refine fo_new (fun b1 w1 f1 _ r1 => ch_new (fun b3 w2 f2 hb3 r3 => ⟨cs, h.len, rec_rd (r1.fr f2 (fun h => h)), encC x, rfl, rec_rd r3, (do_calls cs F x w2 (h.fr0 (f1.trans1 f2)) hb hx).mono ?_⟩))
  rintro r w3 ⟨f3, c1, rfl, h1⟩
  refine ⟨_, _, rfl, fo_var h1 (fun b11 w4 f4 r11 => ?_)⟩
  have g := ((f1.trans1 f2).trans1 f3).trans1 f4
  have r1 := ((r1.fr f2 (fun h => h)).fr f3 (fun h => h)).fr f4 (fun h => h)
  have r3 := (r3.fr f3 (fun h => h)).fr f4 (fun h => h)
  have h1 := h1.fr0 f4
  refine ⟨cs, h.len, rec_rd r1, encC x, rfl, rec_rd r3, (rdo_calls cs F x w4 (h.fr0 g) hb hx).mono ?_⟩
  rintro r w5 ⟨f5, c2, rfl, h2⟩
  refine ⟨_, _, rfl, fo_var h2 (fun b20 w6 f6 r20 => ?_)⟩
  have f56 := f5.trans1 f6
  have g := g.trans1 f56
  have r1 := r1.fr f56 (fun h => h)
  have r11 := r11.fr f56 (fun h => h)
  have h1 := h1.fr0 f56
  have h2 := h2.fr0 f6
  refine ⟨cs, h.len, rec_rd r1, (find_calls cs F s w6 (h.fr0 g) hb).mono ?_⟩
  rintro r w7 ⟨rfl, f7⟩
  refine ⟨_, _, rfl, cs, h.len, rec_rd (r1.fr f7 (fun h => h)), (rfindF_calls cs F s w7 (h.fr0 (g.trans1 f7)) hb).mono ?_⟩
  rintro r w8 ⟨rfl, f8⟩
  have f78 := (f7.trans1 f8).trans1 (Fr.drew _ w8)
  have g := g.trans1 f78
  have r1 := r1.fr f78 (fun h => h)
  have r11 := r11.fr f78 (fun h => h)
  have r20 := r20.fr f78 (fun h => h)
  have h1 := h1.fr0 f78
  have h2 := h2.fr0 f78
  refine ⟨_, _, rfl, c1, h1.len, rec_rd r11, c2, h2.len, rec_rd r20, (same_calls c1 c2 _ w8.drew h1 h2 (by omega)).mono ?_⟩
  rintro r w9 ⟨rfl, f9⟩
  have g := g.trans1 f9
  have r1 := r1.fr f9 (fun h => h)
  refine ⟨_, rfl, vIf_t rfl (vIf_t (by simp) (vIf_t (by simp) (vIf_t (by simp) ⟨cs, h.len, rec_rd r1, cs, h.len, rec_rd r1, (now_calls cs F w9 (h.fr0 g) hb).mono ?_⟩)))⟩
  rintro r w10 ⟨f10, A2, n2, rfl, h3⟩
  have g := g.trans1 f10
  refine ⟨_, _, _, rfl, kp_mk f10 r1.lt (fun h => h) ((rnow_calls cs F w10 (h.fr0 g) hb).mono ?_)⟩
  rintro r w11 ⟨f11, A3, n3, rfl, h4⟩
  have g := g.trans1 f11
  have hnl := nowF_len F
  refine ⟨_, _, _, rfl, (names_calls A2 _ n2 A3 _ n3 _ w11 (h3.sl.fr0 f11) h4.sl (by omega)).mono ?_⟩
  rintro r w12 ⟨rfl, f12⟩
  refine ⟨_, rfl, vIf_t rfl ((lives_calls w12).mono ?_)⟩
  rintro r w13 ⟨rfl, f13⟩
  exact ⟨_, rfl, rfl, (g.trans1 f12).trans1 f13⟩
theorem fo_lit {w : World} {B : Nat} {A : Option Addr} {c : Nat} {l : List Nm} (h : NRow w B A l.length c l) : FoAt w ([Value.slice A l.length c] ++ ([Value.slice none 0 0] ++ [])) ⟨l, []⟩ := fo_of h
set_option maxHeartbeats 1000000 in
theorem crash_law (cs : List Value) (F : Fo) (n : Int) (w : World) (h : FoAt w cs F) (hb : FoB F) :
    Calls Try.prog 4 #[ofL cs, .int .i64 n] w fun e w' => e = .returned (.bool true) ∧ Fr (fun _ => False) w w' := by
  refine (F4.of cs n w (Q := fun v w' => v = .bool true ∧ Fr (fun _ => False) w w') ?_).mono (fun e w' ⟨v, he, hv, h⟩ => ⟨by rw [he, hv], h⟩)
  have hb' : F.L.length + F.P.length ≤ 349525 := hb
  have hbl := behF_len F n
  have hnl := nowF_len F
  refine fo_new (fun b1 w1 f1 _ r1 => ⟨cs, h.len, rec_rd r1, (crash_calls cs F n w1 (h.fr0 f1) hb).mono ?_⟩)
  rintro r w2 ⟨f2, c1, rfl, h1⟩
  refine ⟨_, rfl, fo_var h1 (fun b7 w3 f3 r7 => ?_)⟩
  have f3d := f3.trans1 (Fr.drew _ w3)
  have g := (f1.trans1 f2).trans1 f3d
  have r1 := (r1.fr f2 (fun h => h)).fr f3d (fun h => h)
  have r7 := r7.fr (Fr.drew (fun _ => False) w3) (fun h => h)
  have h1 := h1.fr0 f3d
  refine ⟨c1, h1.len, rec_rd r7, cs, h.len, rec_rd r1, (rbeh_calls cs F n w3.drew (h.fr0 g) hb).mono ?_⟩
  rintro r w4 ⟨f4, A2, n2, rfl, h2⟩
  refine ⟨_, _, _, rfl, kp_mk f4 r7.lt (fun h => h) ((same_calls c1 _ _ w4 (h1.fr0 f4) (fo_lit h2) ⟨by show (behF F n).length ≤ _; omega, by show 0 ≤ _; omega⟩).mono ?_)⟩
  rintro r w5 ⟨rfl, f5⟩
  have f45 := f4.trans1 f5
  have g := g.trans1 f45
  have r1 := r1.fr f45 (fun h => h)
  refine ⟨_, rfl, vIf_t rfl ⟨cs, h.len, rec_rd r1, cs, h.len, rec_rd r1, (ids_calls cs F w5 (h.fr0 g) hb).mono ?_⟩⟩
  rintro r w6 ⟨f6, A3, c3, rfl, h3⟩
  have g := g.trans1 f6
  refine ⟨_, _, _, rfl, kp_mk f6 r1.lt (fun h => h) ((rids_calls cs F w6 (h.fr0 g) hb).mono ?_)⟩
  rintro r w7 ⟨f7, A4, c4, rfl, h4⟩
  have g := g.trans1 f7
  have r1 := (r1.fr f6 (fun h => h)).fr f7 (fun h => h)
  have hil : (idsF F).length ≤ 549755813888 := by
    have h5 := norm_len (idsU F (F.P.length + 1))
    have h6 := idsU_len hb (F.P.length + 1)
    have h7 : (F.P.length + 1) * 349525 ≤ 349526 * 349525 := Nat.mul_le_mul_right _ (by omega)
    show (norm (idsU F (F.P.length + 1))).length ≤ _
    omega
  refine ⟨_, _, _, rfl, (ints_calls A3 _ c3 _ A4 _ c4 _ w7 (f7.sl h3.sl (fun _ _ _ h => h)) h4.sl hil).mono ?_⟩
  rintro r w8 ⟨rfl, f8⟩
  rw [decide_eq_true rfl]
  have g := g.trans1 f8
  have r1 := r1.fr f8 (fun h => h)
  refine ⟨_, rfl, vIf_t rfl ⟨cs, h.len, rec_rd r1, cs, h.len, rec_rd r1, (sync_calls cs F w8 (h.fr0 g) hb).mono ?_⟩⟩
  rintro r w9 ⟨f9, c5, rfl, h5⟩
  have g := g.trans1 f9
  refine ⟨_, rfl, kp_mk f9 r1.lt (fun h => h) ((rnow_calls cs F w9 (h.fr0 g) hb).mono ?_)⟩
  rintro r w10 ⟨f10, A6, n6, rfl, h6⟩
  have g := g.trans1 f10
  refine ⟨_, _, _, rfl, (same_calls c5 _ _ w10 (h5.fr0 f10) (fo_lit h6) ⟨by show (nowF F).length ≤ _; omega, by show 0 ≤ _; omega⟩).mono ?_⟩
  rintro r w11 ⟨rfl, f11⟩
  refine ⟨_, rfl, vIf_t rfl ((lives_calls w11).mono ?_)⟩
  rintro r w12 ⟨rfl, f12⟩
  exact ⟨_, rfl, rfl, (g.trans1 f11).trans1 f12⟩
theorem lastN_id {l : List Nm} (h : AscN l) : lastN l = l := ascN_ext (lastN_asc l) h (fun s => lastN_find s l)
theorem idsU_mem (F : Fo) {i : Nat} {x : Nm} (hx : x ∈ behF F (i : Nat)) : ∀ n, i < n → x.2 ∈ idsU F n
  | 0, h => by omega
  | n + 1, h => by
    rw [idsU]
    by_cases hin : i = n
    · subst hin
      exact List.mem_append_right _ (List.mem_map_of_mem hx)
    · exact List.mem_append_left _ (idsU_mem F hx n (by omega))
theorem cnt_nat (m : Nat) (P : List Ch) : cnt (m : Nat) P = min m P.length := by
  unfold cnt
  rw [if_neg (by omega), Int.toNat_natCast]
theorem ids_has (F : Fo) (n : Int) {x : Nm} (hx : x ∈ behF F n) : x.2 ∈ idsF F := by
  have h1 : behF F n = behF F ((cnt n F.P : Nat) : Int) := by
    have hc := cnt_le n F.P
    unfold behF
    rw [cnt_nat, Nat.min_eq_left hc]
  rw [h1] at hx
  have hc := cnt_le n F.P
  exact (norm_mem _ _).2 (idsU_mem F hx _ (by omega))
theorem now_sync (F : Fo) (n : Int) : behF ⟨nowF F, []⟩ n = nowF F := by
  have h : behF ⟨nowF F, []⟩ n = lastN (nowF F) := by unfold behF; simp [behN]
  rw [h, lastN_id (nowF_asc F)]
set_option maxHeartbeats 1000000 in
theorem lasts_law (cs : List Value) (F : Fo) (n : Int) (w : World) (h : FoAt w cs F) (hb : FoB F) :
    Calls Try.prog 5 #[ofL cs, .int .i64 n] w fun e w' => e = .returned (.bool true) ∧ Fr (fun _ => False) w w' := by
  refine (F5.of cs n w (Q := fun v w' => v = .bool true ∧ Fr (fun _ => False) w w') ?_).mono (fun e w' ⟨v, he, hv, h⟩ => ⟨by rw [he, hv], h⟩)
  have hb' : F.L.length + F.P.length ≤ 349525 := hb
  have hbl := behF_len F n
  have hnl := nowF_len F
  refine fo_new (fun b1 w1 f1 _ r1 => ⟨cs, h.len, rec_rd r1, (sync_calls cs F w1 (h.fr0 f1) hb).mono ?_⟩)
  rintro r w2 ⟨f2, c1, rfl, h1⟩
  refine ⟨_, rfl, fo_var h1 (fun b7 w3 f3 r7 => ?_)⟩
  have g := (f1.trans1 f2).trans1 f3
  have r1 := (r1.fr f2 (fun h => h)).fr f3 (fun h => h)
  have h1 := h1.fr0 f3
  refine ⟨cs, h.len, rec_rd r1, (crash_calls cs F n w3 (h.fr0 g) hb).mono ?_⟩
  rintro r w4 ⟨f4, c2, rfl, h2⟩
  refine ⟨_, rfl, fo_var h2 (fun b14 w5 f5 r14 => ?_)⟩
  have f45 := f4.trans1 f5
  have g := g.trans1 f45
  have r1 := r1.fr f45 (fun h => h)
  have r7 := r7.fr f45 (fun h => h)
  have h1 := h1.fr0 f45
  have h2 := h2.fr0 f5
  refine ⟨cs, h.len, rec_rd r1, (ids_calls cs F w5 (h.fr0 g) hb).mono ?_⟩
  rintro r w6 ⟨f6, A3, c3, rfl, h3⟩
  have g := g.trans1 f6
  have r1 := r1.fr f6 (fun h => h)
  have r7 := r7.fr f6 (fun h => h)
  have r14 := r14.fr f6 (fun h => h)
  have h1 := h1.fr0 f6
  have h2 := h2.fr0 f6
  have hil : (idsF F).length ≤ 549755813888 := by
    have h5 := norm_len (idsU F (F.P.length + 1))
    have h6 := idsU_len hb (F.P.length + 1)
    have h7 : (F.P.length + 1) * 349525 ≤ 349526 * 349525 := Nat.mul_le_mul_right _ (by omega)
    show (norm (idsU F (F.P.length + 1))).length ≤ _
    omega
  have hmem : ∀ (i : Nat) (x : Nm), (behF F n)[i]? = some x → x.2 ∈ idsF F := fun i x hx => ids_has F n (List.mem_of_getElem? hx)
  refine ⟨_, _, _, rfl, jnC_mk ?_⟩
  obtain ⟨A2, n2, d2, A2', n2', d2', hc2, hL2, hP2, _⟩ := id h2
  have hL2l : (behF F n).length = n2 := hL2.2
  subst hc2
  have s3 := h3.sl
  clear h3
  refine loop_rule (fun s u => Fr (fun _ => False) w6 u ∧ ∃ i : Nat, i ≤ n2 ∧ s = (n, (b1, 0), (b7, 0), (b14, 0), (A3, (idsF F).length, c3), (i : Int), ())) (fun s _ => (n2 - s.2.2.2.2.2.1).toNat) ?_ _ _ ⟨Fr.refl _ _, 0, by omega, rfl⟩
  rintro s u C5 ⟨hf, i, hi, rfl⟩ hC5 _
  refine ⟨A2, n2, d2, (r14.fr hf (fun h => h)).cell rfl, vIf_mk (fun hlt => jnC_mk ?_) (fun hge => ?_)⟩
  · have hlt2 : (i : Int) < (n2 : Int) := of_decide_eq_true hlt
    have gi : (behF F n)[i]? = some ((behF F n)[i]'(by omega)) := List.getElem?_eq_getElem (by omega)
    generalize (behF F n)[i]'(by omega) = x at gi
    have hx := hmem i x gi
    refine loop_rule (fun s v => Fr (fun _ => False) w6 v ∧ ∃ k : Nat, k ≤ (idsF F).length ∧ s = (n, (b1, 0), (b7, 0), (b14, 0), (A3, (idsF F).length, c3), (i : Int), decide (x.2 ∈ (idsF F).take k), (k : Int), ())) (fun s _ => ((idsF F).length - s.2.2.2.2.2.2.2.1).toNat) ?_ _ _ ⟨hf, 0, by omega, by simp⟩
    rintro s v C9 ⟨fv, k, hk, rfl⟩ hC9 _
    refine vIf_mk (fun hlt => ?_) (fun hge => ?_)
    · have hlt3 : (k : Int) < ((idsF F).length : Int) := of_decide_eq_true hlt
      have gk : (idsF F)[k]? = some ((idsF F)[k]'(by omega)) := List.getElem?_eq_getElem (by omega)
      generalize (idsF F)[k]'(by omega) = y at gk
      have hst := take_succ_at gk
      have fd := fv.trans1 (Fr.drew _ v)
      have hmeas : (((idsF F).length : Int) - IntKind.wrap .i64 ((k : Int) + 1)).toNat < (((idsF F).length : Int) - (k : Int)).toNat := by rw [ei k (by omega)]; omega
      refine vIf_mk (fun hin => jnC_mk (hC9 _ _ ⟨fd, k + 1, by omega, ?_⟩ hmeas)) (fun hin => sl_rd (fd.sl s3 (fun _ _ _ h => h)) (by omega) gk ⟨A2, n2, d2, (r14.fr fd (fun h => h)).cell rfl, n_rdI (hL2.fr0 fd) gi rfl (jnC_mk (hC9 _ _ ⟨fd, k + 1, by omega, ?_⟩ hmeas))⟩)
      · have hin := of_decide_eq_true hin
        rw [ei k (by omega), hst, decide_eq_true (List.mem_append_left _ hin)]
      · have hin : ¬ x.2 ∈ (idsF F).take k := of_decide_eq_false hin
        rw [ei k (by omega), hst]
        have : (y == x.2) = decide (x.2 ∈ (idsF F).take k ++ [y]) := by
          rw [Bool.eq_iff_iff, decide_eq_true_iff, beq_iff_eq]
          simp [hin, eq_comm]
        rw [this]
    · have hge3 : ¬ (k : Int) < ((idsF F).length : Int) := of_decide_eq_false hge
      refine vIf_f ?_ (jnC_mk (hC5 _ _ ⟨fv, i + 1, by omega, by rw [ei i (by omega)]⟩ ?_))
      · show (!decide (x.2 ∈ (idsF F).take k)) = false
        rw [List.take_of_length_le (by omega), decide_eq_true hx]; rfl
      · show ((n2 : Int) - IntKind.wrap .i64 ((i : Int) + 1)).toNat < ((n2 : Int) - (i : Int)).toNat
        rw [ei i (by omega)]; omega
  · have fd := hf.trans1 (Fr.drew _ u)
    have g := g.trans1 fd
    have r1 := r1.fr fd (fun h => h)
    have r7 := r7.fr fd (fun h => h)
    have h1 := h1.fr0 fd
    refine ⟨c1, h1.len, rec_rd r7, c1, h1.len, rec_rd r7, (crash_calls c1 _ n u.drew h1 (by show (nowF F).length + 0 ≤ 349525; omega)).mono ?_⟩
    rintro r w7 ⟨f7, c7, rfl, h7⟩
    rw [now_sync] at h7
    refine ⟨_, rfl, kp_mk f7 r7.lt (fun h => h) ((same_calls c7 c1 _ w7 h7 (h1.fr0 f7) ⟨by show (nowF F).length ≤ _; omega, by show 0 ≤ _; omega⟩).mono ?_)⟩
    rintro r w8 ⟨rfl, f8⟩
    have f78 := f7.trans1 f8
    have g := g.trans1 f78
    have r1 := r1.fr f78 (fun h => h)
    have r7 := r7.fr f78 (fun h => h)
    have h1 := h1.fr0 f78
    have hF := h.fr0 g
    have hlen := h.len
    obtain ⟨A, m, c, A', m', c', rfl, hL, hP, hPc⟩ := h
    refine ⟨_, rfl, vIf_t rfl ⟨_, rfl, rec_rd r1, A', m', c', r1.cell rfl, c1, h1.len, rec_rd r7, (crash_calls _ F ((m' : Nat) : Int) w8 hF hb).mono ?_⟩⟩
    rintro r w9 ⟨f9, c9, rfl, h9⟩
    have e : behF F ((m' : Nat) : Int) = nowF F := by unfold nowF; rw [hP.2]
    rw [e] at h9
    refine ⟨_, rfl, kp_mk f9 r7.lt (fun h => h) ((same_calls c9 c1 _ w9 h9 (h1.fr0 f9) ⟨by show (nowF F).length ≤ _; omega, by show 0 ≤ _; omega⟩).mono ?_)⟩
    rintro r w10 ⟨rfl, f10⟩
    refine ⟨_, rfl, vIf_t rfl ((lives_calls w10).mono ?_)⟩
    rintro r w11 ⟨rfl, f11⟩
    exact ⟨_, rfl, rfl, ((g.trans1 f9).trans1 f10).trans1 f11⟩
end Go.Proofs.Ytglojgicnchnpaa
