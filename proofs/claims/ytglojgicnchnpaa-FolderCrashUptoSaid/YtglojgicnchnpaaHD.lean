/- chapter 11: the document's Behind; Now, Find, Crash, Sync, wrong, Do -/
import Derived.Test.YtglojgicnchnpaaHC
import Derived.Test.YtglojgicnchnpaaLNmD
namespace Go.Proofs.Ytglojgicnchnpaa
open Go.GV Go.RowKit Go.Lib Go.Stb
set_option linter.unusedVariables false
set_option linter.unusedSimpArgs false
set_option maxHeartbeats 1000000 in
theorem rbeh_calls (cs : List Value) (F : Fo) (n : Int) (w : World) (h : FoAt w cs F) (hb : FoB F) :
    Calls Try.prog 16 #[ofL cs, .int .i64 n] w fun e w' => Fr (fun _ => False) w w' ∧ ∃ A' c', e = .returned (.slice A' (behF F n).length c') ∧ NRow w' w.heap.size A' (behF F n).length c' (behF F n) := by
  refine (F16.of cs n w (Q := fun v' w' => Fr (fun _ => False) w w' ∧ ∃ A' c', v' = .slice A' (behF F n).length c' ∧ NRow w' w.heap.size A' (behF F n).length c' (behF F n)) ?_).mono (fun e w' ⟨v, he, hf, A', c', hv, h⟩ => ⟨hf, A', c', by rw [he, hv], h⟩)
  obtain ⟨A, m, c, A', m', c', rfl, hL, hP, hPc⟩ := h
  have hb : F.L.length + F.P.length ≤ 349525 := hb
  have hLl := hL.2
  have hPl := hP.2
  refine nw_mk ?_
  have f1 : Fr (fun _ => False) w (w.alloc (.cells [Value.slice A m c, .slice A' m' c'].toArray 25)) := Fr.alloc _ _ _
  have r1 := RecAt.new w [Value.slice A m c, .slice A' m' c'] 25
  have hs1 : w.heap.size ≤ (w.alloc (.cells [Value.slice A m c, .slice A' m' c'].toArray 25)).heap.size := f1.size
  generalize hb1 : w.heap.size = b1 at r1 hs1 ⊢
  generalize w.alloc (.cells [Value.slice A m c, .slice A' m' c'].toArray 25) = w1 at f1 r1 hs1 ⊢
  refine ⟨A, m, c, r1.cell rfl, jnC_mk ?_⟩
  have hL1 := hL.fr0 f1
  have hP1 := hP.fr0 f1
  refine loop_rule (fun s u => Fr (fun _ => False) w1 u ∧ ∃ (i : Nat) (A2 : Option Addr) (c2 : Nat), i ≤ m ∧ s = (n, (b1, 0), (A2, (lastN (F.L.drop i)).length, c2), ((i : Int) - 1), ()) ∧ NRow u w1.heap.size A2 (lastN (F.L.drop i)).length c2 (lastN (F.L.drop i)))
    (fun s _ => (s.2.2.2.1 + 1).toNat) ?_ _ _ ⟨Fr.refl _ _, m, none, 0, by omega, by rw [List.drop_of_length_le (by omega), i64_id (by omega) (by omega)]; rfl, by rw [List.drop_of_length_le (by omega)]; exact ⟨Row.nil _ _ _ _, rfl⟩⟩
  rintro s u C3 ⟨hf, i, A2, c2, hi, rfl, h2⟩ hC3 _
  have r1u := r1.fr hf (fun h => h)
  refine vIf_mk (fun hge => ?_) (fun hlt => ?_)
  · have hge2 : ((i : Int) - 1) ≥ 0 := of_decide_eq_true hge
    obtain ⟨j, rfl⟩ : ∃ j, i = j + 1 := ⟨i - 1, by omega⟩
    have ej : (((j + 1 : Nat) : Int) - 1) = (j : Int) := by omega
    have gi : F.L[j]? = some (F.L[j]'(by omega)) := List.getElem?_eq_getElem (by omega)
    generalize F.L[j]'(by omega) = x at gi
    have hd : lastN (F.L.drop j) = putN x (lastN (F.L.drop (j + 1))) := by rw [drop_at gi]; rfl
    have hll := lastN_len (F.L.drop (j + 1))
    rw [List.length_drop] at hll
    refine ⟨A, m, c, r1u.cell rfl, n_rd (hL1.fr0 hf) gi ej ((rput_calls A2 _ c2 _ x u h2.sl (lastN_asc _) (by omega)).mono ?_)⟩
    rintro r u2 ⟨f2, A3, c3, rfl, h3⟩
    rw [← hd] at h3 ⊢
    refine ⟨_, _, _, rfl, jnC_mk (hC3 _ _ ⟨hf.trans1 f2, j, A3, c3, by omega, ?_, row_low hf.size h3.1, h3.2⟩ ?_)⟩
    · show (_, _, _, IntKind.wrap .i64 ((((j + 1 : Nat) : Int) - 1) - 1), ()) = _
      rw [ej, i64_id (by omega) (by omega)]
    · show (IntKind.wrap .i64 ((((j + 1 : Nat) : Int) - 1) - 1) + 1).toNat < ((((j + 1 : Nat) : Int) - 1) + 1).toNat
      rw [ej, i64_id (by omega) (by omega)]; omega
  · have hlt2 : ¬ ((i : Int) - 1) ≥ 0 := of_decide_eq_false hlt
    have hi0 : i = 0 := by omega
    subst hi0
    rw [List.drop_zero] at h2 ⊢
    clear hC3
    refine jnC_mk ?_
    refine loop_rule (fun s u => Fr (fun _ => False) w1 u ∧ ∃ (i : Nat) (A2 : Option Addr) (c2 : Nat), i ≤ cnt n F.P ∧ s = (n, (b1, 0), (A2, (behN F.L (F.P.take i)).length, c2), (i : Int), ()) ∧ NRow u w1.heap.size A2 (behN F.L (F.P.take i)).length c2 (behN F.L (F.P.take i)))
      (fun s _ => (F.P.length - s.2.2.2.1).toNat) ?_ _ _ ⟨hf, 0, A2, c2, by omega, rfl, h2⟩
    clear hf h2 r1u
    rintro s u C ⟨hf, i, A3, c3, hi, rfl, h3⟩ hC _
    have hcl := cnt_le n F.P
    have r1u := r1.fr hf (fun h => h)
    have done : i = cnt n F.P → (Fr (fun _ => False) w u ∧ ∃ A' c', Value.slice A3 (behN F.L (F.P.take i)).length c3 = .slice A' (behF F n).length c' ∧ NRow u b1 A' (behF F n).length c' (behF F n)) := by
      intro e
      have e2 : behF F n = behN F.L (F.P.take i) := by unfold behF; rw [e]
      rw [e2]
      exact ⟨f1.trans1 hf, A3, c3, rfl, row_low hs1 h3.1, h3.2⟩
    refine ⟨A', m', c', r1u.cell rfl, vIf_mk (fun hlt => vIf_mk (fun hn => jnC_mk (fun _ => ?_)) (fun hn => ?_)) (fun hge => ?_)⟩
    rotate_left
    · have hlt2 : (i : Int) < (m' : Int) := of_decide_eq_true hlt
      have hn2 : ¬ (i : Int) < n := of_decide_eq_false hn
      refine done ?_
      unfold cnt at hi ⊢
      split at hi
      · rw [if_pos (by assumption)]; omega
      · rw [if_neg (by assumption)]; omega
    · have hge2 : ¬ (i : Int) < (m' : Int) := of_decide_eq_false hge
      exact done (by omega)
    have hlt2 : (i : Int) < (m' : Int) := of_decide_eq_true hlt
    have hn2 : (i : Int) < n := of_decide_eq_true hn
    have gi : F.P[i]? = some (F.P[i]'(by omega)) := List.getElem?_eq_getElem (by omega)
    generalize F.P[i]'(by omega) = x at gi
    have hst := behN_step (L := F.L) gi
    have hasc := behN_asc F.L (F.P.take i)
    have hbl := behN_len F.L (F.P.take i)
    have htl : (F.P.take i).length ≤ F.P.length := by rw [List.length_take]; omega
    have hicnt : i + 1 ≤ cnt n F.P := by unfold cnt; rw [if_neg (by omega)]; omega
    generalize behN F.L (F.P.take i) = l at hst hasc hbl h3 done ⊢
    have next : ∀ (v : World) (A4 : Option Addr) (c4 : Nat), Fr (fun _ => False) w1 v → NRow v w1.heap.size A4 (stepN l x).length c4 (stepN l x) → C (n, (b1, 0), (A4, (stepN l x).length, c4), IntKind.wrap .i64 ((i : Int) + 1), ()) v := by
      intro v A4 c4 fv hv
      refine hC _ _ ⟨fv, i + 1, A4, c4, hicnt, by rw [hst, ei i (by omega)], by rw [hst]; exact hv⟩ ?_
      show ((F.P.length : Int) - IntKind.wrap .i64 ((i : Int) + 1)).toNat < ((F.P.length : Int) - (i : Int)).toNat
      rw [ei i (by omega)]; omega
    refine ⟨A', m', c', r1u.cell rfl, c_rd (hP1.fr0 hf) gi rfl (ch_var (fun b u2 g2 r2 => ⟨x.nm, r2.cell rfl, (rfind_calls A3 _ c3 l x.nm u2 (h3.sl.fr0 g2) (by omega)).mono ?_⟩))⟩
    rintro r u3 ⟨rfl, g3⟩
    have g23 := g2.trans1 g3
    have fv := hf.trans1 g23
    have r3 := r2.fr g3 (fun h => h)
    have h3v := h3.fr0 g23
    refine ⟨_, _, rfl, x.k, r3.cell rfl, vIf_mk (fun hk => ?_) (fun hk => ?_)⟩
    · have hk : x.k = 1 := by simpa using hk
      have e : stepN l x = putN (x.nm, x.id) l := if_pos hk
      refine ⟨x.nm, r3.cell rfl, x.id, r3.cell rfl, (rput_calls A3 _ c3 l (x.nm, x.id) u3 h3v.sl hasc (by omega)).mono ?_⟩
      rintro r u4 ⟨g4, A4, c4, rfl, h4⟩
      rw [← e] at h4 ⊢
      have r4 := r3.fr g4 (fun h => h)
      refine ⟨_, _, _, rfl, jnC_mk (fun _ => ⟨x.k, r4.cell rfl, vIf_f (by rw [hk]; rfl) (jnC_mk (fun _ => vIf_f rfl (jnC_mk (fun _ => ⟨x.k, r4.cell rfl, vIf_f (by rw [hk]; rfl) (jnC_mk (next _ A4 c4 (fv.trans1 g4) ⟨row_low fv.size h4.1, h4.2⟩))⟩))))⟩)⟩
    · have hk : ¬ x.k = 1 := by simpa using hk
      refine jnC_mk (fun _ => ⟨x.k, r3.cell rfl, vIf_mk (fun hk2 => jnC_mk (fun _ => ?_)) (fun hk2 => jnC_mk (fun _ => ?_))⟩)
      · have hk2 : x.k = 2 := by simpa using hk2
        refine vIf_mk (fun hin => ?_) (fun hin => ?_)
        · cases hfd : findN x.nm l with
          | none => rw [hfd] at hin; cases hin
          | some id =>
            have e : stepN l x = putN (x.to, id) (woN x.nm l) := by unfold stepN; rw [if_neg hk, if_pos hk2, hfd]
            have hwl := woN_len x.nm l
            have rd := r3.fr (Fr.drew (fun _ => False) u3) (fun h => h)
            refine ⟨x.nm, rd.cell rfl, x.to, rd.cell rfl, (rwo_calls A3 _ c3 l x.nm u3.drew (h3v.fr0 (Fr.drew _ _)).sl (by omega)).mono ?_⟩
            rintro r u4 ⟨g4, A4, c4, rfl, h4⟩
            have fv4 := (fv.trans1 (Fr.drew _ _)).trans1 g4
            refine ⟨_, _, _, rfl, kp_mk g4 rd.lt (fun h => h) ((rput_calls A4 _ c4 _ (x.to, id) u4 h4.sl (woN_asc _ hasc) (by omega)).mono ?_)⟩
            rintro r u5 ⟨g5, A5, c5, rfl, h5⟩
            rw [← e] at h5 ⊢
            have r5 := (rd.fr g4 (fun h => h)).fr g5 (fun h => h)
            exact ⟨_, _, _, rfl, jnC_mk (fun _ => ⟨x.k, r5.cell rfl, vIf_f (by rw [hk2]; rfl) (jnC_mk (next _ A5 c5 (fv4.trans1 g5) ⟨row_low fv4.size h5.1, h5.2⟩))⟩)⟩
        · cases hfd : findN x.nm l with
          | some id => rw [hfd] at hin; cases hin
          | none =>
            have e : stepN l x = l := by unfold stepN; rw [if_neg hk, if_pos hk2, hfd]
            rw [e] at next
            exact jnC_mk (fun _ => ⟨x.k, r3.cell rfl, vIf_f (by rw [hk2]; rfl) (jnC_mk (next _ A3 c3 fv h3v))⟩)
      · have hk2 : ¬ x.k = 2 := by simpa using hk2
        refine vIf_f rfl (jnC_mk (fun _ => ⟨x.k, r3.cell rfl, vIf_mk (fun hk3 => ?_) (fun hk3 => ?_)⟩))
        · have hk3 : x.k = 3 := by simpa using hk3
          have e : stepN l x = woN x.nm l := by unfold stepN; rw [if_neg hk, if_neg hk2, if_pos hk3]
          refine ⟨x.nm, r3.cell rfl, (rwo_calls A3 _ c3 l x.nm u3 h3v.sl (by omega)).mono ?_⟩
          rintro r u4 ⟨g4, A4, c4, rfl, h4⟩
          rw [← e] at h4 ⊢
          exact ⟨_, _, _, rfl, jnC_mk (next _ A4 c4 (fv.trans1 g4) ⟨row_low fv.size h4.1, h4.2⟩)⟩
        · have hk3 : ¬ x.k = 3 := by simpa using hk3
          have e : stepN l x = l := by unfold stepN; rw [if_neg hk, if_neg hk2, if_neg hk3]
          rw [e] at next
          exact jnC_mk (next _ A3 c3 fv h3v)
end Go.Proofs.Ytglojgicnchnpaa
