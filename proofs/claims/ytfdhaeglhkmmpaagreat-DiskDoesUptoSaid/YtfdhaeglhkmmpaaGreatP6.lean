import Derived.Test.YtfdhaeglhkmmpaaGreatRows
import Derived.WalkKit
import Derived.ProofKit
import Derived.OpenShut
import Derived.JoinedCond
import Derived.Test.YtfdhaeglhkmmpaaGreatP5
/- chapter 12, the document's: set, on, Power -/
namespace Go.Proofs.YtfdhaeglhkmmpaaGreat
open Go.GV Go.RowKit Go.Lib
set_option linter.unusedVariables false
set_option linter.unusedSimpArgs false
def setK (K : List Kpt) (id : Int) (x : Ino) : List Kpt := K.map fun p => if p.1 = id then (p.1, x) else p
theorem setK_KD (d : Dk) (id : Int) (x : Ino) : setK (KD d) id x = KD { d with f := updF d.f id x } := by
  unfold setK KD
  rw [List.map_map]
  refine List.map_congr_left (fun k _ => ?_)
  show (if k = id then (k, x) else (k, d.f k)) = (k, updF d.f id x k)
  unfold updF
  split <;> rfl
theorem kcells {w : World} {A : Option Addr} {n : Nat} {K : List Kpt} {vs : List Value} (h1 : Sl w 3 A n vs) (h2 : K.length = n) (h3 : Ech 3 (KpP w) vs K) : ∀ v ∈ vs, v.oneCell' = true := by
  intro v hv
  obtain ⟨j, hj⟩ := List.mem_iff_getElem?.1 hv
  have hjl := (List.getElem?_eq_some_iff.1 hj).1
  have hl := h1.1
  have gx : K[j / 3]? = some (K[j / 3]'(by omega)) := List.getElem?_eq_getElem (by omega)
  have hw := h3 (j / 3) _ gx
  refine hw.one.2.1 v (List.mem_iff_getElem?.2 ⟨j % 3, ?_⟩)
  rw [chk_get (by omega), show j / 3 * 3 + j % 3 = j by omega]
  exact hj
set_option maxHeartbeats 2000000 in
theorem rset_calls (lo rb : Nat) (d : Dk) (K : List Kpt) (id : Int) (cs : List Value) (x : Ino) (w : World) (h : RkAt w lo rb d K) (hx : InoAt w cs x) (hK : K.length ≤ 549755813888) (hlw : lo ≤ w.heap.size) :
    Calls Tryz.prog 109 #[.pointer (some ⟨rb, 0, none⟩), .int .i64 id, ofL cs] w fun e w' => Fr (fun k => k = rb) w w' ∧ e = .returned (.tuple #[]) ∧ RkAt w' lo rb d (setK K id x) := by
  refine (F109.of (some ⟨rb, 0, none⟩) id cs w (Q := fun v w' => Fr (fun k => k = rb) w w' ∧ v = .tuple #[] ∧ RkAt w' lo rb d (setK K id x)) ?_).mono (fun e w' ⟨v, he, hf, hv, h⟩ => ⟨hf, by rw [he, hv], h⟩)
  have hone := ino_one hx
  have hx0 := hx
  obtain ⟨A1, n1, c1, A2, n2, c2, ecs, _⟩ := hx0
  refine rec_new (fun b1 w2 f1 hb1 r1 => dr_mk (rk_getK (h.fr0 f1) (fun A c hA hfar => ?_)))
  have hs1 := f1.size
  obtain ⟨vs, q1, q2, q3⟩ := hA
  have hx2 := hx.fr0 f1
  have hK2 := kcells q1 q2 q3
  refine app_row (Row.nil w2 w2.heap.size 106 3) q1.src hK2 rfl (by omega) (by omega) (Nat.le_refl _) ?_
  intro A8 c10 w11 r11 f11
  rw [Nat.zero_add, List.nil_append] at r11
  rw [Nat.zero_add]
  have f11 : Fr (fun _ => False) w2 w11 := f11.mono (fun _ _ h => by simp [blkOf] at h)
  have hl2 := q1.1
  -- what the row holds, so far
  refine jnC_mk (loop_rule (fun s y => Fr (fun _ => False) w2 y ∧ ∃ (i : Nat) (us : List Value), i ≤ K.length ∧ s = (some ⟨rb, 0, none⟩, id, (b1, 0), (A8, K.length, c10), (i : Int), ()) ∧ Row y w2.heap.size 106 3 A8 K.length c10 us ∧ Ech 3 (KpP w2) us (setK (K.take i) id x ++ K.drop i))
    (fun s _ => (K.length - s.2.2.2.2.1).toNat) ?_ _ _ ⟨f11, 0, vs, by omega, rfl, r11, by rw [List.take_zero, List.drop_zero]; exact q3⟩)
  rintro s y C ⟨hf, i, us, hi, rfl, hr, hE⟩ hC _
  have hr1 := r1.fr hf (fun h => h)
  refine vIf_mk (fun hlt => ?_) (fun hge => ?_)
  · have hlt : (i : Int) < (K.length : Int) := of_decide_eq_true hlt
    have gi : K[i]? = some (K[i]'(by omega)) := List.getElem?_eq_getElem (by omega)
    generalize K[i]'(by omega) = z at gi
    have hdi : K.drop i = z :: K.drop (i + 1) := drop_at gi
    have hll : (setK (K.take i) id x).length = i := by unfold setK; rw [List.length_map, List.length_take]; omega
    have gz : (setK (K.take i) id x ++ K.drop i)[i]? = some z := by rw [List.getElem?_append_right (by omega), hll, Nat.sub_self, hdi]; rfl
    have ms : ((K.length : Int) - IntKind.wrap .i64 ((i : Int) + 1)).toNat < ((K.length : Int) - (i : Int)).toNat := by rw [ei i (by omega)]; omega
    have hkt : KtSl y A8 K.length (setK (K.take i) id x ++ K.drop i) := ⟨us, hr.sl, by rw [List.length_append, hll, List.length_drop]; omega, hE.mono (fun cs q hq => hq.fr hf (fun _ h => h.elim))⟩
    have eT : setK (K.take (i + 1)) id x = setK (K.take i) id x ++ [if z.1 = id then (z.1, x) else z] := by
      rw [List.take_add_one, gi]; simp [setK]
    refine kt_rdI hkt gz (by omega) (vIf_mk (fun he => ⟨cs, hone.1, rec_all hr1, ?_⟩) (fun he => jnC_mk (hC _ _ ⟨hf, i + 1, us, by omega, by rw [ei i (by omega)], hr, ?_⟩ ms)))
    · have he : z.1 = id := by simpa using he
      have hul := hr.len
      have hput := row_putG (o' := i * 3 + 1) (us := cs) (K := fun w' => jnC C (some ⟨rb, 0, none⟩, id, (b1, 0), (A8, K.length, c10), IntKind.wrap .i64 ((i : Int) + 1), ()) w') hr (by omega) (by rw [hone.1]; omega) hone.2 (fun w6 r6 f6 => jnC_mk (hC _ _ ⟨fr_own hf (fun j hj => (hr.blt hj).1) (Nat.le_refl _) f6, i + 1, _, by omega, by rw [ei i (by omega)], r6, ?_⟩ ms))
      · dsimp only
        rw [dr_iff] at hput ⊢
        obtain ⟨b', o', hA', hst⟩ := hput
        refine ⟨b', o', hA', gd_mk (decide_eq_true (by omega)) (gd_mk (decide_eq_true (by omega)) (gd_mk (by rw [hone.1]; rfl) ?_))⟩
        rw [Int.toNat_natCast, Nat.add_assoc]
        exact hst
      · rw [eT, if_pos he, List.append_assoc]
        intro j q hq
        have hfit : i * 3 + 1 + cs.length ≤ us.length := by rw [hone.1]; omega
        by_cases hj : j = i
        · subst hj
          have e1 : (setK (K.take j) id x ++ ([(z.1, x)] ++ K.drop (j + 1)))[j]? = some (z.1, x) := by rw [List.getElem?_append_right (by omega), hll, Nat.sub_self]; rfl
          rw [e1] at hq
          injection hq with hq
          subst hq
          obtain ⟨u0, v0, e0, _⟩ := hE j z gz
          refine ⟨_, _, ?_, by rw [ecs] at hx2; exact hx2⟩
          apply List.ext_getElem?
          intro m
          by_cases hm : m < 3
          · rw [chk_get hm, splice_get hfit, ecs]
            have hz0 : us[j * 3 + 0]? = some (Value.int .i64 z.1) := by
              have := chk_get (sz := 3) (vs := us) (i := j) (j := 0) (by omega)
              rw [e0] at this
              simpa using this.symm
            match m, hm with
            | 0, _ => rw [if_pos (by omega), hz0]; rfl
            | 1, _ => rw [if_neg (by omega), if_pos (by simp), Nat.sub_self]; rfl
            | 2, _ => rw [if_neg (by omega), if_pos (by simp), show j * 3 + 2 - (j * 3 + 1) = 1 by omega]; rfl
          · have hcl : (chk 3 (splice us (j * 3 + 1) cs) j).length ≤ 3 := by unfold chk; rw [List.length_take]; omega
            rw [List.getElem?_eq_none (by omega), List.getElem?_eq_none (by simp; omega)]
        · have e1 : (setK (K.take i) id x ++ K.drop i)[j]? = some q := by
            rw [← hq]
            by_cases hji : j < i
            · rw [List.getElem?_append_left (by omega), List.getElem?_append_left (by omega)]
            · rw [List.getElem?_append_right (by omega), List.getElem?_append_right (by omega), hll, hdi]
              obtain ⟨m, hm⟩ : ∃ m, j - i = m + 1 := ⟨j - i - 1, by omega⟩
              rw [hm, List.getElem?_cons_succ, List.singleton_append, List.getElem?_cons_succ]
          have h0 := hE j q e1
          have e2 : chk 3 (splice us (i * 3 + 1) cs) j = chk 3 us j := by
            apply List.ext_getElem?
            intro m
            by_cases hm : m < 3
            · rw [chk_get hm, chk_get hm, splice_get hfit, hone.1]
              by_cases hji : j < i
              · rw [if_pos (by omega)]
              · rw [if_neg (by omega), if_neg (by omega)]
            · have a1 : (chk 3 (splice us (i * 3 + 1) cs) j).length ≤ 3 := by unfold chk; rw [List.length_take]; omega
              have a2 : (chk 3 us j).length ≤ 3 := by unfold chk; rw [List.length_take]; omega
              rw [List.getElem?_eq_none (by omega), List.getElem?_eq_none (by omega)]
          rw [e2]; exact h0
    · have he : ¬ z.1 = id := by simpa using he
      rw [eT, if_neg he, List.append_assoc, List.singleton_append, ← hdi]
      exact hE
  · have hge : ¬ (i : Int) < (K.length : Int) := of_decide_eq_false hge
    have e1 : K.take i = K := List.take_of_length_le (by omega)
    have e2 : K.drop i = [] := List.drop_of_length_le (by omega)
    rw [e1, e2, List.append_nil] at hE
    refine dr_mk (rk_setK ((h.fr0 f1).fr0 hf) ⟨us, hr.sl, by unfold setK; rw [List.length_map], hE.mono (fun cs q hq => hq.fr hf (fun _ h => h.elim))⟩ (fun k hk => by have := (hr.blt hk).1; omega) (fun w' f' h' => ⟨(f1.trans1 hf).trans f' (fun _ _ h => h.elim) (fun _ _ h => h), rfl, h'⟩))
/-! ### on -/
theorem sum_upd {l : List Int} (hn : l.Nodup) {id : Int} (hm : id ∈ l) (f : Int → Ino) (x : Ino) : (l.map fun k => roomI (updF f id x k)).sum = (l.map fun k => roomI (f k)).sum - roomI (f id) + roomI x := by
  induction l with
  | nil => cases hm
  | cons k r ih =>
    rw [List.nodup_cons] at hn
    simp only [List.map_cons, List.sum_cons]
    by_cases hk : k = id
    · subst hk
      have e : (r.map fun j => roomI (updF f k x j)) = r.map fun j => roomI (f j) := List.map_congr_left (fun j hj => by
        have : j ≠ k := fun e => hn.1 (e ▸ hj)
        unfold updF; rw [if_neg this])
      rw [e]
      have : updF f k x k = x := by unfold updF; rw [if_pos rfl]
      rw [this]; omega
    · have h1 := ih hn.2 ((List.mem_cons.1 hm).resolve_left (fun e => hk e.symm))
      have : updF f id x k = f k := by unfold updF; rw [if_neg hk]
      rw [h1, this]; omega
theorem taken_upd {F : Fo} {id : Int} (hm : id ∈ idsF F) (f : Int → Ino) (x : Ino) : takenF F (updF f id x) = takenF F f - roomI (f id) + roomI x := sum_upd (asc_nodup (ids_asc F)) hm f x
/-- what a kind of call does with a file -/
def gK (k : Int) (b : Bs) (n : Int) : Ino → Ino × Int := fun x => if k = 2 then appI x b else if k = 3 then cutI x n else (syncI x, 0)
set_option maxHeartbeats 4000000 in
theorem on_calls' (lo rb : Nat) (d : Dk) (k : Int) (s : ByteArray) (C : Option Addr) (nc cc : Nat) (b : Bs) (n : Int) (w : World) (N : Nat) (h : RkAt w lo rb d (KD d)) (hI : DkI d) (hB : DkB { d with calls := 0 } N) (hN : N ≤ 349524) (hlw : lo ≤ w.heap.size) (hC : Sl w 1 C nc (bys b)) (hcc : nc ≤ cc) (hn : nc ≤ 1099511627776) :
    Calls Tryz.prog 84 #[.pointer (some ⟨rb, 0, none⟩), .int .i64 k, .string s, .slice C nc cc, .int .i64 n] w fun e w' => Fr (fun k => k = rb) w w' ∧ e = .returned (.int .i64 (fileD d s (gK k b n)).2) ∧ RkAt w' lo rb (fileD d s (gK k b n)).1 (KD (fileD d s (gK k b n)).1) := by
  refine (F84.of (some ⟨rb, 0, none⟩) k s C nc cc n w (Q := fun v w' => Fr (fun k => k = rb) w w' ∧ v = .int .i64 (fileD d s (gK k b n)).2 ∧ RkAt w' lo rb (fileD d s (gK k b n)).1 (KD (fileD d s (gK k b n)).1)) ?_).mono (fun e w' ⟨v, he, hf, hv, h⟩ => ⟨hf, by rw [he, hv], h⟩)
  have hfo : d.F.L.length + d.F.P.length ≤ N := hB.fo
  have hb : FoB d.F := by unfold FoB; omega
  have hKl := KD_len hb
  have hlt := h.lt
  have hi := hI.ino
  have hp : ∀ id, (d.f id).p.length ≤ 349524 := fun id => by have : (d.f id).p.length ≤ N := hB.p id; omega
  refine dr_mk (rk_getF h (fun cs hF => (rfindF_calls cs d.F s w hF hb).mono ?_))
  rintro e w4 ⟨rfl, f4⟩
  refine ⟨_, _, rfl, ?_⟩
  cases hfn : findN s (nowF d.F) with
  | none =>
    have eD : fileD d s (gK k b n) = (d, 6) := by unfold fileD; rw [hfn]
    refine vIf_t rfl ⟨fr_up f4, by rw [eD], by rw [eD]; exact h.fr0 f4⟩
  | some id =>
    have hmem : id ∈ idsF d.F := find_ids hfn
    refine vIf_f rfl ((get_calls lo rb d (KD d) id w4 (h.fr0 f4) hKl).mono ?_)
    have egk : getK (KD d) id = d.f id := getK_map hI.out id
    rw [egk]
    rintro e w8 ⟨f8, a10, rfl, hX⟩
    have ho := ino_one hX
    have f48 := f4.trans1 f8
    refine ⟨a10, rfl, var_new rfl ho.1 ho.2 (fun b11 w13 f13 hb11 r11 => ⟨a10, ho.1, rec_all r11, var_new rfl ho.1 ho.2 (fun b15 w17 f17 hb15 r15 => ?_)⟩)⟩
    have hs4 := f48.size
    have hs13 := f13.size
    have hl11 := r11.lt
    have r11 := r11.fr f17 (fun h => h)
    have f017 := (f48.trans1 f13).trans1 f17
    have hX17 := (hX.fr0 f13).fr0 f17
    have h17 := h.fr0 f017
    have hgB : InoB (gK k b n (d.f id)).1 := by
      unfold gK
      split
      · exact appI_B (hi id) _
      · split
        · exact cutI_B (hi id) _
        · exact syncI_B (hi id)
    have hgp : (gK k b n (d.f id)).1.p.length ≤ 349525 := by
      unfold gK
      have := hp id
      split
      · have := app_p (d.f id) b; omega
      · split
        · have := cut_p (d.f id) n; omega
        · show 0 ≤ _; omega
    -- behind the file's change
    have k12 : ∀ (y : World) (a21 : List Value), Fr (fun k => k = b15) w17 y → RecAt y b15 74 a21 → InoAt y a21 (gK k b n (d.f id)).1 → RkAt y lo rb d (KD d) → InoAt y a10 (d.f id) → jnC (F84.k12 (fun v w' => Fr (fun k => k = rb) w w' ∧ v = .int .i64 (fileD d s (gK k b n)).2 ∧ RkAt w' lo rb (fileD d s (gK k b n)).1 (KD (fileD d s (gK k b n)).1))) (some ⟨rb, 0, none⟩, id, (b11, 0), (b15, 0), (gK k b n (d.f id)).2, ()) y := by
      intro y a21 fy q15 hY hy hXy
      have hoY := ino_one hY
      have r11y := r11.fr fy (fun h => by have h : b11 = b15 := h; omega)
      have f0y : Fr (fun _ => False) w y := f017.trans fy (fun _ _ h => h) (fun j hj h => by have h : j = b15 := h; omega)
      have hYy := hY
      obtain ⟨Y1, m1, k1, Y2, m2, k2, rfl, y1, y2, y3, y4⟩ := hYy
      have hXx := hXy
      obtain ⟨X1, xm1, xk1, X2, xm2, xk2, rfl, x1, x2, x3, x4⟩ := hXx
      refine jnC_mk (fun _ => vIf_mk (fun he => ?_) (fun he => ?_))
      · have he : ¬ (gK k b n (d.f id)).2 = 0 := by simpa using he
        have eD : fileD d s (gK k b n) = (d, (gK k b n (d.f id)).2) := by unfold fileD; rw [hfn]; dsimp only; rw [if_pos he]
        exact ⟨fr_up f0y, by rw [eD], by rw [eD]; exact hy⟩
      · have he : (gK k b n (d.f id)).2 = 0 := by simpa using he
        dsimp only
        have fd : Fr (fun _ => False) y y.drew := Fr.drew _ _
        have f0d := f0y.trans1 fd
        have hyd := hy.fr0 fd
        have q15 := q15.fr fd (fun h => h)
        have r11y := r11y.fr fd (fun h => h)
        have y1 := fd.sl y1 (fun _ _ _ h => h)
        have y3 := y3.fr0 fd
        have x1 := fd.sl x1 (fun _ _ _ h => h)
        have x3 := x3.fr0 fd
        have hYd := hY.fr0 fd
        generalize y.drew = v at fd f0d hyd q15 r11y y1 y3 x1 x3 hYd ⊢
        have hp1 := wsl_n y3
        have hp2 := wsl_n x3
        have hbl1 := by_n y1
        have hbl2 := by_n x1
        have hpi := hp id
        refine ⟨_, _, _, r11y.cell (o := 0) rfl, _, _, _, r11y.cell (o := 0 + 1) rfl, _, _, _, q15.cell (o := 0) rfl, _, _, _, q15.cell (o := 0 + 1) rfl, (rpeak_calls _ X2 xm2 xk2 _ v x3 (by omega) (hi id).d).mono ?_⟩
        rintro e w36 ⟨rfl, f36⟩
        have er1 : peakW (xm1 : Int) (d.f id).p = roomI (d.f id) := by unfold roomI; rw [hbl2]
        rw [er1]
        refine ⟨_, rfl, kp_mk f36 q15.lt (fun h => h) (kp_mk f36 q15.lt (fun h => h) ((rpeak_calls _ Y2 m2 k2 _ w36 (y3.fr0 f36) (by omega) hgB.d).mono ?_))⟩
        rintro e w39 ⟨rfl, f39⟩
        have er2 : peakW (m1 : Int) (gK k b n (d.f id)).1.p = roomI (gK k b n (d.f id)).1 := by unfold roomI; rw [hbl1]
        rw [er2]
        have f3639 := (f36.trans1 f39).trans1 (Fr.drew (fun _ => False) w39)
        -- it is set
        have k17 : ∀ z : World, Fr (fun _ => False) v z → ¬ (roomI (gK k b n (d.f id)).1 > roomI (d.f id) ∧ takenF d.F (updF d.f id (gK k b n (d.f id)).1) > d.lb) → jnC (F84.k17 (fun v w' => Fr (fun k => k = rb) w w' ∧ v = .int .i64 (fileD d s (gK k b n)).2 ∧ RkAt w' lo rb (fileD d s (gK k b n)).1 (KD (fileD d s (gK k b n)).1))) (some ⟨rb, 0, none⟩, id, (b15, 0), ()) z := by
          intro z fz hc
          have eD : fileD d s (gK k b n) = ({ d with f := updF d.f id (gK k b n (d.f id)).1 }, 0) := by unfold fileD; rw [hfn]; dsimp only; rw [if_neg (by rw [he]; simp), if_neg hc]
          have hs0 := (f0d.trans1 fz).size
          refine jnC_mk (fun _ => ⟨_, rfl, rec_all (q15.fr fz (fun h => h)), (rset_calls lo rb d (KD d) id _ _ z (hyd.fr0 fz) (hYd.fr0 fz) hKl (by omega)).mono ?_⟩)
          rintro e w49 ⟨f49, rfl, h49⟩
          rw [setK_KD] at h49
          refine ⟨rfl, (f0d.trans1 fz).trans f49 (fun _ _ h => h.elim) (fun _ _ h => h), by rw [eD], ?_⟩
          rw [eD]
          exact rk_f h49 (updF d.f id (gK k b n (d.f id)).1)
        refine ⟨_, rfl, vIf_mk (fun hgt => ?_) (fun hgt => k17 _ f3639 (fun h => absurd h.1 (of_decide_eq_false hgt)))⟩
        have hgt : roomI (gK k b n (d.f id)).1 > roomI (d.f id) := of_decide_eq_true hgt
        have hz := hyd.fr0 f3639
        generalize w39.drew = z at f3639 hz ⊢
        refine dr_mk (rk_getI (o := 0) hz (.inl ⟨rfl, rfl⟩) ((Taken_calls lo rb d (KD d) z hz hKl (fun q hq => ?_) (fun q hq => ?_)).mono ?_))
        · unfold KD at hq
          obtain ⟨j, _, rfl⟩ := List.mem_map.1 hq
          exact hi j
        · unfold KD at hq
          obtain ⟨j, _, rfl⟩ := List.mem_map.1 hq
          have := hp j
          show (d.f j).p.length ≤ _
          omega
        · rintro e w45 ⟨rfl, f45⟩
          have eS : sumK (KD d) = takenF d.F d.f := sumK_map _ _
          rw [eS]
          have hm := ids_max hb
          have ht := sum_rng (fun j => roomI (d.f j)) 1048576 (fun j => by have := room_le (hi j); omega) (idsF d.F)
          have ht : 0 ≤ takenF d.F d.f ∧ takenF d.F d.f ≤ (idsF d.F).length * 1048576 := ht
          have hro := room_le (hi id)
          have hro2 := room_le hgB
          have e1 : IntKind.wrap .i64 (takenF d.F d.f - roomI (d.f id)) = takenF d.F d.f - roomI (d.f id) := i64_id (by omega) (by omega)
          have e2 : IntKind.wrap .i64 (IntKind.wrap .i64 (takenF d.F d.f - roomI (d.f id)) + roomI (gK k b n (d.f id)).1) = takenF d.F (updF d.f id (gK k b n (d.f id)).1) := by
            rw [e1, i64_id (by omega) (by omega), taken_upd hmem]
          refine ⟨_, rfl, kp_mk f45 hz.lt.1 (fun h => h) ?_⟩
          rw [e2]
          refine vIf_mk (fun hbig => ?_) (fun hbig => k17 w45 (f3639.trans1 f45) (fun h => absurd h.2 (of_decide_eq_false hbig)))
          have hbig := of_decide_eq_true hbig
          have eD : fileD d s (gK k b n) = (d, 9) := by unfold fileD; rw [hfn]; dsimp only; rw [if_neg (by rw [he]; simp), if_pos ⟨hgt, hbig⟩]
          exact ⟨fr_up ((f0d.trans1 f3639).trans1 f45), by rw [eD], by rw [eD]; exact hz.fr0 f45⟩
    -- the answer is laid in the variable
    have lay : ∀ (u : World) (cs' : List Value) (K : World → Prop), Fr (fun _ => False) w17 u → InoAt u cs' (gK k b n (d.f id)).1 → (∀ y, Fr (fun k => k = b15) w17 y → RecAt y b15 74 cs' → InoAt y cs' (gK k b n (d.f id)).1 → RkAt y lo rb d (KD d) → InoAt y a10 (d.f id) → K y) → gd (cs'.length == 2) (st u b15 0 cs' K) := by
      intro u cs' K fu hU hK
      have hoU := ino_one hU
      have hX0 := hX
      obtain ⟨X1, xm1, xk1, X2, xm2, xk2, ea, _⟩ := hX0
      have r15u := r15.fr fu (fun h => h)
      have hal : Alien u b15 := by
        rw [ea] at r15u
        have hc3 : ∀ o, cellAt u b15 o = ([Value.slice X1 xm1 xk1, Value.slice X2 xm2 xk2] : List Value)[o]? := fun o => by rw [cellAt_blk r15u]; simp
        refine ⟨fun o s hs => ?_, fun o x hx => ?_, fun o t z A n c ht => ?_⟩
        · rw [hc3] at hs
          match o, hs with
          | 0, hs => cases hs
          | 1, hs => cases hs
          | o + 2, hs => cases hs
        · rw [hc3] at hx
          match o, hx with
          | 0, hx => cases hx
          | 1, hx => cases hx
          | o + 2, hx => cases hx
        · have ht := ht.1
          rw [hc3] at ht
          match o, ht with
          | 0, ht => cases ht
          | 1, ht => cases ht
          | o + 2, ht => cases ht
      have hS : ∀ j, j = b15 → Alien u j := fun j hj => by rw [hj]; exact hal
      refine gd_mk (by rw [hoU.1]; rfl) (r15u.st_mk (o := 0) (by rw [hoU.1, ho.1]; omega) hoU.2 (fun r2 f2 => ?_))
      rw [splice_full (by rw [hoU.1, ho.1])] at r2
      refine hK _ ((fr_up fu).trans1 f2) r2 (hU.fr f2 hS) ?_ ((hX17.fr0 fu).fr f2 hS)
      have hu := h17.fr0 fu
      obtain ⟨u', v', A, m, c, lv, hq⟩ := hu
      refine ⟨u', v', A, m, c, lv, hq.r.fr f2 (fun h => by have h : rb = b15 := h; omega), fo_fr hq.F f2 hS, ?_, hq.far, hq.lv, hq.lo⟩
      obtain ⟨vs, z1, z2, z3⟩ := hq.K
      refine ⟨vs, f2.sl z1 (fun h0 j hj hjb => ?_), z2, z3.mono (fun cs z hz => hz.fr f2 hS)⟩
      have hjb : j = b15 := hjb
      subst hjb
      have gz : (KD d)[0]? = some ((KD d)[0]'(by omega)) := List.getElem?_eq_getElem (by omega)
      obtain ⟨b', o, A1, n1, c1, A2, n2, c2, rfl, hc, _⟩ := kt_at (i := 0) ⟨vs, z1, z2, z3⟩ gz (by omega)
      injection hj with hj
      have hj : b' = j := hj
      subst hj
      have h0 := hc 0 _ rfl
      rw [cellAt_blk r15u, ea] at h0
      generalize o + 0 * 3 + 0 = q at h0
      match q, h0 with
      | 0, h0 => simp at h0
      | 1, h0 => simp at h0
      | q + 2, h0 => simp at h0
    refine vIf_mk (fun hk2 => ⟨a10, ho.1, rec_all r11, ?_⟩) (fun hk2 => vIf_mk (fun hk3 => ⟨a10, ho.1, rec_all r11, ?_⟩) (fun hk3 => ?_))
    · have hk2 : k = 2 := by simpa using hk2
      have eg : gK k b n (d.f id) = appI (d.f id) b := by unfold gK; rw [if_pos hk2]
      refine (rapp_calls a10 _ C nc cc b w17 hX17 (f017.sl hC (fun _ _ _ h => h)) hcc (hi id) (by have := hp id; omega) hn).mono ?_
      rintro e w19 ⟨f19, a21, rfl, hU⟩
      rw [← eg] at hU ⊢
      exact ⟨a21, _, rfl, lay w19 a21 _ f19 hU (fun y fy r2 q1 q2 q3 => k12 y a21 fy r2 q1 q2 q3)⟩
    · have hk2 : ¬ k = 2 := by simpa using hk2
      have hk3 : k = 3 := by simpa using hk3
      have eg : gK k b n (d.f id) = cutI (d.f id) n := by unfold gK; rw [if_neg hk2, if_pos hk3]
      refine (rcutI_calls a10 _ n w17 hX17 (hi id) (by have := hp id; omega)).mono ?_
      rintro e w52 ⟨f52, a54, rfl, hU⟩
      rw [← eg] at hU ⊢
      exact ⟨a54, _, rfl, lay w52 a54 _ f52 hU (fun y fy r2 q1 q2 q3 => k12 y a54 fy r2 q1 q2 q3)⟩
    · have hk2 : ¬ k = 2 := by simpa using hk2
      have hk3 : ¬ k = 3 := by simpa using hk3
      have eg : gK k b n (d.f id) = (syncI (d.f id), 0) := by unfold gK; rw [if_neg hk2, if_neg hk3]
      have hX18 := hX17
      obtain ⟨X1, xm1, xk1, X2, xm2, xk2, ea, x1, x2, x3, x4⟩ := hX18
      have hp2 := wsl_n x3
      have hpi := hp id
      rw [ea] at r11
      refine ⟨_, _, _, r11.cell (o := 0) rfl, _, _, _, r11.cell (o := 0 + 1) rfl, (rall_calls X1 xm1 xk1 (d.f id).b X2 xm2 xk2 (d.f id).p w17 x1 x3 (hi id).b (by omega) (hi id).d).mono ?_⟩
      rintro e w63 ⟨f63, B, kk, rfl, hrow⟩
      have hU : InoAt w63 [.slice B (nowI (d.f id)).length kk, .slice none 0 0] (gK k b n (d.f id)).1 := by
        rw [eg]
        exact ⟨_, _, _, _, _, _, rfl, hrow.sl, hrow.le, ⟨[], Sl.nil _ _ _, rfl, Ech.nil⟩, Nat.le_refl _⟩
      refine ⟨_, _, _, rfl, lay w63 _ _ f63 hU (fun y fy r2 q1 q2 q3 => ?_)⟩
      have := k12 y _ fy r2 q1 q2 q3
      rw [eg] at this
      exact this
end Go.Proofs.YtfdhaeglhkmmpaaGreat
/- chapter 12, the document's: Power, Crash -/
namespace Go.Proofs.YtfdhaeglhkmmpaaGreat
open Go.GV Go.RowKit Go.Lib
set_option linter.unusedVariables false
set_option linter.unusedSimpArgs false
def RkD (w : World) (lo rb : Nat) (d : Dk) : Prop := RkAt w lo rb d (KD d)
/-- a number is written into it -/
theorem rk_setN {w : World} {lo rb : Nat} {d d' : Dk} {K : List Kpt} {u v : Value} {A : Option Addr} {n c : Nat} {lv lv' : Int} {o : Nat} {x : Value} {Q : World → Prop} (h : RkP w lo rb d K u v A n c lv)
    (e : splice (rkC d u v A n c lv) o [x] = rkC d' u v A n c lv') (hl : o + 1 ≤ 9) (h1 : x.oneCell' = true) (hF : d'.F = d.F) (hlv : lvR d'.fu lv')
    (hQ : ∀ w', Fr (fun k => k = rb) w w' → RkP w' lo rb d' K u v A n c lv' → Q w') : st w rb o [x] Q :=
  rk_set (d' := d') (K' := K) (u' := u) (v' := v) (A' := A) (n' := n) (c' := c) (lv' := lv') h e hl (fun z hz => by simp at hz; rw [hz]; exact h1) (by rw [hF]; exact h.F) h.K h.far hlv hQ
theorem chD_rk {w : World} {lo rb : Nat} {d : Dk} {x : Ch} (h : RkAt w lo rb { d with F := doF d.F x, f := trim (doF d.F x) d.f, last := d.last } ((idsF (doF d.F x)).map fun id => (id, trim (doF d.F x) d.f id))) : RkD w lo rb (chD d x).1 := h
/-- what a call of a kind does -/
noncomputable def callK (c : Cl) (d : Dk) : Dk × Int :=
  if c.k = 1 then crD d c.nm else if c.k = 5 then chD d ⟨2, c.nm, c.to, 0⟩ else if c.k = 6 then chD d ⟨3, c.nm, ⟨#[]⟩, 0⟩ else if c.k = 7 then sdD d else fileD d c.nm (gK c.k c.data c.n)
theorem doD_callK {c : Cl} (h1 : 1 ≤ c.k) (h7 : c.k ≤ 7) (d : Dk) : doD d c = powD d (callK c) := by
  have e : ∀ {g : Dk → Dk × Int}, (∀ d, g d = callK c d) → powD d g = powD d (callK c) := fun h => by rw [show _ = callK c from funext h]
  unfold doD
  split
  · rename_i k; exact e (fun d => by unfold callK; rw [if_pos k])
  split
  · rename_i k; exact e (fun d => by
      unfold callK gK; rw [if_neg (by omega), if_neg (by omega), if_neg (by omega), if_neg (by omega)]
      congr 1; funext x; rw [if_pos k])
  split
  · rename_i k2 k; exact e (fun d => by
      unfold callK gK; rw [if_neg (by omega), if_neg (by omega), if_neg (by omega), if_neg (by omega)]
      congr 1; funext x; rw [if_neg k2, if_pos k])
  split
  · rename_i k2 k3 k; exact e (fun d => by
      unfold callK gK; rw [if_neg (by omega), if_neg (by omega), if_neg (by omega), if_neg (by omega)]
      congr 1; funext x; rw [if_neg k2, if_neg k3])
  split
  · rename_i k; exact e (fun d => by unfold callK; rw [if_neg (by omega), if_pos k])
  split
  · rename_i k; exact e (fun d => by unfold callK; rw [if_neg (by omega), if_neg (by omega), if_pos k])
  split
  · rename_i k; exact e (fun d => by unfold callK; rw [if_neg (by omega), if_neg (by omega), if_neg (by omega), if_pos k])
  · omega
set_option maxHeartbeats 4000000 in
theorem Power_calls (lo rb : Nat) (d : Dk) (c : Cl) (C : Option Addr) (nc cc : Nat) (w : World) (N : Nat) (h : RkD w lo rb d) (hI : DkI d) (hB : DkB d N) (hN : N ≤ 349524) (hlw : lo ≤ w.heap.size) (hcb : ClB c) (hC : Sl w 1 C nc (bys c.data)) (hcc : nc ≤ cc) :
    Calls Tryz.prog 58 #[.pointer (some ⟨rb, 0, none⟩), .int .i64 c.k, .string c.nm, .string c.to, .slice C nc cc, .int .i64 c.n] w fun e w' => Fr (fun k => k = rb) w w' ∧ e = .returned (.int .i64 (powD d (callK c)).2) ∧ RkD w' lo rb (powD d (callK c)).1 := by
  refine (F58.of (some ⟨rb, 0, none⟩) c.k c.nm c.to C nc cc c.n w (Q := fun v w' => Fr (fun k => k = rb) w w' ∧ v = .int .i64 (powD d (callK c)).2 ∧ RkD w' lo rb (powD d (callK c)).1) ?_).mono (fun e w' ⟨v, he, hf, hv, h⟩ => ⟨hf, by rw [he, hv], h⟩)
  have hfo := hB.fo
  have hcl := hB.calls
  have hla := hB.last
  have hb : FoB d.F := by unfold FoB; omega
  have hb1 := hcb.nm
  have hb2 := hcb.to
  have hb3 := hcb.data
  have hcn := by_n hC
  have hal : Alien w rb := h.alien
  have hS : ∀ k, k = rb → Alien w k := fun k hk => by rw [hk]; exact hal
  obtain ⟨u, v, A, n, cA, lv, hp⟩ := h
  -- the call itself
  have k6 : ∀ (lv' : Int) (y : World), offD d = false → Fr (fun k => k = rb) w y → RkP y lo rb { d with fu := d.fu.map (· - 1) } (KD d) u v A n cA lv' → jnC (F58.k6 (fun v w' => Fr (fun k => k = rb) w w' ∧ v = .int .i64 (powD d (callK c)).2 ∧ RkD w' lo rb (powD d (callK c)).1)) (some ⟨rb, 0, none⟩, c.k, c.nm, c.to, (C, nc, cc), c.n, ()) y := by
    intro lv' y ho fy hy
    have eP : powD d (callK c) = callK c { d with fu := d.fu.map (· - 1), calls := d.calls + 1 } := by unfold powD; rw [if_neg (by rw [ho]; simp)]
    rw [eP]
    have ec : IntKind.wrap .i64 (d.calls + 1) = d.calls + 1 := i64_id (by omega) (by omega)
    refine jnC_mk (fun _ => dr_mk ⟨d.calls, hy.r.cell (o := 0 + 8) rfl, dr_mk (rk_setN (d' := { d with fu := d.fu.map (· - 1), calls := d.calls + 1 }) (lv' := lv') hy (by rw [ec]; rfl) (by omega) rfl rfl hy.lv (fun w21 f21 h21 => ?_))⟩)
    have f021 : Fr (fun k => k = rb) w w21 := fy.trans1 f21
    have hI' : DkI { d with fu := d.fu.map (· - 1), calls := d.calls + 1 } := ⟨hI.out, hI.rng, hI.ino, fun m hm => by
      cases hfu : d.fu with
      | none => have hm : d.fu.map (· - 1) = some m := hm; rw [hfu] at hm; cases hm
      | some q =>
        have hm : d.fu.map (· - 1) = some m := hm
        rw [hfu] at hm
        simp only [Option.map_some, Option.some.injEq] at hm
        unfold offD at ho
        rw [hfu] at ho
        simp at ho
        omega⟩
    have hB' : DkB { d with fu := d.fu.map (· - 1), calls := d.calls + 1 } (N + 1) := by
      have h' := hB.mono (Nat.le_succ N)
      exact ⟨h'.fo, h'.p, h'.last, by show 0 ≤ d.calls + 1 ∧ d.calls + 1 ≤ _; omega, fu_map hB.fu, h'.lb, h'.lf⟩
    have hsz := f021.size
    have h21 : RkAt w21 lo rb { d with fu := d.fu.map (· - 1), calls := d.calls + 1 } (KD { d with fu := d.fu.map (· - 1), calls := d.calls + 1 }) := ⟨_, _, _, _, _, _, h21⟩
    have hC21 := by_fr hC f021 hS
    have hbd' : FoB ({ d with fu := d.fu.map (· - 1), calls := d.calls + 1 } : Dk).F := hb
    have hfo' : ({ d with fu := d.fu.map (· - 1), calls := d.calls + 1 } : Dk).F.L.length + ({ d with fu := d.fu.map (· - 1), calls := d.calls + 1 } : Dk).F.P.length ≤ N := hfo
    have hB0 : DkB { d with fu := d.fu.map (· - 1), calls := 0 } N := ⟨hB.fo, hB.p, hB.last, ⟨Int.le_refl _, by show (0 : Int) ≤ N; omega⟩, fu_map hB.fu, hB.lb, hB.lf⟩
    have hp' : ∀ id, (({ d with fu := d.fu.map (· - 1), calls := d.calls + 1 } : Dk).f id).p.length ≤ N := hB.p
    have hla' : 0 ≤ ({ d with fu := d.fu.map (· - 1), calls := d.calls + 1 } : Dk).last ∧ ({ d with fu := d.fu.map (· - 1), calls := d.calls + 1 } : Dk).last ≤ N := hla
    generalize ({ d with fu := d.fu.map (· - 1), calls := d.calls + 1 } : Dk) = d' at h21 hI' hB' hbd' hfo' hp' hla' ⊢
    have hKl := KD_len hbd'
    have eW : IntKind.wrap .i64 (d'.last + 1) = d'.last + 1 := i64_id (by omega) (by omega)
    refine vIf_mk (fun k1 => ?_) (fun k1 => vIf_mk (fun k5 => ?_) (fun k5 => vIf_mk (fun k6 => ?_) (fun k6 => vIf_mk (fun k7 => ?_) (fun k7 => ?_))))
    · have k1 : c.k = 1 := by simpa using k1
      have eC : callK c d' = crD d' c.nm := by unfold callK; rw [if_pos k1]
      rw [eC]
      have fd := Fr.drew (fun _ => False) w21
      have hd := RkAt.fr0 h21 fd
      have f0d : Fr (fun k => k = rb) w w21.drew := f021.trans1 (fr_up fd)
      have hszd := f0d.size
      refine dr_mk ?_
      generalize w21.drew = z at fd hd f0d hszd ⊢
      refine rk_getK hd (fun A2 c2 _ _ => dr_mk (rk_getI (o := 1) hd (.inr (.inl ⟨rfl, rfl⟩)) (vIf_mk (fun hge => ?_) (fun hlt => ?_))))
      · have hge := of_decide_eq_true hge
        have hge : (((idsF d'.F).length : Nat) : Int) ≥ d'.lf := by unfold KD at hge; rw [List.length_map] at hge; exact hge
        have e8 : crD d' c.nm = (d', 8) := by unfold crD; rw [if_pos hge]
        rw [e8]
        exact ⟨f0d, rfl, hd⟩
      · have hlt := of_decide_eq_false hlt
        have hlt : ¬ (((idsF d'.F).length : Nat) : Int) ≥ d'.lf := by unfold KD at hlt; rw [List.length_map] at hlt; exact hlt
        refine dr_mk (rk_getI (o := 5) hd (.inr (.inr (.inl ⟨rfl, rfl⟩))) ?_)
        rw [eW]
        refine (rchange_calls lo rb d' ⟨1, c.nm, ⟨#[]⟩, d'.last + 1⟩ z N hd ⟨hb1, by show 0 ≤ _; omega⟩ (by omega) hI'.out (by omega) hla' (by omega)).mono ?_
        rintro e w33 ⟨f33, rfl, h33⟩
        by_cases hw : wrongF d'.F ⟨1, c.nm, ⟨#[]⟩, d'.last + 1⟩ = 0
        · have e1 : crD d' c.nm = ({ (chD d' ⟨1, c.nm, ⟨#[]⟩, d'.last + 1⟩).1 with last := d'.last + 1 }, 0) := by unfold crD; rw [if_neg hlt, if_pos hw]
          rw [if_pos ⟨hw, rfl⟩] at h33
          rw [e1, hw]
          exact ⟨_, rfl, f0d.trans1 f33, rfl, h33⟩
        · have e1 : crD d' c.nm = chD d' ⟨1, c.nm, ⟨#[]⟩, d'.last + 1⟩ := by unfold crD; rw [if_neg hlt, if_neg hw]
          rw [if_neg (fun h => hw h.1)] at h33
          rw [e1]
          exact ⟨_, rfl, f0d.trans1 f33, rfl, chD_rk h33⟩
    · have k1 : ¬ c.k = 1 := by simpa using k1
      have k5 : c.k = 5 := by simpa using k5
      have eC : callK c d' = chD d' ⟨2, c.nm, c.to, 0⟩ := by unfold callK; rw [if_neg k1, if_pos k5]
      rw [eC]
      refine (rchange_calls lo rb d' ⟨2, c.nm, c.to, 0⟩ w21 N h21 ⟨hb1, hb2⟩ (by omega) hI'.out (by omega) hla' (by omega)).mono ?_
      rintro e w33 ⟨f33, rfl, h33⟩
      rw [if_neg (fun h => absurd h.2 (by show ¬ (2 : Int) = 1; decide))] at h33
      exact ⟨_, rfl, f021.trans1 f33, rfl, chD_rk h33⟩
    · have k1 : ¬ c.k = 1 := by simpa using k1
      have k5 : ¬ c.k = 5 := by simpa using k5
      have k6 : c.k = 6 := by simpa using k6
      have eC : callK c d' = chD d' ⟨3, c.nm, ⟨#[]⟩, 0⟩ := by unfold callK; rw [if_neg k1, if_neg k5, if_pos k6]
      rw [eC]
      refine (rchange_calls lo rb d' ⟨3, c.nm, ⟨#[]⟩, 0⟩ w21 N h21 ⟨hb1, by show 0 ≤ _; omega⟩ (by omega) hI'.out (by omega) hla' (by omega)).mono ?_
      rintro e w33 ⟨f33, rfl, h33⟩
      rw [if_neg (fun h => absurd h.2 (by show ¬ (3 : Int) = 1; decide))] at h33
      exact ⟨_, rfl, f021.trans1 f33, rfl, chD_rk h33⟩
    · have k1 : ¬ c.k = 1 := by simpa using k1
      have k5 : ¬ c.k = 5 := by simpa using k5
      have k6 : ¬ c.k = 6 := by simpa using k6
      have k7 : c.k = 7 := by simpa using k7
      have eC : callK c d' = sdD d' := by unfold callK; rw [if_neg k1, if_neg k5, if_neg k6, if_pos k7]
      rw [eC]
      refine dr_mk (rk_getF h21 (fun cs hF => (rnow_calls cs d'.F w21 hF hbd').mono ?_))
      rintro e w45 ⟨f45, A47, c49, rfl, h47⟩
      have hFn : FoAt w45 ([Value.slice A47 (nowF d'.F).length c49] ++ ([Value.slice none 0 0] ++ [])) ⟨nowF d'.F, []⟩ := fo_of h47
      refine ⟨_, _, _, rfl, dr_mk (rk_setF (RkAt.fr0 h21 f45) hFn (fun w52 f52 h52 => ?_))⟩
      have hbn : FoB ⟨nowF d'.F, []⟩ := by
        have := nowF_len d'.F
        unfold FoB
        show (nowF d'.F).length + 0 ≤ 349525
        omega
      refine (tidy_calls lo rb _ (KD d') w52 h52 hbn hKl (by have := f45.size; have := f52.size; omega)).mono ?_
      rintro e w53 ⟨f53, rfl, h53⟩
      have h53 : RkAt w53 lo rb { d' with F := ⟨nowF d'.F, []⟩ } ((idsF ⟨nowF d'.F, []⟩).map fun id => (id, getK (KD d') id)) := h53
      have e2 : ((idsF ⟨nowF d'.F, []⟩).map fun id => (id, getK (KD d') id)) = ((idsF ⟨nowF d'.F, []⟩).map fun id => (id, trim ⟨nowF d'.F, []⟩ d'.f id)) := tidy_KD hI'.out
      rw [e2] at h53
      exact ⟨rfl, ((f021.trans f45 (fun _ _ h => h) (fun _ _ h => h.elim)).trans1 f52).trans1 f53, rfl, rk_f h53 (trim ⟨nowF d'.F, []⟩ d'.f)⟩
    · have k1 : ¬ c.k = 1 := by simpa using k1
      have k5 : ¬ c.k = 5 := by simpa using k5
      have k6 : ¬ c.k = 6 := by simpa using k6
      have k7 : ¬ c.k = 7 := by simpa using k7
      have eC : callK c d' = fileD d' c.nm (gK c.k c.data c.n) := by unfold callK; rw [if_neg k1, if_neg k5, if_neg k6, if_neg k7]
      rw [eC]
      have hBc : DkB { d' with calls := 0 } N := ⟨hfo', hp', hla', ⟨Int.le_refl _, by show (0 : Int) ≤ N; omega⟩, hB'.fu, hB'.lb, hB'.lf⟩
      refine (on_calls' lo rb d' c.k c.nm C nc cc c.data c.n w21 N h21 hI' hBc hN (by omega) hC21 hcc (by omega)).mono ?_
      rintro e w55 ⟨f55, rfl, h55⟩
      exact ⟨_, rfl, f021.trans1 f55, rfl, h55⟩
  have k4 : ∀ (y : World), offD d = false → y = w → jnC (F58.k4 (fun v w' => Fr (fun k => k = rb) w w' ∧ v = .int .i64 (powD d (callK c)).2 ∧ RkD w' lo rb (powD d (callK c)).1)) (some ⟨rb, 0, none⟩, c.k, c.nm, c.to, (C, nc, cc), c.n, ()) y := by
    intro y ho hyw
    subst hyw
    refine jnC_mk (fun _ => dr_mk ⟨lv, hp.r.cell (o := 0 + 7) rfl, ?_⟩)
    have hlv := hp.lv
    cases hfu : d.fu with
    | none =>
      rw [hfu] at hlv
      have hlv : lv = -1 := hlv
      refine vIf_f (by rw [hlv]; rfl) (k6 lv y ho (Fr.refl _ _) ?_)
      have e : ({ d with fu := d.fu.map (· - 1) } : Dk) = d := by rw [hfu]; show ({ d with fu := none } : Dk) = d; rw [← hfu]
      rw [e]; exact hp
    | some m =>
      rw [hfu] at hlv
      have hlv : lv = m := hlv
      have hm1 : ¬ m ≤ 0 := fun hle => by
        unfold offD at ho
        rw [hfu] at ho
        simp at ho
        omega
      have hh := hB.fu m hfu
      have ew : IntKind.wrap .i64 (lv - 1) = m - 1 := by rw [hlv]; exact i64_id (by omega) (by omega)
      refine vIf_t (by rw [hlv]; exact decide_eq_true (by omega)) (dr_mk ⟨lv, hp.r.cell (o := 0 + 7) rfl, dr_mk (rk_setN (d' := { d with fu := d.fu.map (· - 1) }) (lv' := m - 1) hp (by rw [ew]; rfl) (by omega) rfl rfl (by rw [hfu]; rfl) (fun w15 f15 h15 => k6 (m - 1) w15 ho f15 h15))⟩)
  have k2 : ∀ t : Bool, t = offD d → jnC (F58.k2 (fun v w' => Fr (fun k => k = rb) w w' ∧ v = .int .i64 (powD d (callK c)).2 ∧ RkD w' lo rb (powD d (callK c)).1)) (some ⟨rb, 0, none⟩, c.k, c.nm, c.to, (C, nc, cc), c.n, t, ()) w := by
    intro t ht
    refine jnC_mk (fun _ => vIf_mk (fun htt => dr_mk (rk_setN (d' := { d with down := true }) (lv' := lv) hp rfl (by omega) rfl rfl hp.lv (fun w6 f6 h6 => ?_))) (fun htf => k4 w (by rw [← ht]; exact htf) rfl))
    have ho : offD d = true := by rw [← ht]; exact htt
    have eP : powD d (callK c) = ({ d with down := true }, 11) := by unfold powD; rw [if_pos ho]
    rw [eP]
    exact ⟨f6, rfl, _, _, _, _, _, _, h6⟩
  refine dr_mk ⟨d.down, hp.r.cell (o := 0 + 6) rfl, vIf_mk (fun hd => k2 true ?_) (fun hd => dr_mk ⟨lv, hp.r.cell (o := 0 + 7) rfl, k2 _ ?_⟩)⟩
  · have hd : d.down = true := hd
    unfold offD
    rw [hd]; rfl
  · have hd : d.down = false := hd
    have hlv := hp.lv
    unfold offD
    rw [hd, Bool.false_or]
    cases hfu : d.fu with
    | none =>
      rw [hfu] at hlv
      have hlv : lv = -1 := hlv
      rw [hlv]; rfl
    | some m =>
      rw [hfu] at hlv
      have hlv : lv = m := hlv
      have := hI.fu m hfu
      rw [hlv, Bool.eq_iff_iff, beq_iff_eq, decide_eq_true_iff]
      omega
end Go.Proofs.YtfdhaeglhkmmpaaGreat
/- chapter 12, the document's: Crash, Bytes, Read, Free, Image, New -/
namespace Go.Proofs.YtfdhaeglhkmmpaaGreat
open Go.GV Go.RowKit Go.Lib
set_option linter.unusedVariables false
set_option linter.unusedSimpArgs false
set_option maxHeartbeats 4000000 in
theorem rCrash_calls (lo rb : Nat) (d : Dk) (C : Option Addr) (nc cc : Nat) (ch : Bs) (w : World) (N : Nat) (h : RkD w lo rb d) (hI : DkI d) (hB : DkB d N) (hN : N ≤ 349525) (hlw : lo ≤ w.heap.size) (hC : Sl w 1 C nc (bys ch)) (hcc : nc ≤ cc) (hnc : nc ≤ 1099511627775) :
    Calls Tryz.prog 59 #[.pointer (some ⟨rb, 0, none⟩), .slice C nc cc] w fun e w' => Fr (fun k => k = rb) w w' ∧ e = .returned (.tuple #[]) ∧ RkD w' lo rb (crashD d ch) := by
  refine (F59.of (some ⟨rb, 0, none⟩) C nc cc w (Q := fun v w' => Fr (fun k => k = rb) w w' ∧ v = .tuple #[] ∧ RkD w' lo rb (crashD d ch)) ?_).mono (fun e w' ⟨v, he, hf, hv, h⟩ => ⟨hf, by rw [he, hv], h⟩)
  have hfo := hB.fo
  have hbF : FoB d.F := by unfold FoB; omega
  have hcl := by_n hC
  have hWm := ids_max hbF
  have hWa := ids_asc d.F
  have hnd := asc_nodup hWa
  have hlt := RkAt.lt h
  have hKi : ∀ i (id : Int), (idsF d.F)[i]? = some id → (KD d)[i]? = some (id, d.f id) := fun i id hi => by unfold KD; rw [List.getElem?_map, hi]; rfl
  have hKl : (KD d).length = (idsF d.F).length := by unfold KD; rw [List.length_map]
  have k4 : ∀ (A : Option Addr) (n c : Nat), Sl w 1 A n (bys ch.tail) → n ≤ c → jnC (F59.k4 (fun v w' => Fr (fun k => k = rb) w w' ∧ v = .tuple #[] ∧ RkD w' lo rb (crashD d ch))) (some ⟨rb, 0, none⟩, (A, n, c), headC ch, ()) w := by
    intro A n c hA hnc2
    have hAl := by_n hA
    have htl : ch.tail.length ≤ ch.length := by rw [List.length_tail]; omega
    have hWo : ∀ id, id ∉ idsF d.F → d.f id = zI := hI.out
    generalize hW : idsF d.F = W at hWm hWa hnd hKi hKl hWo
    refine jnC_mk (fun _ => jnC_mk (loop_rule (fun s x => Fr (fun _ => False) w x ∧ ∃ (i : Nat) (D : Option Addr) (nd dd : Nat) (O : Option Addr) (oc : Nat) (vs : List Value) (f : Int → Ino) (c : Bs), i ≤ W.length ∧ s = (some ⟨rb, 0, none⟩, (D, nd, dd), headC ch, (O, i, oc), (i : Int), ()) ∧
        RowW x w.heap.size 106 3 ZK O i oc vs ∧ (∀ v ∈ vs, (∀ x, v ≠ .int .u8 x) ∧ ∀ t, v ≠ .bool t) ∧ Ech 3 (KpP x) vs ((W.take i).map fun k => (k, f k)) ∧ Sl x 1 D nd (bys c) ∧ nd ≤ dd ∧ nd ≤ nc ∧ crashS d.f W ch.tail = crashS f (W.drop i) c ∧ ∀ k, k ∉ W.take i → f k = d.f k)
      (fun s _ => (W.length - s.2.2.2.2.1).toNat) ?_ _ _ ⟨Fr.refl _ _, 0, A, n, c, none, 0, [], d.f, ch.tail, by omega, rfl, RowW.nil _ _ _ _ _, (fun v hv => by cases hv), Ech.nil, hA, hnc2, by omega, by rw [List.drop_zero], fun k _ => rfl⟩))
    rintro s x L ⟨hf, i, D, nd, dd, O, oc, vs, f, c, hi, rfl, hr, hvs, hE, hD, hdd, hnd2, hcr, hfk⟩ hL _
    have hx := RkAt.fr0 h hf
    refine dr_mk (rk_getK hx (fun A1 c1 hA1 hfar => vIf_mk (fun hlt2 => ?_) (fun hge => ?_)))
    · have hlt2 : (i : Int) < ((KD d).length : Int) := of_decide_eq_true hlt2
      have gi : W[i]? = some (W[i]'(by omega)) := List.getElem?_eq_getElem (by omega)
      generalize W[i]'(by omega) = id at gi
      have gk := hKi i id gi
      have hdi : W.drop i = id :: W.drop (i + 1) := drop_at gi
      have eT : W.take (i + 1) = W.take i ++ [id] := by rw [List.take_add_one, gi]; rfl
      have hnew : id ∉ W.take i := fun hm => by
        obtain ⟨j, hj, hj2⟩ := mem_take_lt hm
        have := asc_get hWa hj2 gi hj
        omega
      have hfi := hfk id hnew
      refine dr_mk (rk_getK hx (fun A2 c2 hA2 _ => kt_rdX hA2 gk (by omega) (fun cs hX => ?_)))
      have hX : InoAt x cs (d.f id) := hX
      have hpi := hB.p id
      refine (rcrashI_calls cs _ D nd dd c x hX hD hdd (hI.ino id) (by omega) (by omega)).mono ?_
      rintro e w17 ⟨f17, cs', D', nd', dd', rfl, hX', hD', hdd'⟩
      have ho' := ino_one hX'
      refine ⟨cs', D', nd', dd', rfl, var_new rfl ho'.1 ho'.2 (fun b23 w25 f25 hb23 r23 => ?_)⟩
      have fd : Fr (fun _ => False) w25 w25.drew := Fr.drew _ _
      have f1 := (f17.trans1 f25).trans1 fd
      have f2 := f25.trans1 fd
      have r23 := r23.fr fd (fun h => h)
      dsimp only
      refine dr_mk ?_
      generalize w25.drew = y at fd f1 f2 r23 ⊢
      have hy := RkAt.fr0 hx f1
      have hX'' := hX'.fr0 f2
      obtain ⟨X1, m1, k1, X2, m2, k2, ec, _⟩ := hX'
      subst ec
      have hkp : KpP y [.int .i64 id, .slice X1 m1 k1, .slice X2 m2 k2] (id, (crashI (d.f id) c).1) := ⟨_, _, rfl, hX''⟩
      have hk1 := hkp.one
      have hcl1 := by_n hD
      have hcl2 : (crashI (d.f id) c).2.length = nd' := by_n hD'
      have hcp := crash_p (d.f id) c
      refine rk_getK hy (fun A3 c3 hA3 _ => kt_rdI hA3 gk (by omega) ⟨_, rfl, rec_all r23, gd_mk rfl (gd_mk rfl ?_)⟩)
      have hfy := hf.trans1 f1
      have hry := f1.rowW hr (fun _ _ h => h)
      have ha := rowW_alien hry hvs zk_no
      refine push_recW hry rfl hk1.2.1 rfl (by show (i + 1) * 56 ≤ _; omega) (by show i ≤ _; omega) hfy.size (fun A' c' w3 hr3 f3 _ => jnC_mk (hL _ _ ⟨?_, i + 1, D', nd', dd', A', c', _, updF f id (crashI (d.f id) c).1, (crashI (d.f id) c).2, by omega, by rw [ei i (by omega)], hr3, ?_, ?_, ?_, hdd', by omega, ?_, ?_⟩ ?_))
      · exact fr_own hfy (fun k hk => (hry.blt hk).1) (Nat.le_refl _) f3
      · intro v hv
        rcases List.mem_append.1 hv with hv | hv
        · exact hvs v hv
        · exact hk1.2.2 v hv
      · have eM : ((W.take (i + 1)).map fun k => (k, updF f id (crashI (d.f id) c).1 k)) = ((W.take i).map fun k => (k, f k)) ++ [(id, (crashI (d.f id) c).1)] := by
          rw [eT, List.map_append]
          have e1 : ((W.take i).map fun k => (k, updF f id (crashI (d.f id) c).1 k)) = (W.take i).map fun k => (k, f k) := List.map_congr_left (fun k hk => by
            have : k ≠ id := fun e => hnew (e ▸ hk)
            unfold updF; rw [if_neg this])
          rw [e1]
          congr 1
          show [(id, updF f id (crashI (d.f id) c).1 id)] = _
          unfold updF; rw [if_pos rfl]
        rw [eM]
        have hE3 : Ech 3 (KpP w3) vs ((W.take i).map fun k => (k, f k)) := hE.mono (fun cs z hz => (hz.fr f1 (fun _ h => h.elim)).frI f3 ha)
        exact hE3.snoc hr.len (by rw [List.length_map, List.length_take]; omega) rfl (hkp.frI f3 ha)
      · exact by_frI (f2.sl hD' (fun _ _ _ h => h)) f3 ha
      · rw [hcr, hdi]
        show crashS (updF f id (crashI (f id) c).1) _ (crashI (f id) c).2 = _
        rw [hfi]
      · intro k hk
        rw [eT] at hk
        simp only [List.mem_append, List.mem_singleton, not_or] at hk
        unfold updF
        rw [if_neg hk.2]
        exact hfk k hk.1
      · show ((W.length : Int) - IntKind.wrap .i64 ((i : Int) + 1)).toNat < ((W.length : Int) - (i : Int)).toNat
        rw [ei i (by omega)]; omega
    · have hge : ¬ (i : Int) < ((KD d).length : Int) := of_decide_eq_false hge
      have eD : W.drop i = [] := List.drop_of_length_le (by omega)
      have eT : W.take i = W := List.take_of_length_le (by omega)
      have hsz := hf.size
      rw [eD] at hcr
      rw [eT] at hE
      have hcr : crashS d.f W ch.tail = f := hcr
      have hko : KtSl x O i (W.map fun k => (k, f k)) := ⟨vs, hr.sl, by rw [List.length_map]; omega, hE⟩
      refine dr_mk (rk_setK hx hko (fun k hk => by have := (hr.blt hk).1; omega) (fun w43 f43 h43 => dr_mk (rk_getF h43 (fun cs hF => (rbeh_calls cs d.F (headC ch) w43 hF hbF).mono ?_))))
      rintro e w47 ⟨f47, A49, c51, rfl, h49⟩
      have hFn : FoAt w47 ([Value.slice A49 (behF d.F (headC ch)).length c51] ++ ([Value.slice none 0 0] ++ [])) ⟨behF d.F (headC ch), []⟩ := fo_of h49
      have hbn : FoB ⟨behF d.F (headC ch), []⟩ := by
        have := behF_len d.F (headC ch)
        unfold FoB
        show (behF d.F (headC ch)).length + 0 ≤ 349525
        omega
      refine ⟨_, _, _, rfl, dr_mk (rk_setF (h43.fr0 f47) hFn (fun w54 f54 h54 => ?_))⟩
      have hs43 := f43.size
      have hs47 := f47.size
      have hs54 := f54.size
      refine (tidy_calls lo rb _ _ w54 h54 hbn (by rw [List.length_map]; omega) (by omega)).mono ?_
      rintro e w55 ⟨f55, rfl, h55⟩
      have hfo2 : ∀ id, id ∉ W → f id = zI := fun id hid => by rw [← hcr, crashS_out _ _ _ _ hid]; exact hWo id hid
      have h55 : RkAt w55 lo rb { d with F := ⟨behF d.F (headC ch), []⟩ } ((idsF ⟨behF d.F (headC ch), []⟩).map fun id => (id, getK (W.map fun k => (k, f k)) id)) := h55
      have e2 : ((idsF ⟨behF d.F (headC ch), []⟩).map fun id => (id, getK (W.map fun k => (k, f k)) id)) = ((idsF ⟨behF d.F (headC ch), []⟩).map fun id => (id, trim ⟨behF d.F (headC ch), []⟩ f id)) := tidy_KD hfo2
      rw [e2] at h55
      obtain ⟨u3, v3, A3, n3, c3, lv3, p3⟩ := h55
      have f0 : Fr (fun k => k = rb) w w55 := ((((fr_up hf : Fr (fun k => k = rb) w x).trans1 f43).trans f47 (fun _ _ h => h) (fun _ _ h => h.elim)).trans1 f54).trans1 f55
      refine ⟨rfl, dr_mk (rk_setN (d' := { d with F := ⟨behF d.F (headC ch), []⟩, down := false }) (lv' := lv3) p3 rfl (by omega) rfl rfl p3.lv (fun w59 f59 p59 => dr_mk (rk_setN (d' := { d with F := ⟨behF d.F (headC ch), []⟩, down := false, fu := none }) (lv' := -1) p59 rfl (by omega) rfl rfl rfl (fun w62 f62 p62 => ⟨(f0.trans1 f59).trans1 f62, rfl, ?_⟩))))⟩
      have h62 : RkAt w62 lo rb { d with F := ⟨behF d.F (headC ch), []⟩, down := false, fu := none } ((idsF ⟨behF d.F (headC ch), []⟩).map fun id => (id, trim ⟨behF d.F (headC ch), []⟩ f id)) := ⟨_, _, _, _, _, _, p62⟩
      have h63 := rk_f h62 (trim ⟨behF d.F (headC ch), []⟩ (crashS d.f (idsF d.F) ch.tail))
      unfold RkD crashD
      rw [hW] at h63 ⊢
      rw [hcr] at h63 ⊢
      exact h63
  refine vIf_mk (fun hp => ?_) (fun hp => ?_)
  · have hp := of_decide_eq_true hp
    cases hch : ch with
    | nil => rw [hch] at hcl; simp at hcl; omega
    | cons y t =>
      have hC0 := hC
      obtain ⟨b, o, rfl, hc⟩ := hC0.2 (by omega)
      have hy : y.toNat < 256 := y.toNat_lt
      have e1 : IntKind.wrap .i64 ((y.toNat : Nat) : Int) = headC ch := by rw [hch]; exact i64_id (by omega) (by omega)
      have hcell : cellAt w b o = some (.int .u8 (y.toNat : Int)) := by
        have := hc 0 (bv y) (by rw [hch]; rfl)
        rw [Nat.add_zero] at this
        exact this
      refine dr_mk (gd_mk (decide_eq_true (by omega)) ⟨_, hcell, gd_mk (decide_eq_true (by omega)) ?_⟩)
      rw [e1, ← hch]
      have hsd := slDrop (c := cc) hC (show 1 ≤ nc by omega) hcc
      refine k4 _ _ _ ?_ (by omega)
      have e2 : bys ch.tail = (bys ch).drop 1 := by rw [hch]; rfl
      rw [e2]; exact hsd
  · have hp := of_decide_eq_false hp
    have hch : ch = [] := List.length_eq_zero_iff.1 (by omega)
    have e1 : headC ch = 0 := by rw [hch]; rfl
    have e2 : ch.tail = ch := by rw [hch]; rfl
    rw [← e1]
    exact k4 C nc cc (by rw [e2]; exact hC) hcc
theorem rBytes_calls (lo rb : Nat) (d : Dk) (s : ByteArray) (w : World) (h : RkD w lo rb d) (hb : FoB d.F) (hI : DkI d) (hp : ∀ id, (d.f id).p.length ≤ 349525) :
    Calls Tryz.prog 63 #[.pointer (some ⟨rb, 0, none⟩), .string s] w fun e w' => Fr (fun _ => False) w w' ∧ ∃ B k, e = .returned (.tuple #[.slice B (lookD d s).1.length k, .int .i64 (lookD d s).2]) ∧ Sl w' 1 B (lookD d s).1.length (bys (lookD d s).1) ∧ (lookD d s).1.length ≤ k := by
  refine (F63.of (some ⟨rb, 0, none⟩) s w (Q := fun v w' => Fr (fun _ => False) w w' ∧ ∃ B k, v = .tuple #[.slice B (lookD d s).1.length k, .int .i64 (lookD d s).2] ∧ Sl w' 1 B (lookD d s).1.length (bys (lookD d s).1) ∧ (lookD d s).1.length ≤ k) ?_).mono (fun e w' ⟨v, he, hf, B, k, hv, h⟩ => ⟨hf, B, k, by rw [he, hv], h⟩)
  have h0 := h
  obtain ⟨u, v, A, n, c, lv, hq⟩ := h0
  have hKl := KD_len hb
  refine dr_mk ⟨d.down, hq.r.cell (o := 0 + 6) rfl, vIf_mk (fun hd => ?_) (fun hd => dr_mk (rk_getF h (fun cs hF => (rfindF_calls cs d.F s w hF hb).mono ?_)))⟩
  · have e : lookD d s = ([], 11) := by unfold lookD; rw [if_pos hd]
    rw [e]
    exact ⟨Fr.refl _ _, none, 0, rfl, Sl.nil _ _ _, Nat.le_refl _⟩
  · have hd : d.down = false := hd
    rintro e w7 ⟨rfl, f7⟩
    refine ⟨_, _, rfl, ?_⟩
    cases hfn : findN s (nowF d.F) with
    | none =>
      have eL : lookD d s = ([], 6) := by unfold lookD; rw [if_neg (by rw [hd]; simp), hfn]
      rw [eL]
      exact vIf_t rfl ⟨f7, none, 0, rfl, Sl.nil _ _ _, Nat.le_refl _⟩
    | some id =>
      have eL : lookD d s = (nowI (d.f id), 0) := by unfold lookD; rw [if_neg (by rw [hd]; simp), hfn]
      rw [eL]
      refine vIf_f rfl ((get_calls lo rb d (KD d) id w7 (RkAt.fr0 h f7) hKl).mono ?_)
      have egk : getK (KD d) id = d.f id := getK_map hI.out id
      rw [egk]
      rintro e w11 ⟨f11, a13, rfl, hX⟩
      have ho := ino_one hX
      refine ⟨a13, rfl, var_new rfl ho.1 ho.2 (fun b14 w16 f16 hb14 r14 => ?_)⟩
      have hX16 := hX.fr0 f16
      obtain ⟨X1, m1, k1, X2, m2, k2, rfl, x1, x2, x3, x4⟩ := hX16
      have hp2 := wsl_n x3
      have hpi := hp id
      refine ⟨_, _, _, r14.cell (o := 0) rfl, _, _, _, r14.cell (o := 0 + 1) rfl, (rall_calls X1 m1 k1 (d.f id).b X2 m2 k2 (d.f id).p w16 x1 x3 (hI.ino id).b (by omega) (hI.ino id).d).mono ?_⟩
      rintro e w23 ⟨f23, B, k, rfl, hr⟩
      exact ⟨B, _, k, rfl, ((f7.trans1 f11).trans1 f16).trans1 f23, B, k, rfl, hr.sl, hr.le⟩
theorem rRead_calls (lo rb : Nat) (d : Dk) (s : ByteArray) (off n : Int) (w : World) (h : RkD w lo rb d) (hb : FoB d.F) (hI : DkI d) (hp : ∀ id, (d.f id).p.length ≤ 349525) :
    Calls Tryz.prog 62 #[.pointer (some ⟨rb, 0, none⟩), .string s, .int .i64 off, .int .i64 n] w fun e w' => Fr (fun _ => False) w w' ∧ ∃ B k, e = .returned (.tuple #[.slice B (readD d s off n).1.length k, .int .i64 (readD d s off n).2]) ∧ Sl w' 1 B (readD d s off n).1.length (bys (readD d s off n).1) := by
  refine (F62.of (some ⟨rb, 0, none⟩) s off n w (Q := fun v w' => Fr (fun _ => False) w w' ∧ ∃ B k, v = .tuple #[.slice B (readD d s off n).1.length k, .int .i64 (readD d s off n).2] ∧ Sl w' 1 B (readD d s off n).1.length (bys (readD d s off n).1)) ?_).mono (fun e w' ⟨v, he, hf, B, k, hv, h⟩ => ⟨hf, B, k, by rw [he, hv], h⟩)
  have hll := look_len hI.ino s
  refine (rBytes_calls lo rb d s w h hb hI hp).mono ?_
  rintro e w1 ⟨f1, B, k, rfl, hB, hk⟩
  refine ⟨B, _, k, _, rfl, ?_⟩
  unfold readD
  generalize hL : lookD d s = L at hll hB hk ⊢
  obtain ⟨b, er⟩ := L
  have bad : ∀ x : Int, Fr (fun _ => False) w w1 ∧ ∃ B' k', Value.tuple #[Value.slice none 0 0, Value.int .i64 x] = .tuple #[.slice B' ((([], x) : Bs × Int)).1.length k', .int .i64 (([], x) : Bs × Int).2] ∧ Sl w1 1 B' ((([], x) : Bs × Int)).1.length (bys (([], x) : Bs × Int).1) := fun x => ⟨f1, none, 0, rfl, Sl.nil _ _ _⟩
  dsimp only at hll hB hk ⊢
  refine vIf_mk (fun he => ?_) (fun he => ?_)
  · have he : ¬ er = 0 := by simpa using he
    rw [if_pos he]
    exact bad er
  · have he : er = 0 := by simpa using he
    rw [if_neg (by rw [he]; simp)]
    have ew : 0 ≤ off → off ≤ (b.length : Int) → IntKind.wrap .i64 (((b.length : Nat) : Int) - off) = (b.length : Int) - off := fun h1 h2 => i64_id (by omega) (by omega)
    refine vIf_mk (fun h1 => ?_) (fun h1 => vIf_mk (fun h2 => ?_) (fun h2 => vIf_mk (fun h3 => ?_) (fun h3 => vIf_mk (fun h4 => ?_) (fun h4 => jnC_mk (fun _ => ?_)))))
    · rw [if_pos (.inl (of_decide_eq_true h1))]; exact bad 20
    · rw [if_pos (.inr (.inl (of_decide_eq_true h2)))]; exact bad 20
    · rw [if_pos (.inr (.inr (.inl (of_decide_eq_true h3))))]; exact bad 20
    · have h1 := of_decide_eq_false h1
      have h3 := of_decide_eq_false h3
      have h4 := of_decide_eq_true h4
      rw [ew (by omega) (by omega)] at h4
      rw [if_pos (.inr (.inr (.inr h4)))]; exact bad 20
    · have h1 := of_decide_eq_false h1
      have h2 := of_decide_eq_false h2
      have h3 := of_decide_eq_false h3
      have h4 := of_decide_eq_false h4
      rw [ew (by omega) (by omega)] at h4
      rw [if_neg (fun h => h.elim h1 (fun h => h.elim h2 (fun h => h.elim h3 h4)))]
      obtain ⟨o, rfl⟩ : ∃ o : Nat, off = (o : Int) := ⟨off.toNat, by omega⟩
      obtain ⟨m, rfl⟩ : ∃ m : Nat, n = (m : Int) := ⟨n.toNat, by omega⟩
      have e1 : IntKind.wrap .i64 ((o : Int) + (m : Int)) = ((o + m : Nat) : Int) := by rw [i64_id (by omega) (by omega)]; omega
      unfold F62.k6c
      dsimp only
      rw [e1]
      refine gd_mk (decide_eq_true (by omega)) (gd_mk (decide_eq_true (by omega)) (gd_mk (decide_eq_true (by omega)) (gd_mk (decide_eq_true (by omega)) ⟨f1, slA B k o 1, k - o, ?_, ?_⟩)))
      · simp only [Int.toNat_natCast]
        have : ((b.drop o).take m).length = m := by rw [List.length_take, List.length_drop]; omega
        rw [this, Nat.add_sub_cancel_left]
      · simp only [Int.toNat_natCast]
        have hl : ((b.drop o).take m).length = m := by rw [List.length_take, List.length_drop]; omega
        rw [hl]
        have e2 : bys ((b.drop o).take m) = ((bys b).drop o).take m := by simp [bys, List.map_take, List.map_drop]
        rw [e2]
        refine ⟨by rw [← e2, List.length_map, hl, Nat.mul_one], fun h0 => ?_⟩
        obtain ⟨bb, oo, rfl, hc⟩ := hB.2 (by omega)
        refine ⟨bb, oo + o, ?_, fun j v hj => ?_⟩
        · unfold slA
          rw [if_neg (by omega), Option.map_some, add_none, Nat.mul_one]
        · rw [List.getElem?_take] at hj
          split at hj
          · rw [List.getElem?_drop] at hj
            rw [Nat.add_assoc]
            exact hc _ v hj
          · cases hj
theorem rTaken_calls (lo rb : Nat) (d : Dk) (w : World) (h : RkD w lo rb d) (hb : FoB d.F) (hI : DkI d) (hp : ∀ id, (d.f id).p.length ≤ 349525) :
    Calls Tryz.prog 86 #[.pointer (some ⟨rb, 0, none⟩)] w fun e w' => e = .returned (.int .i64 (takenF d.F d.f)) ∧ Fr (fun _ => False) w w' := by
  have eS : sumK (KD d) = takenF d.F d.f := sumK_map _ _
  rw [← eS]
  refine Taken_calls lo rb d (KD d) w h (KD_len hb) (fun q hq => ?_) (fun q hq => ?_)
  · unfold KD at hq
    obtain ⟨j, _, rfl⟩ := List.mem_map.1 hq
    exact hI.ino j
  · unfold KD at hq
    obtain ⟨j, _, rfl⟩ := List.mem_map.1 hq
    have := hp j
    show (d.f j).p.length ≤ _
    omega
set_option maxHeartbeats 1000000 in
theorem rFree_calls (lo rb : Nat) (d : Dk) (w : World) (h : RkD w lo rb d) (hb : FoB d.F) (hI : DkI d) (hp : ∀ id, (d.f id).p.length ≤ 349525) (hlb : d.lb ≤ 9223372036854775807) (hlf : d.lf ≤ 9223372036854775807) :
    Calls Tryz.prog 60 #[.pointer (some ⟨rb, 0, none⟩)] w fun e w' => e = .returned (.tuple #[.int .i64 (freeD d).1, .int .i64 (freeD d).2]) ∧ Fr (fun _ => False) w w' := by
  refine (F60.of (some ⟨rb, 0, none⟩) w (Q := fun v w' => v = .tuple #[.int .i64 (freeD d).1, .int .i64 (freeD d).2] ∧ Fr (fun _ => False) w w') ?_).mono (fun e w' ⟨v, he, hv, h⟩ => ⟨by rw [he, hv], h⟩)
  have hnn := taken_nn hI.ino
  have hKl : (KD d).length = (idsF d.F).length := by unfold KD; rw [List.length_map]
  have k4 : ∀ (x : Int) (y : World), x = (freeD d).1 → Fr (fun _ => False) w y → jnC (F60.k4 (fun v w' => v = .tuple #[.int .i64 (freeD d).1, .int .i64 (freeD d).2] ∧ Fr (fun _ => False) w w')) (some ⟨rb, 0, none⟩, x, 0, ()) y := by
    intro x y hx fy
    have f1 := fy.trans1 (Fr.drew (fun _ => False) y)
    refine jnC_mk (fun _ => dr_mk ?_)
    dsimp only
    generalize y.drew = z at f1 ⊢
    have hz := RkAt.fr0 h f1
    refine rk_getI (o := 1) hz (.inr (.inl ⟨rfl, rfl⟩)) (dr_mk (rk_getK hz (fun A c _ _ => vIf_mk (fun hgt => dr_mk ?_) (fun hgt => jnC_mk (fun _ => ⟨?_, f1⟩)))))
    · have hgt := of_decide_eq_true hgt
      have f2 := f1.trans1 (Fr.drew (fun _ => False) z)
      generalize z.drew = q at f2 ⊢
      have hq := RkAt.fr0 h f2
      refine rk_getI (o := 1) hq (.inr (.inl ⟨rfl, rfl⟩)) (dr_mk (rk_getK hq (fun A2 c2 _ _ => jnC_mk (fun _ => ⟨?_, f2⟩))))
      have e1 : IntKind.wrap .i64 (d.lf - ((KD d).length : Int)) = (freeD d).2 := by
        rw [i64_id (by omega) (by omega), hKl]
        show _ = leftD d.lf ((idsF d.F).length : Nat)
        unfold leftD
        rw [if_neg (by omega)]
      rw [e1, hx]
    · have hgt := of_decide_eq_false hgt
      have e1 : (freeD d).2 = 0 := by
        show leftD d.lf ((idsF d.F).length : Nat) = 0
        unfold leftD
        rw [if_pos (by omega)]
      rw [e1, hx]
  refine dr_mk ?_
  have f0 := Fr.drew (fun _ => False) w
  generalize w.drew = w1 at f0 ⊢
  have h1 := RkAt.fr0 h f0
  refine rk_getI (o := 0) h1 (.inl ⟨rfl, rfl⟩) ((rTaken_calls lo rb d w1 h1 hb hI hp).mono ?_)
  rintro e w4 ⟨rfl, f4⟩
  refine ⟨_, rfl, kp_mk f4 h1.lt.1 (fun h => h) (vIf_mk (fun hgt => dr_mk ?_) (fun hgt => k4 0 w4 ?_ (f0.trans1 f4)))⟩
  · have hgt := of_decide_eq_true hgt
    have f5 := (f0.trans1 f4).trans1 (Fr.drew (fun _ => False) w4)
    generalize w4.drew = w5 at f5 ⊢
    have h5 := RkAt.fr0 h f5
    refine rk_getI (o := 0) h5 (.inl ⟨rfl, rfl⟩) ((rTaken_calls lo rb d w5 h5 hb hI hp).mono ?_)
    rintro e w10 ⟨rfl, f10⟩
    refine ⟨_, rfl, kp_mk f10 h5.lt.1 (fun h => h) (k4 _ w10 ?_ (f5.trans1 f10))⟩
    show IntKind.wrap .i64 (d.lb - takenF d.F d.f) = leftD d.lb (takenF d.F d.f)
    unfold leftD
    rw [if_neg (by omega), i64_id (by omega) (by omega)]
  · have hgt := of_decide_eq_false hgt
    show 0 = leftD d.lb (takenF d.F d.f)
    unfold leftD
    rw [if_pos (by omega)]
set_option maxHeartbeats 2000000 in
theorem rImage_calls (lo rb : Nat) (d : Dk) (w : World) (h : RkD w lo rb d) (hb : FoB d.F) (hI : DkI d) :
    Calls Tryz.prog 61 #[.pointer (some ⟨rb, 0, none⟩)] w fun e w' => Fr (fun _ => False) w w' ∧ ∃ A c, e = .returned (.slice A (imageD d).length c) ∧ ISl w' A (imageD d).length (imageD d) := by
  refine (F61.of (some ⟨rb, 0, none⟩) w (Q := fun v w' => Fr (fun _ => False) w w' ∧ ∃ A c, v = .slice A (imageD d).length c ∧ ISl w' A (imageD d).length (imageD d)) ?_).mono (fun e w' ⟨v, he, hf, A, c, hv, h⟩ => ⟨hf, A, c, by rw [he, hv], h⟩)
  have hKl := KD_len hb
  have hb' : d.F.L.length + d.F.P.length ≤ 349525 := hb
  refine dr_mk (rk_getF h (fun cs hF => (rbeh_calls cs d.F 0 w hF hb).mono ?_))
  have eN : behF d.F 0 = nowF ⟨d.F.L, []⟩ := by
    have e1 : behF d.F ((0 : Nat) : Int) = behN d.F.L (d.F.P.take 0) := behF_at d.F 0 (Nat.zero_le _)
    rw [nowF_at]
    exact e1
  rw [eN]
  have hnl := nowF_len ⟨d.F.L, []⟩
  have hnl : (nowF ⟨d.F.L, []⟩).length ≤ 349525 := by have hnl : (nowF ⟨d.F.L, []⟩).length ≤ d.F.L.length + 0 := hnl; omega
  unfold imageD
  generalize nowF ⟨d.F.L, []⟩ = l at hnl ⊢
  rintro e w7 ⟨f7, A9, c11, rfl, r9⟩
  have hsl9 := r9.sl
  have hs7 := f7.size
  have h7 := RkAt.fr0 h f7
  let G : Nm → Fl := fun x => (x.1, (d.f x.2).b)
  refine ⟨A9, _, c11, rfl, jnC_mk (loop_rule (fun s x => Fr (fun _ => False) w x ∧ Fr (fun _ => False) w7 x ∧ ∃ (i : Nat) (A : Option Addr) (c : Nat) (vs : List Value), i ≤ l.length ∧ s = (some ⟨rb, 0, none⟩, (A, i, c), (A9, l.length, c11), (i : Int), ()) ∧ RowW x w7.heap.size 97 2 [Value.string (⟨#[]⟩ : ByteArray), Value.slice none 0 0] A i c vs ∧ (∀ v ∈ vs, (∀ x, v ≠ .int .u8 x) ∧ ∀ t, v ≠ .bool t) ∧ Ech 2 (FlP x) vs ((l.take i).map G))
    (fun s _ => (l.length - s.2.2.2.1).toNat) ?_ _ _ ⟨f7, Fr.refl _ _, 0, none, 0, [], by omega, rfl, RowW.nil _ _ _ _ _, (fun v hv => by cases hv), Ech.nil⟩)⟩
  rintro s x C ⟨hf, hf7, i, A, c, vs, hi2, rfl, hr, hvs, hE⟩ hC _
  refine vIf_mk (fun hlt => ?_) (fun hge => ?_)
  · have hlt : (i : Int) < (l.length : Int) := of_decide_eq_true hlt
    have gi : l[i]? = some (l[i]'(by omega)) := List.getElem?_eq_getElem (by omega)
    generalize l[i]'(by omega) = y at gi
    dsimp only
    have fd : Fr (fun _ => False) x x.drew := Fr.drew _ _
    have hfd := hf.trans1 fd
    have hf7d := hf7.trans1 fd
    generalize x.drew = z at fd hfd hf7d ⊢
    have hslz := hsl9.fr0 hf7d
    have hzk := RkAt.fr0 h7 hf7d
    have hlen := hsl9.2
    obtain ⟨b, o, hA9, hc⟩ := hslz.1.2 (by omega)
    subst hA9
    have hcy : cellsAt z b (o + i * 2) (encN y) := by
      intro j v hj
      have hj2 : j < 2 := by have := (List.getElem?_eq_some_iff.1 hj).1; simpa [encN] using this
      rw [Nat.add_assoc]
      exact hc _ v (by rw [flt_get (sz := 2) (fun x _ => encN_o.len x) gi j hj2]; exact hj)
    have c0 : cellAt z b (o + i * 2) = some (.string y.1) := hcy 0 _ rfl
    have c1 : cellAt z b (o + i * 2 + 1) = some (.int .i64 y.2) := hcy 1 _ rfl
    refine dr_mk (gd_mk (decide_eq_true (by omega)) (gd_mk (decide_eq_true (by omega)) ⟨y.1, by rw [Int.toNat_natCast]; exact c0, dr_mk (gd_mk (decide_eq_true (by omega)) (gd_mk (decide_eq_true (by omega)) ⟨y.2, by rw [Int.toNat_natCast]; exact c1, (get_calls lo rb d (KD d) y.2 z hzk hKl).mono ?_⟩))⟩))
    have egk : getK (KD d) y.2 = d.f y.2 := getK_map hI.out y.2
    rw [egk]
    rintro e w15 ⟨f15, cs, rfl, hX⟩
    obtain ⟨X1, m1, k1, X2, m2, k2, rfl, x1, x2, x3, x4⟩ := hX
    have hbl := by_n x1
    refine ⟨_, rfl, kp_mk f15 (cellAt_lt c0) (fun h => h) (gd_mk rfl (gd_mk rfl ?_))⟩
    have hfW : FlP w15 [.string y.1, .slice X1 m1 k1] (G y) := ⟨X1, m1, k1, rfl, x1, x2⟩
    have hW1 := hfW.one
    have f1 := fd.trans1 f15
    have hr15 := f1.rowW hr (fun _ _ h => h)
    have ha := rowW_alien hr15 hvs (fun v hv => by
      simp only [List.mem_cons, List.not_mem_nil, or_false] at hv
      rcases hv with rfl | rfl <;> exact ⟨fun x => Value.noConfusion, fun t => Value.noConfusion⟩)
    have f7' := hf7d.trans1 f15
    refine push_recW hr15 rfl hW1.2.1 rfl (by show (i + 1) * 40 ≤ _; omega) (by show i ≤ _; omega) f7'.size (fun A' c' w3 hr3 f3 _ => jnC_mk (hC _ _ ⟨?_, ?_, i + 1, A', c', _, by omega, by rw [ei i (by omega)], hr3, ?_, ?_⟩ ?_))
    · exact fr_own (hfd.trans1 f15) (fun k hk => (hr15.blt hk).1) hs7 f3
    · exact fr_own f7' (fun k hk => (hr15.blt hk).1) (Nat.le_refl _) f3
    · intro v hv
      rcases List.mem_append.1 hv with hv | hv
      · exact hvs v hv
      · exact hW1.2.2 v hv
    · have eT : (l.take (i + 1)).map G = (l.take i).map G ++ [G y] := by rw [List.take_add_one, gi]; simp
      rw [eT]
      have hE3 : Ech 2 (FlP w3) vs ((l.take i).map G) := hE.mono (fun cs z hz => (hz.fr0 f1).frI f3 ha)
      exact hE3.snoc hr.len (by rw [List.length_map, List.length_take]; omega) rfl (hfW.frI f3 ha)
    · show ((l.length : Int) - IntKind.wrap .i64 ((i : Int) + 1)).toNat < ((l.length : Int) - (i : Int)).toNat
      rw [ei i (by omega)]; omega
  · have hge : ¬ (i : Int) < (l.length : Int) := of_decide_eq_false hge
    have e2 : l.take i = l := List.take_of_length_le (by omega)
    rw [e2] at hE
    have e3 : i = (l.map G).length := by rw [List.length_map]; omega
    subst e3
    exact ⟨hf, A, c, rfl, vs, hr.sl, rfl, hE⟩
end Go.Proofs.YtfdhaeglhkmmpaaGreat
/- chapter 12: Load -/
namespace Go.Proofs.YtfdhaeglhkmmpaaGreat
open Go.GV Go.RowKit Go.Lib
set_option linter.unusedVariables false
set_option linter.unusedSimpArgs false
open Classical in
noncomputable def lodS (d : Dk) (x : Fl) : Dk := if (findN x.1 (nowF d.F)).isSome = true ∨ ¬ DiskP x.1 ∨ x.2.length > 1048576 then d else { d with last := d.last + 1, F := ⟨d.F.L ++ [(x.1, d.last + 1)], []⟩, f := updF d.f (d.last + 1) ⟨x.2, []⟩ }
noncomputable def lodF (lb lf : Int) (l : List Fl) : Dk := l.foldl lodS (newD lb lf)
noncomputable def loadD (lb lf : Int) (l : List Fl) : Dk := { lodF lb lf l with F := ⟨nowF (lodF lb lf l).F, []⟩ }
structure LdI (d : Dk) (lb lf : Int) (N : Nat) : Prop where
  P : d.F.P = []
  st : d.down = false ∧ d.fu = none ∧ d.calls = 0 ∧ d.lb = lb ∧ d.lf = lf
  len : d.last = d.F.L.length ∧ d.F.L.length ≤ N
  ids : ∀ id, (∃ nm, (nm, id) ∈ d.F.L) ↔ 1 ≤ id ∧ id ≤ d.last
  dis : ∀ x ∈ d.F.L, findN x.1 d.F.L = some x.2
  out : ∀ id, ¬ (1 ≤ id ∧ id ≤ d.last) → d.f id = zI
  ino : ∀ id, InoB (d.f id) ∧ (d.f id).p = []
theorem nowF_nil {F : Fo} (h : F.P = []) : nowF F = lastN F.L := by
  rw [nowF_at, h]; rfl
theorem new_L (lb lf : Int) : LdI (newD lb lf) lb lf 0 := by
  refine ⟨rfl, ⟨rfl, rfl, rfl, rfl, rfl⟩, ⟨rfl, Nat.le_refl _⟩, fun id => ⟨(fun ⟨_, h⟩ => by cases h), fun h => ?_⟩, fun x hx => (by cases hx), fun id _ => rfl, fun id => ⟨zI_B, rfl⟩⟩
  have h : 1 ≤ id ∧ id ≤ 0 := h
  omega
theorem LdI.step {d : Dk} {lb lf : Int} {N : Nat} (h : LdI d lb lf N) (x : Fl) : LdI (lodS d x) lb lf (N + 1) := by
  unfold lodS
  split
  · exact ⟨h.P, h.st, ⟨h.len.1, by have := h.len.2; omega⟩, h.ids, h.dis, h.out, h.ino⟩
  · rename_i hc
    have hf : findN x.1 d.F.L = none := by
      rw [nowF_nil h.P, lastN_find] at hc
      cases hq : findN x.1 d.F.L with
      | none => rfl
      | some v => exact absurd (.inl (by rw [hq]; rfl)) hc
    have hx : x.2.length ≤ 1048576 := by
      by_cases hx : x.2.length ≤ 1048576
      · exact hx
      · exact absurd (.inr (.inr (by omega))) hc
    have hl := h.len
    refine ⟨rfl, h.st, ⟨?_, ?_⟩, fun id => ?_, fun y hy => ?_, fun id hid => ?_, fun id => ?_⟩
    · show d.last + 1 = (((d.F.L ++ [(x.1, d.last + 1)]).length : Nat) : Int)
      rw [List.length_append, List.length_singleton]; omega
    · show (d.F.L ++ [(x.1, d.last + 1)]).length ≤ _
      rw [List.length_append, List.length_singleton]; omega
    · show (∃ nm, (nm, id) ∈ d.F.L ++ [(x.1, d.last + 1)]) ↔ 1 ≤ id ∧ id ≤ d.last + 1
      have hi := h.ids id
      constructor
      · rintro ⟨nm, hm⟩
        rcases List.mem_append.1 hm with hm | hm
        · have := hi.1 ⟨nm, hm⟩; omega
        · have := congrArg Prod.snd (List.mem_singleton.1 hm)
          have this : id = d.last + 1 := this
          omega
      · intro hr
        by_cases he : id = d.last + 1
        · exact ⟨x.1, by rw [he]; simp⟩
        · obtain ⟨nm, hm⟩ := hi.2 (by omega)
          exact ⟨nm, List.mem_append.2 (.inl hm)⟩
    · have hy : y ∈ d.F.L ++ [(x.1, d.last + 1)] := hy
      show findN y.1 (d.F.L ++ [(x.1, d.last + 1)]) = some y.2
      rw [findN_app]
      rcases List.mem_append.1 hy with hm | hm
      · rw [h.dis y hm]; rfl
      · rw [List.mem_singleton.1 hm]
        show (findN x.1 d.F.L).or _ = _
        rw [hf]
        show findN x.1 [(x.1, d.last + 1)] = some (d.last + 1)
        simp [findN]
    · have hid : ¬ (1 ≤ id ∧ id ≤ d.last + 1) := hid
      show updF d.f (d.last + 1) ⟨x.2, []⟩ id = zI
      unfold updF
      rw [if_neg (by omega)]
      exact h.out id (by omega)
    · show InoB (updF d.f (d.last + 1) ⟨x.2, []⟩ id) ∧ (updF d.f (d.last + 1) ⟨x.2, []⟩ id).p = []
      unfold updF
      split
      · exact ⟨⟨hx, fun y hy => by cases hy⟩, rfl⟩
      · exact h.ino id
theorem lod_L (lb lf : Int) (l : List Fl) : LdI (lodF lb lf l) lb lf l.length := by
  have key : ∀ (l : List Fl) (d : Dk) (N : Nat), LdI d lb lf N → LdI (l.foldl lodS d) lb lf (N + l.length) := by
    intro l
    induction l with
    | nil => intro d N h; exact h
    | cons x r ih =>
      intro d N h
      have := ih (lodS d x) (N + 1) (h.step x)
      rw [List.foldl_cons, List.length_cons, show N + (r.length + 1) = N + 1 + r.length by omega]
      exact this
  have := key l (newD lb lf) 0 (new_L lb lf)
  rw [Nat.zero_add] at this
  exact this
theorem lod_step {l : List Fl} {i : Nat} {x : Fl} (h : l[i]? = some x) (lb lf : Int) : lodF lb lf (l.take (i + 1)) = lodS (lodF lb lf (l.take i)) x := by
  unfold lodF
  rw [List.take_add_one, h, List.foldl_append]; rfl
/-- the numbers 1, 2, .. -/
def upto (n : Nat) : List Int := (List.range n).map fun (k : Nat) => ((k : Int) + 1)
theorem upto_mem {n : Nat} {id : Int} : id ∈ upto n ↔ 1 ≤ id ∧ id ≤ n := by
  unfold upto
  rw [List.mem_map]
  constructor
  · rintro ⟨k, hk, rfl⟩
    have := List.mem_range.1 hk
    omega
  · intro h
    exact ⟨(id - 1).toNat, List.mem_range.2 (by omega), by show (((id - 1).toNat : Nat) : Int) + 1 = id; omega⟩
theorem upto_asc (n : Nat) : AscI (upto n) := by
  unfold upto
  refine List.Pairwise.map _ (fun a b (h : a < b) => by omega) List.pairwise_lt_range
theorem upto_succ (n : Nat) : upto (n + 1) = upto n ++ [((n : Int) + 1)] := by unfold upto; rw [List.range_succ, List.map_append]; rfl
theorem asc_find : ∀ {l : List Nm} {nm : ByteArray} {id : Int}, AscN l → (nm, id) ∈ l → findN nm l = some id
  | [], nm, id, _, h => by cases h
  | x :: l, nm, id, ha, h => by
    have ha' := List.pairwise_cons.1 ha
    unfold findN
    rcases List.mem_cons.1 h with e | h
    · rw [← e, if_pos rfl]
    · have hlt := ha'.1 _ h
      rw [if_neg (fun e => by rw [e, cmpN_self] at hlt; omega)]
      exact asc_find ha'.2 h
theorem lod_ids {d : Dk} {lb lf : Int} {N : Nat} (h : LdI d lb lf N) : idsF ⟨nowF d.F, []⟩ = upto d.F.L.length := by
  refine AscI.unique (ids_asc _) (upto_asc _) (fun id => ?_)
  rw [upto_mem, ids_one, lastN_id (nowF_asc _), nowF_nil h.P]
  have hl := h.len.1
  constructor
  · rintro ⟨nm, hm⟩
    have h1 : findN nm d.F.L = some id := by rw [← lastN_find]; exact asc_find (lastN_asc _) hm
    have := (h.ids id).1 ⟨nm, findN_mem h1⟩
    omega
  · intro hr
    obtain ⟨nm, hm⟩ := (h.ids id).2 (by omega)
    have h1 := h.dis _ hm
    rw [← lastN_find] at h1
    exact ⟨nm, findN_mem h1⟩
theorem load_I {lb lf : Int} {l : List Fl} : DkI (loadD lb lf l) := by
  have h := lod_L lb lf l
  have hi := lod_ids h
  refine ⟨fun id hid => ?_, fun id hid => ?_, fun id => (h.ino id).1, fun n hn => ?_⟩
  · have hid : id ∉ idsF ⟨nowF (lodF lb lf l).F, []⟩ := hid
    rw [hi, upto_mem] at hid
    have := h.len.1
    exact h.out id (by omega)
  · have hid : id ∈ idsF ⟨nowF (lodF lb lf l).F, []⟩ := hid
    rw [hi, upto_mem] at hid
    have := h.len.1
    show 1 ≤ id ∧ id ≤ (lodF lb lf l).last
    omega
  · have hn : (lodF lb lf l).fu = some n := hn
    rw [h.st.2.1] at hn; cases hn
theorem load_B {lb lf : Int} {l : List Fl} (h1 : lb ≤ 9223372036854775807) (h2 : lf ≤ 9223372036854775807) : DkB (loadD lb lf l) l.length := by
  have h := lod_L lb lf l
  obtain ⟨q1, q2, q3, q4, q5⟩ := h.st
  have hl := h.len
  have hn : (nowF (lodF lb lf l).F).length ≤ (lodF lb lf l).F.L.length := by rw [nowF_nil h.P]; exact lastN_len _
  refine ⟨by show (nowF (lodF lb lf l).F).length + 0 ≤ _; omega, fun id => by show ((lodF lb lf l).f id).p.length ≤ _; rw [(h.ino id).2]; exact Nat.zero_le _, by show 0 ≤ (lodF lb lf l).last ∧ (lodF lb lf l).last ≤ _; omega, by show 0 ≤ (lodF lb lf l).calls ∧ (lodF lb lf l).calls ≤ _; omega, fun n hn => ?_, by show (lodF lb lf l).lb ≤ _; omega, by show (lodF lb lf l).lf ≤ _; omega⟩
  have hn : (lodF lb lf l).fu = some n := hn
  rw [q2] at hn; cases hn
theorem fls_no (l : List Nm) : ∀ v ∈ flt encN l, (∀ x, v ≠ .int .u8 x) ∧ ∀ t, v ≠ .bool t := by
  intro v hv
  simp only [flt, List.mem_flatten, List.mem_map] at hv
  obtain ⟨_, ⟨x, _, rfl⟩, hv⟩ := hv
  simp only [encN, List.mem_cons, List.not_mem_nil, or_false] at hv
  rcases hv with rfl | rfl
  · exact ⟨fun x => Value.noConfusion, fun t => Value.noConfusion⟩
  · exact ⟨(fun x h => by injection h with h; cases h), fun t => Value.noConfusion⟩
abbrev ZN : List Value := [Value.string (⟨#[]⟩ : ByteArray), Value.int .i64 0]
theorem zn_no : ∀ v ∈ ZN, (∀ x, v ≠ .int .u8 x) ∧ ∀ t, v ≠ .bool t := by
  intro v hv
  simp only [List.mem_cons, List.not_mem_nil, or_false] at hv
  rcases hv with rfl | rfl
  · exact ⟨fun x => Value.noConfusion, fun t => Value.noConfusion⟩
  · exact ⟨(fun x h => by injection h with h; cases h), fun t => Value.noConfusion⟩
theorem RowW.low {u : World} {B B' : Nat} {e : TypeId} {sz : Nat} {z : List Value} {A : Option Addr} {k c : Nat} {vs : List Value} (hB : B' ≤ B) (hr : RowW u B e sz z A k c vs) : RowW u B' e sz z A k c vs := by
  refine ⟨hr.len, hr.le, ?_⟩
  rcases hr.at_ with h' | ⟨b', q1, q2, q3⟩
  · exact .inl h'
  · exact .inr ⟨b', q1, by omega, q3⟩
theorem fl_rdA {w : World} {A : Option Addr} {n : Nat} {l : List Fl} (h : ISl w A n l) {i : Nat} {x : Fl} (hi : l[i]? = some x) (hin : i < n) {K : List Value → Prop} (hK : ∀ cs, FlP w cs x → K cs) :
    dr A fun b o => gd (decide (0 ≤ (i : Int))) (gd (decide ((i : Int) < ((n : Nat) : Int))) (ldA 2 w b (o + ((i : Int)).toNat * 2) K)) := by
  obtain ⟨vs, hs, _, hE⟩ := h
  exact el_all hs hE (by omega) hi hin (fun cs _ hx => hK cs hx)
theorem New_raw (lb lf : Int) (w : World) :
    Calls Tryz.prog 7 #[ofL [.int .i64 lb, .int .i64 lf]] w fun e w' => Fr (fun _ => False) w w' ∧ ∃ db r, e = .returned (.pointer (some ⟨db, 0, none⟩)) ∧ RecAt w' db 66 (dkC (newD lb lf) (.slice none 0 0) (.slice none 0 0) r false 0) ∧ FilesAt w' r (newD lb lf).f ∧ w.heap.size ≤ db ∧ w.heap.size ≤ r ∧ db ≠ r := by
  refine (F7.of _ w (Q := fun v w' => Fr (fun _ => False) w w' ∧ ∃ db r, v = .pointer (some ⟨db, 0, none⟩) ∧ RecAt w' db 66 (dkC (newD lb lf) (.slice none 0 0) (.slice none 0 0) r false 0) ∧ FilesAt w' r (newD lb lf).f ∧ w.heap.size ≤ db ∧ w.heap.size ≤ r ∧ db ≠ r) ?_).mono (fun e w' ⟨v, he, hf, db, r, hv, h⟩ => ⟨hf, db, r, by rw [he, hv], h⟩)
  refine rec_new (fun b1 w2 f1 hb1 r1 => ⟨_, rfl, rec_all r1, mmk_mk (fun w5 hM f5 hs5 => gd_mk rfl (rec_new (fun b6 w7 f7 hb6 r6 => ⟨(f1.trans1 f5).trans1 f7, b6, w2.heap.size, rfl, r6, ⟨_, hM.fr f7 (fun h => h), fun id => ⟨ZI, rfl, zI_at _⟩⟩, ?_, f1.size, by omega⟩)))⟩)
  have := f1.size
  omega
theorem dk_alien' {w : World} {db : Nat} {d : Dk} {A1 A2 : Option Addr} {n1 c1 n2 c2 : Nat} {r : Nat} {fz : Bool} {lv : Int} (h : RecAt w db 66 (dkC d (.slice A1 n1 c1) (.slice A2 n2 c2) r fz lv)) : Alien w db := by
  have hc : ∀ o, cellAt w db o = (dkC d (.slice A1 n1 c1) (.slice A2 n2 c2) r fz lv)[o]? := fun o => by rw [cellAt_blk h]; simp
  refine ⟨fun o s hs => ?_, fun o x hx => ?_, fun o t z A1 n1 c1 ht => ?_⟩
  · rw [hc] at hs
    match o, hs with
    | 0, hs => cases hs
    | 1, hs => cases hs
    | 2, hs => cases hs
    | 3, hs => cases hs
    | 4, hs => cases hs
    | 5, hs => cases hs
    | 6, hs => cases hs
    | 7, hs => cases hs
    | 8, hs => cases hs
    | 9, hs => cases hs
    | o + 10, hs => cases hs
  · rw [hc] at hx
    match o, hx with
    | 0, hx => cases hx
    | 1, hx => cases hx
    | 2, hx => cases hx
    | 3, hx => cases hx
    | 4, hx => cases hx
    | 5, hx => cases hx
    | 6, hx => cases hx
    | 7, hx => cases hx
    | 8, hx => cases hx
    | 9, hx => cases hx
    | o + 10, hx => cases hx
  · obtain ⟨h0, h1, h2⟩ := ht
    rw [hc] at h0 h1 h2
    match o, h0, h1, h2 with
    | 0, h0, h1, h2 => cases h0
    | 1, h0, h1, h2 => cases h0
    | 2, h0, h1, h2 => cases h0
    | 3, h0, h1, h2 => cases h0
    | 4, h0, h1, h2 => cases h0
    | 5, h0, h1, h2 => cases h0
    | 6, h0, h1, h2 => cases h1
    | 7, h0, h1, h2 => cases h2
    | 8, h0, h1, h2 => cases h0
    | 9, h0, h1, h2 => cases h0
    | o + 10, h0, h1, h2 => cases h0
/-- a disk that is being loaded -/
structure LdP (w : World) (B db r : Nat) (d : Dk) (A : Option Addr) (c : Nat) : Prop where
  re : RecAt w db 66 (dkC d (.slice A d.F.L.length c) (.slice none 0 0) r false 0)
  L : RowW w B 94 2 ZN A d.F.L.length c (flt encN d.F.L)
  fi : FilesAt w r d.f
theorem LdP.fo {w : World} {B db r : Nat} {d : Dk} {A : Option Addr} {c : Nat} (h : LdP w B db r d A c) (hP : d.F.P = []) : FoAt w [.slice A d.F.L.length c, .slice none 0 0] d.F :=
  ⟨_, _, _, _, _, _, rfl, ⟨h.L.sl, rfl⟩, ⟨by rw [hP]; exact Sl.nil _ _ _, by rw [hP]; rfl⟩, Nat.le_refl _⟩
theorem LdP.fr0 {w w' : World} {B db r : Nat} {d : Dk} {A : Option Addr} {c : Nat} (h : LdP w B db r d A c) (f : Fr (fun _ => False) w w') : LdP w' B db r d A c :=
  ⟨h.re.fr f (fun h => h), f.rowW h.L (fun _ _ h => h), h.fi.fr f (fun h => h) (fun _ h => h.elim)⟩
set_option maxHeartbeats 8000000 in
theorem Load_calls (lb lf : Int) (A : Option Addr) (n c : Nat) (l : List Fl) (w : World) (hl : ISl w A n l) (hn : n ≤ 349525) (hs : ∀ x ∈ l, x.1.size ≤ 1099511627775) (hd : ∀ x ∈ l, x.2.length ≤ 1099511627775) :
    Calls Tryz.prog 23 #[ofL [.int .i64 lb, .int .i64 lf], .slice A n c] w fun e w' => Fr (fun _ => False) w w' ∧ ∃ db r, e = .returned (.pointer (some ⟨db, 0, none⟩)) ∧ DkAt w' db r (loadD lb lf l) ∧ w.heap.size ≤ db ∧ w.heap.size ≤ r := by
  refine (F23.of _ A n c w (Q := fun v w' => Fr (fun _ => False) w w' ∧ ∃ db r, v = .pointer (some ⟨db, 0, none⟩) ∧ DkAt w' db r (loadD lb lf l) ∧ w.heap.size ≤ db ∧ w.heap.size ≤ r) ?_).mono (fun e w' ⟨v, he, hf, db, r, hv, h⟩ => ⟨hf, db, r, by rw [he, hv], h⟩)
  have hln : l.length = n := by obtain ⟨_, _, h2, _⟩ := hl; exact h2
  refine rec_new (fun b1 w2 f1 hb1 r1 => ⟨_, rfl, rec_all r1, (New_raw lb lf w2).mono ?_⟩)
  rintro e w4 ⟨f4, db, r, rfl, q1, q3, hdb, hr, hne⟩
  have hs1 := f1.size
  have f04 := f1.trans1 f4
  have hs4 := f04.size
  have hfar : ∀ k, k < w.heap.size → ¬ DS db r k := by rintro k hk (rfl | rfl) <;> omega
  have up : ∀ {u v : World}, Fr (fun _ => False) w u → Fr (DS db r) u v → Fr (fun _ => False) w v := fun fu fv => fu.trans fv (fun _ _ h => h) (fun k hk h => hfar k hk h)
  have P0 : LdP w4 w.heap.size db r (newD lb lf) none 0 := ⟨q1, RowW.nil _ _ _ _ _, q3⟩
  refine ⟨_, rfl, jnC_mk (loop_rule (fun s x => Fr (fun _ => False) w x ∧ ∃ (i : Nat) (B : Option Addr) (k : Nat), i ≤ n ∧ s = (some ⟨db, 0, none⟩, (A, n, c), (n : Int), (i : Int), ()) ∧ LdP x w.heap.size db r (lodF lb lf (l.take i)) B k)
    (fun s _ => (n - s.2.2.2.1).toNat) ?_ _ _ ⟨f04, 0, none, 0, by omega, rfl, P0⟩)⟩
  rintro s x C ⟨hf, i, B, k, hi, rfl, hP⟩ hC _
  have hI := lod_L lb lf (l.take i)
  have hti : (l.take i).length = i := by rw [List.length_take]; omega
  rw [hti] at hI
  have hbF : FoB (lodF lb lf (l.take i)).F := by
    have := hI.len
    unfold FoB
    rw [hI.P]
    show (lodF lb lf (l.take i)).F.L.length + 0 ≤ 349525
    omega
  have ms : ((n : Int) - IntKind.wrap .i64 ((i : Int) + 1)).toNat < ((n : Int) - (i : Int)).toNat ∨ ¬ i < n := by
    by_cases h : i < n
    · left; rw [ei i (by omega)]; omega
    · exact .inr h
  refine vIf_mk (fun hlt => ?_) (fun hge => ?_)
  · have hlt : (i : Int) < (n : Int) := of_decide_eq_true hlt
    have gi : l[i]? = some (l[i]'(by omega)) := List.getElem?_eq_getElem (by omega)
    generalize l[i]'(by omega) = y at gi
    have hym := List.mem_of_getElem? gi
    have hys := hs y hym
    have hyd := hd y hym
    have hst := lod_step gi lb lf
    generalize lodF lb lf (l.take i) = d at hP hI hbF hst
    refine fl_rdA (hl.fr0 hf) gi (by omega) (fun cs hy => ?_)
    have hy1 := hy.one
    refine var_new rfl hy1.1 hy1.2.1 (fun b10 w12 f12 hb10 r10 => dr_mk ?_)
    have fd : Fr (fun _ => False) w12 w12.drew := Fr.drew _ _
    have f1d := f12.trans1 fd
    have hfz := hf.trans1 f1d
    have r10 := r10.fr fd (fun h => h)
    have hPz := hP.fr0 f1d
    have hyz := hy.fr0 f1d
    generalize w12.drew = z at fd f1d hfz r10 hPz hyz ⊢
    have hPr := hPz.re
    obtain ⟨D, m, k', ecs, hD, hmk⟩ := hyz
    subst ecs
    have hbl := by_n hD
    have hFz := hPz.fo hI.P
    -- left as it is
    have skip : ∀ u : World, Fr (fun _ => False) z u → lodS d y = d → jnC C (some ⟨db, 0, none⟩, (A, n, c), (n : Int), IntKind.wrap .i64 ((i : Int) + 1), ()) u := by
      intro u fu e
      refine jnC_mk (hC _ _ ⟨hfz.trans1 fu, i + 1, B, k, by omega, by rw [ei i (by omega)], ?_⟩ (ms.resolve_right (by omega)))
      rw [hst, e]
      exact hPz.fr0 fu
    refine ⟨[.slice B d.F.L.length k, .slice none 0 0], rfl, hPr.cells (fun j x hj => ?_), y.1, r10.cell rfl, (find_calls _ d.F y.1 z hFz hbF).mono ?_⟩
    · match j, hj with
      | 0, hj => exact hj
      | 1, hj => exact hj
      | j + 2, hj => cases hj
    rintro e w17 ⟨rfl, f17⟩
    refine ⟨_, _, rfl, vIf_mk (fun hin => skip w17 f17 ?_) (fun hin => ⟨y.1, (r10.fr f17 (fun h => h)).cell rfl, (disk_calls y.1 w17 hys).mono ?_⟩)⟩
    · unfold lodS
      rw [if_pos (.inl hin)]
    have hin : (findN y.1 (nowF d.F)).isSome = false := hin
    rintro e v ⟨⟨t, rfl, ht⟩, hv17⟩
    have f17 : Fr (fun _ => False) z v := by rw [hv17]; exact f17
    clear hv17
    refine ⟨t, rfl, vIf_mk (fun hno => skip _ f17 ?_) (fun hok => ⟨D, m, k', (r10.fr f17 (fun h => h)).cell (o := 0 + 1) rfl, vIf_mk (fun hbig => skip _ f17 ?_) (fun hbig => jnC_mk (fun _ => ?_))⟩)⟩
    · have hno : t = false := by simpa using hno
      unfold lodS
      rw [if_pos (.inr (.inl (fun h => by have := ht.2 h; rw [hno] at this; cases this)))]
    · have hbig := of_decide_eq_true hbig
      unfold lodS
      rw [if_pos (.inr (.inr (by omega)))]
    have hok : t = true := by simpa using hok
    have hbig := of_decide_eq_false hbig
    have eS : lodS d y = { d with last := d.last + 1, F := ⟨d.F.L ++ [(y.1, d.last + 1)], []⟩, f := updF d.f (d.last + 1) ⟨y.2, []⟩ } := by
      unfold lodS
      rw [if_neg (fun h => h.elim (fun h => by rw [hin] at h; cases h) (fun h => h.elim (fun h => h (ht.1 hok)) (fun h => by omega)))]
    have hPv := hPz.fr0 f17
    have hDv := f17.sl hD (fun _ _ _ h => h)
    have r10 := r10.fr f17 (fun h => h)
    have hfv := hfz.trans1 f17
    have hlen := hI.len
    have hdbx := hP.re.lt
    have hs12 := f12.size
    have hb10 : b10 ≠ db := by omega
    have ew : IntKind.wrap .i64 (d.last + 1) = d.last + 1 := i64_id (by omega) (by omega)
    have hFv := hPv.fo hI.P
    have hav := dk_alien hPv.re hFv
    have hSv : ∀ q, q = db → Alien v q := fun q hq => by rw [hq]; exact hav
    have hlt10 := r10.lt
    refine dr_mk ⟨d.last, hPv.re.cell (o := 0 + 5) rfl, dr_mk (hPv.re.st_mk (by show 0 + 5 + 1 ≤ 10; omega) (fun x hx => by simp at hx; subst hx; rfl) (fun re2 f2 => ?_))⟩
    rw [ew] at re2 f2 ⊢
    generalize stB v db (0 + 5) [Value.int .i64 (d.last + 1)] = w33 at re2 f2 ⊢
    have re2 : RecAt w33 db 66 (dkC { d with last := d.last + 1 } (.slice B d.F.L.length k) (.slice none 0 0) r false 0) := re2
    have hL2 := f2.rowW hPv.L (fun q hq h => hPv.L.ne_type hPv.re (by decide) q hq h)
    have hf2 := hPv.fi.fr f2 (fun h => hne h.symm) hSv
    have hD2 := by_fr hDv f2 hSv
    have r102 := r10.fr f2 (fun h => hb10 h)
    refine dr_mk ?_
    have fd2 : Fr (fun _ => False) w33 w33.drew := Fr.drew _ _
    have re2 := re2.fr fd2 (fun h => h)
    have hL2 := fd2.rowW hL2 (fun _ _ h => h)
    have hf2 := hf2.fr fd2 (fun h => h) (fun _ h => h.elim)
    have hD2 := fd2.sl hD2 (fun _ _ _ h => h)
    have r102 := r102.fr fd2 (fun h => h)
    have g2 : Fr (DS db r) v w33.drew := (f2.mono (fun _ _ h => .inl h)).trans fd2 (fun _ _ h => h) (fun _ _ h => h.elim)
    generalize w33.drew = w34 at fd2 re2 hL2 hf2 hD2 r102 g2 ⊢
    refine ⟨B, _, k, re2.cell (o := 0 + 2) rfl, y.1, r102.cell rfl, dr_mk ⟨d.last + 1, re2.cell (o := 0 + 5) rfl, gd_mk rfl ?_⟩⟩
    refine rec_new (fun b43 w44 f44 hb43 r43 => kp_mk f44 re2.lt (fun h => h) ?_)
    have re3 := re2.fr f44 (fun h => h)
    have hL3 := f44.rowW hL2 (fun _ _ h => h)
    have hf3 := hf2.fr f44 (fun h => h) (fun _ h => h.elim)
    have hD3 := f44.sl hD2 (fun _ _ _ h => h)
    have r103 := r102.fr f44 (fun h => h)
    have hsl43 : Sl w44 2 (some ⟨b43, 0, none⟩) 1 (encN (y.1, d.last + 1)) := ⟨rfl, fun _ => ⟨b43, 0, rfl, rec_all r43⟩⟩
    have hsz44 : w.heap.size ≤ w44.heap.size := by
      have a1 := hfv.size
      have a2 := g2.size
      have a3 := f44.size
      omega
    refine app_rowW hL3 hsl43.src (encN_o.one _) rfl (by omega) (by omega) hsz44 (fun A45 c47 w48 hL4 f48 hA45 => ?_)
    have haL := rowW_alien hL3 (fls_no _) zn_no
    have re4 := re3.fr f48 (fun h => hL3.ne_type re3 (by decide) db h rfl)
    have hf4 := hf3.frI f48 (fun h => by
      have hmm := hf3
      obtain ⟨g, ⟨mm, cc, hmp, _⟩, _⟩ := hmm
      exact hL3.ne_obj hmp r h rfl) haL
    have hD4 := by_frI hD3 f48 haL
    have r104 := r103.fr f48 (fun h => hL3.ne_type r103 (by decide) b10 h rfl)
    refine dr_mk (re4.st_mk (by show 0 + 2 + 1 ≤ 10; omega) (fun x hx => by simp at hx; subst hx; rfl) (fun re5 f5 => ?_))
    have al5 : Alien w48 db := by
      exact dk_alien' re4
    have hS5 : ∀ q, q = db → Alien w48 q := fun q hq => by rw [hq]; exact al5
    generalize stB w48 db (0 + 2) [Value.slice A45 (d.F.L.length + 1) c47] = w51 at re5 f5 ⊢
    have re5 : RecAt w51 db 66 (dkC { d with last := d.last + 1 } (.slice A45 (d.F.L.length + 1) c47) (.slice none 0 0) r false 0) := re5
    have hL5 := f5.rowW hL4 (fun q hq h => hL4.ne_type re4 (by decide) q hq h)
    have hf5 := hf4.fr f5 (fun h => hne h.symm) hS5
    have hD5 := by_fr hD4 f5 hS5
    have r105 := r104.fr f5 (fun h => hb10 h)
    refine dr_mk ?_
    have fd6 : Fr (fun _ => False) w51 w51.drew := Fr.drew _ _
    have re5 := re5.fr fd6 (fun h => h)
    have hL5 := fd6.rowW hL5 (fun _ _ h => h)
    have hf5 := hf5.fr fd6 (fun h => h) (fun _ h => h.elim)
    have hD5 := fd6.sl hD5 (fun _ _ _ h => h)
    have r105 := r105.fr fd6 (fun h => h)
    have g48 : Fr (fun _ => False) w w48 := fr_own ((up hfv g2).trans1 f44) (fun q hq => (hL3.blt hq).1) (Nat.le_refl _) f48
    have g51 : Fr (fun _ => False) w w51.drew := (up g48 (f5.mono (fun _ _ h => .inl h))).trans1 fd6
    generalize w51.drew = w52 at fd6 re5 hL5 hf5 hD5 r105 g51 ⊢
    have hX : InoAt w52 [.slice D m k', .slice none 0 0] ⟨y.2, []⟩ := ⟨_, _, _, _, _, _, rfl, hD5, hmk, ⟨[], Sl.nil _ _ _, rfl, Ech.nil⟩, Nat.le_refl _⟩
    have hXB : InoB ⟨y.2, []⟩ := ⟨by show y.2.length ≤ _; omega, fun q hq => by cases hq⟩
    refine ⟨some r, re5.cell (o := 0 + 4) rfl, dr_mk ⟨d.last + 1, re5.cell (o := 0 + 5) rfl, D, m, k', r105.cell (o := 0 + 1) rfl, (sync_calls' _ _ w52 hX hXB (by show 0 ≤ _; omega)).mono ?_⟩⟩
    rintro e w61 ⟨f61, cs', rfl, hX'⟩
    refine ⟨cs', rfl, kp_mk f61 re5.lt (fun h => h) (kp_mk f61 re5.lt (fun h => h) (files_put (hf5.fr f61 (fun h => h) (fun _ h => h.elim)) hX' (fun w64 hF64 f64 => ?_)))⟩
    have hFi61 := hf5.fr f61 (fun h => h) (fun _ h => h.elim)
    refine jnC_mk (hC _ _ ⟨up (g51.trans1 f61) (f64.mono (fun _ _ h => .inr h)), i + 1, A45, c47, by omega, by rw [ei i (by omega)], ?_⟩ (ms.resolve_right (by omega)))
    rw [hst, eS]
    have hll : (d.F.L ++ [(y.1, d.last + 1)]).length = d.F.L.length + 1 := by rw [List.length_append]; rfl
    have hL6 := f61.rowW hL5 (fun _ _ h => h)
    have hL7 := f64.rowW hL6 (fun q hq h => by
      have hmm := hFi61
      obtain ⟨g, ⟨mm, cc, hmp, _⟩, _⟩ := hmm
      exact hL6.ne_obj hmp q hq h)
    refine ⟨?_, ?_, ?_⟩
    · show RecAt w64 db 66 (dkC { d with last := d.last + 1 } (.slice A45 (d.F.L ++ [(y.1, d.last + 1)]).length c47) (.slice none 0 0) r false 0)
      rw [hll]
      exact (re5.fr f61 (fun h => h)).fr f64 (fun h => hne h)
    · show RowW w64 _ _ 2 ZN A45 (d.F.L ++ [(y.1, d.last + 1)]).length c47 (flt encN (d.F.L ++ [(y.1, d.last + 1)]))
      rw [hll, flt_app, flt_one]
      exact hL7
    · exact hF64
  · have hge : ¬ (i : Int) < (n : Int) := of_decide_eq_false hge
    have eT : l.take i = l := List.take_of_length_le (by omega)
    rw [eT] at hP hI hbF
    have hFx := hP.fo hI.P
    have hDk : DkAt x db r (lodF lb lf l) := ⟨_, _, _, _, hP.re, hFx, hP.fi, by rw [hI.st.2.1]; rfl⟩
    refine dr_mk (dk_getF hDk (fun cs hF => (sync_calls cs _ x hF hbF).mono ?_))
    rintro e w69 ⟨f69, cs', rfl, hF'⟩
    refine ⟨cs', rfl, dr_mk (dk_setF (hDk.fr0 f69) hF' (fun w74 f74 h74 => ⟨up (hf.trans1 f69) (f74.mono (fun _ _ h => .inl h)), db, r, rfl, h74, by omega, by omega⟩))⟩
end Go.Proofs.YtfdhaeglhkmmpaaGreat
/- chapter 12, the document's: New, Load -/
namespace Go.Proofs.YtfdhaeglhkmmpaaGreat
open Go.GV Go.RowKit Go.Lib
set_option linter.unusedVariables false
set_option linter.unusedSimpArgs false
theorem rNew_calls (lb lf : Int) (w : World) :
    Calls Tryz.prog 54 #[ofL [.int .i64 lb, .int .i64 lf]] w fun e w' => Fr (fun _ => False) w w' ∧ ∃ rb, e = .returned (.pointer (some ⟨rb, 0, none⟩)) ∧ RecAt w' rb 104 (rkC (newD lb lf) (.slice none 0 0) (.slice none 0 0) none 0 0 (-1)) ∧ w.heap.size ≤ rb := by
  refine (F54.of _ w (Q := fun v w' => Fr (fun _ => False) w w' ∧ ∃ rb, v = .pointer (some ⟨rb, 0, none⟩) ∧ RecAt w' rb 104 (rkC (newD lb lf) (.slice none 0 0) (.slice none 0 0) none 0 0 (-1)) ∧ w.heap.size ≤ rb) ?_).mono (fun e w' ⟨v, he, hf, rb, hv, h⟩ => ⟨hf, rb, by rw [he, hv], h⟩)
  refine rec_new (fun b1 w2 f1 hb1 r1 => ⟨_, rfl, rec_all r1, gd_mk rfl (rec_new (fun b4 w5 f5 hb4 r4 => ⟨f1.trans1 f5, b4, rfl, r4, ?_⟩))⟩)
  have := f1.size
  omega
theorem kp_no {w : World} {vs : List Value} {l : List Kpt} (h : vs.length = l.length * 3) (hE : Ech 3 (KpP w) vs l) : ∀ v ∈ vs, (∀ x, v ≠ .int .u8 x) ∧ ∀ t, v ≠ .bool t := by
  intro v hv
  obtain ⟨j, hj⟩ := List.mem_iff_getElem?.1 hv
  have hjl := (List.getElem?_eq_some_iff.1 hj).1
  have gx : l[j / 3]? = some (l[j / 3]'(by omega)) := List.getElem?_eq_getElem (by omega)
  have hw := hE (j / 3) _ gx
  refine hw.one.2.2 v (List.mem_iff_getElem?.2 ⟨j % 3, ?_⟩)
  rw [chk_get (by omega), show j / 3 * 3 + j % 3 = j by omega]
  exact hj
def KU (d : Dk) : List Kpt := (upto d.F.L.length).map fun id => (id, d.f id)
/-- the document's disk, being loaded -/
structure RlP (w : World) (lo rb : Nat) (d : Dk) (A : Option Addr) (c : Nat) (A' : Option Addr) (c' : Nat) (vs : List Value) : Prop where
  re : RecAt w rb 104 (rkC d (.slice none 0 0) (.slice none 0 0) A' d.F.L.length c' (-1))
  L : RowW w lo 94 2 ZN A d.F.L.length c (flt encN d.F.L)
  K : RowW w lo 106 3 ZK A' d.F.L.length c' vs
  E : Ech 3 (KpP w) vs (KU d)
theorem RlP.fr0 {w w' : World} {lo rb : Nat} {d : Dk} {A : Option Addr} {c : Nat} {A' : Option Addr} {c' : Nat} {vs : List Value} (h : RlP w lo rb d A c A' c' vs) (f : Fr (fun _ => False) w w') : RlP w' lo rb d A c A' c' vs :=
  ⟨h.re.fr f (fun h => h), f.rowW h.L (fun _ _ h => h), f.rowW h.K (fun _ _ h => h), h.E.mono (fun cs z hz => hz.fr f (fun _ h => h.elim))⟩
theorem KU_len (d : Dk) : (KU d).length = d.F.L.length := by simp [KU, upto]
theorem rk_alien' {w : World} {rb : Nat} {d : Dk} {A1 A2 : Option Addr} {n1 c1 n2 c2 : Nat} {A : Option Addr} {n c : Nat} {lv : Int} (h : RecAt w rb 104 (rkC d (.slice A1 n1 c1) (.slice A2 n2 c2) A n c lv)) : Alien w rb := by
  have hc : ∀ o, cellAt w rb o = (rkC d (.slice A1 n1 c1) (.slice A2 n2 c2) A n c lv)[o]? := fun o => by rw [cellAt_blk h]; simp
  refine ⟨fun o s hs => ?_, fun o x hx => ?_, fun o t z A1 n1 c1 ht => ?_⟩
  · rw [hc] at hs
    match o, hs with
    | 0, hs => cases hs
    | 1, hs => cases hs
    | 2, hs => cases hs
    | 3, hs => cases hs
    | 4, hs => cases hs
    | 5, hs => cases hs
    | 6, hs => cases hs
    | 7, hs => cases hs
    | 8, hs => cases hs
    | o + 9, hs => cases hs
  · rw [hc] at hx
    match o, hx with
    | 0, hx => cases hx
    | 1, hx => cases hx
    | 2, hx => cases hx
    | 3, hx => cases hx
    | 4, hx => cases hx
    | 5, hx => cases hx
    | 6, hx => cases hx
    | 7, hx => cases hx
    | 8, hx => cases hx
    | o + 9, hx => cases hx
  · obtain ⟨h0, h1, h2⟩ := ht
    rw [hc] at h0 h1 h2
    match o, h0, h1, h2 with
    | 0, h0, h1, h2 => cases h0
    | 1, h0, h1, h2 => cases h0
    | 2, h0, h1, h2 => cases h0
    | 3, h0, h1, h2 => cases h0
    | 4, h0, h1, h2 => cases h0
    | 5, h0, h1, h2 => cases h0
    | 6, h0, h1, h2 => cases h2
    | 7, h0, h1, h2 => cases h0
    | 8, h0, h1, h2 => cases h0
    | o + 9, h0, h1, h2 => cases h0
set_option maxHeartbeats 8000000 in
theorem rLoad_calls (lb lf : Int) (A : Option Addr) (n c : Nat) (l : List Fl) (w : World) (hl : ISl w A n l) (hn : n ≤ 349525) (hs : ∀ x ∈ l, x.1.size ≤ 1099511627775) (hd : ∀ x ∈ l, x.2.length ≤ 1099511627775) :
    Calls Tryz.prog 24 #[ofL [.int .i64 lb, .int .i64 lf], .slice A n c] w fun e w' => Fr (fun _ => False) w w' ∧ ∃ lo rb, e = .returned (.pointer (some ⟨rb, 0, none⟩)) ∧ RkD w' lo rb (loadD lb lf l) ∧ w.heap.size ≤ rb ∧ lo ≤ w'.heap.size := by
  refine (F24.of _ A n c w (Q := fun v w' => Fr (fun _ => False) w w' ∧ ∃ lo rb, v = .pointer (some ⟨rb, 0, none⟩) ∧ RkD w' lo rb (loadD lb lf l) ∧ w.heap.size ≤ rb ∧ lo ≤ w'.heap.size) ?_).mono (fun e w' ⟨v, he, hf, lo, rb, hv, h⟩ => ⟨hf, lo, rb, by rw [he, hv], h⟩)
  have hln : l.length = n := by obtain ⟨_, _, h2, _⟩ := hl; exact h2
  refine rec_new (fun b1 w2 f1 hb1 r1 => ⟨_, rfl, rec_all r1, (rNew_calls lb lf w2).mono ?_⟩)
  rintro e w4 ⟨f4, rb, rfl, q1, hrb⟩
  have hs1 := f1.size
  have f04 := f1.trans1 f4
  have hs4 := f04.size
  have hlt4 := q1.lt
  have up : ∀ {u v : World}, Fr (fun _ => False) w u → Fr (fun k => k = rb) u v → Fr (fun _ => False) w v := fun fu fv => fu.trans fv (fun _ _ h => h) (fun k hk h => by omega)
  have P0 : RlP w4 w4.heap.size rb (newD lb lf) none 0 none 0 [] := ⟨q1, RowW.nil _ _ _ _ _, RowW.nil _ _ _ _ _, Ech.nil⟩
  generalize hlo : w4.heap.size = lo at P0 hlt4
  refine ⟨_, rfl, jnC_mk (loop_rule (fun s x => Fr (fun _ => False) w x ∧ lo ≤ x.heap.size ∧ ∃ (i : Nat) (B : Option Addr) (k : Nat) (B' : Option Addr) (k' : Nat) (vs : List Value), i ≤ n ∧ s = ((A, n, c), some ⟨rb, 0, none⟩, (B, (lodF lb lf (l.take i)).F.L.length, k), (i : Int), ()) ∧ RlP x lo rb (lodF lb lf (l.take i)) B k B' k' vs)
    (fun s _ => (n - s.2.2.2.1).toNat) ?_ _ _ ⟨f04, by omega, 0, none, 0, none, 0, [], by omega, rfl, P0⟩)⟩
  rintro s x C ⟨hf, hlox, i, B, k, B', k', vs, hi, rfl, hP⟩ hC _
  have hI := lod_L lb lf (l.take i)
  have hti : (l.take i).length = i := by rw [List.length_take]; omega
  rw [hti] at hI
  have hlen := hI.len
  have hbF : FoB (lodF lb lf (l.take i)).F := by
    unfold FoB
    rw [hI.P]
    show (lodF lb lf (l.take i)).F.L.length + 0 ≤ 349525
    omega
  have hFx : FoAt x ([Value.slice B (lodF lb lf (l.take i)).F.L.length k] ++ ([Value.slice none 0 0] ++ [])) (lodF lb lf (l.take i)).F := ⟨_, _, _, _, _, _, rfl, ⟨hP.L.sl, rfl⟩, ⟨by rw [hI.P]; exact Sl.nil _ _ _, by rw [hI.P]; rfl⟩, Nat.le_refl _⟩
  refine vIf_mk (fun hlt => ?_) (fun hge => ?_)
  · have hlt : (i : Int) < (n : Int) := of_decide_eq_true hlt
    have gi : l[i]? = some (l[i]'(by omega)) := List.getElem?_eq_getElem (by omega)
    generalize l[i]'(by omega) = y at gi
    have hym := List.mem_of_getElem? gi
    have hys := hs y hym
    have hyd := hd y hym
    have hst := lod_step gi lb lf
    have ms : ((n : Int) - IntKind.wrap .i64 ((i : Int) + 1)).toNat < ((n : Int) - (i : Int)).toNat := by rw [ei i (by omega)]; omega
    generalize lodF lb lf (l.take i) = d at hP hI hbF hst hlen hFx ⊢
    -- as far as it stays
    have k8f : ∀ u : World, Fr (fun _ => False) x u → lodS d y = d → jnC (F24.k8 (fun v w' => Fr (fun _ => False) w w' ∧ ∃ lo rb, v = .pointer (some ⟨rb, 0, none⟩) ∧ RkD w' lo rb (loadD lb lf l) ∧ w.heap.size ≤ rb ∧ lo ≤ w'.heap.size) C) ((A, n, c), some ⟨rb, 0, none⟩, (B, d.F.L.length, k), (i : Int), false, ()) u := by
      intro u fu e
      have := fu.size
      refine jnC_mk (fun _ => vIf_f rfl (jnC_mk (hC _ _ ⟨hf.trans1 fu, by omega, i + 1, B, k, B', k', vs, by omega, ?_, ?_⟩ ms)))
      · rw [ei i (by omega), hst, e]
      · rw [hst, e]
        exact hP.fr0 fu
    refine fl_rdS (hl.fr0 hf) gi (by omega) ((rfindF_calls _ d.F y.1 x hFx hbF).mono ?_)
    rintro e w10 ⟨rfl, f10⟩
    refine ⟨_, _, rfl, vIf_mk (fun hin => ?_) (fun hin => k8f w10 f10 ?_)⟩
    · have hin : (findN y.1 (nowF d.F)).isSome = false := by simpa using hin
      refine fl_rdS (hl.fr0 (hf.trans1 f10)) gi (by omega) ((rdisk_calls y.1 w10 hys).mono ?_)
      rintro e v ⟨⟨t, rfl, ht⟩, hv10⟩
      have f10 : Fr (fun _ => False) x v := by rw [hv10]; exact f10
      clear hv10
      refine ⟨t, rfl, vIf_mk (fun hok => fl_rdD (hl.fr0 (hf.trans1 f10)) gi (by omega) (fun _ _ D m kd hD _ => ?_)) (fun hno => k8f v f10 ?_)⟩
      · have hok : t = true := hok
        have hbl := by_n hD
        cases hbig : decide (((m : Nat) : Int) ≤ 1048576) with
        | false =>
          have hbig := of_decide_eq_false hbig
          refine k8f v f10 ?_
          unfold lodS
          rw [if_pos (.inr (.inr (by omega)))]
        | true =>
          have hbig := of_decide_eq_true hbig
          have eS : lodS d y = { d with last := d.last + 1, F := ⟨d.F.L ++ [(y.1, d.last + 1)], []⟩, f := updF d.f (d.last + 1) ⟨y.2, []⟩ } := by
            unfold lodS
            rw [if_neg (fun h => h.elim (fun h => by rw [hin] at h; cases h) (fun h => h.elim (fun h => h (ht.1 hok)) (fun h => by omega)))]
          have hPv := hP.fr0 f10
          have hfv := hf.trans1 f10
          have hsv := f10.size
          have ew : IntKind.wrap .i64 (d.last + 1) = d.last + 1 := i64_id (by omega) (by omega)
          have hav := rk_alien' hPv.re
          have hSv : ∀ q, q = rb → Alien v q := fun q hq => by rw [hq]; exact hav
          refine jnC_mk (fun _ => vIf_t rfl (dr_mk ⟨d.last, hPv.re.cell (o := 0 + 5) rfl, dr_mk (hPv.re.st_mk (by show 0 + 5 + 1 ≤ 9; omega) (fun x hx => by simp at hx; subst hx; rfl) (fun re2 f2 => ?_))⟩))
          rw [ew] at re2 f2 ⊢
          generalize stB v rb (0 + 5) [Value.int .i64 (d.last + 1)] = w30 at re2 f2 ⊢
          have re2 : RecAt w30 rb 104 (rkC { d with last := d.last + 1 } (.slice none 0 0) (.slice none 0 0) B' d.F.L.length k' (-1)) := re2
          have hL2 := f2.rowW hPv.L (fun q hq h => hPv.L.ne_type hPv.re (by decide) q hq h)
          have hK2 := f2.rowW hPv.K (fun q hq h => hPv.K.ne_type hPv.re (by decide) q hq h)
          have hE2 : Ech 3 (KpP w30) vs (KU d) := hPv.E.mono (fun cs z hz => hz.fr f2 hSv)
          dsimp only
          have fd2 : Fr (fun _ => False) w30 w30.drew := Fr.drew _ _
          have re2 := re2.fr fd2 (fun h => h)
          have hL2 := fd2.rowW hL2 (fun _ _ h => h)
          have hK2 := fd2.rowW hK2 (fun _ _ h => h)
          have hE2 : Ech 3 (KpP w30.drew) vs (KU d) := hE2.mono (fun cs z hz => hz.fr fd2 (fun _ h => h.elim))
          have g2 : Fr (fun _ => False) w w30.drew := (up hfv f2).trans1 fd2
          have hlo2 : lo ≤ w30.drew.heap.size := by have := f2.size; have := fd2.size; omega
          generalize w30.drew = w31 at fd2 re2 hL2 hK2 hE2 g2 hlo2 ⊢
          refine fl_rdS (hl.fr0 g2) gi (by omega) (dr_mk ⟨d.last + 1, re2.cell (o := 0 + 5) rfl, gd_mk rfl (rec_new (fun b37 w38 f38 hb37 r37 => ?_))⟩)
          have re3 := re2.fr f38 (fun h => h)
          have hL3 := f38.rowW hL2 (fun _ _ h => h)
          have hK3 := f38.rowW hK2 (fun _ _ h => h)
          have hE3 : Ech 3 (KpP w38) vs (KU d) := hE2.mono (fun cs z hz => hz.fr f38 (fun _ h => h.elim))
          have g3 := g2.trans1 f38
          have hlo3 : lo ≤ w38.heap.size := by have := f38.size; omega
          have hsl37 : Sl w38 2 (some ⟨b37, 0, none⟩) 1 (encN (y.1, d.last + 1)) := ⟨rfl, fun _ => ⟨b37, 0, rfl, rec_all r37⟩⟩
          refine app_rowW hL3 hsl37.src (encN_o.one _) rfl (by omega) (by omega) hlo3 (fun A39 c41 w42 hL4 f42 _ => ?_)
          have haL := rowW_alien hL3 (fls_no _) zn_no
          have re4 := re3.fr f42 (fun h => hL3.ne_type re3 (by decide) rb h rfl)
          have hK4 := f42.rowW hK3 (fun q hq h => hL3.ne_row hK3 (by decide) q h hq)
          have hE4 : Ech 3 (KpP w42) vs (KU d) := hE3.mono (fun cs z hz => hz.frI f42 haL)
          have g4 : Fr (fun _ => False) w w42 := fr_own g3 (fun q hq => (hL3.blt hq).1) (by omega) f42
          have hlo4 : lo ≤ w42.heap.size := by have := f42.size; omega
          refine dr_mk ?_
          have fd5 : Fr (fun _ => False) w42 w42.drew := Fr.drew _ _
          have re5 := re4.fr fd5 (fun h => h)
          have hL5 := fd5.rowW hL4 (fun _ _ h => h)
          have hK5 := fd5.rowW hK4 (fun _ _ h => h)
          have hE5 : Ech 3 (KpP w42.drew) vs (KU d) := hE4.mono (fun cs z hz => hz.fr fd5 (fun _ h => h.elim))
          have g5 := g4.trans1 fd5
          have hlo5 : lo ≤ w42.drew.heap.size := by have := fd5.size; omega
          generalize w42.drew = w43 at fd5 re5 hL5 hK5 hE5 g5 hlo5 ⊢
          refine ⟨B', _, k', re5.cell (o := 0 + 4) rfl, dr_mk ⟨d.last + 1, re5.cell (o := 0 + 5) rfl, fl_rdD (hl.fr0 g5) gi (by omega) (fun _ _ D2 m2 kd2 hD2 _ => ?_)⟩⟩
          have hbl2 := by_n hD2
          refine copy_b hD2 (by omega) (fun A56 c58 w59 r59 f59 => ?_)
          have re6 := re5.fr f59 (fun h => h)
          refine kp_mk f59 re5.lt (fun h => h) (kp_mk f59 re5.lt (fun h => h) (gd_mk rfl (gd_mk rfl (rec_new (fun b60 w61 f61 hb60 r60 => kp_mk (f59.trans1 f61) re5.lt (fun h => h) ?_)))))
          have f5961 := f59.trans1 f61
          have re7 := re5.fr f5961 (fun h => h)
          have hL7 := f5961.rowW hL5 (fun _ _ h => h)
          have hK7 := f5961.rowW hK5 (fun _ _ h => h)
          have hE7 : Ech 3 (KpP w61) vs (KU d) := hE5.mono (fun cs z hz => hz.fr f5961 (fun _ h => h.elim))
          have g7 := g5.trans1 f5961
          have hlo7 : lo ≤ w61.heap.size := by have := f5961.size; omega
          have r61 := f61.row r59 (fun _ _ h => h)
          have hkp : KpP w61 [.int .i64 (d.last + 1), .slice A56 m2 c58, .slice none 0 0] (d.last + 1, ⟨y.2, []⟩) := ⟨_, _, rfl, _, _, _, _, _, _, rfl, r61.sl, r61.le, ⟨[], Sl.nil _ _ _, rfl, Ech.nil⟩, Nat.le_refl _⟩
          have hsl60 : Sl w61 3 (some ⟨b60, 0, none⟩) 1 [.int .i64 (d.last + 1), .slice A56 m2 c58, .slice none 0 0] := ⟨rfl, fun _ => ⟨b60, 0, rfl, rec_all r60⟩⟩
          have hno := kp_no (by rw [KU_len]; exact hK7.len) hE7
          refine app_rowW hK7 hsl60.src hkp.one.2.1 rfl (by omega) (by omega) hlo7 (fun A62 c64 w65 hK8 f65 _ => ?_)
          have haK := rowW_alien hK7 hno zk_no
          have re8 := re7.fr f65 (fun h => hK7.ne_type re7 (by decide) rb h rfl)
          have hL8 := f65.rowW hL7 (fun q hq h => hK7.ne_row hL7 (by decide) q h hq)
          have hE8 : Ech 3 (KpP w65) vs (KU d) := hE7.mono (fun cs z hz => hz.frI f65 haK)
          have hkp8 := hkp.frI f65 haK
          have g8 : Fr (fun _ => False) w w65 := fr_own g7 (fun q hq => (hK7.blt hq).1) (by omega) f65
          have hav8 := rk_alien' re8
          have hS8 : ∀ q, q = rb → Alien w65 q := fun q hq => by rw [hq]; exact hav8
          refine dr_mk (re8.st_mk (by show 0 + 4 + 1 ≤ 9; omega) (fun x hx => by simp at hx; subst hx; rfl) (fun re9 f9 => ?_))
          have hll : (d.F.L ++ [(y.1, d.last + 1)]).length = d.F.L.length + 1 := by rw [List.length_append]; rfl
          have hlo9 : lo ≤ (stB w65 rb (0 + 4) [Value.slice A62 (d.F.L.length + 1) c64]).heap.size := by have := f65.size; have := f9.size; omega
          refine jnC_mk (hC _ _ ⟨up g8 f9, hlo9, i + 1, A39, c41, A62, c64, vs ++ [.int .i64 (d.last + 1), .slice A56 m2 c58, .slice none 0 0], by omega, ?_, ?_⟩ ms)
          · rw [ei i (by omega), hst, eS]
            show _ = (_, _, (A39, (d.F.L ++ [(y.1, d.last + 1)]).length, c41), _, ())
            rw [hll]
          · rw [hst, eS]
            have hL9 := f9.rowW hL8 (fun q hq h => hL8.ne_type re8 (by decide) q hq h)
            have hK9 := f9.rowW hK8 (fun q hq h => hK8.ne_type re8 (by decide) q hq h)
            refine ⟨?_, ?_, ?_, ?_⟩
            · show RecAt _ rb 104 (rkC { d with last := d.last + 1 } (.slice none 0 0) (.slice none 0 0) A62 (d.F.L ++ [(y.1, d.last + 1)]).length c64 (-1))
              rw [hll]
              exact re9
            · show RowW _ _ _ 2 ZN A39 (d.F.L ++ [(y.1, d.last + 1)]).length c41 (flt encN (d.F.L ++ [(y.1, d.last + 1)]))
              rw [hll, flt_app, flt_one]
              exact hL9
            · show RowW _ _ _ 3 ZK A62 (d.F.L ++ [(y.1, d.last + 1)]).length c64 _
              rw [hll]
              exact hK9
            · have eK : KU { d with last := d.last + 1, F := ⟨d.F.L ++ [(y.1, d.last + 1)], []⟩, f := updF d.f (d.last + 1) ⟨y.2, []⟩ } = KU d ++ [(d.last + 1, ⟨y.2, []⟩)] := by
                unfold KU
                show (upto (d.F.L ++ [(y.1, d.last + 1)]).length).map (fun id => (id, updF d.f (d.last + 1) ⟨y.2, []⟩ id)) = _
                rw [hll, upto_succ, List.map_append]
                congr 1
                · refine List.map_congr_left (fun id hid => ?_)
                  have := upto_mem.1 hid
                  unfold updF
                  rw [if_neg (by omega)]
                · have e1 : ((d.F.L.length : Nat) : Int) + 1 = d.last + 1 := by omega
                  rw [e1]
                  show [(d.last + 1, updF d.f (d.last + 1) ⟨y.2, []⟩ (d.last + 1))] = _
                  unfold updF
                  rw [if_pos rfl]
              rw [eK]
              have hE9 : Ech 3 (KpP (stB w65 rb (0 + 4) [Value.slice A62 (d.F.L.length + 1) c64])) vs (KU d) := hE8.mono (fun cs z hz => hz.fr f9 hS8)
              exact hE9.snoc hK7.len (KU_len d) rfl (hkp8.fr f9 hS8)
      · have hno : t = false := hno
        unfold lodS
        rw [if_pos (.inr (.inl (fun h => by have := ht.2 h; rw [hno] at this; cases this)))]
    · have hin : (findN y.1 (nowF d.F)).isSome = true := by simpa using hin
      unfold lodS
      rw [if_pos (.inl hin)]
  · have hge : ¬ (i : Int) < (n : Int) := of_decide_eq_false hge
    have eT : l.take i = l := List.take_of_length_le (by omega)
    rw [eT] at hP hI hbF hFx hlen ⊢
    refine (rnow_calls _ _ x hFx hbF).mono ?_
    rintro e w69 ⟨f69, A71, c73, rfl, h71⟩
    have hFn : FoAt w69 ([Value.slice A71 (nowF (lodF lb lf l).F).length c73] ++ ([Value.slice none 0 0] ++ [])) ⟨nowF (lodF lb lf l).F, []⟩ := fo_of h71
    have hP9 := hP.fr0 f69
    have hRk : RkAt w69 lo rb { lodF lb lf l with F := ⟨[], []⟩ } (KU (lodF lb lf l)) := by
      refine ⟨_, _, _, _, _, _, hP9.re, ⟨_, _, _, _, _, _, rfl, ⟨Sl.nil _ _ _, rfl⟩, ⟨Sl.nil _ _ _, rfl⟩, Nat.le_refl _⟩, ⟨vs, hP9.K.sl, KU_len _, hP9.E⟩, fun q hq => (hP9.K.blt hq).1, ?_, by omega⟩
      show lvR (lodF lb lf l).fu (-1)
      rw [hI.st.2.1]; rfl
    refine ⟨_, _, _, rfl, dr_mk (rk_setF hRk hFn (fun w76 f76 h76 => ⟨up (hf.trans1 f69) f76, lo, rb, rfl, ?_, by omega, by have := f69.size; have := f76.size; omega⟩))⟩
    have eK : KD (loadD lb lf l) = KU (lodF lb lf l) := by
      unfold KD KU
      show (idsF ⟨nowF (lodF lb lf l).F, []⟩).map _ = _
      rw [lod_ids hI]; rfl
    unfold RkD
    rw [eK]
    exact h76
end Go.Proofs.YtfdhaeglhkmmpaaGreat
/- chapter 12: play, same, the law DiskDoes -/
namespace Go.Proofs.YtfdhaeglhkmmpaaGreat
open Go.GV Go.RowKit Go.Lib
set_option linter.unusedVariables false
set_option linter.unusedSimpArgs false
set_option maxHeartbeats 2000000 in
theorem play_calls (lo rb : Nat) (d : Dk) (cs : List Value) (c : Cl) (w : World) (N : Nat) (h : RkD w lo rb d) (hG : DkG d N) (hN : N ≤ 349524) (hlw : lo ≤ w.heap.size) (hc : ClP w cs c) (hcb : ClB c) :
    Calls Tryz.prog 25 #[.pointer (some ⟨rb, 0, none⟩), ofL cs] w fun e w' => Fr (fun k => k = rb) w w' ∧ e = .returned (.int .i64 (doD d c).2) ∧ RkD w' lo rb (doD d c).1 := by
  refine (F25.of (some ⟨rb, 0, none⟩) cs w (Q := fun v w' => Fr (fun k => k = rb) w w' ∧ v = .int .i64 (doD d c).2 ∧ RkD w' lo rb (doD d c).1) ?_).mono (fun e w' ⟨v, he, hf, hv, h⟩ => ⟨hf, by rw [he, hv], h⟩)
  obtain ⟨B, m, k, rfl, hC, hmk⟩ := hc
  have hm := by_n hC
  have hb3 := hcb.data
  refine rec_new (fun b1 w2 f1 hb1 r1 => ⟨_, r1.cell (o := 0) rfl, ?_⟩)
  have h2 : RkD w2 lo rb d := RkAt.fr0 h f1
  have hC2 := f1.sl hC (fun _ _ _ h => h)
  have hlt := RkAt.lt h
  have hs1 := f1.size
  have fin : ∀ {v : Int} {d' : Dk} {u : World}, Fr (fun k => k = rb) w2 u → (doD d c) = (d', v) → RkD u lo rb d' → Fr (fun k => k = rb) w u ∧ Value.int .i64 v = .int .i64 (doD d c).2 ∧ RkD u lo rb (doD d c).1 := by
    intro v d' u fu e hu
    rw [e]
    exact ⟨f1.trans fu (fun _ _ h => h.elim) (fun _ _ h => h), rfl, hu⟩
  have k9 : ∀ t : Bool, (t = true ↔ 1 ≤ c.k ∧ c.k ≤ 7) → jnC (F25.k9 (fun v w' => Fr (fun k => k = rb) w w' ∧ v = .int .i64 (doD d c).2 ∧ RkD w' lo rb (doD d c).1)) (some ⟨rb, 0, none⟩, (b1, 0), c.k, t, ()) w2 := by
    intro t ht
    refine jnC_mk (fun _ => vIf_mk (fun htt => ?_) (fun htf => vIf_mk (fun k8 => ?_) (fun k8 => vIf_mk (fun k9 => ?_) (fun k9 => ?_))))
    · obtain ⟨a1, a2⟩ := ht.1 htt
      refine ⟨_, r1.cell (o := 0) rfl, _, r1.cell (o := 0 + 1) rfl, _, r1.cell (o := 0 + 2) rfl, _, _, _, r1.cell (o := 0 + 3) rfl, _, r1.cell (o := 0 + 4) rfl, (Power_calls lo rb d c B m k w2 N h2 hG.i hG.b hN (by omega) hcb hC2 hmk).mono ?_⟩
      rintro e w11 ⟨f11, rfl, h11⟩
      exact ⟨_, rfl, fin f11 (by rw [doD_callK a1 a2]) h11⟩
    · have k8 : c.k = 8 := by simpa using k8
      have eD : doD d c = (fuseD d c.n, 0) := by
        unfold doD
        rw [if_neg (by omega), if_neg (by omega), if_neg (by omega), if_neg (by omega), if_neg (by omega), if_neg (by omega), if_neg (by omega), if_pos k8]
      obtain ⟨u, v, A, n, cA, lv, hp⟩ := h2
      refine dr_mk (rk_setN (d' := { d with fu := none }) (lv' := -1) hp rfl (by omega) rfl rfl rfl (fun w16 f16 h16 => ?_))
      have r1' := r1.fr f16 (fun h => by have h : b1 = rb := h; omega)
      refine ⟨_, r1'.cell (o := 0 + 4) rfl, vIf_mk (fun hge => ⟨_, r1'.cell (o := 0 + 4) rfl, dr_mk (rk_setN (d' := { d with fu := some c.n }) (lv' := c.n) h16 rfl (by omega) rfl rfl rfl (fun w21 f21 h21 => ?_))⟩) (fun hge => ?_)⟩
      · have hge := of_decide_eq_true hge
        have e2 : fuseD d c.n = { d with fu := some c.n } := by unfold fuseD; rw [if_pos hge]
        exact fin (f16.trans1 f21) (by rw [eD, e2]) ⟨_, _, _, _, _, _, h21⟩
      · have hge := of_decide_eq_false hge
        have e2 : fuseD d c.n = { d with fu := none } := by unfold fuseD; rw [if_neg hge]
        exact fin f16 (by rw [eD, e2]) ⟨_, _, _, _, _, _, h16⟩
    · have k8 : ¬ c.k = 8 := by simpa using k8
      have k9 : c.k = 9 := by simpa using k9
      have eD : doD d c = (crashD d c.data, 0) := by
        unfold doD
        rw [if_neg (by omega), if_neg (by omega), if_neg (by omega), if_neg (by omega), if_neg (by omega), if_neg (by omega), if_neg (by omega), if_neg k8, if_pos k9]
      refine ⟨_, _, _, r1.cell (o := 0 + 3) rfl, (rCrash_calls lo rb d B m k c.data w2 N h2 hG.i hG.b (by omega) (by omega) hC2 hmk (by omega)).mono ?_⟩
      rintro e w25 ⟨f25, rfl, h25⟩
      exact ⟨rfl, fin f25 eD h25⟩
    · have k8 : ¬ c.k = 8 := by simpa using k8
      have k9 : ¬ c.k = 9 := by simpa using k9
      have htf : t = false := htf
      have hno : ¬ (1 ≤ c.k ∧ c.k ≤ 7) := fun h => by have := ht.2 h; rw [htf] at this; cases this
      have eD : doD d c = (d, 0) := by
        unfold doD
        rw [if_neg (by omega), if_neg (by omega), if_neg (by omega), if_neg (by omega), if_neg (by omega), if_neg (by omega), if_neg (by omega), if_neg k8, if_neg k9]
      exact fin (Fr.refl _ _) eD h2
  have eqk : ∀ j : Int, 1 ≤ j → j ≤ 7 → (c.k == j) = true → ((c.k == j) = true ↔ 1 ≤ c.k ∧ c.k ≤ 7) := fun j h1 h7 he => by
    have hj : c.k = j := by simpa using he
    exact ⟨fun _ => ⟨by omega, by omega⟩, fun _ => he⟩
  refine vIf_mk (fun k1 => k9 _ (eqk 1 (by omega) (by omega) k1)) (fun k1 => vIf_mk (fun k2 => k9 _ (eqk 2 (by omega) (by omega) k2)) (fun k2 => vIf_mk (fun k3 => k9 _ (eqk 3 (by omega) (by omega) k3)) (fun k3 => vIf_mk (fun k4 => k9 _ (eqk 4 (by omega) (by omega) k4)) (fun k4 => vIf_mk (fun k5 => k9 _ (eqk 5 (by omega) (by omega) k5)) (fun k5 => vIf_mk (fun k6 => k9 _ (eqk 6 (by omega) (by omega) k6)) (fun k6 => k9 _ ?_))))))
  have k1 : ¬ c.k = 1 := by simpa using k1
  have k2 : ¬ c.k = 2 := by simpa using k2
  have k3 : ¬ c.k = 3 := by simpa using k3
  have k4 : ¬ c.k = 4 := by simpa using k4
  have k5 : ¬ c.k = 5 := by simpa using k5
  have k6 : ¬ c.k = 6 := by simpa using k6
  rw [beq_iff_eq]
  omega
theorem n_rdS' {w : World} {A : Option Addr} {n : Nat} {l : List Nm} (h : NSl w A n l) {i : Nat} {x : Nm} (hi : l[i]? = some x) (hin : i < n) {K : ByteArray → Prop} (hK : K x.1) :
    dr A fun b o => gd (decide (0 ≤ (i : Int))) (gd (decide ((i : Int) < ((n : Nat) : Int))) (ldS w b (o + ((i : Int)).toNat * 2) K)) := n_rdS h hi rfl hK
set_option maxHeartbeats 4000000 in
theorem same_calls (db r lo rb : Nat) (d : Dk) (cs : List Value) (c : Cl) (w : World) (N : Nat) (h : DkAt w db r d) (hR : RkD w lo rb d) (hG : DkG d N) (hN : N ≤ 349525) (hc : ClP w cs c) (hcb : ClB c) :
    Calls Tryz.prog 26 #[.pointer (some ⟨db, 0, none⟩), .pointer (some ⟨rb, 0, none⟩), ofL cs] w fun e w' => e = .returned (.bool true) ∧ Fr (fun _ => False) w w' := by
  refine (F26.of (some ⟨db, 0, none⟩) (some ⟨rb, 0, none⟩) cs w (Q := fun v w' => v = .bool true ∧ Fr (fun _ => False) w w') ?_).mono (fun e w' ⟨v, he, hv, h⟩ => ⟨by rw [he, hv], h⟩)
  obtain ⟨B, m, k, rfl, hC, hmk⟩ := hc
  have hm := by_n hC
  have hb := hG.fo hN
  have hi := hG.i.ino
  have hp := hG.p hN
  have hp' : ∀ id, (d.f id).p.length ≤ 349525 := fun id => by have := hG.b.p id; omega
  have hbl := hG.b.lb
  have hbf := hG.b.lf
  refine rec_new (fun b1 w2 f1 hb1 r1 => (Free_calls db r d w2 (h.fr0 f1) hb hi hp hbl hbf).mono ?_)
  rintro e w3 ⟨rfl, f3⟩
  have g3 := f1.trans1 f3
  refine ⟨_, _, rfl, (rFree_calls lo rb d w3 (RkAt.fr0 hR g3) hb hG.i hp' hbl hbf).mono ?_⟩
  rintro e w7 ⟨rfl, f7⟩
  have g7 := (g3.trans1 f7).trans1 (Fr.drew (fun _ => False) w7)
  have fr7 := (f3.trans1 f7).trans1 (Fr.drew (fun _ => False) w7)
  refine ⟨_, _, rfl, vIf_f (by simp) (vIf_f (by simp) (dr_mk ?_))⟩
  generalize w7.drew = w8 at g7 fr7 ⊢
  have hR8 := RkAt.fr0 hR g7
  refine rk_getI (o := 8) hR8 (.inr (.inr (.inr ⟨rfl, rfl⟩))) ((Calls_calls db r d w8 (h.fr0 g7)).mono ?_)
  rintro e w14 ⟨rfl, hw14⟩
  refine ⟨_, rfl, kp_mk (by rw [hw14]; exact Fr.refl (fun _ => False) _) hR8.lt.1 (fun h => h) (vIf_f (by simp) ?_)⟩
  subst hw14
  refine (Image_calls db r d _ (h.fr0 g7) hb hi).mono ?_
  rintro e w17 ⟨f17, I1, c1, rfl, hI1⟩
  have g17 := g7.trans1 f17
  refine ⟨_, _, _, rfl, (rImage_calls lo rb d w17 (RkAt.fr0 hR g17) hb hG.i).mono ?_⟩
  rintro e w22 ⟨f22, I2, c2, rfl, hI2⟩
  have g22 := g17.trans1 f22
  have hil : (imageD d).length ≤ 1000000000 := by
    unfold imageD
    rw [List.length_map]
    have h1 := nowF_len ⟨d.F.L, []⟩
    have h1 : (nowF ⟨d.F.L, []⟩).length ≤ d.F.L.length + 0 := h1
    have hb' : d.F.L.length + d.F.P.length ≤ 349525 := hb
    omega
  refine ⟨_, _, _, rfl, (Files_calls I1 _ c1 I2 _ c2 _ w22 (hI1.fr0 f22) hI2 hil).mono ?_⟩
  rintro e w27 ⟨rfl, f27⟩
  have g27 := g22.trans1 f27
  have fr27 := ((fr7.trans1 f17).trans1 f22).trans1 f27
  have r1 := r1.fr fr27 (fun h => h)
  -- the files' bytes
  refine ⟨_, rfl, vIf_f rfl (jnC_mk (fun _ => ⟨_, r1.cell (o := 0 + 1) rfl, _, r1.cell (o := 0 + 4) rfl, _, _, _, r1.cell (o := 0 + 3) rfl, (Read_calls db r d c.nm c.n (m : Int) w27 (h.fr0 g27) hb hi hp).mono ?_⟩))⟩
  rintro e w35 ⟨f35, R1, k1, rfl, hR1⟩
  have g35 := g27.trans1 f35
  have r1 := r1.fr f35 (fun h => h)
  refine ⟨_, _, _, _, rfl, _, r1.cell (o := 0 + 1) rfl, _, r1.cell (o := 0 + 4) rfl, _, _, _, r1.cell (o := 0 + 3) rfl, (rRead_calls lo rb d c.nm c.n (m : Int) w35 (RkAt.fr0 hR g35) hb hG.i hp').mono ?_⟩
  rintro e w46 ⟨f46, R2, k2, rfl, hR2⟩
  have g46 := g35.trans1 f46
  have r1 := r1.fr f46 (fun h => h)
  refine ⟨_, _, _, _, rfl, _, r1.cell (o := 0 + 1) rfl, (Size_calls db r d c.nm w46 (h.fr0 g46) hb hi hp).mono ?_⟩
  rintro e w53 ⟨rfl, f53⟩
  have g53 := g46.trans1 f53
  have r1 := r1.fr f53 (fun h => h)
  refine ⟨_, _, rfl, _, r1.cell (o := 0 + 1) rfl, (rBytes_calls lo rb d c.nm w53 (RkAt.fr0 hR g53) hb hG.i hp').mono ?_⟩
  rintro e w58 ⟨f58, B3, k3, rfl, _, _⟩
  have g58 := g53.trans1 f58
  have hll := look_len hi c.nm
  have hrl : (readD d c.nm c.n (m : Int)).1.length ≤ 1000000000 := by
    unfold readD
    split
    · show 0 ≤ _; omega
    · split
      · show 0 ≤ _; omega
      · show (((lookD d c.nm).1.drop c.n.toNat).take ((m : Int)).toNat).length ≤ _
        rw [List.length_take, List.length_drop]; omega
  refine ⟨_, _, _, _, rfl, (Same_calls R1 _ k1 R2 _ k2 _ w58 (((f46.trans1 f53).trans1 f58).sl hR1 (fun _ _ _ h => h)) ((f53.trans1 f58).sl hR2 (fun _ _ _ h => h)) hrl).mono ?_⟩
  rintro e w64 ⟨rfl, f64⟩
  have g64 := g58.trans1 f64
  refine ⟨_, rfl, vIf_f rfl (vIf_f (by simp) (vIf_f (by simp) (vIf_f (by simp) (jnC_mk (fun _ => (Names_calls db r d w64 (h.fr0 g64) hb).mono ?_)))))⟩
  rintro e w67 ⟨f67, N1, kn, rfl, hN1⟩
  have g67 := g64.trans1 f67
  refine ⟨_, _, _, _, rfl, dr_mk (rk_getF (RkAt.fr0 hR g67) (fun cs2 hF => (rnow_calls cs2 d.F w67 hF hb).mono ?_))⟩
  rintro e w76 ⟨f76, N2, kn2, rfl, hN2⟩
  have g76 := g67.trans1 f76
  have hR76 := RkAt.fr0 hR g76
  obtain ⟨u, v, A, n, cA, lv, hp76⟩ := hR76
  have hNm : namesD d = if d.down = true then ([], 11) else ((nowF d.F).map (·.1), 0) := rfl
  refine ⟨_, _, _, rfl, dr_mk ⟨d.down, hp76.r.cell (o := 0 + 6) rfl, vIf_mk (fun hd => ?_) (fun hd => ?_)⟩⟩
  · have hd : d.down = true := hd
    rw [if_pos hd] at hNm
    rw [hNm]
    exact vIf_t rfl ⟨rfl, g76⟩
  · have hd : d.down = false := hd
    rw [if_neg (by rw [hd]; simp)] at hNm
    rw [hNm] at hN1 ⊢
    have hlN : ((nowF d.F).map (·.1)).length = (nowF d.F).length := List.length_map ..
    refine vIf_f rfl (vIf_f (by rw [show ((((nowF d.F).map (·.1), (0 : Int)) : List ByteArray × Int)).1.length = (nowF d.F).length from hlN]; simp) (jnC_mk (fun _ => ?_)))
    have hN1' := f76.sl hN1 (fun _ _ _ h => h)
    have hN2' := hN2.sl
    dsimp only at hN1' ⊢
    rw [hlN] at hN1' ⊢
    have hnl := nowF_len d.F
    have hb' : d.F.L.length + d.F.P.length ≤ 349525 := hb
    generalize nowF d.F = l at hN1' hN2' hnl ⊢
    refine jnC_mk (loop_rule (fun s x => Fr (fun _ => False) w76 x ∧ ∃ i : Nat, i ≤ l.length ∧ s = ((N1, l.length, kn), (N2, l.length, kn2), (i : Int), ())) (fun s _ => (l.length - s.2.2.1).toNat) ?_ _ _ ⟨Fr.refl _ _, 0, by omega, rfl⟩)
    rintro s x C ⟨hf, i, hi2, rfl⟩ hC2 _
    refine vIf_mk (fun hlt => ?_) (fun hge => ⟨rfl, g76.trans1 hf⟩)
    have hlt : (i : Int) < (l.length : Int) := of_decide_eq_true hlt
    have gi : l[i]? = some (l[i]'(by omega)) := List.getElem?_eq_getElem (by omega)
    generalize l[i]'(by omega) = y at gi
    have gi1 : (l.map (·.1))[i]? = some y.1 := by rw [List.getElem?_map, gi]; rfl
    have fd := hf.trans1 (Fr.drew (fun _ => False) x)
    refine ss_rd (fd.sl hN1' (fun _ _ _ h => h)) (by omega) gi1 (n_rdS' (hN2'.fr0 fd) gi (by omega) (vIf_f (ba_beq _) (jnC_mk (hC2 _ _ ⟨fd, i + 1, by omega, by rw [ei i (by omega)]⟩ ?_))))
    show ((l.length : Int) - IntKind.wrap .i64 ((i : Int) + 1)).toNat < ((l.length : Int) - (i : Int)).toNat
    rw [ei i (by omega)]; omega
set_option maxHeartbeats 4000000 in
theorem does_law (lb lf : Int) (A1 : Option Addr) (n1 c1 : Nat) (fl : List Fl) (A2 : Option Addr) (n2 c2 : Nat) (l : List Cl) (w : World) (q1 : lb ≤ 9223372036854775807) (q2 : lf ≤ 9223372036854775807) (hfl : ISl w A1 n1 fl) (hs : ∀ x ∈ fl, x.1.size ≤ 1099511627775) (hd : ∀ x ∈ fl, x.2.length ≤ 1099511627775) (hl : KSl w A2 n2 l) (hlb : ∀ x ∈ l, ClB x) (hn : n1 + n2 ≤ 349525) :
    Calls Tryz.prog 6 #[ofL [.int .i64 lb, .int .i64 lf], .slice A1 n1 c1, .slice A2 n2 c2] w fun e w' => e = .returned (.bool true) ∧ Fr (fun _ => False) w w' := by
  refine (F6.of _ A1 n1 c1 A2 n2 c2 w (Q := fun v w' => v = .bool true ∧ Fr (fun _ => False) w w') ?_).mono (fun e w' ⟨v, he, hv, h⟩ => ⟨by rw [he, hv], h⟩)
  have hfn : fl.length = n1 := by obtain ⟨_, _, h2, _⟩ := hfl; exact h2
  have hln := hl.len
  refine rec_new (fun b1 w2 f1 hb1 r1 => ?_)
  have fd : Fr (fun _ => False) w2 w2.drew := Fr.drew _ _
  have g2 := f1.trans1 fd
  have r1 := r1.fr fd (fun h => h)
  generalize w2.drew = w3 at fd g2 r1 ⊢
  refine ⟨_, rfl, rec_all r1, _, rfl, rec_all r1, (Load_calls lb lf A1 n1 c1 fl w3 (hfl.fr0 g2) (by omega) hs hd).mono ?_⟩
  rintro e w5 ⟨f5, db, r, rfl, h5, hdb, hr⟩
  have g5 := g2.trans1 f5
  have hs2 := g2.size
  refine ⟨_, rfl, kp_mk f5 r1.lt (fun h => h) ((rLoad_calls lb lf A1 n1 c1 fl w5 (hfl.fr0 g5) (by omega) hs hd).mono ?_)⟩
  rintro e w8 ⟨f8, lo, rb, rfl, h8, hrb, hlo⟩
  have g8 := g5.trans1 f8
  have hs5 := g5.size
  have hl5 := h5.lt
  have hRl := RkAt.lt h8
  have hlor : rb < lo := hRl.2
  have hDS : ∀ k, k < w.heap.size → ¬ DS db r k := by rintro k hk (rfl | rfl) <;> omega
  have up : ∀ {u v : World}, Fr (fun _ => False) w u → Fr (DS db r) u v → Fr (fun _ => False) w v := fun fu fv => fu.trans fv (fun _ _ h => h) (fun k hk h => hDS k hk h)
  have up2 : ∀ {u v : World}, Fr (fun _ => False) w u → Fr (fun k => k = rb) u v → Fr (fun _ => False) w v := fun fu fv => fu.trans fv (fun _ _ h => h) (fun k hk h => by omega)
  have hdk : ∀ k, DS db r k → k < lo := by rintro k (rfl | rfl) <;> omega
  have hdr : ¬ DS db r rb := by rintro (h | h) <;> omega
  let D : Nat → Dk := fun i => runD (loadD lb lf fl) (l.take i)
  refine ⟨_, rfl, vIf_f rfl (jnC_mk (loop_rule (fun s x => Fr (fun _ => False) w x ∧ lo ≤ x.heap.size ∧ ∃ i : Nat, i ≤ n2 ∧ s = ((A2, n2, c2), some ⟨db, 0, none⟩, some ⟨rb, 0, none⟩, (i : Int), ()) ∧ DkAt x db r (D i) ∧ RkD x lo rb (D i) ∧ DkG (D i) (n1 + i))
    (fun s _ => (n2 - s.2.2.2.1).toNat) ?_ _ _ ⟨g8, hlo, 0, by omega, rfl, h5.fr0 f8, h8, ⟨load_I, by rw [← hfn]; exact load_B q1 q2⟩⟩))⟩
  rintro s x L ⟨hf, hlx, i, hi, rfl, hx, hR, hG⟩ hL _
  refine vIf_mk (fun hlt => ?_) (fun hge => ?_)
  · have hlt : (i : Int) < (n2 : Int) := of_decide_eq_true hlt
    have gi : l[i]? = some (l[i]'(by omega)) := List.getElem?_eq_getElem (by omega)
    generalize l[i]'(by omega) = y at gi
    have hyb := hlb y (List.mem_of_getElem? gi)
    have eS : D (i + 1) = (doD (D i) y).1 := run_step gi _
    have hGs := hG.do hyb
    generalize hDi : D i = d at hx hR hG eS hGs
    dsimp only
    have fdx : Fr (fun _ => False) x x.drew := Fr.drew _ _
    have gx := hf.trans1 fdx
    have hxz := hx.fr0 fdx
    have hRz : RkD x.drew lo rb d := RkAt.fr0 hR fdx
    have hlz : lo ≤ x.drew.heap.size := by have := fdx.size; omega
    generalize x.drew = z at fdx gx hxz hRz hlz ⊢
    have hlz2 := hl.fr gx (fun _ h => h.elim)
    obtain ⟨vs, k1, k2, k3⟩ := hlz2
    obtain ⟨b, o, rfl, e1, e2, B, m, kc, ecs, hB, hmk⟩ := ech_rd k1 k3 (by omega) gi (by omega)
    have hbz : b < z.heap.size := by
      rw [ecs] at e1
      exact cellAt_lt (e1 0 _ rfl)
    have hcl : ClP z (chk 5 vs i) y := ⟨B, m, kc, ecs, hB, hmk⟩
    refine dr_mk (gd_mk (decide_eq_true (by omega)) (gd_mk (decide_eq_true (by omega)) ⟨chk 5 vs i, e2, by rw [Int.toNat_natCast]; exact e1, dr_mk (gd_mk (decide_eq_true (by omega)) (gd_mk (decide_eq_true (by omega)) ⟨chk 5 vs i, e2, by rw [Int.toNat_natCast]; exact e1, (Do_calls db r d (chk 5 vs i) y z (n1 + i) hxz hG.i hG.b (by omega) hcl hyb).mono ?_⟩))⟩))
    rintro e w17 ⟨f17, rfl, h17⟩
    have hal := hxz.ds
    have hb17 : ¬ DS db r b := fun h => by
      have ha := hal b h
      rw [ecs] at e1
      exact ha.s _ _ (e1 1 _ rfl)
    have hR17 : RkD w17 lo rb d := RkAt.fr hRz f17 hdr hal hdk
    have hcl17 := hcl.fr f17 hal
    have hl17 : lo ≤ w17.heap.size := by have := f17.size; omega
    have g17 := up gx f17
    refine ⟨_, rfl, kp_mk f17 hbz hb17 ((play_calls lo rb d _ y w17 (n1 + i) hR17 hG (by omega) hl17 hcl17 hyb).mono ?_)⟩
    rintro e w20 ⟨f20, rfl, h20⟩
    have g20 := up2 g17 f20
    have hal20 : ∀ k, k = rb → Alien w17 k := fun k hk => by rw [hk]; exact RkAt.alien hR17
    have h17' : DkAt w20 db r (doD d y).1 := h17.fr f20 (fun h => by have h : db = rb := h; omega) (fun h => by have h : r = rb := h; omega) hal20
    have hl20 : lo ≤ w20.heap.size := by have := f20.size; omega
    refine ⟨_, rfl, vIf_f (by simp) (k_rd (hl.fr g20 (fun _ h => h.elim)) gi (by omega) (fun cs hy => (same_calls db r lo rb _ cs y w20 (n1 + i + 1) h17' h20 hGs (by omega) hy hyb).mono ?_))⟩
    rintro e w26 ⟨rfl, f26⟩
    have hs26 := f26.size
    refine ⟨_, rfl, vIf_f rfl (jnC_mk (hL _ _ ⟨g20.trans1 f26, by omega, i + 1, by omega, by rw [ei i (by omega)], by rw [eS]; exact h17'.fr0 f26, by rw [eS]; exact RkAt.fr0 h20 f26, by rw [eS]; exact hGs⟩ ?_))⟩
    show ((n2 : Int) - IntKind.wrap .i64 ((i : Int) + 1)).toNat < ((n2 : Int) - (i : Int)).toNat
    rw [ei i (by omega)]; omega
  · have hc0 : ClP x ([Value.int .i64 0] ++ ([Value.string (⟨#[]⟩ : ByteArray)] ++ ([Value.string (⟨#[]⟩ : ByteArray)] ++ ([Value.slice none 0 0] ++ ([Value.int .i64 0] ++ []))))) ⟨0, ⟨#[]⟩, ⟨#[]⟩, [], 0⟩ := ⟨none, 0, 0, rfl, Sl.nil _ _ _, Nat.le_refl _⟩
    have hcb0 : ClB ⟨0, ⟨#[]⟩, ⟨#[]⟩, [], 0⟩ := ⟨by decide, by decide, by decide, by decide⟩
    refine (same_calls db r lo rb _ _ _ x (n1 + i) hx hR hG (by omega) hc0 hcb0).mono ?_
    rintro e w29 ⟨rfl, f29⟩
    refine ⟨_, rfl, vIf_t rfl ((lives_calls w29).mono ?_)⟩
    rintro e w32 ⟨rfl, f32⟩
    exact ⟨_, rfl, rfl, (hf.trans1 f29).trans1 f32⟩
end Go.Proofs.YtfdhaeglhkmmpaaGreat
/- For the closings: what the bound gives. -/
namespace Go.Proofs.YtfdhaeglhkmmpaaGreat
open Go.GV Go.ChangeShapes Go.WideShapes Go.ChangeAt Go.RowKit
set_option linter.unusedVariables false
theorem own : ownKnob Tryz.prog.godebug = none := by kernel_rfl
theorem laid : laidOutB Tryz.prog = true := by kernel_rfl
theorem small {H : Type} {l : List (DataW H)} (hk : Rows.uptoSmall H l = true) : Rows.uptoBulkAll l ≤ 1048576 := of_decide_eq_true hk
theorem one_le {H : Type} (d : DataW H) : 1 ≤ Rows.uptoBulk d := by
  cases d with
  | lit l => cases l <;> simp [Rows.uptoBulk]
  | nil => simp [Rows.uptoBulk]
  | ptr d => simp [Rows.uptoBulk]
  | slice elems spare => simp [Rows.uptoBulk]
  | agg parts => simp [Rows.uptoBulk]
  | iface t d => simp [Rows.uptoBulk]
  | map entries => simp [Rows.uptoBulk]
  | held h => simp [Rows.uptoBulk]
theorem part_le {H : Type} {d : DataW H} {l : List (DataW H)} (h : d ∈ l) : Rows.uptoBulk d ≤ Rows.uptoBulkAll l := by
  induction l with
  | nil => cases h
  | cons x r ih =>
    simp only [Rows.uptoBulkAll]
    cases List.mem_cons.1 h with
    | inl e => subst e; omega
    | inr e => have := ih e; omega
theorem part_at {H : Type} {d : DataW H} {l : List (DataW H)} {i : Nat} (h : l[i]? = some d) : Rows.uptoBulk d ≤ Rows.uptoBulkAll l := part_le (List.mem_of_getElem? h)
theorem length_le {H : Type} (l : List (DataW H)) : l.length ≤ Rows.uptoBulkAll l := by
  induction l with
  | nil => simp [Rows.uptoBulkAll]
  | cons x r ih => have := one_le x; simp only [Rows.uptoBulkAll, List.length_cons]; omega
theorem bytesN {H : Type} {d : DataW H} {A : Option Addr} {n : Nat} (h : (d = .nil ∧ A = none ∧ n = 0) ∨ ∃ es sp, d = .slice es sp ∧ es.length = n) : n ≤ Rows.uptoBulk d := by
  rcases h with ⟨_, _, rfl⟩ | ⟨es, sp, rfl, h⟩
  · omega
  · have := length_le es; simp only [Rows.uptoBulk]; omega
theorem strN {H : Type} (s : ByteArray) : s.size ≤ Rows.uptoBulk (DataW.lit (H := H) (.string s.data.toList)) := by
  simp only [Rows.uptoBulk]
  have e : s.data.toList.length = s.size := by rw [Array.length_toList]; rfl
  omega
end Go.Proofs.YtfdhaeglhkmmpaaGreat
/- chapter 12: opening limits, calls, bytes -/
namespace Go.Proofs.YtfdhaeglhkmmpaaGreat
open Go.GV Go.ChangeShapes Go.WideShapes Go.ChangeAt Go.RowKit
set_option linter.unusedVariables false
set_option linter.unusedSimpArgs false
theorem cIn : Tryz.prog.cellsOf 3 = 1 := by kernel_rfl
theorem cSt : Tryz.prog.cellsOf 9 = 1 := by kernel_rfl
theorem cU8 : Tryz.prog.cellsOf 5 = 1 := by kernel_rfl
theorem cBy : Tryz.prog.cellsOf 23 = 1 := by kernel_rfl
theorem cCl : Tryz.prog.cellsOf 31 = 5 := by kernel_rfl
theorem cLm : Tryz.prog.cellsOf 27 = 2 := by kernel_rfl
theorem length_le_k {H : Type} {k : Nat} : ∀ {l : List (DataW H)}, (∀ d ∈ l, k ≤ Rows.uptoBulk d) → k * l.length ≤ Rows.uptoBulkAll l
  | [], _ => by simp
  | x :: r, h => by
    have h1 := h x (List.mem_cons_self ..)
    have ih := length_le_k (l := r) (fun d hd => h d (List.mem_cons_of_mem _ hd))
    simp only [Rows.uptoBulkAll, List.length_cons, Nat.mul_add]
    omega
theorem one2 {α : Type} {l : List α} (h : l.length = 2) : ∃ a b, l = [a, b] := by
  match l, h with
  | [a, b], _ => exact ⟨a, b, rfl⟩
theorem one5 {α : Type} {l : List α} (h : l.length = 5) : ∃ a b c d e, l = [a, b, c, d, e] := by
  match l, h with
  | [a, b, c, d, e], _ => exact ⟨a, b, c, d, e, rfl⟩
theorem i64_wf {n : Int} (h : (Lit.int .i64 n).wf = true) : -9223372036854775808 ≤ n ∧ n ≤ 9223372036854775807 := by
  simp only [Lit.wf, IntKind.has, Bool.and_eq_true, decide_eq_true_eq] at h
  have e1 : IntKind.i64.min = -9223372036854775808 := by decide
  have e2 : IntKind.i64.max = 9223372036854775807 := by decide
  omega
set_option maxRecDepth 100000 in
theorem tr_cl {H : Type} {enc : TypeId × Value → H} {w : World} {fuel : Nat} {cs : List Value} {x : DataW H × List MemPlace} (h : TR enc Tryz.prog w fuel 31 cs x) (hsm : Rows.uptoBulk x.1 ≤ 1048576) : ∃ y : Cl, ClP w cs y ∧ ClB y ∧ 6 ≤ Rows.uptoBulk x.1 := by
  obtain ⟨hl, ds, hd, hdl, hf⟩ := tr_struct (P := Tryz.prog) Tryz.underlying31 h
  rw [cCl] at hl
  obtain ⟨a, b, c, d, e, rfl⟩ := one5 hl
  obtain ⟨m0, y0, t0, b0⟩ := hf 0 _ rfl
  obtain ⟨m1, y1, t1, b1⟩ := hf 1 _ rfl
  obtain ⟨m2, y2, t2, b2⟩ := hf 2 _ rfl
  obtain ⟨m3, y3, t3, b3⟩ := hf 3 _ rfl
  obtain ⟨m4, y4, t4, b4⟩ := hf 4 _ rfl
  have t0 : TR enc Tryz.prog w m0 3 (([a, b, c, d, e].drop 0).take (Tryz.prog.cellsOf 3)) y0 := t0
  have t1 : TR enc Tryz.prog w m1 9 (([a, b, c, d, e].drop 1).take (Tryz.prog.cellsOf 9)) y1 := t1
  have t2 : TR enc Tryz.prog w m2 9 (([a, b, c, d, e].drop 2).take (Tryz.prog.cellsOf 9)) y2 := t2
  have t3 : TR enc Tryz.prog w m3 23 (([a, b, c, d, e].drop 3).take (Tryz.prog.cellsOf 23)) y3 := t3
  have t4 : TR enc Tryz.prog w m4 3 (([a, b, c, d, e].drop 4).take (Tryz.prog.cellsOf 3)) y4 := t4
  rw [cIn] at t0 t4
  rw [cSt] at t1 t2
  rw [cBy] at t3
  have t0 : TR enc Tryz.prog w m0 3 [a] y0 := t0
  have t1 : TR enc Tryz.prog w m1 9 [b] y1 := t1
  have t2 : TR enc Tryz.prog w m2 9 [c] y2 := t2
  have t3 : TR enc Tryz.prog w m3 23 [d] y3 := t3
  have t4 : TR enc Tryz.prog w m4 3 [e] y4 := t4
  obtain ⟨k, e0, _⟩ := tr_int (P := Tryz.prog) (k := .i64) Tryz.underlying3 t0
  obtain ⟨s1, e1, _, hx1⟩ := tr_string (P := Tryz.prog) Tryz.underlying9 t1
  obtain ⟨s2, e2, _, hx2⟩ := tr_string (P := Tryz.prog) Tryz.underlying9 t2
  obtain ⟨B, nb, cb, l, e3, g1, g2, g3, g4⟩ := tr_bytes (P := Tryz.prog) (e := 5) Tryz.underlying23 Tryz.underlying5 cU8 t3
  obtain ⟨j, e4, hw4, _⟩ := tr_int (P := Tryz.prog) (k := .i64) Tryz.underlying3 t4
  injection e0 with e0 _; injection e1 with e1 _; injection e2 with e2 _; injection e3 with e3 _; injection e4 with e4 _
  subst e0; subst e1; subst e2; subst e3; subst e4
  have hd5 : 5 ≤ ds.length := by rw [hdl]; decide
  have hln := length_le ds
  have q1 := part_at b1
  have q2 := part_at b2
  have q3 := part_at b3
  rw [hx1] at q1
  rw [hx2] at q2
  have n1 := strN (H := H) s1
  have n2 := strN (H := H) s2
  have n3 := bytesN g4
  have hbl := by_n g1
  dsimp only at q1 q2
  have hbd : Rows.uptoBulk x.1 = Rows.uptoBulkAll ds + 1 := by rw [hd]; simp only [Rows.uptoBulk]
  exact ⟨⟨k, s1, s2, l, j⟩, ⟨B, nb, cb, rfl, g1, g2⟩, ⟨by show s1.size ≤ _; omega, by show s2.size ≤ _; omega, by show l.length ≤ _; omega, i64_wf hw4⟩, by omega⟩
theorem tr_rowP {H α : Type} {enc : TypeId × Value → H} {w : World} {fuel sz k : Nat} {t e : TypeId} {Pq : List Value → α → Prop} {Bq : α → Prop} {cs : List Value} {x : DataW H × List MemPlace} (ht : Tryz.prog.underlying t = some (.slice e)) (hc : Tryz.prog.cellsOf e = sz) (h0 : sz ≠ 0)
    (hel : ∀ {fuel : Nat} {cs : List Value} {x : DataW H × List MemPlace}, TR enc Tryz.prog w fuel e cs x → Rows.uptoBulk x.1 ≤ 1048576 → ∃ y : α, Pq cs y ∧ Bq y ∧ k ≤ Rows.uptoBulk x.1) (h : TR enc Tryz.prog w fuel t cs x) (hsm : Rows.uptoBulk x.1 ≤ 1048576) :
    ∃ (A : Option Addr) (n c : Nat) (vs : List Value) (l : List α), cs = [Value.slice A n c] ∧ Sl w sz A n vs ∧ l.length = n ∧ Ech sz Pq vs l ∧ (∀ y ∈ l, Bq y) ∧ n ≤ c ∧ k * n + 1 ≤ Rows.uptoBulk x.1 := by
  obtain ⟨A, n, c, vss, hcs, h1, h2, h3, h4, h5, h6⟩ := tr_slice (P := Tryz.prog) (e := e) ht (by rw [hc]; exact h0) h
  rcases h6 with ⟨h7, rfl, rfl, rfl⟩ | ⟨es, sp, h7, h8, h9, h10⟩
  · exact ⟨none, 0, 0, [], [], hcs, Sl.nil _ _ _, rfl, Ech.nil, (fun y hy => by cases hy), Nat.le_refl _, by have := one_le x.1; omega⟩
  · have hsum : Rows.uptoBulkAll es ≤ 1048576 := by rw [h7] at hsm; simp only [Rows.uptoBulk] at hsm; omega
    have each : ∀ (i : Nat) (v : List Value), vss[i]? = some v → ∃ y : α, Pq v y ∧ Bq y := fun i v hi => by
      obtain ⟨m, y, hy, hes⟩ := h10 i v hi
      have := part_at hes
      obtain ⟨q, e, e', _⟩ := hel hy (by omega)
      exact ⟨q, e, e'⟩
    obtain ⟨r, hrl, hr⟩ := choose_list (R := fun (i : Nat) v (y : α) => Pq v y ∧ Bq y) vss each
    rw [hc] at h4 h5
    obtain ⟨f1, f2⟩ := flatten_get h4
    have hb : k * es.length ≤ Rows.uptoBulkAll es := length_le_k (fun d hd => by
      obtain ⟨i, hi⟩ := List.mem_iff_getElem?.1 hd
      have hil := (List.getElem?_eq_some_iff.1 hi).1
      obtain ⟨m, y, hy, hey⟩ := h10 i _ (List.getElem?_eq_getElem (by omega))
      rw [hi] at hey
      injection hey with hey
      have hp := part_at hi
      rw [hey] at hp ⊢
      exact (hel hy (by omega)).choose_spec.2.2)
    have back : ∀ (i : Nat) (y : α), r[i]? = some y → ∃ v, vss[i]? = some v ∧ Pq v y ∧ Bq y := fun i y hy => by
      have hil := (List.getElem?_eq_some_iff.1 hy).1
      obtain ⟨y', hy', hp⟩ := hr i _ (List.getElem?_eq_getElem (by omega))
      rw [hy] at hy'
      injection hy' with hy'
      subst hy'
      exact ⟨_, List.getElem?_eq_getElem (by omega), hp⟩
    refine ⟨A, n, c, vss.flatten, r, hcs, h5, by omega, fun i y hy => ?_, fun y hy => ?_, h2, ?_⟩
    · obtain ⟨v, hv, hp, _⟩ := back i y hy
      have e2 : chk sz vss.flatten i = v := by
        have hvl := h4 i v hv
        apply List.ext_getElem?
        intro j
        by_cases hj : j < sz
        · rw [chk_get hj, f2 i v j hv hj]
        · have hcl : (chk sz vss.flatten i).length ≤ sz := by
            unfold chk
            rw [List.length_take]; omega
          rw [List.getElem?_eq_none (by omega), List.getElem?_eq_none (by omega)]
      rw [e2]; exact hp
    · obtain ⟨i, hi⟩ := List.mem_iff_getElem?.1 hy
      obtain ⟨v, _, _, hb⟩ := back i y hi
      exact hb
    · rw [h7]
      simp only [Rows.uptoBulk]
      have : k * n = k * es.length := by rw [h9]
      omega
set_option maxRecDepth 100000 in
theorem open_cls {H : Type} {enc : TypeId × Value → H} {w : World} {v : Value} {d : DataW H} {ps : List MemPlace} (hv : Value.okWide Tryz.prog w .any 0 22 v) (h : DataW.Trod enc Tryz.prog w 0 (fun _ => true) true 22 v d ps) (hb : Rows.uptoBulk d ≤ 1048576) :
    ∃ (A : Option Addr) (n c : Nat) (l : List Cl), v = .slice A n c ∧ KSl w A n l ∧ (∀ x ∈ l, ClB x) ∧ n ≤ c ∧ 6 * n + 1 ≤ Rows.uptoBulk d := by
  obtain ⟨fuel, ht⟩ := h
  obtain ⟨A, n, c, vs, l, e, h1, h2, h3, h4, h5, h6⟩ := tr_rowP (Bq := ClB) (Pq := ClP w) Tryz.underlying22 cCl (by decide) (fun h hs => tr_cl h hs) ht hb
  exact ⟨A, n, c, l, slice_of_cells Tryz.underlying22 hv e, ⟨vs, h1, h2, h3⟩, h4, h5, h6⟩
set_option maxRecDepth 100000 in
theorem open_lim {H : Type} {enc : TypeId × Value → H} {w : World} {v : Value} {d : DataW H} {ps : List MemPlace} (hv : Value.okWide Tryz.prog w .any 0 27 v) (h : DataW.Trod enc Tryz.prog w 0 (fun _ => true) true 27 v d ps) :
    ∃ lb lf : Int, v = ofL [.int .i64 lb, .int .i64 lf] ∧ lb ≤ 9223372036854775807 ∧ lf ≤ 9223372036854775807 := by
  obtain ⟨fuel, ht⟩ := h
  obtain ⟨cs, rfl, hcs⟩ := agg_of_struct Tryz.underlying27 hv
  rw [hcs] at ht
  obtain ⟨hl, ds, hd, hdl, hf⟩ := tr_struct (P := Tryz.prog) Tryz.underlying27 ht
  rw [cLm] at hl
  obtain ⟨a, b, rfl⟩ := one2 hl
  obtain ⟨m0, y0, t0, b0⟩ := hf 0 _ rfl
  obtain ⟨m1, y1, t1, b1⟩ := hf 1 _ rfl
  have t0 : TR enc Tryz.prog w m0 3 (([a, b].drop 0).take (Tryz.prog.cellsOf 3)) y0 := t0
  have t1 : TR enc Tryz.prog w m1 3 (([a, b].drop 1).take (Tryz.prog.cellsOf 3)) y1 := t1
  rw [cIn] at t0 t1
  have t0 : TR enc Tryz.prog w m0 3 [a] y0 := t0
  have t1 : TR enc Tryz.prog w m1 3 [b] y1 := t1
  obtain ⟨k, e0, w0, _⟩ := tr_int (P := Tryz.prog) (k := .i64) Tryz.underlying3 t0
  obtain ⟨j, e1, w1, _⟩ := tr_int (P := Tryz.prog) (k := .i64) Tryz.underlying3 t1
  injection e0 with e0 _; injection e1 with e1 _
  subst e0; subst e1
  exact ⟨k, j, rfl, (i64_wf w0).2, (i64_wf w1).2⟩
end Go.Proofs.YtfdhaeglhkmmpaaGreat
/- chapter 12: opening files -/
namespace Go.Proofs.YtfdhaeglhkmmpaaGreat
open Go.GV Go.ChangeShapes Go.WideShapes Go.ChangeAt Go.RowKit
set_option linter.unusedVariables false
set_option linter.unusedSimpArgs false
theorem cFl : Tryz.prog.cellsOf 97 = 2 := by kernel_rfl
structure FlB (x : Fl) : Prop where
  nm : x.1.size ≤ 1099511627775
  data : x.2.length ≤ 1099511627775
set_option maxRecDepth 100000 in
theorem tr_fl {H : Type} {enc : TypeId × Value → H} {w : World} {fuel : Nat} {cs : List Value} {x : DataW H × List MemPlace} (h : TR enc Tryz.prog w fuel 97 cs x) (hsm : Rows.uptoBulk x.1 ≤ 1048576) : ∃ y : Fl, FlP w cs y ∧ FlB y ∧ 3 ≤ Rows.uptoBulk x.1 := by
  obtain ⟨hl, ds, hd, hdl, hf⟩ := tr_struct (P := Tryz.prog) Tryz.underlying97 h
  rw [cFl] at hl
  obtain ⟨a, b, rfl⟩ := one2 hl
  obtain ⟨m0, y0, t0, b0⟩ := hf 0 _ rfl
  obtain ⟨m1, y1, t1, b1⟩ := hf 1 _ rfl
  have t0 : TR enc Tryz.prog w m0 9 (([a, b].drop 0).take (Tryz.prog.cellsOf 9)) y0 := t0
  have t1 : TR enc Tryz.prog w m1 23 (([a, b].drop 1).take (Tryz.prog.cellsOf 23)) y1 := t1
  rw [cSt] at t0
  rw [cBy] at t1
  have t0 : TR enc Tryz.prog w m0 9 [a] y0 := t0
  have t1 : TR enc Tryz.prog w m1 23 [b] y1 := t1
  obtain ⟨s0, e0, _, hx0⟩ := tr_string (P := Tryz.prog) Tryz.underlying9 t0
  obtain ⟨B, nb, cb, l, e1, g1, g2, g3, g4⟩ := tr_bytes (P := Tryz.prog) (e := 5) Tryz.underlying23 Tryz.underlying5 cU8 t1
  injection e0 with e0 _; injection e1 with e1 _
  subst e0; subst e1
  have hd2 : 2 ≤ ds.length := by rw [hdl]; decide
  have hln := length_le ds
  have q0 := part_at b0
  have q1 := part_at b1
  rw [hx0] at q0
  have n0 := strN (H := H) s0
  have n1 := bytesN g4
  have hbl := by_n g1
  dsimp only at q0
  have hbd : Rows.uptoBulk x.1 = Rows.uptoBulkAll ds + 1 := by rw [hd]; simp only [Rows.uptoBulk]
  exact ⟨(s0, l), ⟨B, nb, cb, rfl, g1, g2⟩, ⟨by show s0.size ≤ _; omega, by show l.length ≤ _; omega⟩, by omega⟩
set_option maxRecDepth 100000 in
theorem open_fls {H : Type} {enc : TypeId × Value → H} {w : World} {v : Value} {d : DataW H} {ps : List MemPlace} (hv : Value.okWide Tryz.prog w .any 0 45 v) (h : DataW.Trod enc Tryz.prog w 0 (fun _ => true) true 45 v d ps) (hb : Rows.uptoBulk d ≤ 1048576) :
    ∃ (A : Option Addr) (n c : Nat) (l : List Fl), v = .slice A n c ∧ ISl w A n l ∧ (∀ x ∈ l, FlB x) ∧ n ≤ c ∧ 3 * n + 1 ≤ Rows.uptoBulk d := by
  obtain ⟨fuel, ht⟩ := h
  obtain ⟨A, n, c, vs, l, e, h1, h2, h3, h4, h5, h6⟩ := tr_rowP (Bq := FlB) (Pq := FlP w) Tryz.underlying45 cFl (by decide) (fun h hs => tr_fl h hs) ht hb
  exact ⟨A, n, c, l, slice_of_cells Tryz.underlying45 hv e, ⟨vs, h1, h2, h3⟩, h4, h5, h6⟩
end Go.Proofs.YtfdhaeglhkmmpaaGreat
