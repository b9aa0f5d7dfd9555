/- SHA-256 as the program does it: a block; the hash. -/
import Derived.Test.YtmjdcgphahdhbaaDoorLShaS
namespace Go.Proofs.YtmjdcgphahdhbaaDoor
open Go.GV Go.RowKit
set_option linter.unusedVariables false
set_option linter.unusedSimpArgs false
def KC : List UInt32 := [1116352408, 1899447441, 3049323471, 3921009573, 961987163, 1508970993, 2453635748, 2870763221, 3624381080, 310598401, 607225278, 1426881987, 1925078388, 2162078206, 2614888103, 3248222580, 3835390401, 4022224774, 264347078, 604807628, 770255983, 1249150122, 1555081692, 1996064986, 2554220882, 2821834349, 2952996808, 3210313671, 3336571891, 3584528711, 113926993, 338241895, 666307205, 773529912, 1294757372, 1396182291, 1695183700, 1986661051, 2177026350, 2456956037, 2730485921, 2820302411, 3259730800, 3345764771, 3516065817, 3600352804, 4094571909, 275423344, 430227734, 506948616, 659060556, 883997877, 958139571, 1322822218, 1537002063, 1747873779, 1955562222, 2024104815, 2227730452, 2361852424, 2428436474, 2756734187, 3204031479, 3329325298]
def KAt (w : World) : Prop := cellsAt w 1 0 (KC.map wv)
theorem KAt.fr {D : Nat → Prop} {w w' : World} (f : Fr D w w') (h : KAt w) (hD : ¬ D 1) : KAt w' := f.cells h hD
theorem KAt.lt {w : World} (h : KAt w) : 1 < w.heap.size := cellAt_lt (h 0 _ rfl)
theorem KAt.get {w : World} (h : KAt w) {t : Nat} (ht : t < 64) : cellAt w 1 t = some (.int .u32 (KC.getD t 0).toNat) := by
  have := h t (wv (KC.getD t 0)) (by
    rw [List.getElem?_map, List.getElem?_eq_getElem (show t < KC.length from ht), List.getD_eq_getElem?_getD, List.getElem?_eq_getElem (show t < KC.length from ht)]; rfl)
  rwa [Nat.zero_add] at this
def rnd (v : List UInt32) (k w : UInt32) : List UInt32 :=
  let g := fun i => v.getD i 0
  let t1 := g 7 + (rotr (g 4) 6 ^^^ rotr (g 4) 11 ^^^ rotr (g 4) 25) + (g 4 &&& g 5 ^^^ ~~~(g 4) &&& g 6) + k + w
  let t2 := (rotr (g 0) 2 ^^^ rotr (g 0) 13 ^^^ rotr (g 0) 22) + (g 0 &&& g 1 ^^^ g 0 &&& g 2 ^^^ g 1 &&& g 2)
  [t1 + t2, g 0, g 1, g 2, g 3 + t1, g 4, g 5, g 6]
def rnds (ws s : List UInt32) : Nat → List UInt32
  | 0 => s
  | t + 1 => rnd (rnds ws s t) (KC.getD t 0) (ws.getD t 0)
theorem rnds_len {ws s : List UInt32} (h : s.length = 8) : ∀ t, (rnds ws s t).length = 8
  | 0 => h
  | t + 1 => rfl
def blockP (s : List UInt32) (b : List UInt8) : List UInt32 := List.zipWith (· + ·) s (rnds (sched b 64) s 64)
theorem blockP_len {s : List UInt32} {b : List UInt8} (h : s.length = 8) : (blockP s b).length = 8 := by
  simp [blockP, h, rnds_len h]
theorem eight {l : List UInt32} (h : l.length = 8) : ∃ a0 a1 a2 a3 a4 a5 a6 a7, l = [a0, a1, a2, a3, a4, a5, a6, a7] := by
  match l, h with
  | [a0, a1, a2, a3, a4, a5, a6, a7], _ => exact ⟨a0, a1, a2, a3, a4, a5, a6, a7, rfl⟩
theorem set_map {L : List UInt32} {i : Nat} {x : UInt32} (h : i < L.length) : splice (L.map wv) i [wv x] = (L.set i x).map wv := by
  apply List.ext_getElem?
  intro j
  rw [splice_get (by simp; omega)]
  simp only [List.getElem?_map, List.getElem?_set, List.length_cons, List.length_nil]
  by_cases h1 : j < i
  · rw [if_pos h1, if_neg (by omega)]
  · rw [if_neg h1]
    by_cases h2 : i = j
    · subst h2; rw [if_pos (by omega), if_pos rfl, if_pos h, Nat.sub_self]; rfl
    · rw [if_neg (by omega), if_neg h2]
theorem wget {L : List UInt32} {i : Nat} (h : i < L.length) : (L.map wv)[i]? = some (.int .u32 (L.getD i 0).toNat) := by
  have := zget (n := 0) h []
  rwa [List.append_nil] at this
theorem nthV_get : ∀ {l : List Value} {i : Nat} {v : Value}, l[i]? = some v → nthV l i = v
  | [], _, _, h => by simp at h
  | a :: l, 0, v, h => by simpa [nthV] using h
  | a :: l, i + 1, v, h => by
    have : l[i]? = some v := by simpa using h
    simpa [nthV] using nthV_get this
theorem nth_wv {L : List UInt32} {i : Nat} (h : i < L.length) : nthV (L.map wv) i = .int .u32 (L.getD i 0).toNat := by
  exact nthV_get (wget h)
theorem splice_whole {c vs : List Value} (h : vs.length = c.length) : splice c 0 vs = vs := by
  unfold splice
  rw [List.take_zero, List.nil_append, Nat.zero_add, h, List.drop_length, List.append_nil]
theorem block_calls (A : Option Addr) (c : Nat) (b : List UInt8) (s : List UInt32) (w : World) (h : Sl w 1 A 64 (b.map bv)) (hc : 64 ≤ c) (hs : s.length = 8) (hK : KAt w) :
    Calls Tryd.prog 51 #[ofL (s.map wv), .slice A 64 c] w fun e w' => e = .returned (ofL ((blockP s b).map wv)) ∧ Fr (fun _ => False) w w' := by
  refine (F51.of (s.map wv) A 64 c w (Q := fun v w' => v = ofL ((blockP s b).map wv) ∧ Fr (fun _ => False) w w') ?_).mono (fun e w' ⟨v, he, hv, h⟩ => ⟨by rw [he, hv], h⟩)
  have hZ : Z80.length = 8 := by decide +kernel
  refine nw_mk (nw_mk ?_)
  have f1 : Fr (fun _ => False) w (w.alloc (.cells (s.map wv).toArray 80)) := Fr.alloc _ _ _
  have r1 : RecAt (w.alloc (.cells (s.map wv).toArray 80)) w.heap.size 80 (s.map wv) := RecAt.new w _ _
  have hs1 : (w.alloc (.cells (s.map wv).toArray 80)).heap.size = w.heap.size + 1 := alloc_size _ _
  generalize w.alloc (.cells (s.map wv).toArray 80) = w1 at f1 r1 hs1 ⊢
  have f2 : Fr (fun _ => False) w1 (w1.alloc (.cells Z80.toArray 80)) := Fr.alloc _ _ _
  have r2 : RecAt (w1.alloc (.cells Z80.toArray 80)) w1.heap.size 80 Z80 := RecAt.new w1 _ _
  have hs2 : (w1.alloc (.cells Z80.toArray 80)).heap.size = w1.heap.size + 1 := alloc_size _ _
  generalize w1.alloc (.cells Z80.toArray 80) = w2 at f2 r2 hs2 ⊢
  have r12 := r1.fr f2 (fun h => h)
  have f12 := f1.trans1 f2
  refine ⟨s.map wv, by simpa using hs, r12.cells (o := 0) (fun j v hj => by simpa using hj), nw_mk (gd_mk (by simpa using hs) ?_)⟩
  have f3 : Fr (fun _ => False) w2 (w2.alloc (.cells Z80.toArray 80)) := Fr.alloc _ _ _
  have r3 : RecAt (w2.alloc (.cells Z80.toArray 80)) w2.heap.size 80 Z80 := RecAt.new w2 _ _
  have hs3 : (w2.alloc (.cells Z80.toArray 80)).heap.size = w2.heap.size + 1 := alloc_size _ _
  generalize w2.alloc (.cells Z80.toArray 80) = w3 at f3 r3 hs3 ⊢
  refine r3.st_mk (o := 0) (by simp [hs, hZ]) (wv_one _) (fun r4 f4 => ?_)
  rw [splice_whole (by simp [hs, hZ])] at r4
  have hs4 : (stB w3 w2.heap.size 0 (s.map wv)).heap.size = w3.heap.size := stB_size _ _ _ _
  generalize stB w3 w2.heap.size 0 (s.map wv) = w4 at r4 f4 hs4 ⊢
  have r14 := (r12.fr f3 (fun h => h)).fr f4 (fun h => by omega)
  have r24 := (r2.fr f3 (fun h => h)).fr f4 (fun h => by omega)
  have f14 : Fr (fun _ => False) w w4 := (f12.trans1 f3).trans f4 (fun _ _ h => h) (fun k hk h => by omega)
  generalize hb1 : w.heap.size = b1 at *
  generalize hb3 : w1.heap.size = b3 at *
  generalize hb6 : w2.heap.size = b6 at *
  refine (words_calls A c b w4 (f14.sl h (fun _ _ _ h => h)) hc).mono ?_
  rintro e w5 ⟨rfl, f5⟩
  have hW := sched_len b 64
  refine ⟨_, rfl, jnC_mk ?_⟩
  unfold blockP
  generalize sched b 64 = W at hW ⊢
  refine loop_rule (fun p u => Fr (fun _ => False) w u ∧ RecAt u b1 80 (s.map wv) ∧ RecAt u b3 80 Z80 ∧ ∃ t : Nat, t ≤ 64 ∧ p = ((b1, 0), (b3, 0), (b6, 0), W.map wv, (t : Int), ()) ∧ RecAt u b6 80 ((rnds W s t).map wv))
    (fun p _ => (64 - p.2.2.2.2.1).toNat) ?_ _ _ ⟨f14.trans1 f5, r14.fr f5 (fun h => h), r24.fr f5 (fun h => h), 0, by omega, rfl, r4.fr f5 (fun h => h)⟩
  rintro p u C ⟨hf, hr1, hr3, t, ht, rfl, hr⟩ hC _
  have hlen := rnds_len (ws := W) hs t
  have hKu := hK.fr hf (fun h => h)
  refine vIf_mk (fun hlt => ?_) (fun hge => ?_)
  · have hlt2 : (t : Int) < 64 := of_decide_eq_true hlt
    obtain ⟨v0, v1, v2, v3, v4, v5, v6, v7, hv⟩ := eight hlen
    rw [hv] at hr
    have rd : RecAt u.drew b6 80 ([v0, v1, v2, v3, v4, v5, v6, v7].map wv) := hr
    have rdd : RecAt u.drew.drew b6 80 ([v0, v1, v2, v3, v4, v5, v6, v7].map wv) := hr
    have rddd : RecAt u.drew.drew.drew b6 80 ([v0, v1, v2, v3, v4, v5, v6, v7].map wv) := hr
    have kdd : KAt u.drew.drew := hKu
    have k1 := kdd.lt
    have k6 := rdd.lt
    have k6d := rddd.lt
    have nK : nthV (W.map wv) ((t : Int).toNat * 1) = .int .u32 (W.getD t 0).toNat := by rw [Int.toNat_natCast, Nat.mul_one]; exact nth_wv (by omega)
    have kc : cellAt u.drew.drew 1 (0 + (t : Int).toNat * 1) = some (.int .u32 (KC.getD t 0).toNat) := by rw [Int.toNat_natCast, Nat.mul_one, Nat.zero_add]; exact kdd.get (by omega)
    refine gd_mk (decide_eq_true (Int.natCast_nonneg t)) (gd_mk (decide_eq_true hlt2) (gd_mk (decide_eq_true (by rw [Int.toNat_natCast]; simp; omega)) ?_))
    dsimp only
    rw [nK]
    refine ⟨_, rd.cell (o := 0) rfl, _, rd.cell (o := 4) rfl, _, rdd.cell (o := 7) rfl, _, rdd.cell (o := 5) rfl, _, rdd.cell (o := 6) rfl, gd_mk (decide_eq_true (Int.natCast_nonneg t)) (gd_mk (decide_eq_true hlt2) ⟨_, kc, ?_⟩)⟩
    refine (turn_calls v4 6 (by omega) (by omega) _).mono ?_
    rintro e w' ⟨rfl, rfl⟩
    have rf := Fr.refl (fun _ => False) u.drew.drew
    have rfd := Fr.refl (fun _ => False) u.drew.drew.drew
    refine ⟨_, rfl, kp_mk rf k1 (fun h => h) (kp_mk rf k6 (fun h => h) (kp_mk rf k6 (fun h => h) (kp_mk rf k6 (fun h => h) ((turn_calls v4 11 (by omega) (by omega) _).mono ?_))))⟩
    rintro e w' ⟨rfl, rfl⟩
    refine ⟨_, rfl, kp_mk rf k1 (fun h => h) (kp_mk rf k6 (fun h => h) (kp_mk rf k6 (fun h => h) (kp_mk rf k6 (fun h => h) ((turn_calls v4 25 (by omega) (by omega) _).mono ?_))))⟩
    rintro e w' ⟨rfl, rfl⟩
    refine ⟨_, rfl, kp_mk rf k1 (fun h => h) (kp_mk rf k6 (fun h => h) (kp_mk rf k6 (fun h => h) (kp_mk rf k6 (fun h => h) ⟨_, rddd.cell (o := 1) rfl, _, rddd.cell (o := 2) rfl, _, rddd.cell (o := 1) rfl, _, rddd.cell (o := 2) rfl, (turn_calls v0 2 (by omega) (by omega) _).mono ?_⟩)))⟩
    rintro e w' ⟨rfl, rfl⟩
    refine ⟨_, rfl, kp_mk rfd k6d (fun h => h) (kp_mk rfd k6d (fun h => h) (kp_mk rfd k6d (fun h => h) (kp_mk rfd k6d (fun h => h) ((turn_calls v0 13 (by omega) (by omega) _).mono ?_))))⟩
    rintro e w' ⟨rfl, rfl⟩
    refine ⟨_, rfl, kp_mk rfd k6d (fun h => h) (kp_mk rfd k6d (fun h => h) (kp_mk rfd k6d (fun h => h) (kp_mk rfd k6d (fun h => h) ((turn_calls v0 22 (by omega) (by omega) _).mono ?_))))⟩
    rintro e w' ⟨rfl, rfl⟩
    refine ⟨_, rfl, kp_mk rfd k6d (fun h => h) (kp_mk rfd k6d (fun h => h) (kp_mk rfd k6d (fun h => h) (kp_mk rfd k6d (fun h => h) ⟨_, rddd.cell (o := 0) rfl, _, rddd.cell (o := 1) rfl, _, rddd.cell (o := 2) rfl, _, rddd.cell (o := 3) rfl, _, rddd.cell (o := 4) rfl, _, rddd.cell (o := 5) rfl, _, rddd.cell (o := 6) rfl, gd_mk rfl ?_⟩)))⟩
    simp only [w_xor, w_not, w_and, w_add]
    refine rddd.st_mk (o := 0) (by simp) (by intro v hv; simp only [List.mem_append, List.mem_singleton, List.not_mem_nil, or_false] at hv; rcases hv with rfl | rfl | rfl | rfl | rfl | rfl | rfl | rfl <;> rfl) (fun r f => jnC_mk (hC _ _ ⟨?_, ?_, ?_, t + 1, by omega, ?_, ?_⟩ ?_))
    · exact (hf.trans1 ((Fr.drew _ _).trans1 ((Fr.drew _ _).trans1 (Fr.drew _ _)))).trans f (fun _ _ h => h) (fun k hk h => by omega)
    · exact (show RecAt u.drew.drew.drew b1 _ _ from hr1).fr f (fun h => by omega)
    · exact (show RecAt u.drew.drew.drew b3 _ _ from hr3).fr f (fun h => by omega)
    · rw [i64_id (by omega) (by omega)]; rfl
    · rw [splice_whole (by simp)] at r
      show RecAt _ b6 _ ((rnd (rnds W s t) (KC.getD t 0) (W.getD t 0)).map wv)
      rw [hv]
      exact r
    · show (64 - IntKind.wrap .i64 ((t : Int) + 1)).toNat < (64 - (t : Int)).toNat
      rw [i64_id (by omega) (by omega)]; omega
  · have hge2 : ¬ (t : Int) < 64 := of_decide_eq_false hge
    have ht64 : t = 64 := by omega
    subst ht64
    clear hC
    generalize rnds W s 64 = V at hr hlen ⊢
    refine jnC_mk ?_
    refine loop_rule (fun p u => Fr (fun _ => False) w u ∧ RecAt u b3 80 Z80 ∧ RecAt u b6 80 (V.map wv) ∧ ∃ (i : Nat) (L : List UInt32), i ≤ 8 ∧ p = ((b1, 0), (b3, 0), (b6, 0), (i : Int), ()) ∧ RecAt u b1 80 (L.map wv) ∧ L.length = 8 ∧ ∀ j, j < 8 → L.getD j 0 = if j < i then s.getD j 0 + V.getD j 0 else s.getD j 0)
      (fun p _ => (8 - p.2.2.2.1).toNat) ?_ _ _ ⟨hf, hr3, hr, 0, s, by omega, rfl, hr1, hs, fun j _ => rfl⟩
    clear hf hr1 hr3 hr hKu
    rintro p u C ⟨hf, hr3, hr6, i, L, hi, rfl, hr1, hL, hLj⟩ hC _
    refine vIf_mk (fun hlt => ?_) (fun hge => ?_)
    · have hlt2 : (i : Int) < 8 := of_decide_eq_true hlt
      have rd1 : RecAt u.drew b1 80 (L.map wv) := hr1
      have rd6 : RecAt u.drew b6 80 (V.map wv) := hr6
      dsimp only
      simp only [Int.toNat_natCast, Nat.zero_add, Nat.mul_one]
      refine gd_mk (decide_eq_true (Int.natCast_nonneg i)) (gd_mk (decide_eq_true hlt2) ⟨_, rd1.cell (wget (by omega)), gd_mk (decide_eq_true (Int.natCast_nonneg i)) (gd_mk (decide_eq_true hlt2) ⟨_, rd6.cell (wget (by omega)), gd_mk (decide_eq_true (Int.natCast_nonneg i)) (gd_mk (decide_eq_true hlt2) ?_)⟩)⟩)
      rw [w_add]
      refine rd1.st_mk (by simp; omega) (wv_one [_]) (fun r f => jnC_mk (hC _ _ ⟨?_, ?_, ?_, i + 1, L.set i (L.getD i 0 + V.getD i 0), by omega, ?_, ?_, by simpa using hL, fun j hj => ?_⟩ ?_))
      · exact (hf.trans1 (Fr.drew _ _)).trans f (fun _ _ h => h) (fun k hk h => by omega)
      · exact (show RecAt u.drew b3 _ _ from hr3).fr f (fun h => by omega)
      · exact rd6.fr f (fun h => by omega)
      · rw [i64_id (by omega) (by omega)]; rfl
      · rw [← set_map (by omega)]; exact r
      · rw [List.getD_eq_getElem?_getD, List.getElem?_set]
        by_cases hij : i = j
        · subst hij
          rw [if_pos rfl, if_pos (by omega), if_pos (by omega), Option.getD_some, hLj i hj, if_neg (by omega)]
        · rw [if_neg hij, ← List.getD_eq_getElem?_getD, hLj j hj]
          by_cases hji : j < i
          · rw [if_pos hji, if_pos (by omega)]
          · rw [if_neg hji, if_neg (by omega)]
      · show (8 - IntKind.wrap .i64 ((i : Int) + 1)).toNat < (8 - (i : Int)).toNat
        rw [i64_id (by omega) (by omega)]; omega
    · have hge2 : ¬ (i : Int) < 8 := of_decide_eq_false hge
      have hi8 : i = 8 := by omega
      subst hi8
      have hfin : L = List.zipWith (· + ·) s V := by
        obtain ⟨l0, l1, l2, l3, l4, l5, l6, l7, rfl⟩ := eight hL
        obtain ⟨s0, s1, s2, s3, s4, s5, s6, s7, rfl⟩ := eight hs
        obtain ⟨v0, v1, v2, v3, v4, v5, v6, v7, rfl⟩ := eight hlen
        have e0 := hLj 0 (by omega); have e1 := hLj 1 (by omega); have e2 := hLj 2 (by omega); have e3 := hLj 3 (by omega)
        have e4 := hLj 4 (by omega); have e5 := hLj 5 (by omega); have e6 := hLj 6 (by omega); have e7 := hLj 7 (by omega)
        simp at e0 e1 e2 e3 e4 e5 e6 e7
        simp [e0, e1, e2, e3, e4, e5, e6, e7]
      rw [← hfin]
      have hl : (L.map wv).length = 8 := by simpa using hL
      refine ⟨_, hl, hr1.cells (o := 0) (fun j v hj => by simpa using hj), gd_mk (by simpa using hl) ?_⟩
      refine hr3.st_mk (o := 0) (by rw [hl, hZ]; omega) (wv_one _) (fun r f => ?_)
      rw [splice_whole (by rw [hl, hZ])] at r
      exact ⟨_, hl, r.cells (o := 0) (fun j v hj => by simpa using hj), rfl, hf.trans f (fun _ _ h => h) (fun k hk h => by omega)⟩
end Go.Proofs.YtmjdcgphahdhbaaDoor
