/- the document's SHA-256: the blocks, the sum -/
import Derived.Test.YtmjdcgphahdhbaaDoorHN
namespace Go.Proofs.YtmjdcgphahdhbaaDoor
open Go.GV Go.RowKit
set_option linter.unusedVariables false
set_option linter.unusedSimpArgs false
theorem fr_fresh {u0 u u' : World} {A : Option Addr} (f : Fr (fun _ => False) u0 u) (g : Fr (fun k => blkOf A = some k) u u') (h : ∀ k, blkOf A = some k → u0.heap.size ≤ k) : Fr (fun _ => False) u0 u' :=
  f.trans g (fun _ _ h => h) (fun k hk h' => by have := h k h'; omega)
theorem one_rowW {w : World} {x : UInt32} {e : TypeId} : srcOf (w.alloc (.cells #[.int .u32 x.toNat] e)) 1 (.slice (some ⟨w.heap.size, 0, none⟩) 1 1) 1 [wv x] :=
  (Row.new (sz := 1) (n := 1) (B := 0) (vs := [wv x]) (Nat.zero_le _) rfl).sl.src
theorem getD_part {M : List UInt8} {j k : Nat} (hk : k < 64) : ((M.drop (64 * j)).take 64).getD k 0 = M.getD (64 * j + k) 0 := by
  rw [List.getD_eq_getElem?_getD, List.getElem?_take, if_pos hk, List.getElem?_drop, ← List.getD_eq_getElem?_getD]
theorem bget {w : World} {B : Nat} {e : TypeId} {A : Option Addr} {n c : Nat} {L : List UInt8} (hr : Row w B e 1 A n c (L.map bv)) {i : Nat} (hi : i < n) : ∃ b o, A = some ⟨b, o, none⟩ ∧ cellAt w b (o + i * 1) = some (.int .u8 (L.getD i 0).toNat) := by
  have hl : L.length = n := by simpa using hr.len
  exact hr.sl.get hi (by rw [List.getElem?_map, List.getElem?_eq_getElem (by omega), List.getD_eq_getElem?_getD, List.getElem?_eq_getElem (by omega)]; rfl)
set_option maxHeartbeats 1000000 in
theorem blocks_calls (A : Option Addr) (n c : Nat) (l : List UInt8) (a h : Nat) (w : World) (hs : Sl w 1 A n (l.map bv)) (hlen : l.length ≤ 70368744177664) (ha : RecAt w a 66 (KC.map wv)) (hh : RecAt w h 66 (firstP.map wv)) (hah : a ≠ h) :
    Calls Tryd.prog 27 #[.slice A n c, .slice (some ⟨a, 0, none⟩) 64 64, .slice (some ⟨h, 0, none⟩) 8 8] w fun e w' => e = .returned (ofL ((shaP l).map bv)) ∧ Fr (fun k => k = h) w w' := by
  refine (F27.of A n c (some ⟨a, 0, none⟩) 64 64 (some ⟨h, 0, none⟩) 8 8 w (Q := fun v w' => v = ofL ((shaP l).map bv) ∧ Fr (fun k => k = h) w w') ?_).mono (fun e w' ⟨v, he, hv, h⟩ => ⟨by rw [he, hv], h⟩)
  have hZd : Z23.length = 32 := by decide +kernel
  have hZd2 : Z23 = List.replicate 32 (.int .u8 0) := by rfl
  have hal := ha.lt
  have hhl := hh.lt
  refine nw_mk ?_
  have f1 : Fr (fun _ => False) w (w.alloc (.cells Z23.toArray 23)) := Fr.alloc _ _ _
  have r1 : RecAt (w.alloc (.cells Z23.toArray 23)) w.heap.size 23 Z23 := RecAt.new w _ _
  have hs1 : (w.alloc (.cells Z23.toArray 23)).heap.size = w.heap.size + 1 := alloc_size _ _
  generalize w.alloc (.cells Z23.toArray 23) = w1 at f1 r1 hs1 ⊢
  generalize hb1 : w.heap.size = b1 at *
  refine (message_calls A n c l w1 (f1.sl hs (fun _ _ _ h => h)) hlen).mono ?_
  rintro e w2 ⟨A5, n5, c5, rfl, f2, hM⟩
  generalize hMM : l ++ padP l.length = M at hM
  have hMl : M.length = n5 := by simpa using hM.len
  have hM64 : M.length % 64 = 0 := by rw [← hMM, List.length_append, padP_len]; omega
  have hMb : M.length ≤ 70368744177792 := by rw [← hMM, List.length_append, padP_len]; omega
  have hfin : blocksN firstP M (M.length / 64) = shaS l := by rw [← hMM]; rfl
  have f12 := f1.trans1 f2
  refine ⟨_, _, _, rfl, jnC_mk ?_⟩
  refine loop_rule (fun s u => Fr (fun k => k = h) w u ∧ RecAt u b1 23 Z23 ∧ ∃ j : Nat, 64 * j ≤ M.length ∧ s = ((some ⟨a, 0, none⟩, 64, 64), (some ⟨h, 0, none⟩, 8, 8), (b1, 0), (A5, n5, c5), ((64 * j : Nat) : Int), ()) ∧ Row u w1.heap.size 5 1 A5 n5 c5 (M.map bv) ∧ RecAt u h 66 ((blocksN firstP M j).map wv))
    (fun s _ => (n5 - s.2.2.2.2.1).toNat) ?_ _ _ ⟨f12.mono (fun _ _ h => h.elim), r1.fr f2 (fun h => h), 0, by omega, rfl, hM, hh.fr f12 (fun h => h)⟩
  rintro s u0 C3 ⟨hf0, hr1, j, hj, rfl, hM0, hH⟩ hC3 _
  have hHl := blocksN_len j (s := firstP) (l := M) rfl
  have ha0 : RecAt u0 a 66 (KC.map wv) := ha.fr hf0 (fun h' => hah h')
  have hu0 := hf0.size
  have hA5 : ∀ k, blkOf A5 = some k → k ≠ h ∧ k ≠ b1 := fun k hk => by have := (hM.blt hk).1; omega
  refine vIf_mk (fun hlt => ?_) (fun hge => ?_)
  · have hlt2 : ((64 * j : Nat) : Int) < (n5 : Int) := of_decide_eq_true hlt
    refine jnC_mk ?_
    -- the sixteen words
    refine loop_rule (fun s u => Fr (fun _ => False) u0 u ∧ ∃ (t : Nat) (A9 : Option Addr) (c9 : Nat), t ≤ 16 ∧ s = ((some ⟨a, 0, none⟩, 64, 64), (some ⟨h, 0, none⟩, 8, 8), (b1, 0), (A5, n5, c5), ((64 * j : Nat) : Int), (A9, t, c9), (t : Int), ()) ∧ Row u u0.heap.size 66 1 A9 t c9 ((sched ((M.drop (64 * j)).take 64) t).map wv))
      (fun s _ => (16 - s.2.2.2.2.2.2.1).toNat) ?_ _ _ ⟨Fr.refl _ _, 0, none, 0, by omega, rfl, Row.nil _ _ _ _⟩
    rintro s u C7 ⟨hf, t, A9, c9, ht, rfl, hr9⟩ hC7 _
    have hus := hf.size
    have hMu := hf.row hM0 (fun _ _ h => h)
    refine vIf_mk (fun hlt => ?_) (fun hge => ?_)
    · have h16 : (t : Int) < 16 := of_decide_eq_true hlt
      have hMd : Row u.drew w1.heap.size 5 1 A5 n5 c5 (M.map bv) := (Fr.drew (fun _ => False) u).row hMu (fun _ _ h => h)
      have ix : IntKind.wrap .i64 (((64 * j : Nat) : Int) + IntKind.wrap .i64 (4 * (t : Int))) = ((64 * j + 4 * t : Nat) : Int) := by
        rw [i64_id (n := 4 * (t : Int)) (by omega) (by omega), i64_id (by omega) (by omega)]; omega
      have ix1 : ∀ i : Nat, i < 4 → IntKind.wrap .i64 (((64 * j + 4 * t : Nat) : Int) + (i : Int)) = ((64 * j + 4 * t + i : Nat) : Int) := fun i hi => by rw [i64_id (by omega) (by omega)]; omega
      have x1 := ix1 1 (by omega)
      have x2 := ix1 2 (by omega)
      have x3 := ix1 3 (by omega)
      simp only [Int.cast_ofNat_Int] at x1 x2 x3
      obtain ⟨g, o, hA, c0⟩ := bget hMd (i := 64 * j + 4 * t) (by omega)
      obtain ⟨g1, o1, hA1, c1⟩ := bget hMd (i := 64 * j + 4 * t + 1) (by omega)
      obtain ⟨g2, o2, hA2, c2⟩ := bget hMd (i := 64 * j + 4 * t + 2) (by omega)
      obtain ⟨g3, o3, hA3, c3⟩ := bget hMd (i := 64 * j + 4 * t + 3) (by omega)
      subst hA
      injection hA1 with hA1; injection hA1 with e1 e2; subst e1; subst e2
      injection hA2 with hA2; injection hA2 with e1 e2; subst e1; subst e2
      injection hA3 with hA3; injection hA3 with e1 e2; subst e1; subst e2
      dsimp only
      rw [ix, x1, x2, x3]
      simp only [Int.toNat_natCast]
      refine dr_mk (gd_mk (decide_eq_true (by omega)) (gd_mk (decide_eq_true (by omega)) ⟨_, c0, dr_mk (gd_mk (decide_eq_true (by omega)) (gd_mk (decide_eq_true (by omega)) ⟨_, c1, dr_mk (gd_mk (decide_eq_true (by omega)) (gd_mk (decide_eq_true (by omega)) ⟨_, c2, dr_mk (gd_mk (decide_eq_true (by omega)) (gd_mk (decide_eq_true (by omega)) ⟨_, c3, ?_⟩))⟩))⟩))⟩))
      dsimp only
      rw [wAt_sum]
      have hw : wAt ((M.drop (64 * j)).take 64) t = ((M.getD (64 * j + 4 * t) 0).toUInt32 <<< 24 ||| (M.getD (64 * j + 4 * t + 1) 0).toUInt32 <<< 16 ||| (M.getD (64 * j + 4 * t + 2) 0).toUInt32 <<< 8 ||| (M.getD (64 * j + 4 * t + 3) 0).toUInt32) := by
        unfold wAt
        rw [getD_part (by omega), getD_part (by omega), getD_part (by omega), getD_part (by omega)]
        rfl
      rw [← hw]
      refine nw_mk ?_
      have fa : Fr (fun _ => False) u (u.drew.alloc (.cells ([Value.int .u32 (wAt ((M.drop (64 * j)).take 64) t).toNat] ++ []).toArray 66)) := (Fr.drew _ _).trans1 (Fr.alloc _ _ _)
      have hsrc : srcOf (u.drew.alloc (.cells ([Value.int .u32 (wAt ((M.drop (64 * j)).take 64) t).toNat] ++ []).toArray 66)) 1 (.slice (some ⟨u.drew.heap.size, 0, none⟩) 1 1) 1 [wv (wAt ((M.drop (64 * j)).take 64) t)] := one_rowW
      have hsu : (u.drew.alloc (.cells ([Value.int .u32 (wAt ((M.drop (64 * j)).take 64) t).toNat] ++ []).toArray 66)).heap.size = u.heap.size + 1 := alloc_size _ _
      generalize u.drew.alloc (.cells ([Value.int .u32 (wAt ((M.drop (64 * j)).take 64) t).toNat] ++ []).toArray 66) = u1 at fa hsrc hsu ⊢
      refine app_row (fa.row hr9 (fun _ _ h => h)) hsrc (wv_one [_]) rfl (by omega) (by omega) (by omega) (fun A4 c4 u2 hr4 f4 => jnC_mk (hC7 _ _ ⟨?_, t + 1, A4, c4, by omega, ?_, ?_⟩ ?_))
      · exact fr_fresh (hf.trans1 fa) f4 (fun k hk => (hr9.blt hk).1)
      · rw [i64_id (by omega) (by omega)]; rfl
      · have e : (sched ((M.drop (64 * j)).take 64) (t + 1)).map wv = (sched ((M.drop (64 * j)).take 64) t).map wv ++ [wv (wAt ((M.drop (64 * j)).take 64) t)] := by
          simp only [sched]
          rw [if_pos (by omega), List.map_append]; rfl
        rw [e]; exact hr4
      · show (16 - IntKind.wrap .i64 ((t : Int) + 1)).toNat < (16 - (t : Int)).toNat
        rw [i64_id (by omega) (by omega)]; omega
    have hge2 : ¬ (t : Int) < 16 := of_decide_eq_false hge
    have ht16 : t = 16 := by omega
    subst ht16
    clear hC7 hMu hus
    refine jnC_mk ?_
    -- the other words
    refine loop_rule (fun s u => Fr (fun _ => False) u0 u ∧ ∃ (t : Nat) (A9 : Option Addr) (c9 : Nat), 16 ≤ t ∧ t ≤ 64 ∧ s = ((some ⟨a, 0, none⟩, 64, 64), (some ⟨h, 0, none⟩, 8, 8), (b1, 0), (A5, n5, c5), ((64 * j : Nat) : Int), (A9, t, c9), (t : Int), ()) ∧ Row u u0.heap.size 66 1 A9 t c9 ((sched ((M.drop (64 * j)).take 64) t).map wv))
      (fun s _ => (64 - s.2.2.2.2.2.2.1).toNat) ?_ _ _ ⟨hf, 16, A9, c9, by omega, by omega, rfl, hr9⟩
    clear hf hr9
    rintro s u C12 ⟨hf, t, A9, c9, ht1, ht, rfl, hr9⟩ hC12 _
    have hus := hf.size
    refine vIf_mk (fun hlt => ?_) (fun hge => ?_)
    · have h64 : (t : Int) < 64 := of_decide_eq_true hlt
      have ed : ∀ k : Nat, k ≤ 16 → 0 < k → IntKind.wrap .i64 ((t : Int) - k) = ((t - k : Nat) : Int) := fun k hk h0 => by rw [i64_id (by omega) (by omega)]; omega
      have ed15 := ed 15 (by omega) (by omega)
      have ed2 := ed 2 (by omega) (by omega)
      have ed7 := ed 7 (by omega) (by omega)
      have ed16 := ed 16 (by omega) (by omega)
      simp only [Int.cast_ofNat_Int] at ed15 ed2 ed7 ed16
      dsimp only
      rw [ed15, ed2, ed7, ed16]
      simp only [Int.toNat_natCast, Nat.mul_one]
      obtain ⟨g, o, hA, _⟩ := row_get hr9 (i := t - 15) (by omega)
      subst hA
      have hgu : g < u.heap.size := (hr9.blt rfl).2
      have cell : ∀ (u2 : World), Fr (fun _ => False) u u2 → ∀ k, 0 < k → k ≤ 16 → cellAt u2 g (o + (t - k)) = some (.int .u32 ((sched ((M.drop (64 * j)).take 64) t).getD (t - k) 0).toNat) := fun u2 fu k h0 hk => by
        obtain ⟨g', o', hA', hc'⟩ := row_get (fu.row hr9 (fun _ _ h => h)) (i := t - k) (by omega)
        cases hA'
        exact hc'
      have fd : Fr (fun _ => False) u u.drew := Fr.drew _ _
      have fdd : Fr (fun _ => False) u u.drew.drew := fd.trans1 (Fr.drew _ _)
      have fddd : Fr (fun _ => False) u u.drew.drew.drew := fdd.trans1 (Fr.drew _ _)
      have g0 : decide (0 ≤ ((t - 15 : Nat) : Int)) = true := decide_eq_true (by omega)
      have g1 : decide (((t - 15 : Nat) : Int) < (t : Int)) = true := decide_eq_true (by omega)
      have g0' : decide (0 ≤ ((t - 2 : Nat) : Int)) = true := decide_eq_true (by omega)
      have g1' : decide (((t - 2 : Nat) : Int) < (t : Int)) = true := decide_eq_true (by omega)
      have rf := Fr.refl (fun _ => False) u.drew
      have rfd := Fr.refl (fun _ => False) u.drew.drew
      refine dr_mk (gd_mk g0 (gd_mk g1 ⟨_, cell _ fd 15 (by omega) (by omega), dr_mk (gd_mk g0 (gd_mk g1 ⟨_, cell _ fd 15 (by omega) (by omega), dr_mk (gd_mk g0 (gd_mk g1 ⟨_, cell _ fd 15 (by omega) (by omega), ?_⟩))⟩))⟩))
      refine (right_calls _ 7 (by omega) (by omega) _).mono ?_
      rintro e w3 ⟨rfl, rfl⟩
      refine ⟨_, rfl, kp_mk rf hgu (fun h => h) (kp_mk rf hgu (fun h => h) ((right_calls _ 18 (by omega) (by omega) _).mono ?_))⟩
      rintro e w3 ⟨rfl, rfl⟩
      refine ⟨_, rfl, kp_mk rf hgu (fun h => h) (dr_mk (gd_mk g0' (gd_mk g1' ⟨_, cell _ fdd 2 (by omega) (by omega), dr_mk (gd_mk g0' (gd_mk g1' ⟨_, cell _ fdd 2 (by omega) (by omega), dr_mk (gd_mk g0' (gd_mk g1' ⟨_, cell _ fdd 2 (by omega) (by omega), ?_⟩))⟩))⟩)))⟩
      refine (right_calls _ 17 (by omega) (by omega) _).mono ?_
      rintro e w3 ⟨rfl, rfl⟩
      refine ⟨_, rfl, kp_mk rfd hgu (fun h => h) (kp_mk rfd hgu (fun h => h) ((right_calls _ 19 (by omega) (by omega) _).mono ?_))⟩
      rintro e w3 ⟨rfl, rfl⟩
      refine ⟨_, rfl, kp_mk rfd hgu (fun h => h) (dr_mk (gd_mk (decide_eq_true (by omega)) (gd_mk (decide_eq_true (by omega)) ⟨_, cell _ fdd 16 (by omega) (by omega), dr_mk (gd_mk (decide_eq_true (by omega)) (gd_mk (decide_eq_true (by omega)) ⟨_, cell _ fdd 7 (by omega) (by omega), ?_⟩))⟩)))⟩
      dsimp only
      rw [w_xor, w_shr _ 3 (by omega), w_xor, w_add, w_add, w_xor, w_shr _ 10 (by omega), w_xor, w_add]
      have hnx : wNext (sched ((M.drop (64 * j)).take 64) t) t = _ := rfl
      generalize hLL : sched ((M.drop (64 * j)).take 64) t = L at hnx
      have hval : (L.getD (t - 16) 0 + (rotr (L.getD (t - 15) 0) (UInt32.ofNat 7) ^^^ rotr (L.getD (t - 15) 0) (UInt32.ofNat 18) ^^^ L.getD (t - 15) 0 >>> UInt32.ofNat 3) + L.getD (t - 7) 0 + (rotr (L.getD (t - 2) 0) (UInt32.ofNat 17) ^^^ rotr (L.getD (t - 2) 0) (UInt32.ofNat 19) ^^^ L.getD (t - 2) 0 >>> UInt32.ofNat 10)) = wNext L t := by
        show L.getD (t - 16) 0 + sg0 (L.getD (t - 15) 0) + L.getD (t - 7) 0 + sg1 (L.getD (t - 2) 0) = sg1 (L.getD (t - 2) 0) + L.getD (t - 7) 0 + sg0 (L.getD (t - 15) 0) + L.getD (t - 16) 0
        ac_rfl
      rw [hval]
      refine nw_mk ?_
      have fa : Fr (fun _ => False) u (u.drew.drew.drew.alloc (.cells ([Value.int .u32 (wNext L t).toNat] ++ []).toArray 66)) := fddd.trans1 (Fr.alloc _ _ _)
      have hsrc : srcOf (u.drew.drew.drew.alloc (.cells ([Value.int .u32 (wNext L t).toNat] ++ []).toArray 66)) 1 (.slice (some ⟨u.drew.drew.drew.heap.size, 0, none⟩) 1 1) 1 [wv (wNext L t)] := one_rowW
      have hsu : (u.drew.drew.drew.alloc (.cells ([Value.int .u32 (wNext L t).toNat] ++ []).toArray 66)).heap.size = u.heap.size + 1 := alloc_size _ _
      generalize u.drew.drew.drew.alloc (.cells ([Value.int .u32 (wNext L t).toNat] ++ []).toArray 66) = u1 at fa hsrc hsu ⊢
      refine app_row (fa.row hr9 (fun _ _ h => h)) hsrc (wv_one [_]) rfl (by omega) (by omega) (by omega) (fun A4 c4 u2 hr4 f4 => jnC_mk (hC12 _ _ ⟨?_, t + 1, A4, c4, by omega, by omega, ?_, ?_⟩ ?_))
      · exact fr_fresh (hf.trans1 fa) f4 (fun k hk => (hr9.blt hk).1)
      · rw [i64_id (by omega) (by omega)]; rfl
      · have e : (sched ((M.drop (64 * j)).take 64) (t + 1)).map wv = (sched ((M.drop (64 * j)).take 64) t).map wv ++ [wv (wNext (sched ((M.drop (64 * j)).take 64) t) t)] := by
          simp only [sched]
          rw [if_neg (by omega), List.map_append]; rfl
        rw [e, hLL]
        rw [hLL] at hr4
        exact hr4
      · show (64 - IntKind.wrap .i64 ((t : Int) + 1)).toNat < (64 - (t : Int)).toNat
        rw [i64_id (by omega) (by omega)]; omega
    have hge2 : ¬ (t : Int) < 64 := of_decide_eq_false hge
    have ht64 : t = 64 := by omega
    subst ht64
    clear hC12
    have hW := sched_len ((M.drop (64 * j)).take 64) 64
    have hblk : blocksN firstP M (j + 1) = List.zipWith (· + ·) (blocksN firstP M j) (rnds (sched ((M.drop (64 * j)).take 64) 64) (blocksN firstP M j) 64) := by
      have := blocksN_append j firstP M [] 1 hj
      rw [List.append_nil, List.append_nil] at this
      exact this
    generalize sched ((M.drop (64 * j)).take 64) 64 = W at hr9 hW hblk
    generalize blocksN firstP M j = H at hH hHl hblk
    have hHu := hH.fr hf (fun h => h)
    have hslH : Sl u 1 (some ⟨h, 0, none⟩) 8 (H.map wv) := ⟨by simp [hHl], fun _ => ⟨_, 0, rfl, hHu.cells (o := 0) (fun q v hq => by simpa using hq)⟩⟩
    refine app_row (Row.nil u u0.heap.size 66 1) hslH.src (wv_one _) rfl (by omega) (by omega) hus (fun A15 c15 u1 hr15 f15 => jnC_mk ?_)
    have f15' : Fr (fun _ => False) u u1 := f15.mono (fun k _ hk => by simp [blkOf] at hk)
    rw [Nat.zero_add, List.nil_append] at hr15
    rw [Nat.zero_add]
    -- the rounds
    refine loop_rule (fun s u => Fr (fun _ => False) u0 u ∧ Row u u0.heap.size 66 1 A9 64 c9 (W.map wv) ∧ ∃ (t : Nat) (A15 : Option Addr) (c15 : Nat), t ≤ 64 ∧ s = ((some ⟨a, 0, none⟩, 64, 64), (some ⟨h, 0, none⟩, 8, 8), (b1, 0), (A5, n5, c5), ((64 * j : Nat) : Int), (A9, 64, c9), (A15, 8, c15), (t : Int), ()) ∧ Row u u0.heap.size 66 1 A15 8 c15 ((rnds W H t).map wv))
      (fun s _ => (64 - s.2.2.2.2.2.2.2.1).toNat) ?_ _ _ ⟨hf.trans1 f15', f15'.row hr9 (fun _ _ h => h), 0, A15, c15, by omega, rfl, hr15⟩
    clear hf hr9 hr15 hHu hslH hus f15 f15'
    rintro s u C19 ⟨hf, hr9, t, A15, c15, ht, rfl, hr15⟩ hC19 _
    have hus := hf.size
    have hVl := rnds_len (ws := W) hHl t
    refine vIf_mk (fun hlt => ?_) (fun hge => ?_)
    · have h64 : (t : Int) < 64 := of_decide_eq_true hlt
      obtain ⟨v0, v1, v2, v3, v4, v5, v6, v7, hv⟩ := eight hVl
      rw [hv] at hr15
      obtain ⟨g, o, hA, _⟩ := row_get hr15 (i := 0) (by omega)
      subst hA
      obtain ⟨gw, ow, hAw, _⟩ := row_get hr9 (i := t) (by omega)
      subst hAw
      have hgu : g < u.heap.size := (hr15.blt rfl).2
      have cv : ∀ (u2 : World), Fr (fun _ => False) u u2 → ∀ k, k < 8 → cellAt u2 g (o + k) = some (.int .u32 (([v0, v1, v2, v3, v4, v5, v6, v7] : List UInt32).getD k 0).toNat) := fun u2 fu k hk => by
        obtain ⟨g', o', hA', hc'⟩ := row_get (fu.row hr15 (fun _ _ h => h)) (i := k) hk
        cases hA'
        exact hc'
      have fd : Fr (fun _ => False) u u.drew := Fr.drew _ _
      have fdd : Fr (fun _ => False) u u.drew.drew := fd.trans1 (Fr.drew _ _)
      have f3 : Fr (fun _ => False) u u.drew.drew.drew := fdd.trans1 (Fr.drew _ _)
      have f4 : Fr (fun _ => False) u u.drew.drew.drew.drew := f3.trans1 (Fr.drew _ _)
      have f5 : Fr (fun _ => False) u u.drew.drew.drew.drew.drew := f4.trans1 (Fr.drew _ _)
      have rf1 := Fr.refl (fun _ => False) u.drew
      have rf4 := Fr.refl (fun _ => False) u.drew.drew.drew.drew
      have lt8 : ∀ k : Nat, k < 8 → decide ((k : Int) < ((8 : Nat) : Int)) = true := fun k hk => decide_eq_true (by omega)
      have ck : cellAt u.drew.drew.drew a (0 + (t : Int).toNat * 1) = some (.int .u32 (KC.getD t 0).toNat) := by
        rw [Int.toNat_natCast, Nat.mul_one, Nat.zero_add]
        exact ((ha0.fr hf (fun h => h)).fr f3 (fun h => h)).cell (wget (show t < KC.length by have : KC.length = 64 := rfl; omega))
      have cw : cellAt u.drew.drew.drew gw (ow + (t : Int).toNat * 1) = some (.int .u32 (W.getD t 0).toNat) := by
        rw [Int.toNat_natCast, Nat.mul_one]
        obtain ⟨g', o', hA', hc'⟩ := row_get (f3.row hr9 (fun _ _ h => h)) (i := t) (by omega)
        cases hA'
        exact hc'
      refine dr_mk (gd_mk (lt8 4 (by omega)) ⟨_, cv _ fd 4 (by omega), dr_mk (gd_mk (lt8 4 (by omega)) ⟨_, cv _ fd 4 (by omega), dr_mk (gd_mk (lt8 4 (by omega)) ⟨_, cv _ fd 4 (by omega), (right_calls v4 6 (by omega) (by omega) _).mono ?_⟩)⟩)⟩)
      rintro e w' ⟨rfl, rfl⟩
      refine ⟨_, rfl, kp_mk rf1 hgu (fun h => h) (kp_mk rf1 hgu (fun h => h) ((right_calls v4 11 (by omega) (by omega) _).mono ?_))⟩
      rintro e w' ⟨rfl, rfl⟩
      refine ⟨_, rfl, kp_mk rf1 hgu (fun h => h) ((right_calls v4 25 (by omega) (by omega) _).mono ?_)⟩
      rintro e w' ⟨rfl, rfl⟩
      refine ⟨_, rfl, dr_mk (gd_mk (lt8 4 (by omega)) ⟨_, cv _ fdd 4 (by omega), dr_mk (gd_mk (lt8 5 (by omega)) ⟨_, cv _ fdd 5 (by omega), dr_mk (gd_mk (lt8 4 (by omega)) ⟨_, cv _ fdd 4 (by omega), dr_mk (gd_mk (lt8 6 (by omega)) ⟨_, cv _ fdd 6 (by omega), dr_mk (gd_mk (lt8 7 (by omega)) ⟨_, cv _ f3 7 (by omega), ?_⟩)⟩)⟩)⟩)⟩)⟩
      refine dr_mk (gd_mk (decide_eq_true (by show (0 : Int) ≤ (t : Int); omega)) (gd_mk (decide_eq_true (by show (t : Int) < ((64 : Nat) : Int); omega)) ⟨_, ck, dr_mk (gd_mk (decide_eq_true (by show (0 : Int) ≤ (t : Int); omega)) (gd_mk (decide_eq_true (by show (t : Int) < ((64 : Nat) : Int); omega)) ⟨_, cw, ?_⟩))⟩))
      refine dr_mk (gd_mk (lt8 0 (by omega)) ⟨_, cv _ f4 0 (by omega), dr_mk (gd_mk (lt8 0 (by omega)) ⟨_, cv _ f4 0 (by omega), dr_mk (gd_mk (lt8 0 (by omega)) ⟨_, cv _ f4 0 (by omega), (right_calls v0 2 (by omega) (by omega) _).mono ?_⟩)⟩)⟩)
      rintro e w' ⟨rfl, rfl⟩
      refine ⟨_, rfl, kp_mk rf4 hgu (fun h => h) (kp_mk rf4 hgu (fun h => h) ((right_calls v0 13 (by omega) (by omega) _).mono ?_))⟩
      rintro e w' ⟨rfl, rfl⟩
      refine ⟨_, rfl, kp_mk rf4 hgu (fun h => h) ((right_calls v0 22 (by omega) (by omega) _).mono ?_)⟩
      rintro e w' ⟨rfl, rfl⟩
      refine ⟨_, rfl, dr_mk (gd_mk (lt8 0 (by omega)) ⟨_, cv _ f5 0 (by omega), dr_mk (gd_mk (lt8 1 (by omega)) ⟨_, cv _ f5 1 (by omega), dr_mk (gd_mk (lt8 0 (by omega)) ⟨_, cv _ f5 0 (by omega), dr_mk (gd_mk (lt8 2 (by omega)) ⟨_, cv _ f5 2 (by omega), dr_mk (gd_mk (lt8 1 (by omega)) ⟨_, cv _ f5 1 (by omega), dr_mk (gd_mk (lt8 2 (by omega)) ⟨_, cv _ f5 2 (by omega), ?_⟩)⟩)⟩)⟩)⟩)⟩)⟩
      dsimp only
      simp only [w_xor, w_not, w_and, w_add, List.getD_cons_succ, List.getD_cons_zero]
      have hrn : rnds W H (t + 1) = rnd [v0, v1, v2, v3, v4, v5, v6, v7] (KC.getD t 0) (W.getD t 0) := by
        show rnd (rnds W H t) _ _ = _
        rw [hv]
      have hrn2 : rnds W H (t + 1) = [(v7 + (rotr v4 (UInt32.ofNat 6) ^^^ rotr v4 (UInt32.ofNat 11) ^^^ rotr v4 (UInt32.ofNat 25)) + (v4 &&& v5 ^^^ ~~~v4 &&& v6) + KC.getD t 0 + W.getD t 0) + ((rotr v0 (UInt32.ofNat 2) ^^^ rotr v0 (UInt32.ofNat 13) ^^^ rotr v0 (UInt32.ofNat 22)) + (v0 &&& v1 ^^^ v0 &&& v2 ^^^ v1 &&& v2)), v0, v1, v2, v3 + (v7 + (rotr v4 (UInt32.ofNat 6) ^^^ rotr v4 (UInt32.ofNat 11) ^^^ rotr v4 (UInt32.ofNat 25)) + (v4 &&& v5 ^^^ ~~~v4 &&& v6) + KC.getD t 0 + W.getD t 0), v4, v5, v6] := hrn
      rw [← UInt32.add_assoc] at hrn2
      generalize v7 + (rotr v4 (UInt32.ofNat 6) ^^^ rotr v4 (UInt32.ofNat 11) ^^^ rotr v4 (UInt32.ofNat 25)) + (v4 &&& v5 ^^^ ~~~v4 &&& v6) + KC.getD t 0 + W.getD t 0 = T1 at hrn2 ⊢
      generalize T1 + (rotr v0 (UInt32.ofNat 2) ^^^ rotr v0 (UInt32.ofNat 13) ^^^ rotr v0 (UInt32.ofNat 22)) + (v0 &&& v1 ^^^ v0 &&& v2 ^^^ v1 &&& v2) = X at hrn2 ⊢
      refine nw_mk ?_
      have fa : Fr (fun _ => False) u (u.drew.drew.drew.drew.drew.alloc (.cells ([Value.int .u32 X.toNat] ++ []).toArray 66)) := f5.trans1 (Fr.alloc _ _ _)
      have hrn1 : Row (u.drew.drew.drew.drew.drew.alloc (.cells ([Value.int .u32 X.toNat] ++ []).toArray 66)) u.heap.size 66 1 (some ⟨u.drew.drew.drew.drew.drew.heap.size, 0, none⟩) 1 1 [wv X] := Row.new (Nat.le_refl _) rfl
      have hsu : (u.drew.drew.drew.drew.drew.alloc (.cells ([Value.int .u32 X.toNat] ++ []).toArray 66)).heap.size = u.heap.size + 1 := alloc_size _ _
      generalize u.drew.drew.drew.drew.drew.alloc (.cells ([Value.int .u32 X.toNat] ++ []).toArray 66) = u1 at fa hrn1 hsu ⊢
      have hle15 := hr15.le
      refine gd_mk (decide_eq_true (by show (7 : Int) ≤ (c15 : Int); omega)) ?_
      have hs7 : Sl u1 1 (slA (some ⟨g, o, none⟩) c15 0 1) 7 ([v0, v1, v2, v3, v4, v5, v6].map wv) := Sl.take (c := c15) (fa.sl hr15.sl (fun _ _ _ h => h)) (by omega)
      refine app_row2 hrn1 hs7.src (wv_one _) rfl (by omega) (by omega) (by omega) (fun A4 c4 u2 hr4 f4 hb4 => ?_)
      obtain ⟨g4, o4, hA4, hc4⟩ := row_get (L := [X, v0, v1, v2, v3, v4, v5, v6]) hr4 (i := 4) (by omega)
      subst hA4
      refine dr_mk (gd_mk (by decide) ⟨_, hc4, ?_⟩)
      dsimp only
      have f02 : Fr (fun _ => False) u u2 := fr_fresh fa f4 (fun k hk => (hrn1.blt hk).1)
      have hgg : ∀ k, blkOf (some (⟨g4, o4, none⟩ : Addr)) = some k → u.heap.size ≤ k := fun k hk => (hr4.blt hk).1
      have hset := row_set (i := 4) (v := wv (v3 + T1)) (K := fun w158 => jnC C19 ((some ⟨a, 0, none⟩, 64, 64), (some ⟨h, 0, none⟩, 8, 8), (b1, 0), (A5, n5, c5), ((64 * j : Nat) : Int), (some ⟨gw, ow, none⟩, 64, c9), (some ⟨g4, o4, none⟩, 8, c4), IntKind.wrap .i64 ((t : Int) + 1), ()) w158) hr4 (by omega) rfl (fun u3 hr5 f5' => jnC_mk (hC19 _ _ ⟨?_, ?_, t + 1, some ⟨g4, o4, none⟩, c4, by omega, ?_, ?_⟩ ?_))
      · have hw : IntKind.wrap .u32 ((([X, v0, v1, v2, v3, v4, v5, v6] : List UInt32).getD 4 0).toNat + T1.toNat) = (((v3 + T1).toNat : Nat) : Int) := w_add v3 T1
        rw [hw]
        obtain hset := hset
        refine dr_mk (gd_mk (by decide) ?_)
        exact hset
      · exact hf.trans1 (fr_fresh f02 f5' hgg)
      · exact (fr_fresh f02 f5' hgg).row hr9 (fun _ _ h => h)
      · rw [i64_id (by omega) (by omega)]; rfl
      · have hr5' := hr5
        rw [hrn2]
        exact ⟨hr5'.len, hr5'.le, by
          rcases hr5'.at_ with h' | ⟨b', cs', q1, q2, q3⟩
          · exact .inl h'
          · exact .inr ⟨b', cs', q1, by omega, q3⟩⟩
      · show (64 - IntKind.wrap .i64 ((t : Int) + 1)).toNat < (64 - (t : Int)).toNat
        rw [i64_id (by omega) (by omega)]; omega
    have hge2 : ¬ (t : Int) < 64 := of_decide_eq_false hge
    have ht64 : t = 64 := by omega
    subst ht64
    clear hC19
    generalize rnds W H 64 = V at hr15 hVl hblk
    refine jnC_mk ?_
    -- the sums
    refine loop_rule (fun s u' => Fr (fun k => k = h) u u' ∧ ∃ (i : Nat) (L : List UInt32), i ≤ 8 ∧ s = ((some ⟨a, 0, none⟩, 64, 64), (some ⟨h, 0, none⟩, 8, 8), (b1, 0), (A5, n5, c5), ((64 * j : Nat) : Int), (A15, 8, c15), (i : Int), ()) ∧ RecAt u' h 66 (L.map wv) ∧ L.length = 8 ∧ ∀ k, k < 8 → L.getD k 0 = if k < i then H.getD k 0 + V.getD k 0 else H.getD k 0)
      (fun s _ => (8 - s.2.2.2.2.2.2.1).toNat) ?_ _ _ ⟨Fr.refl _ _, 0, H, by omega, rfl, hH.fr hf (fun h => h), hHl, fun k _ => rfl⟩
    rintro s u' C31 ⟨hfu, i, L, hi, rfl, hrL, hL, hLj⟩ hC31 _
    refine vIf_mk (fun hlt => ?_) (fun hge => ?_)
    · have hlt2 : (i : Int) < 8 := of_decide_eq_true hlt
      have hrLd : RecAt u'.drew h 66 (L.map wv) := hrL
      have hA15 : ∀ k, blkOf A15 = some k → k ≠ h := fun k hk => by have := (hr15.blt hk).1; omega
      obtain ⟨g, o, hA, cg⟩ := row_get ((hfu.trans1 (Fr.drew _ _)).row hr15 (fun k hk => hA15 k hk)) (i := i) (by omega)
      subst hA
      have ch : cellAt u'.drew h (0 + (i : Int).toNat * 1) = some (.int .u32 (L.getD i 0).toNat) := by rw [Int.toNat_natCast, Nat.mul_one, Nat.zero_add]; exact hrLd.cell (wget (by omega))
      have cg' : cellAt u'.drew g (o + (i : Int).toNat * 1) = some (.int .u32 (V.getD i 0).toNat) := by rw [Int.toNat_natCast, Nat.mul_one]; exact cg
      have d0 : decide (0 ≤ (i : Int)) = true := decide_eq_true (by omega)
      have d8 : decide ((i : Int) < ((8 : Nat) : Int)) = true := decide_eq_true (by omega)
      refine dr_mk (gd_mk d0 (gd_mk d8 ⟨_, ch, dr_mk (gd_mk d0 (gd_mk d8 ⟨_, cg', dr_mk (gd_mk d0 (gd_mk d8 ?_))⟩))⟩))
      rw [w_add, Int.toNat_natCast, Nat.mul_one, Nat.zero_add]
      refine hrLd.st_mk (by simp; omega) (wv_one [_]) (fun r f => jnC_mk (hC31 _ _ ⟨(hfu.trans1 (Fr.drew _ _)).trans1 f, i + 1, L.set i (L.getD i 0 + V.getD i 0), by omega, ?_, ?_, by simpa using hL, fun k hk => ?_⟩ ?_))
      · show (_, _, _, _, _, _, IntKind.wrap .i64 ((i : Int) + 1), ()) = _
        rw [i64_id (by omega) (by omega)]; rfl
      · rw [← set_map (by omega)]; exact r
      · rw [List.getD_eq_getElem?_getD, List.getElem?_set]
        by_cases hij : i = k
        · subst hij
          rw [if_pos rfl, if_pos (by omega), if_pos (by omega), Option.getD_some, hLj i hk, if_neg (by omega)]
        · rw [if_neg hij, ← List.getD_eq_getElem?_getD, hLj k hk]
          by_cases hji : k < i
          · rw [if_pos hji, if_pos (by omega)]
          · rw [if_neg hji, if_neg (by omega)]
      · show (8 - IntKind.wrap .i64 ((i : Int) + 1)).toNat < (8 - (i : Int)).toNat
        rw [i64_id (by omega) (by omega)]; omega
    · have hge2 : ¬ (i : Int) < 8 := of_decide_eq_false hge
      have hi8 : i = 8 := by omega
      subst hi8
      have hfin2 : L = List.zipWith (· + ·) H V := by
        obtain ⟨l0, l1, l2, l3, l4, l5, l6, l7, rfl⟩ := eight hL
        obtain ⟨s0, s1, s2, s3, s4, s5, s6, s7, rfl⟩ := eight hHl
        obtain ⟨v0, v1, v2, v3, v4, v5, v6, v7, rfl⟩ := eight hVl
        have e0 := hLj 0 (by omega); have e1 := hLj 1 (by omega); have e2 := hLj 2 (by omega); have e3 := hLj 3 (by omega)
        have e4 := hLj 4 (by omega); have e5 := hLj 5 (by omega); have e6 := hLj 6 (by omega); have e7 := hLj 7 (by omega)
        simp at e0 e1 e2 e3 e4 e5 e6 e7
        simp [e0, e1, e2, e3, e4, e5, e6, e7]
      have f0u : Fr (fun k => k = h) u0 u' := (hf.mono (fun _ _ h => h.elim)).trans1 hfu
      refine jnC_mk (hC3 _ _ ⟨hf0.trans1 f0u, hr1.fr f0u (fun h' => by omega), j + 1, by omega, ?_, f0u.row hM0 (fun k hk => (hA5 k hk).1), ?_⟩ ?_)
      · show (_, _, _, _, IntKind.wrap .i64 (((64 * j : Nat) : Int) + 64), ()) = _
        rw [i64_id (by omega) (by omega), show ((64 * j : Nat) : Int) + 64 = ((64 * (j + 1) : Nat) : Int) by omega]
      · rw [hblk, ← hfin2]; exact hrL
      · show ((n5 : Int) - IntKind.wrap .i64 (((64 * j : Nat) : Int) + 64)).toNat < ((n5 : Int) - ((64 * j : Nat) : Int)).toNat
        rw [i64_id (by omega) (by omega)]; omega
  · have hge2 : ¬ ((64 * j : Nat) : Int) < (n5 : Int) := of_decide_eq_false hge
    have hjM : j = M.length / 64 := by omega
    subst hjM
    rw [hfin] at hH hHl
    clear hC3
    unfold shaP
    generalize shaS l = T at hH hHl ⊢
    refine nw_mk ?_
    have fz : Fr (fun _ => False) u0 (u0.alloc (.cells Z23.toArray 23)) := Fr.alloc _ _ _
    have rz : RecAt (u0.alloc (.cells Z23.toArray 23)) u0.heap.size 23 Z23 := RecAt.new u0 _ _
    have hrz := hr1.fr fz (fun h => h)
    have hHz := hH.fr fz (fun h => h)
    have hb1u := hr1.lt
    have hhu := hH.lt
    generalize u0.alloc (.cells Z23.toArray 23) = uz at fz rz hrz hHz ⊢
    have hoT := outP_len T
    refine jnC_mk (loop_rule (fun s u => Fr (fun k => k = h) w u ∧ RecAt u b1 23 Z23 ∧ RecAt u h 66 (T.map wv) ∧ ∃ i : Nat, i ≤ 32 ∧ s = ((some ⟨h, 0, none⟩, 8, 8), (b1, 0), (u0.heap.size, 0), (i : Int), ()) ∧ RecAt u u0.heap.size 23 (((outP T).take i).map bv ++ List.replicate (32 - i) (.int .u8 0)))
      (fun s _ => (32 - s.2.2.2.1).toNat) ?_ _ _ ⟨hf0.trans fz (fun _ _ h => h) (fun _ _ h => h.elim), hrz, hHz, 0, by omega, rfl, by rw [hZd2] at rz; exact rz⟩)
    rintro s u C ⟨hf, hr1u, hHu, i, hi, rfl, hrd⟩ hC _
    have ho : ((outP T).take i).length = i := by rw [List.length_take, hoT, hHl]; omega
    refine vIf_mk (fun hlt => ?_) (fun hge => ?_)
    · have hlt2 : (i : Int) < 32 := of_decide_eq_true hlt
      have e4 : IntKind.wrap .i64 (Int.tdiv (i : Int) 4) = ((i / 4 : Nat) : Int) := by
        have : Int.tdiv (i : Int) 4 = ((i / 4 : Nat) : Int) := tdiv_nat i 4
        rw [this, i64_id (by omega) (by omega)]
      have e5 : IntKind.wrap .u64 (IntKind.wrap .i64 (24 - IntKind.wrap .i64 (8 * Int.tmod (i : Int) 4))) = ((24 - 8 * (i % 4) : Nat) : Int) := by
        have : Int.tmod (i : Int) 4 = ((i % 4 : Nat) : Int) := tmod_nat i 4
        rw [this, i64_id (n := 8 * ((i % 4 : Nat) : Int)) (by omega) (by omega), i64_id (by omega) (by omega), IntKind.wrap_u64]; omega
      dsimp only
      rw [e4, e5]
      simp only [Int.toNat_natCast, Nat.zero_add, Nat.mul_one]
      refine dr_mk (gd_mk (decide_eq_true (by omega)) (gd_mk (decide_eq_true (by omega)) ⟨_, hHu.cell (by rw [Nat.zero_add]; exact wget (by omega)), gd_mk (decide_eq_true (by omega)) (gd_mk (decide_eq_true (by omega)) (gd_mk (decide_eq_true hlt2) ?_))⟩))
      rw [Nat.min_eq_left (by omega), w_byte _ _ (by omega)]
      have hnext : (outP T)[i]? = some (UInt8.ofNat ((T.getD (i / 4) 0).toNat / 2 ^ (24 - 8 * (i % 4)))) := by
        obtain ⟨t0, t1, t2, t3, t4, t5, t6, t7, rfl⟩ := eight hHl
        have : ∀ q r, q < 8 → r < 4 → (outP [t0, t1, t2, t3, t4, t5, t6, t7])[4 * q + r]? = some (UInt8.ofNat ((([t0, t1, t2, t3, t4, t5, t6, t7] : List UInt32).getD q 0).toNat / 2 ^ (24 - 8 * r))) := by
          intro q r hq hr
          match q, r, hq, hr with
          | 0, 0, _, _ | 0, 1, _, _ | 0, 2, _, _ | 1, 0, _, _ | 1, 1, _, _ | 1, 2, _, _ | 2, 0, _, _ | 2, 1, _, _ | 2, 2, _, _ | 3, 0, _, _ | 3, 1, _, _ | 3, 2, _, _ | 4, 0, _, _ | 4, 1, _, _ | 4, 2, _, _ | 5, 0, _, _ | 5, 1, _, _ | 5, 2, _, _ | 6, 0, _, _ | 6, 1, _, _ | 6, 2, _, _ | 7, 0, _, _ | 7, 1, _, _ | 7, 2, _, _ => rfl
          | 0, 3, _, _ | 1, 3, _, _ | 2, 3, _, _ | 3, 3, _, _ | 4, 3, _, _ | 5, 3, _, _ | 6, 3, _, _ | 7, 3, _, _ => simp [outP]
        have h2 := this (i / 4) (i % 4) (by omega) (by omega)
        rwa [show 4 * (i / 4) + i % 4 = i by omega] at h2
      refine hrd.st_mk (by simp [ho]; omega) (bvs_one [_]) (fun r f => jnC_mk (hC _ _ ⟨?_, ?_, ?_, i + 1, by omega, ?_, ?_⟩ ?_))
      · exact hf.trans f (fun _ _ h => h) (fun k hk h' => by omega)
      · exact hr1u.fr f (fun h' => by omega)
      · exact hHu.fr f (fun h' => by omega)
      · rw [i64_id (by omega) (by omega)]; rfl
      · rw [List.take_add_one, hnext, Option.toList_some]
        rw [← bset_next ho (by omega)]; exact r
      · show (32 - IntKind.wrap .i64 ((i : Int) + 1)).toNat < (32 - (i : Int)).toNat
        rw [i64_id (by omega) (by omega)]; omega
    · have hge2 : ¬ (i : Int) < 32 := of_decide_eq_false hge
      have hi32 : i = 32 := by omega
      subst hi32
      rw [List.take_of_length_le (by omega)] at hrd
      have hl : ((outP T).map bv).length = 32 := by rw [List.length_map, hoT, hHl]
      have hrd' : RecAt u u0.heap.size 23 ((outP T).map bv) := by simpa using hrd
      refine ⟨_, hl, hrd'.cells (o := 0) (fun q v hq => by simpa using hq), gd_mk (by rw [hl]; rfl) ?_⟩
      refine hr1u.st_mk (o := 0) (by rw [hl, hZd]; omega) (bvs_one _) (fun r f => ?_)
      rw [splice_whole (by rw [hl, hZd])] at r
      exact ⟨_, hl, r.cells (o := 0) (fun q v hq => by simpa using hq), rfl, hf.trans f (fun _ _ h => h) (fun k hk h => by omega)⟩
theorem rsum_calls (A : Option Addr) (n c : Nat) (l : List UInt8) (w : World) (hs : Sl w 1 A n (l.map bv)) (hlen : l.length ≤ 70368744177664) :
    Calls Tryd.prog 13 #[.slice A n c] w fun e w' => e = .returned (ofL ((shaP l).map bv)) ∧ Fr (fun _ => False) w w' := by
  refine (F13.of A n c w (Q := fun v w' => v = ofL ((shaP l).map bv) ∧ Fr (fun _ => False) w w') ?_).mono (fun e w' ⟨v, he, hv, h⟩ => ⟨by rw [he, hv], h⟩)
  have hZd : Z23.length = 32 := by decide +kernel
  refine nw_mk ?_
  have f1 : Fr (fun _ => False) w (w.alloc (.cells Z23.toArray 23)) := Fr.alloc _ _ _
  have r1 : RecAt (w.alloc (.cells Z23.toArray 23)) w.heap.size 23 Z23 := RecAt.new w _ _
  have hs1 : (w.alloc (.cells Z23.toArray 23)).heap.size = w.heap.size + 1 := alloc_size _ _
  generalize w.alloc (.cells Z23.toArray 23) = w1 at f1 r1 hs1 ⊢
  refine (constants_calls w1).mono ?_
  rintro e w2 ⟨a, h, rfl, f2, ha, hah, hra, hrh⟩
  have f12 := f1.trans1 f2
  refine ⟨_, _, _, _, _, _, rfl, (blocks_calls A n c l a h w2 (f12.sl hs (fun _ _ _ h => h)) hlen hra hrh (by omega)).mono ?_⟩
  rintro e w3 ⟨rfl, f3⟩
  have f13 : Fr (fun _ => False) w w3 := f12.trans f3 (fun _ _ h => h) (fun k hk h => by omega)
  have hl : ((shaP l).map bv).length = 32 := by rw [List.length_map, shaP_len]
  refine ⟨_, rfl, gd_mk (by rw [hl]; rfl) (((r1.fr f2 (fun h => h)).fr f3 (fun h => by omega)).st_mk (o := 0) (by rw [hl, hZd]; omega) (bvs_one _) (fun r f => ?_))⟩
  rw [splice_whole (by rw [hl, hZd])] at r
  exact ⟨_, hl, r.cells (o := 0) (fun q v hq => by simpa using hq), rfl, f13.trans f (fun _ _ h => h) (fun k hk h => by omega)⟩
end Go.Proofs.YtmjdcgphahdhbaaDoor
