/- SHA-256 as the program does it: the sum. -/
import Derived.Test.YtmjdcgphahdhbaaDoorLShaV
namespace Go.Proofs.YtmjdcgphahdhbaaDoor
open Go.GV Go.RowKit
set_option linter.unusedVariables false
set_option linter.unusedSimpArgs false
theorem bset_next {l : List UInt8} {x : UInt8} {n t : Nat} (hl : l.length = t) (ht : t < n) : splice (l.map bv ++ List.replicate (n - t) (.int .u8 0)) t [bv x] = (l ++ [x]).map bv ++ List.replicate (n - (t + 1)) (.int .u8 0) := by
  unfold splice
  rw [List.take_append_of_le_length (by simp [hl]), List.take_of_length_le (by simp [hl]), List.drop_append, List.drop_eq_nil_of_le (by simp; omega), List.drop_replicate, List.map_append, List.nil_append]
  simp only [List.length_map, hl, List.length_cons, List.length_nil, List.map_cons, List.map_nil]
  congr 2
  omega
theorem outP_len : ∀ S : List UInt32, (outP S).length = 4 * S.length
  | [] => rfl
  | x :: r => by
    have := outP_len r
    simp only [outP, List.flatMap_cons, List.length_append, List.length_cons, List.length_nil] at this ⊢
    omega
theorem outP_take (S : List UInt32) (i : Nat) (h : i < S.length) : outP (S.take (i + 1)) = outP (S.take i) ++ [UInt8.ofNat ((S.getD i 0).toNat / 2 ^ 24)] ++ [UInt8.ofNat ((S.getD i 0).toNat / 2 ^ 16)] ++ [UInt8.ofNat ((S.getD i 0).toNat / 2 ^ 8)] ++ [UInt8.ofNat (S.getD i 0).toNat] := by
  rw [List.take_add_one, List.getElem?_eq_getElem h, List.getD_eq_getElem?_getD, List.getElem?_eq_getElem h]
  simp only [outP, Option.toList_some, List.flatMap_append, List.flatMap_cons, List.flatMap_nil, List.append_nil, List.append_assoc, Option.getD_some, List.cons_append, List.nil_append]
theorem w_byte (x : UInt32) (k : Nat) (hk : k < 32) : IntKind.wrap .u8 (Int.fdiv (x.toNat : Int) (2 ^ k)) = ((UInt8.ofNat (x.toNat / 2 ^ k)).toNat : Int) := by
  have e : (2 : Int) ^ k = ((2 ^ k : Nat) : Int) := by simp
  rw [e, Int.fdiv_eq_ediv_of_nonneg _ (Int.natCast_nonneg _), ← u8_of]; rfl
theorem hsum_calls (B p : Nat) (l : List UInt8) (ty : TypeId) (A : Option Addr) (n c : Nat) (w : World) (h : HashAt w B p l ty A n c) (hK : KAt w) (hlen : l.length ≤ 70368744177664) :
    Calls Tryd.prog 41 #[.pointer (some ⟨p, 0, none⟩)] w fun e w' => e = .returned (ofL ((shaP l).map bv)) ∧ Fr (fun _ => False) w w' := by
  refine (F41.of (some ⟨p, 0, none⟩) w (Q := fun v w' => v = ofL ((shaP l).map bv) ∧ Fr (fun _ => False) w w') ?_).mono (fun e w' ⟨v, he, hv, h⟩ => ⟨by rw [he, hv], h⟩)
  have hZd : Z23.length = 32 := by decide +kernel
  have hZd2 : Z23 = List.replicate 32 (.int .u8 0) := by rfl
  have hZs : Z80.length = 8 := by decide +kernel
  refine nw_mk (nw_mk (vIf_f rfl ?_))
  have f1 : Fr (fun _ => False) w (w.alloc (.cells Z23.toArray 23)) := Fr.alloc _ _ _
  have r1 : RecAt (w.alloc (.cells Z23.toArray 23)) w.heap.size 23 Z23 := RecAt.new w _ _
  have hs1 : (w.alloc (.cells Z23.toArray 23)).heap.size = w.heap.size + 1 := alloc_size _ _
  generalize w.alloc (.cells Z23.toArray 23) = w1 at f1 r1 hs1 ⊢
  have f2 : Fr (fun _ => False) w1 (w1.alloc (.cells Z23.toArray 23)) := Fr.alloc _ _ _
  have r2 : RecAt (w1.alloc (.cells Z23.toArray 23)) w1.heap.size 23 Z23 := RecAt.new w1 _ _
  have hs2 : (w1.alloc (.cells Z23.toArray 23)).heap.size = w1.heap.size + 1 := alloc_size _ _
  generalize w1.alloc (.cells Z23.toArray 23) = w2 at f2 r2 hs2 ⊢
  have hS := blocksN_len (l.length / 64) (s := firstP) (l := l) rfl
  have f12 := f1.trans1 f2
  have r12 := r1.fr f2 (fun h => h)
  have hd2 := h.hd.fr f12 (fun h => h)
  generalize hSS : blocksN firstP l (l.length / 64) = S at hS hd2
  refine dr_mk ⟨S.map wv, by simpa using hS, hd2.cells (o := 0) (fun j v hj => by rw [Nat.zero_add, List.getElem?_append_left (List.getElem?_eq_some_iff.1 hj).1]; exact hj), nw_mk (gd_mk (by simpa using hS) ?_)⟩
  have f3 : Fr (fun _ => False) w2 (w2.alloc (.cells Z80.toArray 80)) := Fr.alloc _ _ _
  have r3 : RecAt (w2.alloc (.cells Z80.toArray 80)) w2.heap.size 80 Z80 := RecAt.new w2 _ _
  have hs3 : (w2.alloc (.cells Z80.toArray 80)).heap.size = w2.heap.size + 1 := alloc_size _ _
  generalize w2.alloc (.cells Z80.toArray 80) = w3 at f3 r3 hs3 ⊢
  refine r3.st_mk (o := 0) (by simp [hS, hZs]) (wv_one _) (fun r4 f4 => ?_)
  rw [splice_whole (by simp [hS, hZs])] at r4
  have hs4 : (stB w3 w2.heap.size 0 (S.map wv)).heap.size = w3.heap.size := stB_size _ _ _ _
  generalize stB w3 w2.heap.size 0 (S.map wv) = w4 at r4 f4 hs4 ⊢
  have f14 : Fr (fun _ => False) w w4 := (f12.trans1 f3).trans f4 (fun _ _ h => h) (fun k hk h => by omega)
  have r14 := (r12.fr f3 (fun h => h)).fr f4 (fun h => by omega)
  have r24 := (r2.fr f3 (fun h => h)).fr f4 (fun h => by omega)
  have h4 : HashAt w4 B p l ty A n c := ⟨h.hd.fr f14 (fun h => h), f14.sl h.row (fun _ _ _ h => h), h.le, h.ne, h.low, h.bp⟩
  generalize hb1 : w.heap.size = b1 at *
  generalize hb3 : w1.heap.size = b3 at *
  generalize hb11 : w2.heap.size = b11 at *
  refine (end_calls B p l ty A n c w4 h4 hlen).mono ?_
  rintro e w5 ⟨A5, n5, c5, rfl, f5, hs5, hc5, hb5⟩
  refine ⟨_, _, _, rfl, jnC_mk ?_⟩
  have hblk5 : blkOf A5 ≠ some b11 := fun hk => by have := hb5 _ hk; omega
  generalize hM : l.drop (64 * (l.length / 64)) ++ padP l.length = M at hs5
  have hM64 : M.length % 64 = 0 := by
    rw [← hM, List.length_append, padP_len, List.length_drop]; omega
  have hfin : blocksN S M (M.length / 64) = shaS l := by
    unfold shaS
    have e1 : (l ++ padP l.length).length / 64 = l.length / 64 + M.length / 64 := by
      rw [← hM]
      simp only [List.length_append, List.length_drop, padP_len]
      omega
    rw [e1, blocksN_append _ _ _ _ _ (by omega), hSS, hM]
  refine loop_rule (fun s u => Fr (fun _ => False) w u ∧ RecAt u b1 23 Z23 ∧ RecAt u b3 23 Z23 ∧ ∃ (j : Nat) (A6 : Option Addr) (n6 c6 : Nat), 64 * j ≤ M.length ∧ s = ((b1, 0), (b3, 0), (b11, 0), (A6, n6, c6), ()) ∧ Sl u 1 A6 n6 ((M.drop (64 * j)).map bv) ∧ n6 ≤ c6 ∧ blkOf A6 ≠ some b11 ∧ RecAt u b11 80 ((blocksN S M j).map wv))
    (fun s _ => s.2.2.2.1.2.1) ?_ _ _ ⟨f14.trans1 f5, r14.fr f5 (fun h => h), r24.fr f5 (fun h => h), 0, A5, n5, c5, by omega, rfl, hs5, hc5, hblk5, r4.fr f5 (fun h => h)⟩
  rintro s u C ⟨hf, hr1, hr3, j, A6, n6, c6, hj, rfl, hs6, hc6, hne6, hr6⟩ hC _
  have hSj := blocksN_len j (s := S) (l := M) hS
  have hl6 : (M.drop (64 * j)).length = n6 := by simpa using hs6.1
  rw [List.length_drop] at hl6
  refine vIf_mk (fun hlt => ?_) (fun hge => ?_)
  · have hlt2 : (n6 : Int) > 0 := of_decide_eq_true hlt
    have hr6' : RecAt u.drew b11 80 _ := hr6
    refine ⟨(blocksN S M j).map wv, by simpa using hSj, hr6'.cells (o := 0) (fun q v hq => by simpa using hq), gd_mk (decide_eq_true (by show (64 : Int) ≤ (c6 : Nat); omega)) ?_⟩
    have ht : Sl u.drew 1 (slA A6 c6 0 1) 64 (((M.drop (64 * j)).take 64).map bv) := by rw [List.map_take]; exact Sl.take (show Sl u.drew 1 A6 n6 _ from hs6) (by omega)
    refine (block_calls (slA A6 c6 0 1) c6 _ _ u.drew ht (by omega) hSj (hK.fr (hf.trans1 (Fr.drew _ _)) (fun h => h))).mono ?_
    rintro e u2 ⟨rfl, g2⟩
    have g2' : Fr (fun _ => False) u u2 := (Fr.drew _ _).trans1 g2
    have hbl := blockP_len (s := blocksN S M j) (b := (M.drop (64 * j)).take 64) hSj
    refine ⟨_, rfl, gd_mk (by simpa using hbl) ?_⟩
    have hwl := hf.size
    refine (hr6.fr g2' (fun h => h)).st_mk (o := 0) (by simp [hSj, hbl]) (wv_one _) (fun r7 g7 => gd_mk (decide_eq_true (by show (64 : Int) ≤ (n6 : Nat); omega)) (jnC_mk (hC _ _ ⟨?_, ?_, ?_, j + 1, _, _, _, ?_, rfl, ?_, ?_, ?_, ?_⟩ ?_)))
    · exact (hf.trans1 g2').trans g7 (fun _ _ h => h) (fun k hk h => by omega)
    · exact (hr1.fr g2' (fun h => h)).fr g7 (fun h => by omega)
    · exact (hr3.fr g2' (fun h => h)).fr g7 (fun h => by omega)
    · omega
    · have := Sl.drop (c := c6) hs6 (k := 64) (by omega) hc6
      rw [← List.map_drop, List.drop_drop] at this
      have hthis := (g2'.sl this (fun _ _ _ h => h))
      exact g7.sl hthis (fun _ k hk h' => hne6 (by rw [slA_blk (n := 0)] at hk; rw [hk, h']))
    · show n6 - 64 ≤ c6 - 64; omega
    · rw [slA_blk (n := 0)]; exact hne6
    · rw [splice_whole (by simp [hSj, hbl])] at r7
      have : blocksN S M (j + 1) = blockP (blocksN S M j) ((M.drop (64 * j)).take 64) := by
        have := blocksN_append j S M [] 1 hj
        rw [List.append_nil, List.append_nil] at this
        exact this
      rw [this]
      exact r7
    · show n6 - 64 < n6; omega
  · have hge2 : ¬ (n6 : Int) > 0 := of_decide_eq_false hge
    have hjM : j = M.length / 64 := by omega
    subst hjM
    rw [hfin] at hr6 hSj
    clear hC
    unfold shaP
    generalize shaS l = T at hr6 hSj ⊢
    refine ⟨T.map wv, by simpa using hSj, hr6.cells (o := 0) (fun q v hq => by simpa using hq), jnC_mk ?_⟩
    refine loop_rule (fun s u => Fr (fun _ => False) w u ∧ RecAt u b1 23 Z23 ∧ ∃ i : Nat, i ≤ 8 ∧ s = ((b1, 0), (b3, 0), T.map wv, (i : Int), ()) ∧ RecAt u b3 23 ((outP (T.take i)).map bv ++ List.replicate (32 - 4 * i) (.int .u8 0)))
      (fun s _ => (8 - s.2.2.2.1).toNat) ?_ _ _ ⟨hf, hr1, 0, by omega, rfl, by rw [hZd2] at hr3; exact hr3⟩
    clear hf hr1 hr3 hr6 hs6
    rintro s u C ⟨hf, hr1, i, hi, rfl, hr3⟩ hC _
    have hwl := hf.size
    have ho := outP_len (T.take i)
    rw [List.length_take, hSj, Nat.min_eq_left hi] at ho
    refine vIf_mk (fun hlt => ?_) (fun hge => ?_)
    · have hlt2 : (i : Int) < 8 := of_decide_eq_true hlt
      have nT : nthV (T.map wv) ((i : Int).toNat * 1) = .int .u32 (T.getD i 0).toNat := by rw [Int.toNat_natCast, Nat.mul_one]; exact nth_wv (by omega)
      refine gd_mk (decide_eq_true (Int.natCast_nonneg i)) (gd_mk (decide_eq_true hlt2) (gd_mk (decide_eq_true (by rw [Int.toNat_natCast]; simp; omega)) ?_))
      dsimp only
      rw [nT]
      have e4 : IntKind.wrap .i64 (4 * (i : Int)) = ((4 * i : Nat) : Int) := by rw [i64_id (by omega) (by omega)]; omega
      have e5 : IntKind.wrap .i64 (((4 * i : Nat) : Int) + 1) = ((4 * i + 1 : Nat) : Int) := by rw [i64_id (by omega) (by omega)]; omega
      have e6 : IntKind.wrap .i64 (((4 * i : Nat) : Int) + 2) = ((4 * i + 2 : Nat) : Int) := by rw [i64_id (by omega) (by omega)]; omega
      have e7 : IntKind.wrap .i64 (((4 * i : Nat) : Int) + 3) = ((4 * i + 3 : Nat) : Int) := by rw [i64_id (by omega) (by omega)]; omega
      show gd (decide (0 ≤ IntKind.wrap .i64 (4 * (i : Int)))) _
      rw [e4, e5, e6, e7, w_byte _ 24 (by omega), w_byte _ 16 (by omega), w_byte _ 8 (by omega), u8_of]
      simp only [Int.toNat_natCast, Nat.zero_add, Nat.mul_one]
      have stp : ∀ (u1 : World) (L : List UInt8) (t : Nat) (x : UInt8) (K : World → Prop), RecAt u1 b3 23 (L.map bv ++ List.replicate (32 - t) (.int .u8 0)) → L.length = t → t < 32 → (∀ u2, RecAt u2 b3 23 ((L ++ [x]).map bv ++ List.replicate (32 - (t + 1)) (.int .u8 0)) → Fr (fun k => k = b3) u1 u2 → K u2) → st u1 b3 t [.int .u8 x.toNat] K := by
        intro u1 L t x K hr hL ht hK'
        refine hr.st_mk (by simp [hL]; omega) (bvs_one [x]) (fun r f => hK' _ ?_ f)
        rw [← bset_next hL ht]; exact r
      refine gd_mk (decide_eq_true (by omega)) (gd_mk (decide_eq_true (by omega)) (stp u _ _ _ _ hr3 ho (by omega) (fun u2 q2 g2 => gd_mk (decide_eq_true (by omega)) (gd_mk (decide_eq_true (by omega)) (stp u2 _ _ _ _ q2 (by simp [ho]) (by omega) (fun u3 q3 g3 => gd_mk (decide_eq_true (by omega)) (gd_mk (decide_eq_true (by omega)) (stp u3 _ _ _ _ q3 (by simp [ho]) (by omega) (fun u4 q4 g4 => gd_mk (decide_eq_true (by omega)) (gd_mk (decide_eq_true (by omega)) (stp u4 _ _ _ _ q4 (by simp [ho]) (by omega) (fun u5 q5 g5 => jnC_mk (hC _ _ ⟨?_, ?_, i + 1, by omega, ?_, ?_⟩ ?_)))))))))))))
      · have g25 := ((g2.trans1 g3).trans1 g4).trans1 g5
        exact hf.trans g25 (fun _ _ h => h) (fun k hk h => by omega)
      · have g25 := ((g2.trans1 g3).trans1 g4).trans1 g5
        exact hr1.fr g25 (fun h => by omega)
      · rw [i64_id (by omega) (by omega)]; rfl
      · rw [outP_take T i (by omega)]
        have e8 : 32 - (4 * i + 1 + 1 + 1 + 1) = 32 - 4 * (i + 1) := by omega
        rw [e8] at q5
        exact q5
      · show (8 - IntKind.wrap .i64 ((i : Int) + 1)).toNat < (8 - (i : Int)).toNat
        rw [i64_id (by omega) (by omega)]; omega
    · have hge2 : ¬ (i : Int) < 8 := of_decide_eq_false hge
      have hi8 : i = 8 := by omega
      subst hi8
      rw [List.take_of_length_le (by omega)] at hr3 ho
      have hl : ((outP T).map bv).length = 32 := by simpa using ho
      have hr3' : RecAt u b3 23 ((outP T).map bv) := by simpa using hr3
      refine ⟨_, hl, hr3'.cells (o := 0) (fun q v hq => by simpa using hq), gd_mk (by simpa using hl) ?_⟩
      refine hr1.st_mk (o := 0) (by rw [hl, hZd]; omega) (bvs_one _) (fun r f => ?_)
      rw [splice_whole (by rw [hl, hZd])] at r
      exact ⟨_, hl, r.cells (o := 0) (fun q v hq => by simpa using hq), rfl, hf.trans f (fun _ _ h => h) (fun k hk h => by omega)⟩
theorem shaP_len (l : List UInt8) : (shaP l).length = 32 := by unfold shaP; rw [outP_len, shaS_len]
/-- the sum of bytes -/
theorem sum_calls (A : Option Addr) (n c : Nat) (l : List UInt8) (w : World) (h : Sl w 1 A n (l.map bv)) (hK : KAt w) (hlen : l.length ≤ 70368744177664) :
    Calls Tryd.prog 25 #[.slice A n c] w fun e w' => e = .returned (ofL ((shaP l).map bv)) ∧ Fr (fun _ => False) w w' := by
  refine (F25.of A n c w (Q := fun v w' => v = ofL ((shaP l).map bv) ∧ Fr (fun _ => False) w w') ?_).mono (fun e w' ⟨v, he, hv, h⟩ => ⟨by rw [he, hv], h⟩)
  have hZd : Z23.length = 32 := by decide +kernel
  refine nw_mk ?_
  have f1 : Fr (fun _ => False) w (w.alloc (.cells Z23.toArray 23)) := Fr.alloc _ _ _
  have r1 : RecAt (w.alloc (.cells Z23.toArray 23)) w.heap.size 23 Z23 := RecAt.new w _ _
  have hs1 : (w.alloc (.cells Z23.toArray 23)).heap.size = w.heap.size + 1 := alloc_size _ _
  generalize w.alloc (.cells Z23.toArray 23) = w1 at f1 r1 hs1 ⊢
  refine (new_hash w1).mono ?_
  rintro e w2 ⟨p, ty, rfl, f2, hp, hH⟩
  have f12 := f1.trans1 f2
  have hKw := hK.lt
  have hApw : n ≠ 0 → blkOf A ≠ some p := fun hn0 hk => by
    have := h.blt (by omega) hn0 hk
    omega
  refine ⟨_, rfl, (write_calls w1.heap.size p [] ty none 0 0 A n c l w2 hH (f12.sl h (fun _ _ _ h => h)) hApw (hK.fr f12 (fun h => h)) (by omega) f2.size (by simpa using hlen)).mono ?_⟩
  rintro e w3 ⟨rfl, f3, A', n', c', hH3⟩
  have f13 : Fr (fun _ => False) w w3 := f12.trans f3 (fun _ _ h => h) (fun k hk h => by omega)
  rw [List.nil_append] at hH3
  refine ⟨rfl, (hsum_calls w1.heap.size p l ty A' n' c' w3 hH3 (hK.fr f13 (fun h => h)) hlen).mono ?_⟩
  rintro e w4 ⟨rfl, f4⟩
  have hl : ((shaP l).map bv).length = 32 := by rw [List.length_map, shaP_len]
  have r4 := ((r1.fr f2 (fun h => h)).fr f3 (fun h => by omega)).fr f4 (fun h => h)
  refine ⟨_, rfl, gd_mk (by rw [hl]; rfl) (r4.st_mk (o := 0) (by rw [hl, hZd]; omega) (bvs_one _) (fun r f => ?_))⟩
  rw [splice_whole (by rw [hl, hZd])] at r
  exact ⟨_, hl, r.cells (o := 0) (fun q v hq => by simpa using hq), rfl, (f13.trans1 f4).trans f (fun _ _ h => h) (fun k hk h => by omega)⟩
end Go.Proofs.YtmjdcgphahdhbaaDoor
