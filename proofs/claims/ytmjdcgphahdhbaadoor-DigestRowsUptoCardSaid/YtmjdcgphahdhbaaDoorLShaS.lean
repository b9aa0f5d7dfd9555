/- SHA-256 as the program does it: what each function answers. -/
import Derived.Test.YtmjdcgphahdhbaaDoorV
import Derived.Test.YtmjdcgphahdhbaaDoorG8
namespace Go.Proofs.YtmjdcgphahdhbaaDoor
open Go.GV Go.RowKit
set_option linter.unusedVariables false
set_option linter.unusedSimpArgs false
/-! ### words -/
def wv (a : UInt32) : Value := .int .u32 a.toNat
theorem wv_one (l : List UInt32) : ∀ v ∈ l.map wv, v.oneCell' = true := by
  intro v hv
  obtain ⟨b, _, rfl⟩ := List.mem_map.1 hv
  rfl
theorem bv32 (a : UInt32) : (BitVec.ofInt 32 (a.toNat : Int)) = a.toBitVec := by
  apply BitVec.eq_of_toNat_eq
  have := a.toNat_lt
  simp
theorem w_xor (a b : UInt32) : iXor .u32 (a.toNat : Int) (b.toNat : Int) = ((a ^^^ b).toNat : Int) := by
  unfold iXor
  show IntKind.wrap .u32 (((BitVec.ofInt 32 (a.toNat : Int) ^^^ BitVec.ofInt 32 (b.toNat : Int)).toNat : Nat) : Int) = _
  rw [bv32, bv32, ← UInt32.toBitVec_xor, UInt32.toNat_toBitVec, IntKind.wrap_u32]
  have := (a ^^^ b).toNat_lt
  omega
theorem w_and (a b : UInt32) : iAnd .u32 (a.toNat : Int) (b.toNat : Int) = ((a &&& b).toNat : Int) := by
  unfold iAnd
  show IntKind.wrap .u32 (((BitVec.ofInt 32 (a.toNat : Int) &&& BitVec.ofInt 32 (b.toNat : Int)).toNat : Nat) : Int) = _
  rw [bv32, bv32, ← UInt32.toBitVec_and, UInt32.toNat_toBitVec, IntKind.wrap_u32]
  have := (a &&& b).toNat_lt
  omega
theorem w_or (a b : UInt32) : iOr .u32 (a.toNat : Int) (b.toNat : Int) = ((a ||| b).toNat : Int) := by
  unfold iOr
  show IntKind.wrap .u32 (((BitVec.ofInt 32 (a.toNat : Int) ||| BitVec.ofInt 32 (b.toNat : Int)).toNat : Nat) : Int) = _
  rw [bv32, bv32, ← UInt32.toBitVec_or, UInt32.toNat_toBitVec, IntKind.wrap_u32]
  have := (a ||| b).toNat_lt
  omega
theorem w_not (a : UInt32) : iXor .u32 4294967295 (a.toNat : Int) = ((~~~a).toNat : Int) := by
  have h := w_xor (-1) a
  rw [show (((-1 : UInt32).toNat : Nat) : Int) = 4294967295 from rfl] at h
  rw [h, UInt32.neg_one_xor]
theorem w_add (a b : UInt32) : IntKind.wrap .u32 ((a.toNat : Int) + (b.toNat : Int)) = ((a + b).toNat : Int) := by
  rw [IntKind.wrap_u32, UInt32.toNat_add]; omega
theorem w_shr (a : UInt32) (k : Nat) (hk : k < 32) : Int.fdiv (a.toNat : Int) (2 ^ k) = ((a >>> UInt32.ofNat k).toNat : Int) := by
  have e : (2 : Int) ^ k = ((2 ^ k : Nat) : Int) := by simp
  rw [e, Int.fdiv_eq_ediv_of_nonneg _ (Int.natCast_nonneg _), UInt32.toNat_shiftRight, Nat.shiftRight_eq_div_pow]
  have : (UInt32.ofNat k).toNat % 32 = k := by simp; omega
  rw [this]; rfl
theorem w_shl (a : UInt32) (k : Nat) (hk : k < 32) : IntKind.wrap .u32 ((a.toNat : Int) * 2 ^ k) = ((a <<< UInt32.ofNat k).toNat : Int) := by
  have e : (2 : Int) ^ k = ((2 ^ k : Nat) : Int) := by simp
  rw [e, IntKind.wrap_u32, UInt32.toNat_shiftLeft, Nat.shiftLeft_eq]
  have : (UInt32.ofNat k).toNat % 32 = k := by simp; omega
  rw [this]; omega
def rotr (x n : UInt32) : UInt32 := x >>> n ||| x <<< (32 - n)
theorem turn_calls (a : UInt32) (n : Nat) (h0 : 0 < n) (hn : n < 32) (w : World) : Calls Tryd.prog 65 #[.int .u32 a.toNat, .int .i64 n] w fun e w' => e = .returned (.int .u32 (rotr a (UInt32.ofNat n)).toNat) ∧ w' = w := by
  refine (F65.of a.toNat n w (Q := fun v w' => v = .int .u32 (rotr a (UInt32.ofNat n)).toNat ∧ w' = w) ?_).mono (fun e w' ⟨v, he, hv, h⟩ => ⟨by rw [he, hv], h⟩)
  refine (F72.of a.toNat (IntKind.wrap .i64 (0 - (n : Int))) w (Q := fun v w' => v = .int .u32 (rotr a (UInt32.ofNat n)).toNat ∧ w' = w) ?_).mono ?_
  · have e1 : ∀ m : Fin 32, 0 < m.val → iAnd .u64 (IntKind.wrap .u64 (IntKind.wrap .i64 (0 - (m.val : Int)))) 31 = ((32 - m.val : Nat) : Int) := by decide +kernel
    have e2 := e1 ⟨n, hn⟩ h0
    simp only at e2
    unfold F72.vc
    rw [e2]
    have e3 : IntKind.wrap .u64 (32 - ((32 - n : Nat) : Int)) = (n : Int) := by rw [IntKind.wrap_u64]; omega
    rw [e3]
    refine gd_mk (decide_eq_true (Int.natCast_nonneg _)) (gd_mk (decide_eq_true (Int.natCast_nonneg _)) ⟨?_, rfl⟩)
    rw [Int.toNat_natCast, Int.toNat_natCast, Nat.min_eq_left (by omega), Nat.min_eq_left (by omega), w_shl a _ (by omega), w_shr a _ hn, w_or, UInt32.or_comm]
    have e4 : UInt32.ofNat (32 - n) = 32 - UInt32.ofNat n := by
      apply UInt32.toNat_inj.1
      rw [UInt32.toNat_sub]
      simp; omega
    rw [e4]; rfl
  · rintro e w' ⟨v, rfl, rfl, rfl⟩
    exact ⟨_, rfl, rfl, rfl⟩
/-! ### the words of a block -/
def sg0 (x : UInt32) : UInt32 := rotr x 7 ^^^ rotr x 18 ^^^ x >>> 3
def sg1 (y : UInt32) : UInt32 := rotr y 17 ^^^ rotr y 19 ^^^ y >>> 10
def wAt (b : List UInt8) (t : Nat) : UInt32 := (b.getD (4 * t) 0).toUInt32 <<< 24 ||| (b.getD (4 * t + 1) 0).toUInt32 <<< 16 ||| (b.getD (4 * t + 2) 0).toUInt32 <<< 8 ||| (b.getD (4 * t + 3) 0).toUInt32
def wNext (l : List UInt32) (t : Nat) : UInt32 := sg1 (l.getD (t - 2) 0) + l.getD (t - 7) 0 + sg0 (l.getD (t - 15) 0) + l.getD (t - 16) 0
def sched (b : List UInt8) : Nat → List UInt32
  | 0 => []
  | t + 1 => sched b t ++ [if t < 16 then wAt b t else wNext (sched b t) t]
theorem sched_len (b : List UInt8) : ∀ t, (sched b t).length = t
  | 0 => rfl
  | t + 1 => by simp [sched, sched_len b t]
theorem u8_32 (c : UInt8) : IntKind.wrap .u32 (c.toNat : Int) = (c.toUInt32.toNat : Int) := by
  rw [IntKind.wrap_u32]
  have := c.toNat_lt
  simp; omega
theorem zget {l : List UInt32} {n i : Nat} (h : i < l.length) (z : List Value) : (l.map wv ++ z)[i]? = some (wv (l.getD i 0)) := by
  rw [List.getElem?_append_left (by simpa using h), List.getElem?_map, List.getElem?_eq_getElem h, List.getD_eq_getElem?_getD, List.getElem?_eq_getElem h]; rfl
theorem set_next {l : List UInt32} {x : UInt32} {n t : Nat} (hl : l.length = t) (ht : t < n) : splice (l.map wv ++ List.replicate (n - t) (.int .u32 0)) t [wv x] = (l ++ [x]).map wv ++ List.replicate (n - (t + 1)) (.int .u32 0) := by
  unfold splice
  rw [List.take_append_of_le_length (by simp [hl]), List.take_of_length_le (by simp [hl]), List.drop_append, List.drop_eq_nil_of_le (by simp; omega), List.drop_replicate, List.map_append, List.nil_append]
  simp only [List.length_map, hl, List.length_cons, List.length_nil, List.map_cons, List.map_nil]
  congr 2
  omega
theorem words_calls (A : Option Addr) (c : Nat) (b : List UInt8) (w : World) (h : Sl w 1 A 64 (b.map bv)) (hc : 64 ≤ c) :
    Calls Tryd.prog 64 #[.slice A 64 c] w fun e w' => e = .returned (ofL ((sched b 64).map wv)) ∧ Fr (fun _ => False) w w' := by
  refine (F64.of A 64 c w (Q := fun v w' => v = ofL ((sched b 64).map wv) ∧ Fr (fun _ => False) w w') ?_).mono (fun e w' ⟨v, he, hv, h⟩ => ⟨by rw [he, hv], h⟩)
  obtain ⟨g, o, rfl, hcells⟩ := h.2 (by omega)
  have hbl : b.length = 64 := by simpa using h.1
  have hg := h.blt (by omega) (by omega) (b := g) rfl
  refine nw_mk (nw_mk (jnC_mk ?_))
  have f1 : Fr (fun _ => False) w (w.alloc (.cells Z97.toArray 97)) := Fr.alloc _ _ _
  have r1 : RecAt (w.alloc (.cells Z97.toArray 97)) w.heap.size 97 Z97 := RecAt.new w _ _
  have hs1 : (w.alloc (.cells Z97.toArray 97)).heap.size = w.heap.size + 1 := alloc_size _ _
  generalize w.alloc (.cells Z97.toArray 97) = w1 at f1 r1 hs1 ⊢
  have f2 : Fr (fun _ => False) w1 (w1.alloc (.cells Z97.toArray 97)) := Fr.alloc _ _ _
  have r2 : RecAt (w1.alloc (.cells Z97.toArray 97)) w1.heap.size 97 Z97 := RecAt.new w1 _ _
  have r12 := r1.fr f2 (fun h => h)
  have hs2 : (w1.alloc (.cells Z97.toArray 97)).heap.size = w1.heap.size + 1 := alloc_size _ _
  have f12 := f1.trans1 f2
  generalize w1.alloc (.cells Z97.toArray 97) = w2 at f2 r2 r12 hs2 f12 ⊢
  generalize hb1 : w.heap.size = b1 at *
  generalize hb3 : w1.heap.size = b3 at *
  refine loop_rule (fun s u => Fr (fun _ => False) w u ∧ RecAt u b1 97 Z97 ∧ ∃ t : Nat, t ≤ 64 ∧ s = ((some ⟨g, o, none⟩, 64, c), (b1, 0), (b3, 0), (t : Int), ()) ∧ RecAt u b3 97 ((sched b t).map wv ++ List.replicate (64 - t) (.int .u32 0)))
    (fun s _ => (64 - s.2.2.2.1).toNat) ?_ _ _ ⟨f12, r12, 0, by omega, rfl, r2⟩
  rintro s u C ⟨hf, hr1, t, ht, rfl, hr⟩ hC _
  have hcu := (hf.sl h (fun _ _ _ h => h)).2 (by omega)
  obtain ⟨g', o', hA, hcells'⟩ := hcu
  injection hA with hA
  injection hA with hA1 hA2
  subst hA1; subst hA2
  have hlen := sched_len b t
  refine vIf_mk (fun hlt => ?_) (fun hge => ?_)
  · have hlt2 : (t : Int) < 64 := of_decide_eq_true hlt
    -- the step that both ways end with
    have step : ∀ (u2 : World) (x : UInt32), Fr (fun _ => False) u u2 → x = (if t < 16 then wAt b t else wNext (sched b t) t) → gd (decide (0 ≤ (t : Int))) (gd (decide ((t : Int) < 64)) (st u2 b3 (0 + ((t : Int)).toNat * 1) [wv x] fun w17 => jnC C ((some ⟨g, o, none⟩, 64, c), (b1, 0), (b3, 0), (IntKind.wrap .i64 ((t : Int) + 1)), ()) w17)) := by
      intro u2 x fu hx
      subst hx
      refine gd_mk (decide_eq_true (Int.natCast_nonneg t)) (gd_mk (decide_eq_true hlt2) ?_)
      rw [Int.toNat_natCast, Nat.zero_add, Nat.mul_one]
      refine (hr.fr fu (fun h => h)).st_mk (by simp [hlen]; omega) (wv_one [_]) (fun r f => jnC_mk (hC _ _ ⟨?_, ?_, t + 1, by omega, ?_, ?_⟩ ?_))
      · exact (hf.trans1 fu).trans f (fun _ _ h => h) (fun k hk h => by omega)
      · exact (hr1.fr fu (fun h => h)).fr f (fun h => by omega)
      · rw [i64_id (by omega) (by omega)]; rfl
      · rw [set_next hlen (by omega)] at r
        exact r
      · show (64 - IntKind.wrap .i64 ((t : Int) + 1)).toNat < (64 - (t : Int)).toNat
        rw [i64_id (by omega) (by omega)]; omega
    refine vIf_mk (fun h16 => ?_) (fun h16 => ?_)
    · have h16 : (t : Int) < 16 := of_decide_eq_true h16
      have e4 : IntKind.wrap .i64 (4 * (t : Int)) = ((4 * t : Nat) : Int) := by rw [i64_id (by omega) (by omega)]; omega
      have e5 : IntKind.wrap .i64 (((4 * t : Nat) : Int) + 4) = ((4 * t + 4 : Nat) : Int) := by rw [i64_id (by omega) (by omega)]; omega
      dsimp only
      rw [e4, e5]
      simp only [Int.toNat_natCast]
      have hsl : slA (some ⟨g, o, none⟩) c (4 * t) 1 = some ⟨g, o + 4 * t, none⟩ := by
        unfold slA
        rw [if_neg (by omega), Nat.mul_one, Option.map_some, add_none]
      rw [hsl]
      have cell : ∀ j, j < 4 → cellAt u.drew g (o + 4 * t + j) = some (.int .u8 (b.getD (4 * t + j) 0).toNat) := fun j hj => by
        have := hcells' (4 * t + j) (bv (b.getD (4 * t + j) 0)) (by
          rw [List.getElem?_map, List.getElem?_eq_getElem (by omega), List.getD_eq_getElem?_getD, List.getElem?_eq_getElem (by omega)]; rfl)
        rw [← Nat.add_assoc] at this
        exact this
      refine gd_mk (decide_eq_true (by omega)) (gd_mk (decide_eq_true (by omega)) (gd_mk (decide_eq_true (by omega)) (gd_mk (decide_eq_true (by omega)) (dr_mk (gd_mk (decide_eq_true (by omega)) ⟨_, cell 0 (by omega), dr_mk (gd_mk (decide_eq_true (by omega)) ⟨_, cell 1 (by omega), dr_mk (gd_mk (decide_eq_true (by omega)) ⟨_, cell 2 (by omega), dr_mk (gd_mk (decide_eq_true (by omega)) ⟨_, cell 3 (by omega), ?_⟩)⟩)⟩)⟩)))))
      dsimp only
      rw [u8_32, u8_32, u8_32, u8_32, w_shl _ 24 (by omega), w_shl _ 16 (by omega), w_shl _ 8 (by omega), w_or, w_or, w_or]
      exact step u.drew _ (Fr.drew _ _) (by rw [if_pos (by omega)]; rfl)
    · have h16 : ¬ (t : Int) < 16 := of_decide_eq_false h16
      have ed : ∀ k : Nat, k ≤ 16 → 0 < k → IntKind.wrap .i64 ((t : Int) - k) = ((t - k : Nat) : Int) := fun k hk h0 => by rw [i64_id (by omega) (by omega)]; omega
      dsimp only
      have ed15 := ed 15 (by omega) (by omega)
      have ed2 := ed 2 (by omega) (by omega)
      have ed7 := ed 7 (by omega) (by omega)
      have ed16 := ed 16 (by omega) (by omega)
      simp only [Int.cast_ofNat_Int] at ed15 ed2 ed7 ed16
      rw [ed15, ed2, ed7, ed16]
      simp only [Int.toNat_natCast, Nat.zero_add, Nat.mul_one]
      have cell : ∀ (u2 : World), Fr (fun _ => False) u u2 → ∀ k, 0 < k → k ≤ 16 → cellAt u2 b3 (t - k) = some (.int .u32 ((sched b t).getD (t - k) 0).toNat) := fun u2 fu k h0 hk => (hr.fr fu (fun h => h)).cell (zget (n := 0) (by omega) _)
      have fd : Fr (fun _ => False) u u.drew := Fr.drew _ _
      refine gd_mk (decide_eq_true (by omega)) (gd_mk (decide_eq_true (by omega)) ⟨_, cell _ fd 15 (by omega) (by omega), gd_mk (decide_eq_true (by omega)) (gd_mk (decide_eq_true (by omega)) ⟨_, cell _ fd 2 (by omega) (by omega), ?_⟩)⟩)
      refine (turn_calls _ 7 (by omega) (by omega) _).mono ?_
      rintro e w3 ⟨rfl, rfl⟩
      refine ⟨_, rfl, (turn_calls _ 18 (by omega) (by omega) _).mono ?_⟩
      rintro e w3 ⟨rfl, rfl⟩
      refine ⟨_, rfl, (turn_calls _ 17 (by omega) (by omega) _).mono ?_⟩
      rintro e w3 ⟨rfl, rfl⟩
      refine ⟨_, rfl, (turn_calls _ 19 (by omega) (by omega) _).mono ?_⟩
      rintro e w3 ⟨rfl, rfl⟩
      have fdd : Fr (fun _ => False) u u.drew.drew := fd.trans1 (Fr.drew _ _)
      refine ⟨_, rfl, gd_mk (decide_eq_true (by omega)) (gd_mk (decide_eq_true (by omega)) ⟨_, cell _ fdd 7 (by omega) (by omega), gd_mk (decide_eq_true (by omega)) (gd_mk (decide_eq_true (by omega)) ⟨_, cell _ fdd 16 (by omega) (by omega), ?_⟩)⟩)⟩
      dsimp only
      rw [w_xor, w_shr _ 10 (by omega), w_xor, w_add, w_xor, w_shr _ 3 (by omega), w_xor, w_add, w_add]
      have := step u.drew.drew _ fdd (by rw [if_neg (by omega)])
      rw [Int.toNat_natCast, Nat.zero_add, Nat.mul_one] at this
      exact this
  · have hge2 : ¬ (t : Int) < 64 := of_decide_eq_false hge
    have ht64 : t = 64 := by omega
    subst ht64
    clear hC
    generalize sched b 64 = L at hr hlen ⊢
    have hl : (L.map wv).length = 64 := by rw [List.length_map, hlen]
    have hr' : RecAt u b3 97 (L.map wv) := by simpa using hr
    refine ⟨_, hl, hr'.cells (fun j v hj => by simpa using hj), gd_mk (by simpa using hl) ?_⟩
    have hZ : Z97.length = 64 := by decide +kernel
    refine hr1.st_mk (o := 0) (by rw [hl, hZ]; omega) (wv_one _) (fun r f => ?_)
    refine ⟨_, hl, ?_, rfl, hf.trans f (fun _ _ h => h) (fun k hk h => by omega)⟩
    refine RecAt.cells (o := 0) r (fun j v hj => ?_)
    have hjl := (List.getElem?_eq_some_iff.1 hj).1
    rw [splice_get (by rw [hl, hZ]; omega), if_neg (by omega), if_pos (by omega)]
    simpa using hj
end Go.Proofs.YtmjdcgphahdhbaaDoor
