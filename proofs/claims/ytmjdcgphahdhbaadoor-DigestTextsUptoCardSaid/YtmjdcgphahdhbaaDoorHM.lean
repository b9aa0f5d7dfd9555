/- the document's SHA-256: turning, the message, the constants -/
import Derived.Test.YtmjdcgphahdhbaaDoorLShaX
namespace Go.Proofs.YtmjdcgphahdhbaaDoor
open Go.GV Go.RowKit
set_option linter.unusedVariables false
set_option linter.unusedSimpArgs false
theorem right_calls (a : UInt32) (n : Nat) (h0 : 0 < n) (hn : n < 32) (w : World) : Calls Tryd.prog 43 #[.int .u32 a.toNat, .int .u64 n] w fun e w' => e = .returned (.int .u32 (rotr a (UInt32.ofNat n)).toNat) ∧ w' = w := by
  refine (F43.of a.toNat n w (Q := fun v w' => v = .int .u32 (rotr a (UInt32.ofNat n)).toNat ∧ w' = w) ?_).mono (fun e w' ⟨v, he, hv, h⟩ => ⟨by rw [he, hv], h⟩)
  have e3 : IntKind.wrap .u64 (32 - (n : Int)) = ((32 - n : Nat) : Int) := by rw [IntKind.wrap_u64]; omega
  unfold F43.vc
  rw [e3]
  refine gd_mk (decide_eq_true (Int.natCast_nonneg _)) (gd_mk (decide_eq_true (Int.natCast_nonneg _)) ⟨?_, rfl⟩)
  rw [Int.toNat_natCast, Int.toNat_natCast, Nat.min_eq_left (by omega), Nat.min_eq_left (by omega), w_shl a _ (by omega), w_shr a _ hn, w_or]
  have e4 : UInt32.ofNat (32 - n) = 32 - UInt32.ofNat n := by
    apply UInt32.toNat_inj.1
    rw [UInt32.toNat_sub]
    simp; omega
  rw [e4]; rfl
theorem message_calls (A : Option Addr) (n c : Nat) (l : List UInt8) (w : World) (h : Sl w 1 A n (l.map bv)) (hlen : l.length ≤ 70368744177664) :
    Calls Tryd.prog 42 #[.slice A n c] w fun e w' => ∃ A' n' c', e = .returned (.slice A' n' c') ∧ Fr (fun _ => False) w w' ∧ Row w' w.heap.size 5 1 A' n' c' ((l ++ padP l.length).map bv) := by
  refine (F42.of A n c w (Q := fun v w' => ∃ A' n' c', v = .slice A' n' c' ∧ Fr (fun _ => False) w w' ∧ Row w' w.heap.size 5 1 A' n' c' ((l ++ padP l.length).map bv)) ?_).mono (fun e w' ⟨v, he, A', n', c', hv, h⟩ => ⟨A', n', c', by rw [he, hv], h⟩)
  have hl : l.length = n := by simpa using h.1
  refine app_row (Row.nil w w.heap.size 5 1) h.src (bvs_one _) rfl (by omega) (by omega) (Nat.le_refl _) (fun A0 c0 w0 hr0 f0 => ?_)
  have f0' : Fr (fun _ => False) w w0 := f0.mono (fun k _ hk => by simp [blkOf] at hk)
  have hw0 := f0'.size
  rw [Nat.zero_add, List.nil_append] at hr0
  refine nw_mk ?_
  have fa : Fr (fun _ => False) w0 (w0.alloc (.cells ([Value.int .u8 128] ++ []).toArray 5)) := Fr.alloc _ _ _
  have hsrc : srcOf (w0.alloc (.cells ([Value.int .u8 128] ++ []).toArray 5)) 1 (.slice (some ⟨w0.heap.size, 0, none⟩) 1 1) 1 [bv 128] := one_row (c := 128)
  have hs1 : (w0.alloc (.cells ([Value.int .u8 128] ++ []).toArray 5)).heap.size = w0.heap.size + 1 := alloc_size _ _
  generalize w0.alloc (.cells ([Value.int .u8 128] ++ []).toArray 5) = w1 at fa hsrc hs1 ⊢
  have f01 : Fr (fun _ => False) w w1 := f0'.trans1 fa
  rw [Nat.zero_add]
  refine app_row (fa.row hr0 (fun _ _ h => h)) hsrc (bvs_one [128]) rfl (by omega) (by omega) (by omega) (fun A2 c2 w2 hr2 f2 => jnC_mk ?_)
  have f02 : Fr (fun _ => False) w w2 := f01.trans f2 (fun _ _ h => h) (fun q hq h => by have := (hr0.blt h).1; omega)
  refine loop_rule (fun s u => Fr (fun _ => False) w u ∧ ∃ (k : Nat) (A3 : Option Addr) (c3 : Nat), k ≤ (119 - l.length % 64) % 64 ∧ s = ((A, n, c), (A3, n + 1 + k, c3), ()) ∧ Row u w.heap.size 5 1 A3 (n + 1 + k) c3 ((l ++ [128] ++ List.replicate k 0).map bv))
    (fun s _ => n + 1 + (119 - l.length % 64) % 64 - s.2.1.2.1) ?_ _ _ ⟨f02, 0, A2, c2, Nat.zero_le _, rfl, by simpa using hr2⟩
  rintro s u C ⟨hf, k, A3, c3, hk, rfl, hr3⟩ hC _
  have hmod : Int.tmod ((n + 1 + k : Nat) : Int) 64 = (((n + 1 + k) % 64 : Nat) : Int) := tmod_nat _ 64
  refine vIf_mk (fun hne => ?_) (fun heq => ?_)
  · have hne2 : (n + 1 + k) % 64 ≠ 56 := by
      have : (Int.tmod ((n + 1 + k : Nat) : Int) 64 != 56) = true := hne
      rw [hmod] at this
      simp at this
      omega
    refine nw_mk ?_
    have fb : Fr (fun _ => False) u (u.alloc (.cells ([Value.int .u8 0] ++ []).toArray 5)) := Fr.alloc _ _ _
    have hsrc2 : srcOf (u.alloc (.cells ([Value.int .u8 0] ++ []).toArray 5)) 1 (.slice (some ⟨u.heap.size, 0, none⟩) 1 1) 1 [bv 0] := one_row (c := 0)
    have hs3 : (u.alloc (.cells ([Value.int .u8 0] ++ []).toArray 5)).heap.size = u.heap.size + 1 := alloc_size _ _
    generalize u.alloc (.cells ([Value.int .u8 0] ++ []).toArray 5) = u1 at fb hsrc2 hs3 ⊢
    have hus := hf.size
    dsimp only
    refine app_row (fb.row hr3 (fun _ _ h => h)) hsrc2 (bvs_one [0]) rfl (by omega) (by omega) (by omega) (fun A4 c4 u2 hr4 f4 => jnC_mk (hC _ _ ⟨?_, k + 1, A4, c4, by omega, rfl, ?_⟩ ?_))
    · exact (hf.trans1 fb).trans f4 (fun _ _ h => h) (fun q hq h => by have := (hr3.blt h).1; omega)
    · have e : (l ++ [128] ++ List.replicate (k + 1) (0 : UInt8)).map bv = (l ++ [128] ++ List.replicate k 0).map bv ++ [bv 0] := by
        rw [List.replicate_succ', ← List.append_assoc, List.map_append]; rfl
      rw [e]; exact hr4
    · show n + 1 + _ - (n + 1 + k + 1) < n + 1 + _ - (n + 1 + k); omega
  · have heq2 : (n + 1 + k) % 64 = 56 := by
      have : (Int.tmod ((n + 1 + k : Nat) : Int) 64 != 56) = false := heq
      rw [hmod] at this
      simp at this
      omega
    have hkZ : k = (119 - l.length % 64) % 64 := by omega
    clear hC
    refine jnC_mk ?_
    have e8 : IntKind.wrap .u64 (IntKind.wrap .u64 ((n : Nat) : Int) * 8) = ((8 * l.length : Nat) : Int) := by
      rw [IntKind.wrap_u64, IntKind.wrap_u64]; omega
    dsimp only
    rw [e8]
    refine loop_rule (fun s u => Fr (fun _ => False) w u ∧ ∃ (j : Nat) (A4 : Option Addr) (c4 : Nat), j ≤ 8 ∧ s = ((A4, n + 1 + k + j, c4), ((8 * l.length : Nat) : Int), (7 - j : Int), ()) ∧ Row u w.heap.size 5 1 A4 (n + 1 + k + j) c4 ((l ++ [128] ++ List.replicate k 0 ++ (be64 (8 * l.length)).take j).map bv))
      (fun s _ => (s.2.2.1 + 1).toNat) ?_ _ _ ⟨hf, 0, A3, c3, by omega, rfl, by simpa using hr3⟩
    clear hf hr3
    rintro s u C ⟨hf, j, A4, c4, hj, rfl, hr4⟩ hC _
    refine vIf_mk (fun hge => ?_) (fun hlt => ?_)
    · have hge2 : (7 - j : Int) ≥ 0 := of_decide_eq_true hge
      have ej : IntKind.wrap .u64 (IntKind.wrap .i64 (8 * (7 - j : Int))) = ((56 - 8 * j : Nat) : Int) := by rw [i64_id (by omega) (by omega), IntKind.wrap_u64]; omega
      show gd (decide (0 ≤ IntKind.wrap .u64 (IntKind.wrap .i64 (8 * (7 - j : Int))))) _
      refine gd_mk (decide_eq_true (by rw [ej]; omega)) ?_
      dsimp only
      have eb : IntKind.wrap .u8 (Int.fdiv ((8 * l.length : Nat) : Int) (2 ^ min (IntKind.wrap .u64 (IntKind.wrap .i64 (8 * (7 - j : Int)))).toNat 64)) = ((UInt8.ofNat (8 * l.length / 2 ^ (56 - 8 * j))).toNat : Int) := by
        rw [ej, Int.toNat_natCast, Nat.min_eq_left (by omega)]
        have e2 : (2 : Int) ^ (56 - 8 * j) = ((2 ^ (56 - 8 * j) : Nat) : Int) := by simp
        rw [e2, Int.fdiv_eq_ediv_of_nonneg _ (Int.natCast_nonneg _), ← u8_of]; rfl
      rw [eb]
      refine nw_mk ?_
      have fb : Fr (fun _ => False) u (u.alloc (.cells ([Value.int .u8 (UInt8.ofNat (8 * l.length / 2 ^ (56 - 8 * j))).toNat] ++ []).toArray 5)) := Fr.alloc _ _ _
      have hsrc2 : srcOf (u.alloc (.cells ([Value.int .u8 (UInt8.ofNat (8 * l.length / 2 ^ (56 - 8 * j))).toNat] ++ []).toArray 5)) 1 (.slice (some ⟨u.heap.size, 0, none⟩) 1 1) 1 [bv (UInt8.ofNat (8 * l.length / 2 ^ (56 - 8 * j)))] := one_row
      have hs3 : (u.alloc (.cells ([Value.int .u8 (UInt8.ofNat (8 * l.length / 2 ^ (56 - 8 * j))).toNat] ++ []).toArray 5)).heap.size = u.heap.size + 1 := alloc_size _ _
      generalize u.alloc (.cells ([Value.int .u8 (UInt8.ofNat (8 * l.length / 2 ^ (56 - 8 * j))).toNat] ++ []).toArray 5) = u1 at fb hsrc2 hs3 ⊢
      have hus := hf.size
      refine app_row (fb.row hr4 (fun _ _ h => h)) hsrc2 (bvs_one [_]) rfl (by omega) (by omega) (by omega) (fun A5 c5 u2 hr5 f5 => jnC_mk (hC _ _ ⟨?_, j + 1, A5, c5, by omega, ?_, ?_⟩ ?_))
      · exact (hf.trans1 fb).trans f5 (fun _ _ h => h) (fun q hq h => by have := (hr4.blt h).1; omega)
      · rw [i64_id (by omega) (by omega), show (7 - j : Int) - 1 = (7 - ((j + 1 : Nat) : Int)) by omega]; rfl
      · rw [List.take_add_one, be64_get _ _ (by omega), Option.toList_some, ← List.append_assoc, List.map_append (l₂ := [_])]
        exact hr5
      · show (IntKind.wrap .i64 ((7 - j : Int) - 1) + 1).toNat < ((7 - j : Int) + 1).toNat
        rw [i64_id (by omega) (by omega)]; omega
    · have hlt2 : ¬ (7 - j : Int) ≥ 0 := of_decide_eq_false hlt
      have hj8 : j = 8 := by omega
      subst hj8
      refine ⟨A4, _, c4, rfl, hf, ?_⟩
      have e : l ++ padP l.length = l ++ [128] ++ List.replicate k 0 ++ (be64 (8 * l.length)).take 8 := by
        rw [List.take_of_length_le (by simp [be64]), padP, hkZ]; simp only [List.append_assoc]
      rw [e]
      exact hr4
theorem constants_calls (w : World) : Calls Tryd.prog 26 #[] w fun e w' => ∃ a b, e = .returned (.tuple #[.slice (some ⟨a, 0, none⟩) 64 64, .slice (some ⟨b, 0, none⟩) 8 8]) ∧ Fr (fun _ => False) w w' ∧ w.heap.size ≤ a ∧ a < b ∧ RecAt w' a 66 (KC.map wv) ∧ RecAt w' b 66 (firstP.map wv) := by
  refine (F26.of w (Q := fun v w' => ∃ a b, v = .tuple #[.slice (some ⟨a, 0, none⟩) 64 64, .slice (some ⟨b, 0, none⟩) 8 8] ∧ Fr (fun _ => False) w w' ∧ w.heap.size ≤ a ∧ a < b ∧ RecAt w' a 66 (KC.map wv) ∧ RecAt w' b 66 (firstP.map wv)) ?_).mono (fun e w' ⟨v, he, a, b, hv, h⟩ => ⟨a, b, by rw [he, hv], h⟩)
  show nw w (KC.map wv) 66 _
  refine nw_mk ?_
  have f1 : Fr (fun _ => False) w (w.alloc (.cells (KC.map wv).toArray 66)) := Fr.alloc _ _ _
  have r1 : RecAt (w.alloc (.cells (KC.map wv).toArray 66)) w.heap.size 66 (KC.map wv) := RecAt.new w _ _
  have hs1 : (w.alloc (.cells (KC.map wv).toArray 66)).heap.size = w.heap.size + 1 := alloc_size _ _
  generalize w.alloc (.cells (KC.map wv).toArray 66) = w1 at f1 r1 hs1 ⊢
  show nw w1 (firstP.map wv) 66 _
  refine nw_mk ?_
  have f2 : Fr (fun _ => False) w1 (w1.alloc (.cells (firstP.map wv).toArray 66)) := Fr.alloc _ _ _
  have r2 : RecAt (w1.alloc (.cells (firstP.map wv).toArray 66)) w1.heap.size 66 (firstP.map wv) := RecAt.new w1 _ _
  exact ⟨w.heap.size, w1.heap.size, rfl, f1.trans1 f2, Nat.le_refl _, by omega, r1.fr f2 (fun h => h), r2⟩
end Go.Proofs.YtmjdcgphahdhbaaDoor
