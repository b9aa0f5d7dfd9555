/- SHA-256 as the program does it: the end of a message, the sum. -/
import Derived.Test.YtmjdcgphahdhbaaDoorLShaU
namespace Go.Proofs.YtmjdcgphahdhbaaDoor
open Go.GV Go.RowKit
set_option linter.unusedVariables false
set_option linter.unusedSimpArgs false
theorem be64_get (n j : Nat) (h : j < 8) : (be64 n)[j]? = some (UInt8.ofNat (n / 2 ^ (56 - 8 * j))) := by
  match j, h with
  | 0, _ => rfl
  | 1, _ => rfl
  | 2, _ => rfl
  | 3, _ => rfl
  | 4, _ => rfl
  | 5, _ => rfl
  | 6, _ => rfl
  | 7, _ => simp [be64]
theorem u8_of (n : Nat) : IntKind.wrap .u8 (n : Int) = ((UInt8.ofNat n).toNat : Int) := by
  rw [IntKind.wrap_u8]; simp
theorem one_row {w : World} {c : UInt8} {e : TypeId} : srcOf (w.alloc (.cells #[.int .u8 c.toNat] e)) 1 (.slice (some ⟨w.heap.size, 0, none⟩) 1 1) 1 [bv c] :=
  (Row.new (sz := 1) (n := 1) (B := 0) (vs := [bv c]) (Nat.zero_le _) rfl).sl.src
theorem end_calls (B p : Nat) (l : List UInt8) (ty : TypeId) (A : Option Addr) (n c : Nat) (w : World) (h : HashAt w B p l ty A n c) (hlen : l.length ≤ 70368744177664) :
    Calls Tryd.prog 52 #[.pointer (some ⟨p, 0, none⟩)] w fun e w' => ∃ A' n' c', e = .returned (.slice A' n' c') ∧ Fr (fun _ => False) w w' ∧ Sl w' 1 A' n' ((l.drop (64 * (l.length / 64)) ++ padP l.length).map bv) ∧ n' ≤ c' ∧ (∀ k, blkOf A' = some k → w.heap.size ≤ k) := by
  refine (F52.of (some ⟨p, 0, none⟩) w (Q := fun v w' => ∃ A' n' c', v = .slice A' n' c' ∧ Fr (fun _ => False) w w' ∧ Sl w' 1 A' n' ((l.drop (64 * (l.length / 64)) ++ padP l.length).map bv) ∧ n' ≤ c' ∧ (∀ k, blkOf A' = some k → w.heap.size ≤ k)) ?_).mono (fun e w' ⟨v, he, A', n', c', hv, h⟩ => ⟨A', n', c', by rw [he, hv], h⟩)
  have hS := blocksN_len (l.length / 64) (s := firstP) (l := l) rfl
  have hn := h.n
  have hle := h.le
  have hrec : RecAt w.drew p ty _ := h.hd
  have hpl := h.hd.lt
  generalize blocksN firstP l (l.length / 64) = S at hS hrec
  have hR := h.row
  generalize l.drop (64 * (l.length / 64)) = R at hR ⊢
  have hRl : R.length = n := by simpa using hR.1
  refine dr_mk ⟨_, _, _, hrec.cell (o := 0 + 8) (wvs_get hS 0), dr_mk ⟨_, _, _, hrec.cell (o := 0 + 8) (wvs_get hS 0), dr_mk ⟨_, _, _, hrec.cell (o := 0 + 8) (wvs_get hS 0), ?_⟩⟩⟩
  refine gd_mk (decide_eq_true (Int.natCast_nonneg n)) (gd_mk (decide_eq_true (by omega)) (gd_mk (decide_eq_true (Int.natCast_nonneg n)) (gd_mk (decide_eq_true (by rw [Int.toNat_natCast]; omega)) (nw_mk ?_))))
  rw [Int.toNat_natCast]
  have fa : Fr (fun _ => False) w.drew (w.drew.alloc (.cells ([Value.int .u8 128] ++ []).toArray 5)) := Fr.alloc _ _ _
  have hsrc : srcOf (w.drew.alloc (.cells ([Value.int .u8 128] ++ []).toArray 5)) 1 (.slice (some ⟨w.drew.heap.size, 0, none⟩) 1 1) 1 [bv 128] := one_row (c := 128)
  have hs1 : (w.drew.alloc (.cells ([Value.int .u8 128] ++ []).toArray 5)).heap.size = w.heap.size + 1 := alloc_size _ _
  generalize w.drew.alloc (.cells ([Value.int .u8 128] ++ []).toArray 5) = w1 at fa hsrc hs1 ⊢
  have f01 : Fr (fun _ => False) w w1 := (Fr.drew _ _).trans1 fa
  have hpd : p < w.drew.heap.size := hpl
  refine kp_mk fa hpd (fun h => h) (kp_mk fa hpd (fun h => h) (kp_mk fa hpd (fun h => h) ?_))
  have hs0 : Sl w1 1 (slA A n 0 1) n (R.map bv) := by
    have := Sl.take (c := n) (f01.sl hR (fun _ _ _ h => h)) (Nat.le_refl n)
    rwa [List.take_of_length_le (by simp [hRl])] at this
  refine app_full (B := w.heap.size) hs0 hsrc (bvs_one [128]) rfl (by omega) (by omega) (by omega) (fun h0 => absurd h0 (by omega)) (fun _ A2 c2 w2 hr2 f2 hb2 => jnC_mk ?_)
  have hZ : (119 - n % 64) % 64 = (119 - l.length % 64) % 64 := by omega
  refine loop_rule (fun s u => Fr (fun _ => False) w u ∧ ∃ (k : Nat) (A3 : Option Addr) (c3 : Nat), k ≤ (119 - l.length % 64) % 64 ∧ s = (some ⟨p, 0, none⟩, (A3, n + 1 + k, c3), ()) ∧ Row u w.heap.size 5 1 A3 (n + 1 + k) c3 ((R ++ [128] ++ List.replicate k 0).map bv))
    (fun s _ => n + 1 + (119 - l.length % 64) % 64 - s.2.1.2.1) ?_ _ _ ⟨f01.trans1 f2, 0, A2, c2, Nat.zero_le _, rfl, by simpa using hr2⟩
  rintro s u C ⟨hf, k, A3, c3, hk, rfl, hr3⟩ hC _
  have hmod : Int.tmod ((n + 1 + k : Nat) : Int) 64 = (((n + 1 + k) % 64 : Nat) : Int) := tmod_nat _ 64
  refine vIf_mk (fun hne => ?_) (fun heq => ?_)
  · have hne2 : (n + 1 + k) % 64 ≠ 56 := by
      have : (Int.tmod ((n + 1 + k : Nat) : Int) 64 != 56) = true := hne
      rw [hmod] at this
      simp at this
      omega
    refine nw_mk ?_
    have fb : Fr (fun _ => False) u (u.alloc (.cells ([Value.int .u8 0] ++ []).toArray 5)) := Fr.alloc _ _ _
    have hsrc2 : srcOf (u.alloc (.cells ([Value.int .u8 0] ++ []).toArray 5)) 1 (.slice (some ⟨u.heap.size, 0, none⟩) 1 1) 1 [bv 0] := one_row (c := 0)
    have hs3 : (u.alloc (.cells ([Value.int .u8 0] ++ []).toArray 5)).heap.size = u.heap.size + 1 := alloc_size _ _
    generalize u.alloc (.cells ([Value.int .u8 0] ++ []).toArray 5) = u1 at fb hsrc2 hs3 ⊢
    have hus := hf.size
    dsimp only
    refine app_row (fb.row hr3 (fun _ _ h => h)) hsrc2 (bvs_one [0]) rfl (by omega) (by omega) (by omega) (fun A4 c4 u2 hr4 f4 => jnC_mk (hC _ _ ⟨?_, k + 1, A4, c4, by omega, rfl, ?_⟩ ?_))
    · exact (hf.trans1 fb).trans f4 (fun _ _ h => h) (fun q hq h => by have := (hr3.blt h).1; omega)
    · have e : (R ++ [128] ++ List.replicate (k + 1) (0 : UInt8)).map bv = (R ++ [128] ++ List.replicate k 0).map bv ++ [bv 0] := by
        rw [List.replicate_succ', ← List.append_assoc, List.map_append]; rfl
      rw [e]; exact hr4
    · show n + 1 + _ - (n + 1 + k + 1) < n + 1 + _ - (n + 1 + k); omega
  · have heq2 : (n + 1 + k) % 64 = 56 := by
      have : (Int.tmod ((n + 1 + k : Nat) : Int) 64 != 56) = false := heq
      rw [hmod] at this
      simp at this
      omega
    have hkZ : k = (119 - l.length % 64) % 64 := by omega
    clear hC
    have hru : RecAt u p ty _ := hrec.fr (S := fun _ => False) (w := w.drew) (w' := u) ⟨hf.os, hf.tape, hf.output, hf.size, hf.block⟩ (fun h => h)
    refine dr_mk ⟨_, hru.cell (o := 0 + 9) (wvs_get hS 1), jnC_mk ?_⟩
    have e8 : IntKind.wrap .u64 (IntKind.wrap .u64 ((l.length : Nat) : Int) * 8) = ((8 * l.length : Nat) : Int) := by
      rw [IntKind.wrap_u64, IntKind.wrap_u64]; omega
    dsimp only
    rw [e8]
    refine loop_rule (fun s u => Fr (fun _ => False) w u ∧ ∃ (j : Nat) (A4 : Option Addr) (c4 : Nat), j ≤ 8 ∧ s = ((A4, n + 1 + k + j, c4), ((8 * l.length : Nat) : Int), (56 - 8 * j : Int), ()) ∧ Row u w.heap.size 5 1 A4 (n + 1 + k + j) c4 ((R ++ [128] ++ List.replicate k 0 ++ (be64 (8 * l.length)).take j).map bv))
      (fun s _ => (s.2.2.1 + 8).toNat) ?_ _ _ ⟨hf, 0, A3, c3, by omega, rfl, by simpa using hr3⟩
    clear hf hr3 hru
    rintro s u C ⟨hf, j, A4, c4, hj, rfl, hr4⟩ hC _
    refine vIf_mk (fun hge => ?_) (fun hlt => ?_)
    · have hge2 : (56 - 8 * j : Int) ≥ 0 := of_decide_eq_true hge
      have ej : (56 - 8 * j : Int) = ((56 - 8 * j : Nat) : Int) := by omega
      refine gd_mk (decide_eq_true hge2) ?_
      dsimp only
      have eb : IntKind.wrap .u8 (Int.fdiv ((8 * l.length : Nat) : Int) (2 ^ min ((56 - 8 * j : Int)).toNat 64)) = ((UInt8.ofNat (8 * l.length / 2 ^ (56 - 8 * j))).toNat : Int) := by
        rw [ej, Int.toNat_natCast, Nat.min_eq_left (by omega)]
        have e2 : (2 : Int) ^ (56 - 8 * j) = ((2 ^ (56 - 8 * j) : Nat) : Int) := by simp
        rw [e2, Int.fdiv_eq_ediv_of_nonneg _ (Int.natCast_nonneg _), ← u8_of]; rfl
      rw [eb]
      refine nw_mk ?_
      have fb : Fr (fun _ => False) u (u.alloc (.cells ([Value.int .u8 (UInt8.ofNat (8 * l.length / 2 ^ (56 - 8 * j))).toNat] ++ []).toArray 5)) := Fr.alloc _ _ _
      have hsrc2 : srcOf (u.alloc (.cells ([Value.int .u8 (UInt8.ofNat (8 * l.length / 2 ^ (56 - 8 * j))).toNat] ++ []).toArray 5)) 1 (.slice (some ⟨u.heap.size, 0, none⟩) 1 1) 1 [bv (UInt8.ofNat (8 * l.length / 2 ^ (56 - 8 * j)))] := one_row
      have hs3 : (u.alloc (.cells ([Value.int .u8 (UInt8.ofNat (8 * l.length / 2 ^ (56 - 8 * j))).toNat] ++ []).toArray 5)).heap.size = u.heap.size + 1 := alloc_size _ _
      generalize u.alloc (.cells ([Value.int .u8 (UInt8.ofNat (8 * l.length / 2 ^ (56 - 8 * j))).toNat] ++ []).toArray 5) = u1 at fb hsrc2 hs3 ⊢
      have hus := hf.size
      refine app_row (fb.row hr4 (fun _ _ h => h)) hsrc2 (bvs_one [_]) rfl (by omega) (by omega) (by omega) (fun A5 c5 u2 hr5 f5 => jnC_mk (hC _ _ ⟨?_, j + 1, A5, c5, by omega, ?_, ?_⟩ ?_))
      · exact (hf.trans1 fb).trans f5 (fun _ _ h => h) (fun q hq h => by have := (hr4.blt h).1; omega)
      · rw [i64_id (by omega) (by omega), show (56 - 8 * j : Int) - 8 = (56 - 8 * ((j + 1 : Nat) : Int)) by omega]; rfl
      · rw [List.take_add_one, be64_get _ _ (by omega), Option.toList_some, ← List.append_assoc, List.map_append (l₂ := [_])]
        exact hr5
      · show (IntKind.wrap .i64 ((56 - 8 * j : Int) - 8) + 8).toNat < ((56 - 8 * j : Int) + 8).toNat
        rw [i64_id (by omega) (by omega)]; omega
    · have hlt2 : ¬ (56 - 8 * j : Int) ≥ 0 := of_decide_eq_false hlt
      have hj8 : j = 8 := by omega
      subst hj8
      refine ⟨A4, _, c4, rfl, hf, ?_, hr4.le, fun q hq => (hr4.blt hq).1⟩
      have e : R ++ padP l.length = R ++ [128] ++ List.replicate k 0 ++ (be64 (8 * l.length)).take 8 := by
        rw [List.take_of_length_le (by simp [be64]), padP, hkZ]; simp only [List.append_assoc]
      rw [e]
      exact hr4.sl
end Go.Proofs.YtmjdcgphahdhbaaDoor
