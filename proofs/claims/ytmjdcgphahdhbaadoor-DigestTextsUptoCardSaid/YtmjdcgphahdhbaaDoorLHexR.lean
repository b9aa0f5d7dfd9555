/- hex: what each function of the document answers -/
import Derived.Test.YtmjdcgphahdhbaaDoorLHex
namespace Go.Proofs.YtmjdcgphahdhbaaDoor
open Go.GV Go.RowKit
set_option linter.unusedVariables false
/-! ### the document's Text -/
theorem rfigure_calls (k : Nat) (hk : k < 16) (w : World) : Calls Tryd.prog 46 #[.int .u8 k] w fun e w' => e = .returned (bv (figC k)) ∧ Fr (fun _ => False) w w' := by
  refine (F46.of k w (Q := fun v w' => v = bv (figC k) ∧ Fr (fun _ => False) w w') ?_).mono (fun e w' ⟨v, he, hv, h⟩ => ⟨by rw [he, hv], h⟩)
  have h : ∀ k : Fin 16, (k.val < 10 → IntKind.wrap .u8 (48 + (k.val : Int)) = ((figC k.val).toNat : Int)) ∧ (¬ k.val < 10 → IntKind.wrap .u8 (IntKind.wrap .u8 (97 + (k.val : Int)) - 10) = ((figC k.val).toNat : Int)) := by decide +kernel
  have h := h ⟨k, hk⟩
  simp only at h
  refine vIf_mk (fun hd => ⟨?_, Fr.refl _ _⟩) (fun hd => ⟨?_, Fr.refl _ _⟩)
  · have hd : (k : Int) < 10 := of_decide_eq_true hd
    rw [h.1 (by omega)]; rfl
  · have hd : ¬ (k : Int) < 10 := of_decide_eq_false hd
    rw [h.2 (by omega)]; rfl
theorem rtext_calls (A : Option Addr) (n c : Nat) (l : List UInt8) (w : World) (h : Sl w 1 A n (l.map bv)) (hn : n ≤ 1099511627776) :
    Calls Tryd.prog 29 #[.slice A n c] w fun e w' => e = .returned (.string ⟨(enc l).toArray⟩) ∧ Fr (fun _ => False) w w' := by
  have hl : l.length = n := by simpa using h.1
  refine (F29.of A n c w (Q := fun v w' => v = .string ⟨(enc l).toArray⟩ ∧ Fr (fun _ => False) w w') ?_).mono (fun e w' ⟨v, he, hv, h⟩ => ⟨by rw [he, hv], h⟩)
  refine jnC_mk ?_
  refine loop_rule (fun s u => Fr (fun _ => False) w u ∧ ∃ (i : Nat) (R : Option Addr) (rc : Nat), i ≤ n ∧ s = ((A, n, c), (R, 2 * i, rc), (i : Int), ()) ∧ Row u w.heap.size 5 1 R (2 * i) rc ((enc (l.take i)).map bv))
    (fun s _ => (n - s.2.2.1).toNat) ?_ _ _ ⟨Fr.refl _ _, 0, none, 0, by omega, rfl, Row.nil _ _ _ _⟩
  rintro s u C ⟨hf, i, R, rc, hi, rfl, hr⟩ hC _
  have elen : (enc (l.take i)).length = 2 * i := by rw [enc_length, List.length_take]; omega
  have hRb : ∀ k, k < w.heap.size → blkOf R = some k → False := fun k hk hb => by have := (hr.blt hb).1; omega
  refine vIf_mk (fun hlt => ?_) (fun hge => ?_)
  · have hlt2 : (i : Int) < n := of_decide_eq_true hlt
    have e1 : l[i]? = some (l[i]'(by omega)) := List.getElem?_eq_getElem (by omega)
    generalize hx : l[i]'(by omega) = x at e1
    have hf1 : Fr (fun _ => False) w u.drew := hf.trans1 (Fr.drew _ _)
    obtain ⟨b, o, hA', hc⟩ := (hf1.sl h (fun _ _ _ h => h)).get (i := i) (by omega) (v := bv x) (by rw [List.getElem?_map, e1]; rfl)
    subst hA'
    have hx8 := x.toNat_lt
    refine dr_mk (gd_mk (decide_eq_true (Int.natCast_nonneg i)) (gd_mk (decide_eq_true hlt2) ⟨_, hc, dr_mk (gd_mk (decide_eq_true (Int.natCast_nonneg i)) (gd_mk (decide_eq_true hlt2) ⟨_, hc, ?_⟩))⟩))
    have hq : IntKind.wrap .u8 (Int.tdiv (x.toNat : Int) 16) = ((x.toNat / 16 : Nat) : Int) := by
      rw [show Int.tdiv (x.toNat : Int) 16 = _ from tdiv_nat x.toNat 16, u8_id (by omega) (by omega)]
    have hm : Int.tmod (x.toNat : Int) 16 = ((x.toNat % 16 : Nat) : Int) := tmod_nat x.toNat 16
    show Calls Tryd.prog 46 #[.int .u8 (IntKind.wrap .u8 (Int.tdiv (x.toNat : Int) 16))] u.drew _
    rw [hq]
    refine (rfigure_calls _ (by omega) _).mono ?_
    rintro e w1 ⟨rfl, g1⟩
    refine ⟨_, rfl, kp_mk g1 (cellAt_lt hc) (fun h => h) ?_⟩
    show Calls Tryd.prog 46 #[.int .u8 (Int.tmod (x.toNat : Int) 16)] w1 _
    rw [hm]
    refine (rfigure_calls _ (by omega) _).mono ?_
    rintro e w2 ⟨rfl, g2⟩
    refine ⟨_, rfl, nw_mk ?_⟩
    have hf2 := (hf1.trans1 g1).trans1 g2
    have g3 : Fr (fun _ => False) u (w2.alloc (.cells ([bv (figC (x.toNat / 16)), bv (figC (x.toNat % 16))]).toArray 5)) := (((Fr.drew _ u).trans1 g1).trans1 g2).trans1 (Fr.alloc _ _ _)
    have hf3 := hf.trans1 g3
    refine app_row (m := 2) (us := [bv (figC (x.toNat / 16)), bv (figC (x.toNat % 16))]) (g3.row hr (fun _ _ h => h)) (Row.new (sz := 1) (n := 2) (B := 0) (Nat.zero_le _) rfl).sl.src (bvs_one [figC (x.toNat / 16), figC (x.toNat % 16)]) rfl (by show (2 * i + 2) * 1 ≤ _; omega) (by show 2 * i + 2 ≤ _; omega) hf3.size ?_
    intro R' rc' w4 hr4 f4
    refine jnC_mk (hC _ _ ⟨hf3.trans f4 (fun _ _ h => h) (fun k hk h => hRb k hk h), i + 1, R', rc', by omega, ?_, ?_⟩ ?_)
    · show ((_, n, c), (R', 2 * i + 2, rc'), IntKind.wrap .i64 ((i : Int) + 1), ()) = _
      rw [i64_id (by omega) (by omega)]; rfl
    · have : l.take (i + 1) = l.take i ++ [x] := by rw [List.take_add_one, e1]; rfl
      rw [this, enc_append, List.map_append]
      exact hr4
    · show ((n : Int) - IntKind.wrap .i64 ((i : Int) + 1)).toNat < ((n : Int) - i).toNat
      rw [i64_id (by omega) (by omega)]; omega
  · have hge2 : ¬ ((i : Int) < n) := of_decide_eq_false hge
    have hin : i = n := by omega
    rw [List.take_of_length_le (by omega)] at hr
    exact b2s_sl hr.sl ⟨rfl, hf⟩
theorem worth_calls (x : UInt8) (w : World) : Calls Tryd.prog 38 #[bv x] w fun e w' => e = .returned (.int .u8 ((if isFig x then figV x else 16 : Nat) : Int)) ∧ Fr (fun _ => False) w w' := by
  refine (F38.of x.toNat w (Q := fun v w' => v = .int .u8 ((if isFig x then figV x else 16 : Nat) : Int) ∧ Fr (fun _ => False) w w') ?_).mono (fun e w' ⟨v, he, hv, h⟩ => ⟨by rw [he, hv], h⟩)
  have hx := x.toNat_lt
  have no : ¬ (48 ≤ x.toNat ∧ x.toNat ≤ 57) → ¬ (97 ≤ x.toNat ∧ x.toNat ≤ 102) → isFig x = false := fun h1 h2 => by simp [isFig, h1, h2]
  have lo : 48 ≤ x.toNat → x.toNat ≤ 57 → IntKind.wrap .u8 ((x.toNat : Int) - 48) = ((if isFig x then figV x else 16 : Nat) : Int) := fun h1 h2 => by
    have : isFig x = true := by simp [isFig, h1, h2]
    rw [if_pos this, u8_id (by omega) (by omega), figV, if_pos h2]; omega
  have hi : 97 ≤ x.toNat → x.toNat ≤ 102 → IntKind.wrap .u8 (IntKind.wrap .u8 ((x.toNat : Int) - 97) + 10) = ((if isFig x then figV x else 16 : Nat) : Int) := fun h1 h2 => by
    have : isFig x = true := by simp [isFig, h1, h2]
    rw [if_pos this, u8_id (n := (x.toNat : Int) - 97) (by omega) (by omega), u8_id (by omega) (by omega), figV, if_neg (by omega)]; omega
  have k4 : ∀ b : Bool, (b = true → 97 ≤ x.toNat ∧ x.toNat ≤ 102) → (b = false → ¬ (97 ≤ x.toNat ∧ x.toNat ≤ 102)) → ¬ (48 ≤ x.toNat ∧ x.toNat ≤ 57) →
      F38.k4 (fun v w' => v = .int .u8 ((if isFig x then figV x else 16 : Nat) : Int) ∧ Fr (fun _ => False) w w') ((x.toNat : Int), b, ()) w := by
    intro b h1 h2 h3 _
    refine vIf_mk (fun hd => ⟨?_, Fr.refl _ _⟩) (fun hd => ⟨?_, Fr.refl _ _⟩)
    · rw [← hi (h1 hd).1 (h1 hd).2]
    · rw [no h3 (h2 hd)]; rfl
  have k3 : ¬ (48 ≤ x.toNat ∧ x.toNat ≤ 57) → F38.k3 (fun v w' => v = .int .u8 ((if isFig x then figV x else 16 : Nat) : Int) ∧ Fr (fun _ => False) w w') ((x.toNat : Int), ()) w := by
    intro h3 _
    refine vIf_mk (fun hd => jnC_mk (k4 _ (fun h => ?_) (fun h => ?_) h3)) (fun hd => jnC_mk (k4 _ (fun h => (by cases h)) (fun _ h => ?_) h3))
    · have h1 : (x.toNat : Int) ≥ 97 := of_decide_eq_true hd
      have h2 : (x.toNat : Int) ≤ 102 := of_decide_eq_true h
      omega
    · have h2 : ¬ (x.toNat : Int) ≤ 102 := of_decide_eq_false h
      omega
    · have h1 : ¬ (x.toNat : Int) ≥ 97 := of_decide_eq_false hd
      omega
  have k2 : ∀ b : Bool, (b = true → 48 ≤ x.toNat ∧ x.toNat ≤ 57) → (b = false → ¬ (48 ≤ x.toNat ∧ x.toNat ≤ 57)) →
      F38.k2 (fun v w' => v = .int .u8 ((if isFig x then figV x else 16 : Nat) : Int) ∧ Fr (fun _ => False) w w') ((x.toNat : Int), b, ()) w := by
    intro b h1 h2 _
    refine vIf_mk (fun hd => ⟨?_, Fr.refl _ _⟩) (fun hd => jnC_mk (k3 (h2 hd)))
    rw [← lo (h1 hd).1 (h1 hd).2]
  refine vIf_mk (fun hd => jnC_mk (k2 _ (fun h => ?_) (fun h => ?_))) (fun hd => jnC_mk (k2 _ (fun h => (by cases h)) (fun _ h => ?_)))
  · have h1 : (x.toNat : Int) ≥ 48 := of_decide_eq_true hd
    have h2 : (x.toNat : Int) ≤ 57 := of_decide_eq_true h
    omega
  · have h2 : ¬ (x.toNat : Int) ≤ 57 := of_decide_eq_false h
    omega
  · have h1 : ¬ (x.toNat : Int) ≥ 48 := of_decide_eq_false hd
    omega
theorem hexAdd : ∀ a b : Fin 16, IntKind.wrap .u8 (IntKind.wrap .u8 ((a.val : Int) * 16) + b.val) = ((UInt8.ofNat (a.val * 16 + b.val)).toNat : Int) := by decide +kernel
theorem worthV (x : UInt8) : ((if isFig x then figV x else 16 : Nat) : Int) > 15 ↔ isFig x = false := by
  cases h : isFig x
  · simp
  · have := (figV_c x h).1
    simp only [if_true]
    constructor
    · intro h; omega
    · intro h; cases h
theorem rread_calls (s : ByteArray) (w : World) (hs : s.size ≤ 1099511627776) : Calls Tryd.prog 24 #[.string s] w fun e w' => ∃ v, e = .returned v ∧ ReadAns s.data.toList w w' v := by
  generalize hl : s.data.toList = l
  have hsz : s.size = l.length := by rw [size_l, hl]
  refine F24.of s w (Q := fun v w' => ReadAns l w w' v) ?_
  have hm : Int.tmod (s.size : Int) 2 = ((s.size % 2 : Nat) : Int) := tmod_nat s.size 2
  refine vIf_mk (fun h => ?_) (fun h => jnC_mk ?_)
  · have h : Int.tmod (s.size : Int) 2 = 1 := by simpa using h
    refine ⟨Fr.refl _ _, none, 0, 0, 3, rfl, .inr ⟨?_, rfl, rfl, rfl, rfl⟩⟩
    simp only [okHex, Bool.and_eq_false_iff, decide_eq_false_iff_not]
    left; omega
  · have h : Int.tmod (s.size : Int) 2 ≠ 1 := by simpa using h
    have hev : l.length % 2 = 0 := by omega
    refine loop_rule (fun q u => Fr (fun _ => False) w u ∧ ∃ (j : Nat) (R : Option Addr) (rc : Nat), 2 * j ≤ l.length ∧ q = (s, (R, j, rc), ((2 * j : Nat) : Int), ()) ∧ Row u w.heap.size 5 1 R j rc ((dec (l.take (2 * j))).map bv) ∧ (l.take (2 * j)).all isFig = true)
      (fun q _ => (l.length - q.2.2.1).toNat) ?_ _ _ ⟨Fr.refl _ _, 0, none, 0, by omega, rfl, Row.nil _ _ _ _, rfl⟩
    rintro q u C ⟨hf, j, R, rc, hj, rfl, hr, ha⟩ hC _
    have hRb : ∀ k, k < w.heap.size → blkOf R = some k → False := fun k hk hb => by have := (hr.blt hb).1; omega
    have w1 : IntKind.wrap .i64 (((2 * j : Nat) : Int) + 1) = ((2 * j + 1 : Nat) : Int) := by rw [i64_id (by omega) (by omega)]; rfl
    refine vIf_mk (fun hlt => ?_) (fun hge => ?_)
    · have hlt2 : IntKind.wrap .i64 (((2 * j : Nat) : Int) + 1) < (s.size : Int) := of_decide_eq_true hlt
      rw [w1] at hlt2
      obtain ⟨x, hx⟩ : ∃ x, l[2 * j]? = some x := ⟨_, List.getElem?_eq_getElem (by omega)⟩
      obtain ⟨y, hy⟩ : ∃ y, l[2 * j + 1]? = some y := ⟨_, List.getElem?_eq_getElem (by omega)⟩
      refine gd_mk (decide_eq_true (Int.natCast_nonneg _)) (gd_mk (decide_eq_true (show ((2 * j : Nat) : Int) < (s.size : Int) by omega)) (gd_mk (decide_eq_true (by rw [w1]; exact Int.natCast_nonneg _)) (gd_mk (decide_eq_true (by rw [w1]; exact hlt2)) ?_)))
      show Calls Tryd.prog 38 #[.int .u8 (byteAt s (((2 * j : Nat) : Int)).toNat)] u.drew _
      rw [Int.toNat_natCast, byteAt_l (by rw [hl]; exact hx)]
      refine (worth_calls x _).mono ?_
      rintro e w2 ⟨rfl, g1⟩
      refine ⟨_, rfl, ?_⟩
      show Calls Tryd.prog 38 #[.int .u8 (byteAt s (IntKind.wrap .i64 (((2 * j : Nat) : Int) + 1)).toNat)] w2 _
      rw [w1, Int.toNat_natCast, byteAt_l (by rw [hl]; exact hy)]
      refine (worth_calls y _).mono ?_
      rintro e w3 ⟨rfl, g2⟩
      have hf3 : Fr (fun _ => False) w w3 := ((hf.trans1 (Fr.drew _ _)).trans1 g1).trans1 g2
      have hu3 : Fr (fun _ => False) u w3 := ((Fr.drew _ _).trans1 g1).trans1 g2
      refine ⟨_, rfl, vIf_mk (fun hb => ?_) (fun hb => vIf_mk (fun hb2 => ?_) (fun hb2 => jnC_mk ?_))⟩
      · exact ⟨hf3, none, 0, 0, 3, rfl, .inr ⟨not_ok_at hx ((worthV x).1 (of_decide_eq_true hb)), rfl, rfl, rfl, rfl⟩⟩
      · exact ⟨hf3, none, 0, 0, 3, rfl, .inr ⟨not_ok_at hy ((worthV y).1 (of_decide_eq_true hb2)), rfl, rfl, rfl, rfl⟩⟩
      · have hfx : isFig x = true := by
          cases hh : isFig x
          · exact absurd ((worthV x).2 hh) (of_decide_eq_false hb)
          · rfl
        have hfy : isFig y = true := by
          cases hh : isFig y
          · exact absurd ((worthV y).2 hh) (of_decide_eq_false hb2)
          · rfl
        intro _
        refine nw_mk ?_
        have hval : IntKind.wrap .u8 (IntKind.wrap .u8 (((if isFig x then figV x else 16 : Nat) : Int) * 16) + ((if isFig y then figV y else 16 : Nat) : Int)) = ((UInt8.ofNat (figV x * 16 + figV y)).toNat : Int) := by
          rw [if_pos hfx, if_pos hfy]
          exact hexAdd ⟨figV x, (figV_c x hfx).1⟩ ⟨figV y, (figV_c y hfy).1⟩
        have g4 : Fr (fun _ => False) u (w3.alloc (.cells [bv (UInt8.ofNat (figV x * 16 + figV y))].toArray 5)) := hu3.trans1 (Fr.alloc _ _ _)
        have hf4 := hf.trans1 g4
        have hlit : Value.int .u8 (IntKind.wrap .u8 (IntKind.wrap .u8 (((if isFig x then figV x else 16 : Nat) : Int) * 16) + ((if isFig y then figV y else 16 : Nat) : Int))) = bv (UInt8.ofNat (figV x * 16 + figV y)) := by rw [hval]; rfl
        simp only [hlit, List.append_nil]
        refine app_row (m := 1) (us := [bv (UInt8.ofNat (figV x * 16 + figV y))]) (g4.row hr (fun _ _ h => h)) (Row.new (sz := 1) (n := 1) (B := 0) (Nat.zero_le _) rfl).sl.src (bvs_one [UInt8.ofNat (figV x * 16 + figV y)]) rfl (by show (j + 1) * 1 ≤ _; omega) (by show j + 1 ≤ _; omega) hf4.size ?_
        intro R' rc' w5 hr5 f5
        have htk : l.take (2 * (j + 1)) = l.take (2 * j) ++ [x, y] := take_two hx hy
        refine jnC_mk (hC _ _ ⟨hf4.trans f5 (fun _ _ h => h) (fun k hk h => hRb k hk h), j + 1, R', rc', by omega, ?_, ?_, ?_⟩ ?_)
        · show (s, (R', j + 1, rc'), IntKind.wrap .i64 (((2 * j : Nat) : Int) + 2), ()) = _
          rw [i64_id (by omega) (by omega)]; rfl
        · rw [htk, dec_append _ _ _ (by rw [List.length_take]; omega), List.map_append]
          exact hr5
        · rw [htk, List.all_append, ha]; simp [hfx, hfy]
        · show ((l.length : Int) - IntKind.wrap .i64 (((2 * j : Nat) : Int) + 2)).toNat < ((l.length : Int) - ((2 * j : Nat) : Int)).toNat
          rw [i64_id (by omega) (by omega)]; omega
    · have hge2 : ¬ (IntKind.wrap .i64 (((2 * j : Nat) : Int) + 1) < (s.size : Int)) := of_decide_eq_false hge
      rw [w1] at hge2
      have hln : l.length ≤ 2 * j := by omega
      rw [List.take_of_length_le hln] at hr ha
      refine ⟨hf, R, j, rc, 0, rfl, .inl ⟨?_, rfl, hr⟩⟩
      simp [okHex, hev, ha]
end Go.Proofs.YtmjdcgphahdhbaaDoor
