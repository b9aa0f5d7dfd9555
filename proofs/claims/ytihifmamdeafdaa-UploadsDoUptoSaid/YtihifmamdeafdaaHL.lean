/- chapter 37: lives, and the law of the pieces. -/
import Derived.Test.YtihifmamdeafdaaHF
namespace Go.Proofs.Ytihifmamdeafdaa
open Go.GV Go.RowKit
set_option linter.unusedVariables false
def TW (acc : List UInt8) : Tab := (1, acc) :: List.replicate 7 (0, [])
theorem tw_begin : pos (List.replicate 8 (0, [])) 0 = some 0 := rfl
theorem tw_fnd (acc : List UInt8) : fnd (TW acc) 1 = some 0 := rfl
theorem tw_chunk (acc l : List UInt8) (most : Int) (h : ((acc.length + l.length : Nat) : Int) ≤ most) : chunkT (TW acc) 1 (acc.length : Int) l most = (0, TW (acc ++ l)) := by
  unfold chunkT
  rw [tw_fnd]
  show (if (acc.length : Int) ≠ (acc.length : Int) then _ else if ((acc.length + l.length : Nat) : Int) > most then _ else _) = _
  rw [if_neg (fun h => h rfl), if_neg (by omega)]
  rfl
theorem tw_data (acc : List UInt8) : dataT (TW acc) 1 = some acc := rfl
theorem tw_len (acc : List UInt8) (m : Nat) (h : acc.length ≤ m) : ∀ (i : Nat) (x : Int × List UInt8), (TW acc)[i]? = some x → x.2.length ≤ m := by
  intro i x hx
  match i, hx with
  | 0, hx => injection hx with hx; subst hx; exact h
  | i + 1, hx =>
    have : x ∈ List.replicate 7 ((0 : Int), ([] : List UInt8)) := List.mem_of_getElem? (by simpa [TW] using hx)
    rw [List.mem_replicate] at this
    rw [this.2]; simp
/-- a table of one's own is opened, and the first upload begun -/
theorem start_calls (w : World) (K : World → Prop) (hK : ∀ w2, UpAt w2 w.heap.size (fun _ => False) (TW []) 1 → Fr (fun _ => False) w w2 → w.heap.size < w2.heap.size → K w2) :
    Calls Try.prog 6 #[] w fun e1 w1 => e1 = .returned (.pointer (some ⟨w.heap.size, 0, none⟩)) ∧ Calls Try.prog 7 #[.pointer (some ⟨w.heap.size, 0, none⟩)] w1 fun e2 w2 => e2 = .returned (.tuple #[.int .i64 1, .int .i64 0]) ∧ K w2 := by
  refine (new_calls w).mono ?_
  rintro e w1 ⟨rfl, hu, f1, hs⟩
  refine ⟨rfl, (begin_calls w.heap.size w1 _ _ 0 hu (by omega)).mono ?_⟩
  rintro e w2 ⟨h, f2⟩
  rw [tw_begin] at h
  obtain ⟨rfl, h⟩ := h
  exact ⟨rfl, hK w2 h (f1.trans f2 (fun _ _ h => h) (fun k hk h => by omega)) (Nat.lt_of_lt_of_le hs f2.size)⟩
theorem lives_calls (w : World) : Calls Try.prog 11 #[] w fun e w' => e = .returned (.bool true) ∧ Fr (fun _ => False) w w' := by
  refine (F11.of w (Q := fun v w' => v = .bool true ∧ Fr (fun _ => False) w w') ?_).mono (fun e w' ⟨v, he, hv, h⟩ => ⟨by rw [he, hv], h⟩)
  refine (start_calls w (fun w2 => UpAt w2 w.heap.size (fun _ => False) (TW []) 1 ∧ Fr (fun _ => False) w w2 ∧ w.heap.size < w2.heap.size) (fun w2 a b c => ⟨a, b, c⟩)).mono ?_
  rintro e w1 ⟨rfl, h2⟩
  refine ⟨_, rfl, h2.mono ?_⟩
  rintro e w2 ⟨rfl, hu, f2, hs⟩
  refine ⟨1, 0, rfl, nw_mk ?_⟩
  have r1 : Row (w2.alloc (.cells ([97, 98, 99].map bv).toArray 5)) 0 5 1 (some ⟨w2.heap.size, 0, none⟩) 3 3 ([97, 98, 99].map bv) := Row.new (Nat.zero_le _) rfl
  refine mkS_mk (RecAt.new _ _ _) (fun w3 f3 s3 => ?_)
  have g3 : Fr (fun _ => False) w2 w3 := (Fr.alloc (fun _ => False) w2 (.cells ([97, 98, 99].map bv).toArray 5)).trans f3 (fun _ _ h => h) (fun k hk h => by omega)
  have hu3 := hu.fr0 g3
  refine (chunk_calls w.heap.size 1 0 _ 3 3 [97, 98, 99] 4 w3 _ (TW []) 1 hu3 (r1.sl.same s3) (by omega) (tw_len [] _ (by simp)) (by omega)).mono ?_
  rintro e w4 ⟨rfl, hu4, f4⟩
  have c1 : chunkT (TW []) 1 0 [97, 98, 99] 4 = (0, TW [97, 98, 99]) := tw_chunk [] [97, 98, 99] 4 (by decide)
  rw [c1] at hu4 ⊢
  refine ⟨_, rfl, nw_mk ?_⟩
  have r2 : Row (w4.alloc (.cells ([100].map bv).toArray 5)) 0 5 1 (some ⟨w4.heap.size, 0, none⟩) 1 1 ([100].map bv) := Row.new (Nat.zero_le _) rfl
  refine mkS_mk (RecAt.new _ _ _) (fun w5 f5 s5 => ?_)
  have g5 : Fr (fun _ => False) w4 w5 := (Fr.alloc (fun _ => False) w4 (.cells ([100].map bv).toArray 5)).trans f5 (fun _ _ h => h) (fun k hk h => by omega)
  have hu5 := hu4.fr0 g5
  refine (chunk_calls w.heap.size 1 3 _ 1 1 [100] 4 w5 _ (TW [97, 98, 99]) 1 hu5 (r2.sl.same s5) (by omega) (tw_len _ _ (by simp)) (by omega)).mono ?_
  rintro e w6 ⟨rfl, hu6, f6⟩
  have c2 : chunkT (TW [97, 98, 99]) 1 3 [100] 4 = (0, TW [97, 98, 99, 100]) := tw_chunk [97, 98, 99] [100] 4 (by decide)
  rw [c2] at hu6 ⊢
  refine ⟨_, rfl, (data_calls w.heap.size 1 w6 _ _ 1 hu6 (tw_len _ _ (by simp))).mono ?_⟩
  rintro e w7 ⟨f7, h7⟩
  rw [tw_data] at h7
  obtain ⟨A, n, c, rfl, hr⟩ := h7
  refine ⟨A, n, c, 0, rfl, vIf_t rfl (vIf_t rfl (vIf_t rfl (vIf_t rfl (vIf_t rfl (b2s_sl hr.sl ⟨congrArg Value.bool (beq_self_eq_true _), ?_⟩)))))⟩
  have out : ∀ {a b : World}, Fr (fun k => k = w.heap.size) a b → Fr (fun _ => False) w a → Fr (fun _ => False) w b := fun f g => g.trans f (fun _ _ h => h) (fun k hk h => by omega)
  exact (out f6 ((out f4 (f2.trans1 g3)).trans1 g5)).trans1 f7
/-- UploadsWhole -/
theorem whole_law (A : Option Addr) (n c : Nat) (vs : List Value) (ls : List (List UInt8)) (w : World) (h : Sl w 1 A n vs) (hn : n = ls.length) (hs : ∀ (i : Nat) (l : List UInt8), ls[i]? = some l → ∃ (B : Option Addr) (m k : Nat), vs[i]? = some (Value.slice B m k) ∧ Sl w 1 B m (l.map bv))
    (hm : ls.flatten.length ≤ 1048576) (hn2 : n ≤ 1048576) :
    Calls Try.prog 3 #[.slice A n c] w fun e w' => e = .returned (.bool true) ∧ Fr (fun _ => False) w w' := by
  have tk : ∀ i l, ls[i]? = some l → (ls.take (i + 1)).flatten = (ls.take i).flatten ++ l := fun i l hi => by rw [List.take_add_one, hi]; simp
  have le : ∀ i, (ls.take i).flatten.length ≤ ls.flatten.length := fun i => by
    have := congrArg (fun x => x.flatten.length) (List.take_append_drop i ls)
    simp only [List.flatten_append, List.length_append] at this
    omega
  refine (F3.of A n c w (Q := fun v w' => v = .bool true ∧ Fr (fun _ => False) w w') ?_).mono (fun e w' ⟨v, he, hv, h⟩ => ⟨by rw [he, hv], h⟩)
  refine (start_calls w (fun w2 => UpAt w2 w.heap.size (fun _ => False) (TW []) 1 ∧ Fr (fun _ => False) w w2 ∧ w.heap.size < w2.heap.size) (fun w2 a b c => ⟨a, b, c⟩)).mono ?_
  rintro e w1 ⟨rfl, h2⟩
  refine ⟨_, rfl, h2.mono ?_⟩
  rintro e w2 ⟨rfl, hu, f2, hs2⟩
  refine ⟨1, 0, rfl, jnC_mk ?_⟩
  refine loop_rule (fun s u => Fr (fun _ => False) w u ∧ w.heap.size < u.heap.size ∧ ∃ (i : Nat) (R : Option Addr) (rc : Nat), i ≤ n ∧ s = ((A, n, c), some ⟨w.heap.size, 0, none⟩, 1, 0, (R, (ls.take i).flatten.length, rc), (i : Int), ()) ∧
      (∃ D : Nat → Prop, UpAt u w.heap.size D (TW (ls.take i).flatten) 1 ∧ (∀ k, D k → k < u.heap.size) ∧ ∀ k, blkOf R = some k → ¬ D k) ∧ Row u (w.heap.size + 1) 5 1 R (ls.take i).flatten.length rc ((ls.take i).flatten.map bv))
    (fun s _ => (n - s.2.2.2.2.2.1).toNat) ?_ _ _ ⟨f2, hs2, 0, none, 0, by omega, rfl, ⟨_, hu, fun _ h => h.elim, fun _ _ h => h⟩, Row.nil _ _ _ _⟩
  rintro s u C ⟨hf, hus, i, R, rc, hi, rfl, ⟨D, hu, hD1, hD2⟩, hr⟩ hC _
  have hRb : ∀ k, k ≤ w.heap.size → blkOf R = some k → False := fun k hk hb => by have := (hr.blt hb).1; omega
  refine vIf_mk (fun hlt => ?_) (fun hge => ?_)
  · have hlt2 : (i : Int) < n := of_decide_eq_true hlt
    obtain ⟨l, hl⟩ : ∃ l, ls[i]? = some l := ⟨_, List.getElem?_eq_getElem (by omega)⟩
    obtain ⟨B, m, k, hv, hB⟩ := hs i l hl
    obtain ⟨b, o, hA', hc⟩ := (hf.sl h (fun _ _ _ h => h)).get (i := i) (by omega) hv
    subst hA'
    have hml : l.length = m := by simpa using hB.1
    have h1 := le (i + 1)
    have h3 := le i
    rw [tk i l hl, List.length_append] at h1
    refine dr_mk (gd_mk (decide_eq_true (Int.natCast_nonneg i)) (gd_mk (decide_eq_true hlt2) ⟨B, m, k, hc, ?_⟩))
    refine (chunk_calls w.heap.size 1 ((ls.take i).flatten.length : Int) B m k l 1099511627776 u D (TW (ls.take i).flatten) 1 hu (hf.sl hB (fun _ _ _ h => h)) (by omega) (tw_len _ _ (by omega)) (by omega)).mono ?_
    rintro e w3 ⟨rfl, hu3, f3⟩
    rw [tw_chunk _ l _ (by omega)] at hu3 ⊢
    have hf3 : Fr (fun _ => False) w w3 := hf.trans f3 (fun _ _ h => h) (fun k hk h => by omega)
    obtain ⟨b', o', hA', hc3⟩ := (hf3.sl h (fun _ _ _ h => h)).get (i := i) (by omega) hv
    injection hA' with hA'
    injection hA' with hA1 hA2
    subst hA1; subst hA2
    refine ⟨0, rfl, vIf_f rfl (dr_mk (gd_mk (decide_eq_true (Int.natCast_nonneg i)) (gd_mk (decide_eq_true hlt2) ⟨B, m, k, hc3, ?_⟩)))⟩
    have hr3 := f3.row hr (fun b hb he => by subst he; exact hRb _ (Nat.le_refl _) hb)
    refine app_row2 hr3 (hf3.sl hB (fun _ _ _ h => h)).src (bvs_one l) rfl (by show ((ls.take i).flatten.length + m) * 1 ≤ _; omega) (by show (ls.take i).flatten.length + m ≤ _; omega) (by have := f3.size; omega) ?_
    intro R' rc' w4 r4 f4 hRR
    have e2 : (ls.take i).flatten.length + m = (ls.take (i + 1)).flatten.length := by rw [tk i l hl, List.length_append, hml]
    refine jnC_mk (hC _ _ ⟨hf3.trans f4 (fun _ _ h => h) (fun k hk h => hRb k (by omega) h), ?_, i + 1, R', rc', by omega, ?_, ?_, ?_⟩ ?_)
    · have := f3.size; have := f4.size; omega
    · show ((_, n, c), _, 1, 0, (R', (ls.take i).flatten.length + m, rc'), IntKind.wrap .i64 ((i : Int) + 1), ()) = _
      rw [i64_id (by omega) (by omega), e2]; rfl
    · rw [tk i l hl]
      have hs3 := f3.size
      have hs4 := f4.size
      refine ⟨_, hu3.fr f4 (fun h => hRb _ (Nat.le_refl _) h) (fun k hk hs => ?_), fun k hk => ?_, fun k hk hs => ?_⟩
      · rcases hk with hk | hk
        · exact hD2 k hs hk
        · have := (hr.blt hs).2; omega
      · rcases hk with hk | hk
        · have := hD1 k hk; omega
        · omega
      · rcases hRR k hk with h5 | h5
        · rcases hs with hs | hs
          · exact hD2 k h5 hs
          · have := (hr.blt h5).2; omega
        · rcases hs with hs | hs
          · have := hD1 k hs; omega
          · omega
    · rw [← e2, tk i l hl, List.map_append]
      exact r4
    · show ((n : Int) - IntKind.wrap .i64 ((i : Int) + 1)).toNat < ((n : Int) - i).toNat
      rw [i64_id (by omega) (by omega)]; omega
  · have hge2 : ¬ ((i : Int) < n) := of_decide_eq_false hge
    have hin : i = ls.length := by omega
    subst hin
    rw [List.take_length] at hu hr ⊢
    refine (data_calls w.heap.size 1 u _ _ 1 hu (tw_len _ _ (by omega))).mono ?_
    rintro e w3 ⟨f3, h3⟩
    rw [tw_data] at h3
    obtain ⟨A', n', c', rfl, hr3⟩ := h3
    refine ⟨A', n', c', 0, rfl, vIf_t rfl (vIf_t rfl ?_)⟩
    have hn' : ls.flatten.length = n' := by have := hr3.len; rw [List.length_map] at this; omega
    refine (same_calls A' n' c' ls.flatten R ls.flatten.length rc ls.flatten w3 hr3.sl (f3.row hr (fun _ _ h => h)).sl (by omega)).mono ?_
    rintro e w4 ⟨rfl, f4⟩
    refine ⟨_, rfl, vIf_t (beq_self_eq_true _) ((lives_calls w4).mono ?_)⟩
    rintro e w5 ⟨rfl, f5⟩
    exact ⟨true, rfl, rfl, ((hf.trans1 f3).trans1 f4).trans1 f5⟩
end Go.Proofs.Ytihifmamdeafdaa
