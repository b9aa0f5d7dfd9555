/- chapter 18: the document's table: New, Cut, Put, Row -/
import Derived.Test.YtbcbpgfjmcmclaaHR
import Derived.Test.YtbcbpgfjmcmclaaG12
namespace Go.Proofs.Ytbcbpgfjmcmclaa
open Go.GV Go.RowKit Go.Slots Go.Lib
set_option linter.unusedVariables false
set_option linter.unusedSimpArgs false
theorem ei64 (i : Nat) (h : i < 1099511627776) : IntKind.wrap .i64 ((i : Int) + 1) = ((i + 1 : Nat) : Int) := by rw [i64_id (by omega) (by omega)]; rfl
theorem row_low {u : World} {B B' : Nat} {e : TypeId} {sz : Nat} {A : Option Addr} {k c : Nat} {vs : List Value} (hB : B' ≤ B) (hr : Row u B e sz A k c vs) : Row u B' e sz A k c vs := by
  refine ⟨hr.len, hr.le, ?_⟩
  rcases hr.at_ with h | ⟨b, cs, h1, h2, h3⟩
  · exact .inl h
  · exact .inr ⟨b, cs, h1, by omega, h3⟩
theorem rnew_calls (w : World) : Calls Try.prog 13 #[] w fun e w' => Fr (fun _ => False) w w' ∧ e = .returned (ofL [.slice none 0 0, .int .i64 8]) := by
  refine (F13.of w (Q := fun v w' => Fr (fun _ => False) w w' ∧ v = ofL [.slice none 0 0, .int .i64 8]) ?_).mono (fun e w' ⟨v, he, hf, hv⟩ => ⟨hf, by rw [he, hv]⟩)
  refine nw_mk (gd_mk rfl ?_)
  have f1 : Fr (fun _ => False) w (w.alloc (.cells [Value.slice none 0 0, Value.int .i64 0].toArray 37)) := Fr.alloc _ _ _
  have r1 : RecAt (w.alloc (.cells [Value.slice none 0 0, Value.int .i64 0].toArray 37)) w.heap.size 37 [Value.slice none 0 0, Value.int .i64 0] := RecAt.new w _ _
  generalize w.alloc (.cells [Value.slice none 0 0, Value.int .i64 0].toArray 37) = w1 at f1 r1 ⊢
  refine r1.st_mk (o := 0) (by simp) (by intro v hv; simp at hv; rcases hv with rfl | rfl <;> rfl) (fun r2 f2 => ?_)
  rw [splice_full (by simp)] at r2
  exact ⟨[.slice none 0 0, .int .i64 8], rfl, r2.cells (o := 0) (fun q v hq => by simpa using hq), f1.trans f2 (fun _ _ h => h) (fun q hq h' => by omega), rfl⟩
set_option maxHeartbeats 1000000 in
theorem rcut_calls (A : Option Addr) (n c : Nat) (l : List Pr) (sl : Int) (k : Key) (w : World) (h : Sl w 33 A n (prs l)) (hw : WP l) (hk : k.length = 32) (hn : n ≤ 17179869184) :
    Calls Try.prog 16 #[ofL [.slice A n c, .int .i64 sl], ofL (k.map bv)] w fun e w' => Fr (fun _ => False) w w' ∧ ∃ A' c', e = .returned (ofL [.slice A' (cutL l k).length c', .int .i64 sl]) ∧ Row w' w.heap.size 45 33 A' (cutL l k).length c' (prs (cutL l k)) := by
  refine (F16.of [.slice A n c, .int .i64 sl] (k.map bv) w (Q := fun v w' => Fr (fun _ => False) w w' ∧ ∃ A' c', v = ofL [.slice A' (cutL l k).length c', .int .i64 sl] ∧ Row w' w.heap.size 45 33 A' (cutL l k).length c' (prs (cutL l k))) ?_).mono (fun e w' ⟨v, he, hf, A', c', hv, h⟩ => ⟨hf, A', c', by rw [he, hv], h⟩)
  have hrl := pr_len h hw
  have lkk : (k.map bv).length = 32 := by simp [hk]
  refine nw_mk (nw_mk (nw_mk ?_))
  have f1 : Fr (fun _ => False) w (w.alloc (.cells [Value.slice A n c, Value.int .i64 sl].toArray 37)) := Fr.alloc _ _ _
  have r1 : RecAt (w.alloc (.cells [Value.slice A n c, Value.int .i64 sl].toArray 37)) w.heap.size 37 [Value.slice A n c, Value.int .i64 sl] := RecAt.new w _ _
  have s1 : (w.alloc (.cells [Value.slice A n c, Value.int .i64 sl].toArray 37)).heap.size = w.heap.size + 1 := alloc_size _ _
  generalize w.alloc (.cells [Value.slice A n c, Value.int .i64 sl].toArray 37) = w1 at f1 r1 s1 ⊢
  have f2 : Fr (fun _ => False) w1 (w1.alloc (.cells (k.map bv).toArray 28)) := Fr.alloc _ _ _
  have r2 : RecAt (w1.alloc (.cells (k.map bv).toArray 28)) w1.heap.size 28 (k.map bv) := RecAt.new w1 _ _
  have s2 : (w1.alloc (.cells (k.map bv).toArray 28)).heap.size = w1.heap.size + 1 := alloc_size _ _
  generalize w1.alloc (.cells (k.map bv).toArray 28) = w2 at f2 r2 s2 ⊢
  have f3 : Fr (fun _ => False) w2 (w2.alloc (.cells [Value.slice none 0 0, Value.int .i64 0].toArray 37)) := Fr.alloc _ _ _
  have r3 : RecAt (w2.alloc (.cells [Value.slice none 0 0, Value.int .i64 0].toArray 37)) w2.heap.size 37 [Value.slice none 0 0, Value.int .i64 0] := RecAt.new w2 _ _
  have s3 : (w2.alloc (.cells [Value.slice none 0 0, Value.int .i64 0].toArray 37)).heap.size = w2.heap.size + 1 := alloc_size _ _
  generalize w2.alloc (.cells [Value.slice none 0 0, Value.int .i64 0].toArray 37) = w3 at f3 r3 s3 ⊢
  have r13 := (r1.fr f2 (fun h => h)).fr f3 (fun h => h)
  refine ⟨sl, r13.cell rfl, nw_mk (gd_mk rfl ?_)⟩
  have f4 : Fr (fun _ => False) w3 (w3.alloc (.cells [Value.slice none 0 0, Value.int .i64 0].toArray 37)) := Fr.alloc _ _ _
  have r4 : RecAt (w3.alloc (.cells [Value.slice none 0 0, Value.int .i64 0].toArray 37)) w3.heap.size 37 [Value.slice none 0 0, Value.int .i64 0] := RecAt.new w3 _ _
  have s4 : (w3.alloc (.cells [Value.slice none 0 0, Value.int .i64 0].toArray 37)).heap.size = w3.heap.size + 1 := alloc_size _ _
  generalize w3.alloc (.cells [Value.slice none 0 0, Value.int .i64 0].toArray 37) = w4 at f4 r4 s4 ⊢
  generalize hb1 : w.heap.size = b1 at *
  generalize hb2 : w1.heap.size = b2 at *
  generalize hb3 : w2.heap.size = b3 at *
  generalize hb4 : w3.heap.size = b4 at *
  refine r4.st_mk (o := 0) (by simp) (by intro v hv; simp at hv; rcases hv with rfl | rfl <;> rfl) (fun r5 f5 => jnC_mk ?_)
  rw [splice_full (by simp)] at r5
  have f14 := ((f1.trans1 f2).trans1 f3).trans1 f4
  have f15 : Fr (fun _ => False) w (stB w4 b4 0 ([Value.slice none 0 0] ++ ([Value.int .i64 sl] ++ []))) := f14.trans f5 (fun _ _ h => h) (fun q hq h' => by omega)
  have q1 := (r13.fr f4 (fun h => h)).fr f5 (fun h => by omega)
  have q2 := ((r2.fr f3 (fun h => h)).fr f4 (fun h => h)).fr f5 (fun h => by omega)
  have q3 := (r3.fr f4 (fun h => h)).fr f5 (fun h => by omega)
  have s5 : (stB w4 b4 0 ([Value.slice none 0 0] ++ ([Value.int .i64 sl] ++ []))).heap.size = b4 + 1 := by rw [stB_size, s4]
  generalize stB w4 b4 0 ([Value.slice none 0 0] ++ ([Value.int .i64 sl] ++ [])) = w5 at f15 q1 q2 q3 r5 s5 ⊢
  refine loop_rule (fun s u => Fr (fun _ => False) w u ∧ RecAt u b1 37 [Value.slice A n c, Value.int .i64 sl] ∧ RecAt u b2 28 (k.map bv) ∧ RecAt u b3 37 [Value.slice none 0 0, Value.int .i64 0] ∧ b4 + 1 ≤ u.heap.size ∧
      ∃ (i : Nat) (A5 : Option Addr) (c5 : Nat), i ≤ n ∧ s = ((b1, 0), (b2, 0), (b3, 0), (b4, 0), (i : Int), ()) ∧ RecAt u b4 37 [Value.slice A5 (cutL (l.take i) k).length c5, Value.int .i64 sl] ∧ Row u (b4 + 1) 45 33 A5 (cutL (l.take i) k).length c5 (prs (cutL (l.take i) k)))
    (fun s _ => (n - s.2.2.2.2.1).toNat) ?_ _ _ ⟨f15, q1, q2, q3, by omega, 0, none, 0, by omega, rfl, r5, Row.nil _ _ _ _⟩
  rintro s u C ⟨hf, hr1, hr2, hr3, hus, i, A5, c5, hi, rfl, hr4, hr5⟩ hC _
  refine ⟨A, n, c, hr1.cell rfl, vIf_mk (fun hlt => ?_) (fun hge => ?_)⟩
  · have hlt2 : (i : Int) < (n : Int) := of_decide_eq_true hlt
    have gi : l[i]? = some (l[i]'(by omega)) := List.getElem?_eq_getElem (by omega)
    have hsn := cutL_snoc (k := k) gi
    have hle := cutL_len (l.take i) k
    rw [List.length_take] at hle
    have li := hw.at gi
    have fd : Fr (fun _ => False) u u.drew := Fr.drew _ _
    obtain ⟨b, o, hA, hcell⟩ := sl_pr ((hf.trans1 fd).sl h (fun _ _ _ h => h)) hw (i := i) (by omega)
    subst hA
    generalize l[i]'(by omega) = x at gi li hsn
    have lx : (x.1.map bv).length = 32 := by simp [li]
    have ci : cellsAt u.drew b (o + ((i : Int)).toNat * 33) (prC x) := by rw [Int.toNat_natCast]; exact hcell i x gi
    have d0 : decide (0 ≤ (i : Int)) = true := decide_eq_true (by omega)
    have hmeas : ((n : Int) - IntKind.wrap .i64 ((i : Int) + 1)).toNat < ((n : Int) - (i : Int)).toNat := by rw [ei64 i (by omega)]; omega
    refine ⟨_, _, _, hr1.cell rfl, dr_mk (gd_mk d0 (gd_mk (decide_eq_true hlt2) ⟨_, lx, pr_key ci, _, lkk, cellsB (show RecAt u.drew b2 _ _ from hr2), ⟨_, _, li, hk, rfl, rfl, vIf_mk (fun hne => ?_) (fun heq => ?_)⟩⟩))⟩
    · have hne2 : ¬ x.1 = k := by
        intro he; rw [he] at hne; simp at hne
      rw [if_neg hne2] at hsn
      have fdd : Fr (fun _ => False) u u.drew.drew := fd.trans1 (Fr.drew _ _)
      have g2 : RecAt u.drew.drew b2 28 (k.map bv) := hr2
      have g1 : RecAt u.drew.drew b1 37 [Value.slice (some ⟨b, o, none⟩) n c, Value.int .i64 sl] := hr1
      have g3 : RecAt u.drew.drew b3 37 [Value.slice none 0 0, Value.int .i64 0] := hr3
      have g4 : RecAt u.drew.drew b4 37 [Value.slice A5 (cutL (l.take i) k).length c5, Value.int .i64 sl] := hr4
      have g5 := fdd.row hr5 (fun _ _ h => h)
      have gs : b4 + 1 ≤ u.drew.drew.heap.size := hus
      have gc : cellsAt u.drew.drew b (o + ((i : Int)).toNat * 33) (prC x) := ci
      have gf := hf.trans1 fdd
      generalize u.drew.drew = v at g1 g2 g3 g4 g5 gs gc gf fdd ⊢
      refine ⟨_, _, _, g4.cell rfl, _, _, _, g1.cell rfl, dr_mk (gd_mk d0 (gd_mk (decide_eq_true hlt2) ⟨prC x, prC_len li, gc, gd_mk (by rw [prC_len li]; rfl) (nw_mk ?_)⟩))⟩
      rw [List.append_nil]
      have e1 : Fr (fun _ => False) v (v.alloc (.cells (prC x).toArray 45)) := Fr.alloc _ _ _
      have e2 : RecAt (v.alloc (.cells (prC x).toArray 45)) v.heap.size 45 (prC x) := RecAt.new v _ _
      have e3 : (v.alloc (.cells (prC x).toArray 45)).heap.size = v.heap.size + 1 := alloc_size _ _
      refine kp_mk e1 (by show b4 < v.heap.size; omega) (fun h => h) ?_
      have e4 := g4.fr e1 (fun h => h)
      have e5 := e1.row g5 (fun _ _ h => h)
      generalize v.alloc (.cells (prC x).toArray 45) = v1 at e1 e2 e3 e4 e5 ⊢
      refine push_pr (n := (cutL (l.take i) k).length) e5 li (by omega) (by omega) e2 (fun A' c' v2 hr' fp => ?_)
      have hA5 : ∀ q, blkOf A5 = some q → b4 + 1 ≤ q := fun q hq => (e5.blt hq).1
      have np : ∀ q, q ≤ b4 → ¬ (blkOf A5 = some q) := fun q hq h' => by have := hA5 q h'; omega
      have fv2 : Fr (fun q => blkOf A5 = some q) u v2 := (fdd.trans1 e1).trans fp (fun _ _ h => h.elim) (fun _ _ h => h)
      refine (e4.fr fp (np b4 (Nat.le_refl _))).st_mk (o := 0) (by simp) (by intro v hv; simp at hv; subst hv; rfl) (fun r6 f6 => jnC_mk (hC _ _ ⟨?_, ?_, ?_, ?_, ?_, i + 1, A', c', by omega, ?_, ?_, ?_⟩ hmeas))
      · refine (hf.trans fv2 (fun _ _ h => h) (fun q hq h' => ?_)).trans f6 (fun _ _ h => h) (fun q hq h' => by omega)
        have := hA5 q h'
        omega
      · exact (((g1.fr e1 (fun h => h)).fr fp (np b1 (by omega))).fr f6 (fun h => by omega))
      · exact (((g2.fr e1 (fun h => h)).fr fp (np b2 (by omega))).fr f6 (fun h => by omega))
      · exact (((g3.fr e1 (fun h => h)).fr fp (np b3 (by omega))).fr f6 (fun h => by omega))
      · have h1 := fp.size
        have h2 := f6.size
        omega
      · rw [ei64 i (by omega)]
      · rw [hsn, List.length_append]; exact r6
      · rw [hsn, List.length_append]
        exact f6.row hr' (fun q hq h' => by have := (hr'.blt hq).1; omega)
    · have heq2 : x.1 = k := by
        by_cases he : x.1 = k
        · exact he
        · simp [he] at heq
      rw [if_pos heq2, List.append_nil] at hsn
      exact jnC_mk (hC _ _ ⟨hf.trans1 fd, hr1, hr2, hr3, hus, i + 1, A5, c5, by omega, by rw [ei64 i (by omega)], by rw [hsn]; exact hr4, by rw [hsn]; exact fd.row hr5 (fun _ _ h => h)⟩ hmeas)
  · have hge2 : ¬ (i : Int) < (n : Int) := of_decide_eq_false hge
    have hta : l.take i = l := List.take_of_length_le (by omega)
    rw [hta] at hr4 hr5
    refine ⟨[Value.slice A5 (cutL l k).length c5, Value.int .i64 sl], rfl, hr4.cells (o := 0) (fun q v hq => by simpa using hq), gd_mk rfl ?_⟩
    refine hr3.st_mk (o := 0) (by simp) (by intro v hv; simp at hv; rcases hv with rfl | rfl <;> rfl) (fun r6 f6 => ?_)
    rw [splice_full (by simp)] at r6
    refine ⟨[Value.slice A5 (cutL l k).length c5, Value.int .i64 sl], rfl, r6.cells (o := 0) (fun q v hq => by simpa using hq), hf.trans f6 (fun _ _ h => h) (fun q hq h' => by omega), A5, c5, rfl, ?_⟩
    exact f6.row (row_low (by omega) hr5) (fun q hq h' => by have := (hr5.blt hq).1; omega)
end Go.Proofs.Ytbcbpgfjmcmclaa
