/- chapter 18: the document's Put and Row, the table's Row -/
import Derived.Test.YtbcbpgfjmcmclaaHS
namespace Go.Proofs.Ytbcbpgfjmcmclaa
open Go.GV Go.RowKit Go.Slots Go.Lib
set_option linter.unusedVariables false
set_option linter.unusedSimpArgs false
theorem push_pr2 {w : World} {B : Nat} {A : Option Addr} {n c : Nat} {out : List Pr} {x : Pr} {K : Option Addr → Nat → Nat → World → Prop} (hr : Row w B 45 33 A n c (prs out)) (hd : x.1.length = 32) (hB : B ≤ w.heap.size) (hn : n ≤ 1099511627776) {b : Nat} (hb : RecAt w b 45 (prC x))
    (hK : ∀ A' c' w', Row w' B 45 33 A' (n + 1) c' (prs (out ++ [x])) → Fr (fun k => blkOf A = some k) w w' → (∀ k, blkOf A' = some k → blkOf A = some k ∨ w.heap.size ≤ k) → K A' (n + 1) c' w') : app w 33 40 Z45 45 A n c (.slice (some ⟨b, 0, none⟩) 1 1) K := by
  have hs : srcOf w 33 (.slice (some ⟨b, 0, none⟩) 1 1) 1 (prC x) := Sl.src (n := 1) ⟨by rw [prC_len hd], fun _ => ⟨b, 0, rfl, hb.cells (fun j v hj => by simpa using hj)⟩⟩
  exact app_row2 hr hs (prC_one x) (by decide +kernel) (by omega) (by omega) hB (fun A' c' w' hr' f' h' => hK A' c' w' (by rw [prs_append, prs_single]; exact hr') f' h')
def putL (l : List Pr) (k : Key) (v : Int) : List Pr := cutL l k ++ [(k, v)]
def putN (l : List Pr) (k : Key) (N : Nat) : Nat := if (lk l k).isSome then N else if ((cutL l k).length + 1) * 4 > N * 3 then N * 2 else N
set_option maxHeartbeats 1000000 in
theorem rput_calls (A : Option Addr) (n c : Nat) (l : List Pr) (N : Nat) (k : Key) (v : Int) (w : World) (h : Sl w 33 A n (prs l)) (hw : WP l) (hk : k.length = 32) (hn : n ≤ 17179869184) (hN : N ≤ 1099511627776) :
    Calls Try.prog 14 #[ofL [.slice A n c, .int .i64 N], ofL (k.map bv), .int .i64 v] w fun e w' => Fr (fun _ => False) w w' ∧ ∃ A' c', e = .returned (ofL [.slice A' (putL l k v).length c', .int .i64 (putN l k N)]) ∧ Row w' w.heap.size 45 33 A' (putL l k v).length c' (prs (putL l k v)) := by
  refine (F14.of [.slice A n c, .int .i64 N] (k.map bv) v w (Q := fun v' w' => Fr (fun _ => False) w w' ∧ ∃ A' c', v' = ofL [.slice A' (putL l k v).length c', .int .i64 (putN l k N)] ∧ Row w' w.heap.size 45 33 A' (putL l k v).length c' (prs (putL l k v))) ?_).mono (fun e w' ⟨v, he, hf, A', c', hv, h⟩ => ⟨hf, A', c', by rw [he, hv], h⟩)
  have hrl := pr_len h hw
  have lkk : (k.map bv).length = 32 := by simp [hk]
  have hcl := cutL_len l k
  refine nw_mk (nw_mk (nw_mk ?_))
  have f1 : Fr (fun _ => False) w (w.alloc (.cells [Value.slice A n c, Value.int .i64 N].toArray 37)) := Fr.alloc _ _ _
  have r1 : RecAt (w.alloc (.cells [Value.slice A n c, Value.int .i64 N].toArray 37)) w.heap.size 37 [Value.slice A n c, Value.int .i64 N] := RecAt.new w _ _
  have s1 : (w.alloc (.cells [Value.slice A n c, Value.int .i64 N].toArray 37)).heap.size = w.heap.size + 1 := alloc_size _ _
  generalize w.alloc (.cells [Value.slice A n c, Value.int .i64 N].toArray 37) = w1 at f1 r1 s1 ⊢
  have f2 : Fr (fun _ => False) w1 (w1.alloc (.cells (k.map bv).toArray 28)) := Fr.alloc _ _ _
  have r2 : RecAt (w1.alloc (.cells (k.map bv).toArray 28)) w1.heap.size 28 (k.map bv) := RecAt.new w1 _ _
  have s2 : (w1.alloc (.cells (k.map bv).toArray 28)).heap.size = w1.heap.size + 1 := alloc_size _ _
  generalize w1.alloc (.cells (k.map bv).toArray 28) = w2 at f2 r2 s2 ⊢
  have f3 : Fr (fun _ => False) w2 (w2.alloc (.cells [Value.slice none 0 0, Value.int .i64 0].toArray 37)) := Fr.alloc _ _ _
  have r3 : RecAt (w2.alloc (.cells [Value.slice none 0 0, Value.int .i64 0].toArray 37)) w2.heap.size 37 [Value.slice none 0 0, Value.int .i64 0] := RecAt.new w2 _ _
  have s3 : (w2.alloc (.cells [Value.slice none 0 0, Value.int .i64 0].toArray 37)).heap.size = w2.heap.size + 1 := alloc_size _ _
  generalize w2.alloc (.cells [Value.slice none 0 0, Value.int .i64 0].toArray 37) = w3 at f3 r3 s3 ⊢
  have q1 := (r1.fr f2 (fun h => h)).fr f3 (fun h => h)
  have q2 := r2.fr f3 (fun h => h)
  have f13 := (f1.trans1 f2).trans1 f3
  generalize hb1 : w.heap.size = b1 at *
  generalize hb2 : w1.heap.size = b2 at *
  generalize hb3 : w2.heap.size = b3 at *
  refine ⟨_, rfl, q1.cells (o := 0) (fun q v hq => by simpa using hq), _, lkk, cellsB q2, (rget_calls A n c l N k w3 (f13.sl h (fun _ _ _ h => h)) hw hk hn).mono ?_⟩
  rintro e w4 ⟨f4, rfl⟩
  have f14 := f13.trans1 f4
  have p1 := q1.fr f4 (fun h => h)
  have p2 := q2.fr f4 (fun h => h)
  have p3 := r3.fr f4 (fun h => h)
  have s4 := f4.size
  refine ⟨_, _, rfl, _, rfl, p1.cells (o := 0) (fun q v hq => by simpa using hq), _, lkk, cellsB p2, (rcut_calls A n c l N k w4 (f14.sl h (fun _ _ _ h => h)) hw hk hn).mono ?_⟩
  rintro e w5 ⟨f5, A5, c5, rfl, hr5⟩
  have p2 := p2.fr f5 (fun h => h)
  have p3 := p3.fr f5 (fun h => h)
  have f15 := f14.trans1 f5
  have s5 := f5.size
  refine ⟨[Value.slice A5 (cutL l k).length c5, Value.int .i64 N], rfl, nw_mk (gd_mk rfl ?_)⟩
  have f6 : Fr (fun _ => False) w5 (w5.alloc (.cells [Value.slice none 0 0, Value.int .i64 0].toArray 37)) := Fr.alloc _ _ _
  have r6 : RecAt (w5.alloc (.cells [Value.slice none 0 0, Value.int .i64 0].toArray 37)) w5.heap.size 37 [Value.slice none 0 0, Value.int .i64 0] := RecAt.new w5 _ _
  have s6 : (w5.alloc (.cells [Value.slice none 0 0, Value.int .i64 0].toArray 37)).heap.size = w5.heap.size + 1 := alloc_size _ _
  generalize w5.alloc (.cells [Value.slice none 0 0, Value.int .i64 0].toArray 37) = w6 at f6 r6 s6 ⊢
  have hr6 := f6.row hr5 (fun _ _ h => h)
  have hA5 : ∀ q, blkOf A5 = some q → w4.heap.size ≤ q ∧ q < w5.heap.size := fun q hq => hr5.blt hq
  generalize hb6 : w5.heap.size = b6 at *
  refine r6.st_mk (o := 0) (by simp) (by intro v hv; simp at hv; rcases hv with rfl | rfl <;> rfl) (fun r7 f7 => ?_)
  rw [splice_full (by simp)] at r7
  have f17 : Fr (fun _ => False) w (stB w6 b6 0 [Value.slice A5 (cutL l k).length c5, Value.int .i64 N]) := (f15.trans1 f6).trans f7 (fun _ _ h => h) (fun q hq h' => by omega)
  have hr7 := f7.row hr6 (fun q hq h' => by have := hA5 q hq; omega)
  have p2 := (p2.fr f6 (fun h => h)).fr f7 (fun h => by omega)
  have p3 := (p3.fr f6 (fun h => h)).fr f7 (fun h => by omega)
  have s7 : (stB w6 b6 0 [Value.slice A5 (cutL l k).length c5, Value.int .i64 N]).heap.size = b6 + 1 := by rw [stB_size, s6]
  generalize stB w6 b6 0 [Value.slice A5 (cutL l k).length c5, Value.int .i64 N] = w7 at f17 hr7 p2 p3 r7 s7 ⊢
  refine ⟨_, _, _, r7.cell rfl, _, lkk, cellsB p2, gd_mk (by rw [lkk]; rfl) (gd_mk (by simp [hk]) (nw_mk ?_))⟩
  have hpc : (k.map bv ++ ([Value.int .i64 v] ++ [])) ++ [] = prC (k, v) := by simp [prC]
  rw [hpc]
  have f8 : Fr (fun _ => False) w7 (w7.alloc (.cells (prC (k, v)).toArray 45)) := Fr.alloc _ _ _
  have r8 : RecAt (w7.alloc (.cells (prC (k, v)).toArray 45)) w7.heap.size 45 (prC (k, v)) := RecAt.new w7 _ _
  have s8 : (w7.alloc (.cells (prC (k, v)).toArray 45)).heap.size = w7.heap.size + 1 := alloc_size _ _
  generalize w7.alloc (.cells (prC (k, v)).toArray 45) = w8 at f8 r8 s8 ⊢
  refine push_pr2 (n := (cutL l k).length) (f8.row hr7 (fun _ _ h => h)) hk (by omega) (by omega) r8 (fun A9 c9 w9 hr9 f9 hA9 => ?_)
  have np : ∀ q, (q < w4.heap.size ∨ q = b6) → ¬ blkOf A5 = some q := fun q hq h' => by have := hA5 q h'; omega
  have r9 := (r7.fr f8 (fun h => h)).fr f9 (np b6 (.inr rfl))
  have p3 := (p3.fr f8 (fun h => h)).fr f9 (np b3 (.inl (by omega)))
  have f19 : Fr (fun _ => False) w w9 := (f17.trans1 f8).trans f9 (fun _ _ h => h) (fun q hq h' => by have := hA5 q h'; omega)
  have nA9 : ∀ q, (q = b6 ∨ q = b3) → ¬ blkOf A9 = some q := fun q hq h' => by
    rcases hA9 q h' with h1 | h1
    · have := hA5 q h1; omega
    · omega
  refine r9.st_mk (o := 0) (by simp) (by intro v hv; simp at hv; subst hv; rfl) (fun r10 f10 => ?_)
  have hr10 := f10.row hr9 (fun q hq h' => nA9 q (.inl h') hq)
  have p3 := p3.fr f10 (fun h => by omega)
  have f110 : Fr (fun _ => False) w (stB w9 b6 0 [Value.slice A9 ((cutL l k).length + 1) c9]) := f19.trans f10 (fun _ _ h => h) (fun q hq h' => by omega)
  generalize stB w9 b6 0 [Value.slice A9 ((cutL l k).length + 1) c9] = w10 at f110 hr10 p3 r10 ⊢
  have r10 : RecAt w10 b6 37 [Value.slice A9 ((cutL l k).length + 1) c9, Value.int .i64 N] := r10
  have hpl : (putL l k v).length = (cutL l k).length + 1 := by simp [putL]
  -- what is answered
  have fin : ∀ (x : World) (N' : Nat), Fr (fun _ => False) w x → RecAt x b6 37 [Value.slice A9 ((cutL l k).length + 1) c9, Value.int .i64 N'] → RecAt x b3 37 [Value.slice none 0 0, Value.int .i64 0] → Row x w4.heap.size 45 33 A9 ((cutL l k).length + 1) c9 (prs (putL l k v)) → putN l k N = N' →
      ldA 2 x b6 0 fun a38 => gd (a38.length == 2) <| st x b3 0 a38 fun w39 => ldA 2 w39 b3 0 fun a40 => (fun v' w' => Fr (fun _ => False) w w' ∧ ∃ A' c', v' = ofL [.slice A' (putL l k v).length c', .int .i64 (putN l k N)] ∧ Row w' b1 45 33 A' (putL l k v).length c' (prs (putL l k v))) (ofL a40) w39 := by
    intro x N' g1 g2 g3 g4 g5
    refine ⟨_, rfl, g2.cells (o := 0) (fun q v hq => by simpa using hq), gd_mk rfl ?_⟩
    refine g3.st_mk (o := 0) (by simp) (by intro v hv; simp at hv; rcases hv with rfl | rfl <;> rfl) (fun r f => ?_)
    rw [splice_full (by simp)] at r
    refine ⟨_, rfl, r.cells (o := 0) (fun q v hq => by simpa using hq), g1.trans f (fun _ _ h => h) (fun q hq h' => by omega), A9, c9, ?_, ?_⟩
    · rw [hpl, g5]
    · rw [hpl]
      exact f.row (row_low (by omega) g4) (fun q hq h' => nA9 q (.inr h') hq)
  refine vIf_mk (fun hni => ?_) (fun hin => ?_)
  · have hni : (lk l k).isSome = false := by simpa using hni
    refine ⟨_, _, _, r10.cell rfl, _, r10.cell rfl, ?_⟩
    have e1 : IntKind.wrap .i64 ((((cutL l k).length + 1 : Nat) : Int) * 4) = ((((cutL l k).length + 1) * 4 : Nat) : Int) := by rw [i64_id (by omega) (by omega)]; omega
    have e2 : IntKind.wrap .i64 ((N : Int) * 3) = ((N * 3 : Nat) : Int) := by rw [i64_id (by omega) (by omega)]; omega
    have e3 : IntKind.wrap .i64 ((N : Int) * 2) = ((N * 2 : Nat) : Int) := by rw [i64_id (by omega) (by omega)]; omega
    dsimp only
    rw [e1, e2]
    refine vIf_mk (fun hg => ?_) (fun hg => ?_)
    · have hg := of_decide_eq_true hg
      refine ⟨_, r10.cell rfl, ?_⟩
      dsimp only
      rw [e3]
      refine r10.st_mk (o := 0 + 1) (by simp) (by intro v hv; simp at hv; subst hv; rfl) (fun r11 f11 => ?_)
      exact fin _ (N * 2) (f110.trans f11 (fun _ _ h => h) (fun q hq h' => by omega)) r11 (p3.fr f11 (fun h => by omega)) (f11.row hr10 (fun q hq h' => nA9 q (.inl h') hq)) (by unfold putN; rw [hni]; simp only [Bool.false_eq_true, if_false]; rw [if_pos (by omega)])
    · have hg := of_decide_eq_false hg
      exact fin _ N f110 r10 p3 hr10 (by unfold putN; rw [hni]; simp only [Bool.false_eq_true, if_false]; rw [if_neg (by omega)])
  · have hin : (lk l k).isSome = true := by simpa using hin
    exact fin _ N f110 r10 p3 hr10 (by unfold putN; rw [hin]; rfl)
end Go.Proofs.Ytbcbpgfjmcmclaa
