/- chapter 21: lives, and the law of a nil table -/
import Derived.Test.YtklanoocjlpemaaHH
namespace Go.Proofs.Ytklanoocjlpemaa
open Go.GV Go.RowKit Go.Lib
set_option linter.unusedVariables false
set_option linter.unusedSimpArgs false
/-- a variable that takes a value -/
theorem var_mkK {w : World} {t : TypeId} {z cs : List Value} {k : Nat} {K : Nat → World → Prop} (hz : z.length = k) (hl : cs.length = k) (h1 : ∀ v ∈ cs, v.oneCell' = true)
    (hK : ∀ b u, Fr (fun _ => False) w u → RecAt u b t cs → w.heap.size ≤ b → K b u) : nw w z t fun b w' => gd (cs.length == k) (st w' b 0 cs fun w'' => K b w'') := by
  refine nw_mk (gd_mk (by rw [hl]; simp) ?_)
  have f1 : Fr (fun _ => False) w (w.alloc (.cells z.toArray t)) := Fr.alloc _ _ _
  refine (RecAt.new w z t).st_mk (o := 0) (by omega) h1 (fun r f => ?_)
  rw [splice_full (by omega)] at r
  exact hK _ _ (f1.trans f (fun _ _ h => h) (fun k hk h' => by omega)) r (Nat.le_refl _)
def one1 : List UInt8 := 1 :: List.replicate 31 0
def v1 : ByteArray := ⟨#[118, 49]⟩
def wd1 : Wd := ⟨3, 0, one1, v1, 0, 1, 0, 0⟩
def wd2 : Wd := ⟨4, 0, one1, v1, 0, 1, 0, 0⟩
def tl1 : List Tn := applyL wd1 []
def tl2 : List Tn := applyL wd2 tl1
theorem tl1_list : listL ⟨#[]⟩ 5 tl1 = [v1] := by decide +kernel
theorem tl2_there : thereL tl2 = [] := by
  apply List.length_eq_zero_iff.1
  decide +kernel
theorem tl2_len : tl2.length = 1 := by decide +kernel
theorem z44 : Z44.length = 39 := rfl
theorem wd_ones (x : Wd) : ∀ v ∈ x.cs, v.oneCell' = true := by
  intro v hv
  unfold Wd.cs at hv
  rcases List.mem_append.1 hv with h | h
  · simp at h; rcases h with rfl | rfl <;> rfl
  · rcases List.mem_append.1 h with h | h
    · exact bvs_one _ v h
    · simp at h; rcases h with rfl | rfl | rfl | rfl | rfl <;> rfl
theorem bd_nil (M : Nat) : Bd M [] := fun e he => by cases he
set_option maxRecDepth 100000 in
set_option maxHeartbeats 1000000 in
theorem lives_calls (w : World) : Calls Try.prog 8 #[] w fun e w' => e = .returned (.bool true) ∧ Fr (fun _ => False) w w' := by
  refine (F8.of w (Q := fun v w' => v = .bool true ∧ Fr (fun _ => False) w w') ?_).mono (fun e w' ⟨v, he, hv, h⟩ => ⟨by rw [he, hv], h⟩)
  refine (newT_calls (X := fun _ => True) (P := fun _ => True) none 0 0 [] w (RT.nil _ _ _) (by omega) (bd_nil _) (fun _ _ => trivial)).mono ?_
  rintro r w1 ⟨f1, tb, R, n', c', rfl, hT⟩
  refine ⟨_, rfl, gd_mk rfl (gd_mk rfl ?_)⟩
  have a0 : AscT ([] : List Tn) := List.Pairwise.nil
  have s1 := f1.size
  refine var_mkK (cs := wd1.cs) z44 rfl (wd_ones _) (fun b4 u f2 r4 hb4 => ⟨wd1.cs, rfl, rec_all r4, ?_⟩)
  have hT1 : Tab (fun k => k ≠ b4) u w.heap.size tb R n' c' [] := (hT.monoX (X' := fun k => k ≠ b4) (fun k hk _ => by omega)).fr0 f2
  have hn' : 0 = n' := hT1.len
  have g2 := f1.trans1 f2
  refine (applyT_calls w.heap.size tb R n' c' [] wd1 u hT1 a0 (by omega) (bd_nil _) rfl g2.size (fun k hk => by have := r4.lt; omega)).mono ?_
  rintro r w3 ⟨rfl, f3, R3, n3, c3, h3, hnew⟩
  have hr4 : ¬ DT tb R b4 := fun h => by have := (hT.lt h).2; omega
  have r4u := r4.lt
  have r4 := r4.fr f3 hr4
  have g3 := tab_fr g2 hT1 f3
  have a1 : AscT tl1 := applyL_asc wd1 a0
  have h3 : Tab (fun k => k ≠ b4) w3 w.heap.size tb R3 n3 c3 tl1 := h3
  have b1 : Bd 1 tl1 := applyL_bd (M := 0) (bd_nil 0) wd1
  have l1 : tl1.length ≤ 1 := applyL_len wd1 []
  have hn3 := h3.len
  refine ⟨rfl, (listT_calls w.heap.size tb R3 n3 c3 tl1 ⟨#[]⟩ 5 w3 h3 (by omega) (fun e he => by have := b1 e he; omega)).mono ?_⟩
  rintro r w4 ⟨f4, A4, c4, rfl, h4⟩
  rw [tl1_list] at h4 ⊢
  refine ⟨_, _, _, rfl, ?_⟩
  have r4 := r4.fr f4 (fun h => h)
  have hb4R : ¬ DT tb R3 b4 := fun h => by
    rcases h with h | h
    · exact hr4 (.inl h)
    · rcases hnew b4 h with h' | h'
      · exact hr4 (.inr h')
      · omega
  have h3w := h3
  have h3 := h3.fr0 f4
  have g4 := g3.trans1 f4
  refine r4.st_mk (o := 0) (by decide) (fun v hv => by simp at hv; subst hv; rfl) (fun r5 f5 => ?_)
  have r5 : RecAt _ b4 44 wd2.cs := r5
  generalize stB w4 b4 0 [Value.int .i64 4] = w5 at r5 f5 ⊢
  have hb4w : w.heap.size ≤ b4 := by omega
  have g5 := fr_own g4 f5 hb4w
  have h5 := h3.off f5 (fun k hk h => by subst h; exact hb4R hk) (fun k hk h => hk h)
  have h4 := f5.row h4 (fun k hk h => by have := (h4.blt hk).1; have := g3.size; have := f3.size; omega)
  refine ⟨wd2.cs, rfl, rec_all r5, (applyT_calls w.heap.size tb R3 n3 c3 tl1 wd2 w5 h5 a1 (by omega) (fun e he => by have := b1 e he; omega) rfl g5.size (fun k hk => by have := r5.lt; omega)).mono ?_⟩
  rintro r w6 ⟨rfl, f6, R6, n6, c6, h6, _⟩
  have h6 : Tab (fun k => k ≠ b4) w6 w.heap.size tb R6 n6 c6 tl2 := h6
  have g6 := tab_fr g5 h5 f6
  have h4 := f6.row h4 (fun k hk h => by have := (h4.blt hk).1; have := (h3w.lt h).2; omega)
  have a2 : AscT tl2 := applyL_asc wd2 a1
  have b2 : Bd 2 tl2 := applyL_bd b1 wd2
  have hn6 := h6.len
  rw [tl2_len] at hn6
  refine ⟨rfl, vIf_t rfl ?_⟩
  obtain ⟨b, o, rfl, hc⟩ := h4.sl.2 (by decide)
  refine dr_mk (gd_mk rfl ⟨v1, hc 0 _ rfl, vIf_t (by simp [v1]) ?_⟩)
  refine (countT_calls w.heap.size tb R6 n6 c6 tl2 w6 h6 (by omega) (fun e he => by have := b2 e he; omega)).mono ?_
  rintro r w7 ⟨rfl, f7⟩
  rw [tl2_there]
  refine ⟨_, rfl, vIf_t rfl ((rowT_calls w.heap.size tb R6 n6 c6 tl2 w7 (h6.fr0 f7) (by omega) (fun e he => by have := b2 e he; omega)).mono ?_)⟩
  rintro r w8 ⟨f8, A8, c8, rfl, h8⟩
  refine ⟨_, _, _, rfl, ?_, (g6.trans1 f7).trans1 f8⟩
  rw [← hn6]; rfl
/-! ### a nil table -/
theorem rowN_calls (w : World) : Calls Try.prog 24 #[.pointer none] w fun e w' => e = .returned (.slice none 0 0) ∧ w' = w :=
  (F24.of none w (Q := fun v w' => v = .slice none 0 0 ∧ w' = w) (vIf_t rfl ⟨rfl, rfl⟩)).mono (fun e w' ⟨v, he, hv, h⟩ => ⟨by rw [he, hv], h⟩)
theorem thereN_calls (w : World) : Calls Try.prog 27 #[.pointer none] w fun e w' => e = .returned (.slice none 0 0) ∧ Fr (fun _ => False) w w' := by
  refine (F27.of none w (Q := fun v w' => v = .slice none 0 0 ∧ Fr (fun _ => False) w w') ?_).mono (fun e w' ⟨v, he, hv, h⟩ => ⟨by rw [he, hv], h⟩)
  refine (rowN_calls w).mono ?_
  rintro e w2 ⟨rfl, rfl⟩
  refine ⟨_, _, _, rfl, (delT_calls (P := fun _ => True) 0 none 0 0 [] w2 (OT.nil _ _ _) (by omega)).mono ?_⟩
  rintro e w3 ⟨rfl, f3, _⟩
  exact ⟨_, _, _, rfl, rfl, f3.mono (fun k _ h => by simp [blkOf] at h)⟩
theorem countN_calls (w : World) : Calls Try.prog 11 #[.pointer none] w fun e w' => e = .returned (.int .i64 0) ∧ Fr (fun _ => False) w w' := by
  refine (F11.of none w (Q := fun v w' => v = .int .i64 0 ∧ Fr (fun _ => False) w w') ?_).mono (fun e w' ⟨v, he, hv, h⟩ => ⟨by rw [he, hv], h⟩)
  refine (thereN_calls w).mono ?_
  rintro e w2 ⟨rfl, f2⟩
  exact ⟨_, _, _, rfl, rfl, f2⟩
theorem listN_calls (nm : ByteArray) (m : Int) (w : World) : Calls Try.prog 7 #[.pointer none, .string nm, .int .i64 m] w fun e w' => e = .returned (.slice none 0 0) ∧ Fr (fun _ => False) w w' := by
  refine (F7.of none nm m w (Q := fun v w' => v = .slice none 0 0 ∧ Fr (fun _ => False) w w') ?_).mono (fun e w' ⟨v, he, hv, h⟩ => ⟨by rw [he, hv], h⟩)
  refine (thereN_calls w).mono ?_
  rintro e w2 ⟨rfl, f2⟩
  refine ⟨_, _, _, rfl, jnC_mk (loop_rule (fun s u => u = w2 ∧ s = (nm, m, (none, 0, 0), (none, 0, 0), ((0 : Nat) : Int), 0, ())) (fun _ _ => 0) ?_ _ _ ⟨rfl, rfl⟩)⟩
  rintro s u C ⟨rfl, rfl⟩ hC _
  exact vIf_f rfl ⟨rfl, f2⟩
theorem namesN_calls (w : World) : Calls Try.prog 22 #[.pointer none] w fun e w' => e = .returned (.slice none 0 0) ∧ Fr (fun _ => False) w w' := by
  refine (F22.of none w (Q := fun v w' => v = .slice none 0 0 ∧ Fr (fun _ => False) w w') ?_).mono (fun e w' ⟨v, he, hv, h⟩ => ⟨by rw [he, hv], h⟩)
  refine (thereN_calls w).mono ?_
  rintro e w2 ⟨rfl, f2⟩
  refine ⟨_, _, _, rfl, jnC_mk (loop_rule (fun s u => u = w2 ∧ s = ((none, 0, 0), (none, 0, 0), ((0 : Nat) : Int), 0, ())) (fun _ _ => 0) ?_ _ _ ⟨rfl, rfl⟩)⟩
  rintro s u C ⟨rfl, rfl⟩ hC _
  exact vIf_f rfl ⟨rfl, f2⟩
theorem applyN_calls (x : List Value) (w : World) : Calls Try.prog 13 #[.pointer none, ofL x] w fun e w' => e = .returned (.tuple #[]) ∧ Fr (fun _ => False) w w' :=
  (F13.of none x w (Q := fun v w' => v = .tuple #[] ∧ Fr (fun _ => False) w w') (nw_mk (vIf_t rfl ⟨rfl, Fr.alloc _ _ _⟩))).mono (fun e w' ⟨v, he, hv, h⟩ => ⟨by rw [he, hv], h⟩)
theorem keepN_calls (S : Option Addr) (m k : Nat) (w : World) : Calls Try.prog 15 #[.pointer none, .slice S m k] w fun e w' => e = .returned (.tuple #[]) ∧ w' = w :=
  (F15.of none S m k w (Q := fun v w' => v = .tuple #[] ∧ w' = w) (vIf_t rfl ⟨rfl, rfl⟩)).mono (fun e w' ⟨v, he, hv, h⟩ => ⟨by rw [he, hv], h⟩)
set_option maxRecDepth 10000 in
theorem getN_calls (nm : ByteArray) (w : World) : Calls Try.prog 9 #[.pointer none, .string nm] w fun e w' => e = .returned (.tuple #[ofL (zT.cs none 0 0), .bool false]) ∧ Fr (fun _ => False) w w' := by
  refine (F9.of none nm w (Q := fun v w' => v = .tuple #[ofL (zT.cs none 0 0), .bool false] ∧ Fr (fun _ => False) w w') ?_).mono (fun e w' ⟨v, he, hv, h⟩ => ⟨by rw [he, hv], h⟩)
  refine nw_mk ?_
  have f1 : Fr (fun _ => False) w (w.alloc (.cells Z34.toArray 34)) := Fr.alloc _ _ _
  have r1 := RecAt.new w Z34 34
  generalize w.alloc (.cells Z34.toArray 34) = w1 at f1 r1 ⊢
  exact vIf_t rfl (gd_mk rfl (st_all r1 z35 rfl (zT.one none 0 0) (fun w4 f4 r4 => ⟨rfl, fr_own f1 f4 (Nat.le_refl _)⟩)))
set_option maxRecDepth 100000 in
theorem none_law (x : Wd) (S : Option Addr) (m k : Nat) (w : World) (hx : x.d.length = 32) :
    Calls Try.prog 5 #[ofL x.cs, .slice S m k] w fun r w' => r = .returned (.bool true) ∧ Fr (fun _ => False) w w' := by
  refine (F5.of x.cs S m k w (Q := fun v w' => v = .bool true ∧ Fr (fun _ => False) w w') ?_).mono (fun e w' ⟨v, he, hv, h⟩ => ⟨by rw [he, hv], h⟩)
  have hxl := wd_len hx
  refine nw_mk ?_
  have f1 : Fr (fun _ => False) w (w.alloc (.cells x.cs.toArray 44)) := Fr.alloc _ _ _
  have r1 : RecAt (w.alloc (.cells x.cs.toArray 44)) w.heap.size 44 ([.int .i64 x.k, .int .u64 x.sq] ++ (x.d.map bv ++ [.string x.nm, .int .i64 x.z, .int .i64 x.s, .int .i64 x.o, .int .i64 x.q])) := RecAt.new _ _ _
  generalize w.alloc (.cells x.cs.toArray 44) = w1 at f1 r1 ⊢
  refine ⟨x.cs, hxl, rec_all r1, (applyN_calls _ w1).mono ?_⟩
  rintro r w2 ⟨rfl, f2⟩
  refine ⟨rfl, (keepN_calls S m k w2).mono ?_⟩
  rintro r w2' ⟨rfl, rfl⟩
  refine ⟨rfl, x.nm, rec_end (r1.fr f2 (fun h => h)) (bvl hx) (j := 0) rfl rfl, (getN_calls x.nm _).mono ?_⟩
  rintro r w3 ⟨rfl, f3⟩
  refine ⟨_, _, rfl, var_mk z35 rfl (zT.one none 0 0) (fun b13 u f4 r13 => ⟨_, rfl, rec_all r13, (sameT_calls zT (zT.cs none 0 0) (zT.cs none 0 0) u (zTp (P := fun _ => True) u).at (zTp (P := fun _ => True) u).at (by decide)).mono ?_⟩)⟩
  rintro r w5 ⟨rfl, f5⟩
  have g5 := (((f1.trans1 f2).trans1 f3).trans1 f4).trans1 f5
  refine ⟨_, rfl, vIf_t rfl (vIf_t rfl ((countN_calls w5).mono ?_))⟩
  rintro r w6 ⟨rfl, f6⟩
  refine ⟨_, rfl, vIf_t rfl ((rowN_calls w6).mono ?_)⟩
  rintro r w6' ⟨rfl, rfl⟩
  refine ⟨_, _, _, rfl, vIf_t rfl ((listN_calls _ _ _).mono ?_)⟩
  rintro r w7 ⟨rfl, f7⟩
  refine ⟨_, _, _, rfl, vIf_t rfl ((namesN_calls w7).mono ?_)⟩
  rintro r w8 ⟨rfl, f8⟩
  refine ⟨_, _, _, rfl, vIf_t rfl ((lives_calls w8).mono ?_)⟩
  rintro r w9 ⟨rfl, f9⟩
  exact ⟨_, rfl, rfl, (((g5.trans1 f6).trans1 f7).trans1 f8).trans1 f9⟩
end Go.Proofs.Ytklanoocjlpemaa
