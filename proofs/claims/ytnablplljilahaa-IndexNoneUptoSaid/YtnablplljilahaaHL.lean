/- chapter 20: lives, and the law of a nil index -/
import Derived.Test.YtnablplljilahaaLIxV
import Derived.Test.YtnablplljilahaaLIxR
namespace Go.Proofs.Ytnablplljilahaa
open Go.GV Go.RowKit Go.Lib
set_option linter.unusedVariables false
set_option linter.unusedSimpArgs false
def one1 : List UInt8 := 1 :: List.replicate 31 0
def wd1 : Wd := ⟨1, 0, one1, ⟨#[]⟩, 9, 1, 0, 0⟩
def wd2 : Wd := ⟨5, 0, one1, ⟨#[]⟩, 9, 1, 0, 0⟩
def el1 : List En := applyE [] wd1
def el2 : List En := applyE el1 wd2
theorem el1_cnt : cntE el1 = (1, 9) := by decide +kernel
theorem el2_cnt : (cntE el2).1 = 0 := by decide +kernel
theorem el2_len : el2.length = 1 := by decide +kernel
theorem zWd : Z33.length = 39 := rfl
theorem wd_ones (x : Wd) : ∀ v ∈ x.cs, v.oneCell' = true := by
  intro v hv
  unfold Wd.cs at hv
  rcases List.mem_append.1 hv with h | h
  · simp at h; rcases h with rfl | rfl <;> rfl
  · rcases List.mem_append.1 h with h | h
    · exact bvs_one _ v h
    · simp at h; rcases h with rfl | rfl | rfl | rfl | rfl <;> rfl
theorem bdE_nil (M : Nat) : BdE M [] := fun e he => by cases he
/-- over an index's own blocks -/
theorem ix_fr {X : Nat → Prop} {w u v : World} {ib bt bs N p : Nat} {S : Slo.SRow} {l : List En} (f : Fr (fun _ => False) w u) (h : Ix X u w.heap.size ib bt bs N p S l) (g : Fr (DI ib bt bs) u v) : Fr (fun _ => False) w v :=
  f.trans g (fun _ _ h => h) (fun k hk h' => by have := (h.lt h').1; omega)
theorem di_step {z : World} {ib bt bs bs' : Nat} (h : bs' = bs ∨ z.heap.size ≤ bs') : ∀ k, DI ib bt bs' k → DI ib bt bs k ∨ z.heap.size ≤ k := fun k hk => by
  rcases hk with hk | hk | hk
  · exact .inl (.inl hk)
  · exact .inl (.inr (.inl hk))
  · rcases h with h | h
    · exact .inl (.inr (.inr (hk.trans h)))
    · exact .inr (by omega)
set_option maxRecDepth 100000 in
set_option maxHeartbeats 1000000 in
theorem lives_calls (w : World) : Calls Try.prog 19 #[] w fun e w' => e = .returned (.bool true) ∧ Fr (fun _ => False) w w' := by
  refine (F19.of w (Q := fun v w' => v = .bool true ∧ Fr (fun _ => False) w w') ?_).mono (fun e w' ⟨v, he, hv, h⟩ => ⟨by rw [he, hv], h⟩)
  refine (newX_calls (X := fun _ => True) (P := fun _ => True) none 0 0 [] w (RE.nil _ _ _) (by omega) (bdE_nil _) (fun _ _ => trivial)).mono ?_
  rintro r w1 ⟨f1, ib, bt, bs, N, p, S, rfl, hI, hp⟩
  refine ⟨_, rfl, gd_mk rfl (gd_mk rfl ?_)⟩
  have s1 := f1.size
  have hI0 : Ix (fun _ => True) w1 w.heap.size ib bt bs N p S [] := hI
  refine var_k (cs := wd1.cs) zWd rfl (wd_ones _) (fun b4 u f2 r4 hb4 => ⟨wd1.cs, rfl, rec_all r4, ?_⟩)
  have hI1 : Ix (fun k => k ≠ b4) u w.heap.size ib bt bs N p S [] := (hI0.monoX (X' := fun k => k ≠ b4) (fun k hk _ => by omega)).fr0 f2
  have g2 := f1.trans1 f2
  refine (applyX_calls w.heap.size ib bt bs N p S [] wd1 u hI1 rfl (bdE_nil _) (by omega) g2.size (fun k hk => by have := r4.lt; omega)).mono ?_
  rintro r w3 ⟨rfl, f3, bs3, N3, S3, h3, hnew⟩
  have h3 : Ix (fun k => k ≠ b4) w3 w.heap.size ib bt bs3 N3 (p + 1) S3 el1 := h3
  have hr4 : ¬ DI ib bt bs b4 := fun h => by have := (hI0.lt h).2; omega
  have r4u := r4.lt
  have r4 := r4.fr f3 hr4
  have g3 := ix_fr g2 hI1 f3
  have b1 : BdE 1 el1 := applyE_bd (bdE_nil 0) wd1
  refine ⟨rfl, (countX_calls w.heap.size ib bt bs3 N3 (p + 1) S3 el1 w3 h3 (b1.mono (by omega)) (by omega)).mono ?_⟩
  rintro r w4 ⟨f4, rfl⟩
  rw [el1_cnt]
  refine ⟨_, _, rfl, ?_⟩
  have r4 := r4.fr f4 (fun h => h)
  have hb4R : ¬ DI ib bt bs3 b4 := fun h => by
    rcases di_step hnew b4 h with h' | h'
    · exact hr4 h'
    · omega
  have h3 := h3.fr0 f4
  have g4 := g3.trans1 f4
  refine r4.st_mk (o := 0) (by decide) (fun v hv => by simp at hv; subst hv; rfl) (fun r5 f5 => ?_)
  have r5 : RecAt _ b4 33 wd2.cs := r5
  generalize stB w4 b4 0 [Value.int .i64 5] = w5 at r5 f5 ⊢
  have hb4w : w.heap.size ≤ b4 := by omega
  have g5 := fr_own g4 f5 hb4w
  have h5 := h3.off f5 (fun k hk h => by subst h; exact hb4R hk) (fun k hk h => hk h)
  refine ⟨wd2.cs, rfl, rec_all r5, (applyX_calls w.heap.size ib bt bs3 N3 (p + 1) S3 el1 wd2 w5 h5 rfl (b1.mono (by omega)) (by omega) g5.size (fun k hk => by have := r5.lt; omega)).mono ?_⟩
  rintro r w6 ⟨rfl, f6, bs6, N6, S6, h6, _⟩
  have h6 : Ix (fun k => k ≠ b4) w6 w.heap.size ib bt bs6 N6 (p + 1 + 1) S6 el2 := h6
  have g6 := ix_fr g5 h5 f6
  have b2 : BdE 2 el2 := applyE_bd b1 wd2
  refine ⟨rfl, (countX_calls w.heap.size ib bt bs6 N6 (p + 1 + 1) S6 el2 w6 h6 (b2.mono (by omega)) (by omega)).mono ?_⟩
  rintro r w7 ⟨f7, rfl⟩
  rw [el2_cnt]
  refine ⟨_, _, rfl, vIf_t rfl (vIf_t rfl (vIf_t rfl ((rowX_calls w.heap.size ib bt bs6 N6 (p + 1 + 1) S6 el2 w7 (h6.fr0 f7) (b2.mono (by omega)) (by omega)).mono ?_)))⟩
  rintro r w8 ⟨f8, A8, c8, rfl, h8, _⟩
  refine ⟨_, _, _, rfl, ?_, (g6.trans1 f7).trans1 f8⟩
  rw [el2_len]; rfl
/-! ### a nil index -/
theorem rowN_calls (w : World) : Calls Try.prog 18 #[.pointer none] w fun e w' => e = .returned (.slice none 0 0) ∧ w' = w :=
  (F18.of none w (Q := fun v w' => v = .slice none 0 0 ∧ w' = w) (vIf_t rfl ⟨rfl, rfl⟩)).mono (fun e w' ⟨v, he, hv, h⟩ => ⟨by rw [he, hv], h⟩)
theorem countN_calls (w : World) : Calls Try.prog 14 #[.pointer none] w fun e w' => e = .returned (.tuple #[.int .i64 0, .int .i64 0]) ∧ Fr (fun _ => False) w w' := by
  refine (F14.of none w (Q := fun v w' => v = .tuple #[.int .i64 0, .int .i64 0] ∧ Fr (fun _ => False) w w') ?_).mono (fun e w' ⟨v, he, hv, h⟩ => ⟨by rw [he, hv], h⟩)
  refine (rowN_calls w).mono ?_
  rintro e w2 ⟨rfl, rfl⟩
  refine ⟨_, _, _, rfl, jnC_mk (loop_rule (fun s u => u = w2 ∧ s = (0, 0, (none, 0, 0), ((0 : Nat) : Int), 0, ())) (fun _ _ => 0) ?_ _ _ ⟨rfl, rfl⟩)⟩
  rintro s u C ⟨rfl, rfl⟩ hC _
  exact vIf_f rfl ⟨rfl, Fr.refl _ _⟩
theorem applyN_calls (x : List Value) (w : World) : Calls Try.prog 8 #[.pointer none, ofL x] w fun e w' => e = .returned (.tuple #[]) ∧ Fr (fun _ => False) w w' :=
  (F8.of none x w (Q := fun v w' => v = .tuple #[] ∧ Fr (fun _ => False) w w') (nw_mk (vIf_t rfl ⟨rfl, Fr.alloc _ _ _⟩))).mono (fun e w' ⟨v, he, hv, h⟩ => ⟨by rw [he, hv], h⟩)
theorem keepN_calls (S : Option Addr) (m k : Nat) (w : World) : Calls Try.prog 10 #[.pointer none, .slice S m k] w fun e w' => e = .returned (.tuple #[]) ∧ w' = w :=
  (F10.of none S m k w (Q := fun v w' => v = .tuple #[] ∧ w' = w) (vIf_t rfl ⟨rfl, rfl⟩)).mono (fun e w' ⟨v, he, hv, h⟩ => ⟨by rw [he, hv], h⟩)
set_option maxRecDepth 10000 in
theorem getN_calls (dg : List Value) (w : World) : Calls Try.prog 12 #[.pointer none, ofL dg] w fun e w' => e = .returned (.tuple #[ofL (zE.cs none 0 0), .bool false]) ∧ Fr (fun _ => False) w w' := by
  refine (F12.of none dg w (Q := fun v w' => v = .tuple #[ofL (zE.cs none 0 0), .bool false] ∧ Fr (fun _ => False) w w') ?_).mono (fun e w' ⟨v, he, hv, h⟩ => ⟨by rw [he, hv], h⟩)
  refine nw2 (fun b1 b3 u f r1 r3 hb1w hb3w n13 => vIf_t rfl (gd_mk rfl (st_all r3 z28 rfl (zE.one none 0 0) (fun w4 f4 r4 => ⟨rfl, fr_own f f4 hb3w⟩))))
set_option maxRecDepth 100000 in
theorem none_law (x : Wd) (S : Option Addr) (m k : Nat) (w : World) (hx : x.d.length = 32) :
    Calls Try.prog 5 #[ofL x.cs, .slice S m k] w fun r w' => r = .returned (.bool true) ∧ Fr (fun _ => False) w w' := by
  refine (F5.of x.cs S m k w (Q := fun v w' => v = .bool true ∧ Fr (fun _ => False) w w') ?_).mono (fun e w' ⟨v, he, hv, h⟩ => ⟨by rw [he, hv], h⟩)
  have hxl := wd_len hx
  refine nw_mk ?_
  have f1 : Fr (fun _ => False) w (w.alloc (.cells x.cs.toArray 33)) := Fr.alloc _ _ _
  have r1 : RecAt (w.alloc (.cells x.cs.toArray 33)) w.heap.size 33 ([.int .i64 x.k, .int .u64 x.sq] ++ (x.d.map bv ++ [.string x.nm, .int .i64 x.z, .int .i64 x.s, .int .i64 x.o, .int .i64 x.q])) := RecAt.new _ _ _
  generalize w.alloc (.cells x.cs.toArray 33) = w1 at f1 r1 ⊢
  refine ⟨x.cs, hxl, rec_all r1, (applyN_calls _ w1).mono ?_⟩
  rintro r w2 ⟨rfl, f2⟩
  refine ⟨rfl, (keepN_calls S m k w2).mono ?_⟩
  rintro r w2' ⟨rfl, rfl⟩
  refine ⟨rfl, x.d.map bv, bvl hx, rec_mid (r1.fr f2 (fun h => h)), (getN_calls _ _).mono ?_⟩
  rintro r w3 ⟨rfl, f3⟩
  refine ⟨_, _, rfl, var_mk z28 rfl (zE.one none 0 0) (fun b13 u f4 r13 => (countN_calls u).mono ?_)⟩
  rintro r w4 ⟨rfl, f5⟩
  refine ⟨_, _, rfl, _, rfl, rec_all (r13.fr f5 (fun h => h)), (same_calls zE (zE.cs none 0 0) (zE.cs none 0 0) w4 (zEp (P := fun _ => True) w4).at (zEp (P := fun _ => True) w4).at (by decide)).mono ?_⟩
  rintro r w6 ⟨rfl, f6⟩
  have g6 := ((((f1.trans1 f2).trans1 f3).trans1 f4).trans1 f5).trans1 f6
  refine ⟨_, rfl, vIf_t rfl (vIf_t rfl (vIf_t rfl (vIf_t rfl ((rowN_calls w6).mono ?_))))⟩
  rintro r w6' ⟨rfl, rfl⟩
  refine ⟨_, _, _, rfl, vIf_t rfl ((lives_calls _).mono ?_)⟩
  rintro r w9 ⟨rfl, f9⟩
  exact ⟨_, rfl, rfl, g6.trans1 f9⟩
end Go.Proofs.Ytnablplljilahaa
