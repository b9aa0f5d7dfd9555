/- MY OWN ENGINE, part 15: a range over a function: the statement, and a round. -/
import Derived.Test.YtegihbpdemjeaaaDoorG8
import Derived.RangeFuncRecord
namespace Go.GV
open Go Go.RowKit
set_option linter.unusedSimpArgs false
set_option linter.unusedVariables false
theorem fr_put {W : World} {L : Nat} {o : Obj} : Fr (fun k => k = L) W (W.putObj L o) := ⟨rfl, rfl, rfl, by simp, fun k _ hk => World.putObj_heap_other hk⟩
variable {P : Program}
/-- the statement: the function is called with yield; behind it the record is no more busy -/
theorem rf_law {n : Nat} {g : Operand} {ps : Array Tmp} {asg bdy : Code} {Q : Exit → Act → World → Prop} {T : Array Value} {u : World} {gf : Nat} {lb : Array Value}
    (hg : (⟨T, []⟩ : Act).eval g = .func (.func gf) #[] lb) (eg : ∀ args w, (callFunc gf args).run P w = .ok (.enter gf args) w)
    (h : ∀ (fn : FuncId) (W1 : World), W1.heap.size = u.heap.size + 2 → W1.drawn = u.drawn → Fr (fun _ => False) u W1 → W1.heap[u.heap.size]? = some (.deferred (some [])) →
      W1.heap[u.heap.size + 1]? = some (.loop { state := .ready, pending := none, fn := fn, tmps := T, params := ps, assign := asg, body := bdy, defers := u.heap.size }) →
      Calls P gf (#[.func (.yield (u.heap.size + 1)) #[] #[]] ++ lb) W1 (fun e W' => (∃ v, e = .returned v) ∧ ∃ r, W'.heap[u.heap.size + 1]? = some (.loop r) ∧ r.state ≠ .busy ∧ r.pending = none ∧
        Q .normal ⟨T, [{ target := .collected u.heap.size, args := #[] }]⟩ (W'.putObj (u.heap.size + 1) (.loop { r with state := .exhausted })))) :
    (Code.rangeFunc g ps asg bdy).wpIn Fence.wide n P Q ⟨T, []⟩ u := by
  refine wpIn_rangeFunc ?_
  intro fn _
  obtain ⟨r0, hr0⟩ : ∃ r0 : Loop, r0 = { state := .ready, pending := none, fn := fn, tmps := T, params := ps, assign := asg, body := bdy, defers := u.heap.size } := ⟨_, rfl⟩
  obtain ⟨W1, hW1⟩ : ∃ W1, W1 = (u.alloc (.deferred (some []))).alloc (.loop r0) := ⟨_, rfl⟩
  have s1 : (World.alloc u (.deferred (some []))).heap.size = u.heap.size + 1 := alloc_size _ _
  have hL : W1.heap[u.heap.size + 1]? = some (.loop r0) := by
    have h1 := heap_alloc_at (World.alloc u (.deferred (some []))) (.loop r0)
    rw [s1] at h1
    rw [hW1]; exact h1
  have hD : W1.heap[u.heap.size]? = some (.deferred (some [])) := by
    rw [hW1]; exact (heap_alloc_lt (by omega)).trans (heap_alloc_at _ _)
  have hc := h fn W1 (by rw [hW1, alloc_size, s1]) (by rw [hW1]; rfl) (by rw [hW1]; exact (Fr.alloc _ _ _).trans1 (Fr.alloc _ _ _)) hD (by rw [hL, hr0])
  have h1 : (Instr.enterLoop fn T ps asg bdy none).run P u = .ok (u.heap.size + 1, [{ target := .collected u.heap.size, args := #[] }]) W1 := by
    rw [hW1, hr0]; exact run_enterLoop_outer _ _ _ _ _
  have h2 : (resolve (⟨T, []⟩ : Act).eval (rangeCall g (u.heap.size + 1)) 0).run P W1 = .ok { target := .fn (.func gf) lb, args := #[.func (.yield (u.heap.size + 1)) #[] #[]] } W1 := by
    simp only [resolve, hg]
    simp [go_sem]
  have h3 : (invoke (.fn (.func gf) lb) #[.func (.yield (u.heap.size + 1)) #[] #[]]).run P W1 = .ok (.enter gf (#[.func (.yield (u.heap.size + 1)) #[] #[]] ++ lb)) W1 := by
    simp [invoke, go_sem, eg]
  have h4 : CallsIn Fence.wide (n - 1) P gf (#[.func (.yield (u.heap.size + 1)) #[] #[]] ++ lb) W1 (rangePost Fence.wide n P (u.heap.size + 1) Q ⟨T, [{ target := .collected u.heap.size, args := #[] }]⟩) := by
    refine callsIn_wide.2 (Calls.mono hc ?_)
    rintro e W' ⟨⟨v, rfl⟩, r, h1, h2, h3, h4⟩
    refine ⟨none, W'.putObj (u.heap.size + 1) (.loop { r with state := .exhausted }), ?_, h4⟩
    exact (run_endLoop (P := P) h1 h2).trans (congrArg (fun z => Result.ok z _) h3)
  exact ⟨_, _, _, _, _, _, _, _, h1, h2, fun _ _ => trivial, h3, (fun h => Bool.noConfusion h), h4⟩
/-- a round: the values are handed on, the body runs to its end -/
theorem yld_mk {L : Nat} {X : World} {r : Loop} {args : List Value} {K : Bool → World → Prop} (hl : X.heap[L]? = some (.loop r)) (hr : r.state = .ready) (hs : args.length = r.params.size)
    (h : r.assign.wpIn (Wd (some L)) 0 P (Exit.then (fun a₁ X1 => X1.heap[L]? = some (.loop r) ∧ r.body.wpIn (Wd (some L)) 0 P (fun e _ X2 => e = .normal ∧ ∃ r2, X2.heap[L]? = some (.loop r2) ∧ K true (X2.putObj L (.loop { r2 with state := .ready, pending := none }))) a₁ (X1.putObj L (.loop { r with state := .busy }))) (fun _ _ _ => False))
      { tmps := (r.params.zip args.toArray).foldl (fun tmps (t, a) => tmps.setIfInBounds t a) r.tmps, defers := [] } X) : yld P L args X K := by
  refine ⟨_, _, _, _, run_yield hl (by simpa using hs), roundIn_of_wpIn trivial (wpIn_mono h ?_)⟩
  rintro e a X1 hq
  cases e with
  | normal =>
    obtain ⟨h1, h2⟩ := hq
    refine ⟨_, run_beginRound h1 hr, wpIn_mono h2 ?_⟩
    rintro e a X2 ⟨rfl, r2, h3, h4⟩
    exact ⟨_, _, run_endRound none h3, true, rfl, h4⟩
  | _ => exact hq.elim
end Go.GV
