/- MY OWN ENGINE, part 6: calls; all operations; rows of operations, regions, code, functions. -/
import Derived.Test.YtfhimpkpfelilaaDoorG5m
import Derived.Laws.Externs
namespace Go.GV
open Go
set_option linter.unusedSimpArgs false
set_option linter.unusedVariables false

/-- some value of a type: what a call hands back -/
def exV (P : Program) (t : TypeId) (K : Value → Prop) : Prop :=
  match P.underlying t with
  | some (.int k) => ∃ x : Int, K (.int k x)
  | some .bool => ∃ x : Bool, K (.bool x)
  | some .string => ∃ x : ByteArray, K (.string x)
  | some (.pointer _) => ∃ x : Option Addr, K (.pointer x)
  | some (.slice _) => ∃ (A : Option Addr) (n c : Nat), K (.slice A n c)
  | some (.map _ _) => ∃ x : Option Nat, K (.map x)
  | some (.struct _) | some (.array _ _) => ∃ cs : List Value, K (ofL cs)
  | _ => ∃ v : Value, K v
def exVs (P : Program) : List TypeId → (List Value → Prop) → Prop
  | [], K => K []
  | t :: r, K => exV P t (fun v => exVs P r (fun vs => K (v :: vs)))
def retOf (vs : List Value) : Value :=
  match vs with
  | [v] => v
  | vs => .tuple vs.toArray
theorem exV_some {P : Program} {t : TypeId} {K : Value → Prop} (h : exV P t K) : ∃ v, K v := by
  unfold exV at h
  split at h
  all_goals first
    | (obtain ⟨a, b, c, h⟩ := h; exact ⟨_, h⟩)
    | (obtain ⟨a, h⟩ := h; exact ⟨_, h⟩)
theorem exVs_some {P : Program} : ∀ {ts : List TypeId} {K : List Value → Prop}, exVs P ts K → ∃ vs, K vs
  | [], _, h => ⟨[], h⟩
  | t :: r, K, h => by
    obtain ⟨v, h⟩ := exV_some h
    obtain ⟨vs, h⟩ := exVs_some h
    exact ⟨_, h⟩
/-- a call of a function for which the model stands in -/
def extC (P : Program) (f : FuncId) (args : Array Value) (w : World) (K : Value → World → Prop) : Prop :=
  ∃ fn e v w', P.funcs[f]? = some fn ∧ fn.body.isNone = true ∧ Extern.findNext fn = none ∧ Extern.find fn = some e ∧ (e args).run P w = .ok v w' ∧ K v w'
/-- a call of a named function -/
def vcCallF (P : Program) (f : FuncId) (args : Array Value) (w : World) (K : Value → World → Prop) : Prop :=
  match P.funcs[f]? with
  | some fn =>
    match fn.body.isSome with
    | true => Calls P f args w (fun e w' => exVs P fn.resultTypes.toList (fun vs => e = .returned (retOf vs) ∧ K (retOf vs) w'))
    | false => extC P f args w (fun v w' => exVs P fn.resultTypes.toList (fun vs => v = retOf vs ∧ K (retOf vs) w'))
  | none => False
def vcCallV (P : Program) (f : Value) (args : List Value) (w : World) (K : Value → World → Prop) : Prop :=
  match f with
  | .func (.func g) first captured => vcCallF P g (first.toList ++ (args ++ captured.toList)).toArray w K
  | _ => False
def vcOp (P : Program) (ρ : Operand → Value) (o : Oper) (w : World) (K : Value → World → Prop) : Prop :=
  match o.op with
  | .alloc t => vcAlloc P w t K
  | .box t x => vcBox w t (ρ x) K
  | .buildSlice t len parts => vcBuildSl P w t len (parts.toList.map fun (i, x) => (i, ρ x)) K
  | .store t a x => vcSto P w t (ρ a) (ρ x) (K undef)
  | .makeSlice t l c => vcMake P w t (ρ l) (ρ c) K
  | .range t x => vcRange P w t (ρ x) K
  | .next it isS => vcNext w (ρ it) isS K
  | .convert s d x => vcCv P w s d (ρ x) K
  | .call { callee := .builtin .append, args, argTypes } => (match argTypes.toList, args.toList with | [t, t2], [s, x] => vcApp P w t t2 (ρ s) (ρ x) K | _, _ => False)
  | .call { callee := .builtin .copy, args, argTypes } => (match argTypes.toList, args.toList with | [t, t2], [s, x] => vcCopy P w t (ρ s) (ρ x) K | _, _ => False)
  | .call { callee := .builtin .clear, args, argTypes } => (match argTypes.toList, args.toList with | [t], [s] => vcClear P w t (ρ s) (K (.tuple #[])) | _, _ => False)
  | .call { callee := .value f, args, argTypes := _ } => vcCallV P (ρ f) (args.toList.map ρ) w K
  | .makeMap _ r => vcMk w r K
  | .lookup t x i ok => vcLook P w t (ρ x) (ρ i) ok (fun v => K v w)
  | .mapUpdate t x i v => vcMup P w t (ρ x) (ρ i) (ρ v) (K undef)
  | .call { callee := .builtin .delete, args, argTypes } => (match argTypes.toList, args.toList with | [t, _], [s, x] => vcMdl P w t (ρ s) (ρ x) (K (.tuple #[])) | _, _ => False)
  | op => vcStill P ρ w op (fun v => K v w)
def slotOf (all : List Oper) (j : Nat) : Option Tmp := (all[j]?).bind (·.dst)
def vcList (P : Program) (all : List Oper) (K : List Value → World → Prop) : List Oper → List Value → World → Prop
  | [], t, w => K t w
  | o :: r, t, w =>
    match o.guard with
    | none => vcOp P (ev t) o w (fun v w' => vcList P all K r (putO t o.dst v) w')
    | some (j, want) =>
      match slotOf all j with
      | none => vcList P all K r (putO t o.dst undef) w
      | some d =>
        match nthV t d with
        | .bool b =>
          vIf b
            (match want with
            | true => vcOp P (ev (putV t d (.bool true))) o w (fun v w' => vcList P all K r (putO (putV t d (.bool true)) o.dst v) w')
            | false => vcList P all K r (putO (putV t d (.bool true)) o.dst undef) w)
            (match want with
            | false => vcOp P (ev (putV t d (.bool false))) o w (fun v w' => vcList P all K r (putO (putV t d (.bool false)) o.dst v) w')
            | true => vcList P all K r (putO (putV t d (.bool false)) o.dst undef) w)
        | _ => vcList P all K r (putO t o.dst undef) w
/-- which operations leave the world alone -/
def stillB (P : Program) : Op → Bool
  | .move _ | .assign _ | .pick .. | .extract .. | .makeFunc .. | .nilCheck _ | .fieldAddr .. | .field .. | .indexAddr .. | .index .. | .load .. | .unOp .. | .binOp .. | .slice .. | .build .. => true
  | .convert s d _ => (match P.underlying s, P.underlying d with | some (.int _), some (.int _) => true | some .string, some .string => true | _, _ => false)
  | .call { callee := .builtin .len, .. } | .call { callee := .builtin .cap, .. } | .call { callee := .builtin .min, .. } | .call { callee := .builtin .max, .. } => true
  | _ => false
def headN (P : Program) : List Oper → Nat
  | [] => 0
  | o :: r => if stillB P o.op then headN P r + 1 else 0
def headOf (P : Program) (ops : List Oper) : Nat := min (headN P ops) (ops.length - 1)
def undefV (v : Value) : Bool := match v with | .bool _ => false | _ => true

section
variable {P : Program} {w : World}
/-- what is asked of every program: no function with a body is named as the run-time's counter of goroutines -/
def NoCount (P : Program) : Prop := ∀ (f : Nat) (fn : Func), P.funcs[f]? = some fn → (fn.name == "runtime.NumGoroutine") = false
theorem noCount_of {P : Program} (h : (P.funcs.all fun fn => !(fn.name == "runtime.NumGoroutine")) = true) : NoCount P := by
  intro f fn hf
  have hm : fn ∈ P.funcs := Array.mem_of_getElem? hf
  have := (Array.all_eq_true_iff_forall_mem.1 h) fn hm
  simpa using this
theorem callF_upon (hN : NoCount P) {f : FuncId} {args : Array Value} {K : Value → World → Prop} (h : vcCallF P f args w K) :
    ((callFunc f args).run P w = .ok (.enter f args) w ∧ Calls P f args w (fun e w' => ∃ v, e = .returned v ∧ K v w')) ∨ (∃ v w', (callFunc f args).run P w = .ok (.value v) w' ∧ K v w') := by
  unfold vcCallF at h
  split at h
  · rename_i fn hf
    split at h
    · rename_i hb
      refine .inl ⟨?_, h.mono fun e w' he => ?_⟩
      · unfold callFunc
        have hb' : fn.body.isNone = false := by cases hx : fn.body <;> simp_all
        simp only [Sem.run_bind, program, Sem.run, Result.andThen, hf, hN f fn hf, hb', Bool.false_eq_true, if_false]
        rfl
      · obtain ⟨vs, h1, h2⟩ := exVs_some he
        exact ⟨_, h1, h2⟩
    · obtain ⟨fn', e, v, w', hf', hb', hx, he, hr, hK⟩ := h
      rw [hf] at hf'
      injection hf' with hf'
      subst hf'
      obtain ⟨vs, h1, h2⟩ := exVs_some hK
      refine .inr ⟨v, w', ?_, by rw [h1]; exact h2⟩
      rw [run_callFunc_extern hf (hN f fn hf) hb' hx he, hr]
      rfl
  · exact h.elim
theorem upon_value {o : Oper} {a : Act} {next : Act → World → Prop} {Q : Exit → Act → World → Prop} {v : Value} {w' : World} (h : (execOp a.eval o).run P w = .ok (.value v) w') (hn : next (a.put o.dst v) w') : o.wp P a w next Q := by
  unfold Oper.wp
  rw [h]
  exact hn
theorem vcOp_wp (hN : NoCount P) {t : List Value} {o : Oper} {K : Value → World → Prop} (h : vcOp P (ev t) o w K) {next : Act → World → Prop} (hn : ∀ v w', K v w' → next ((actOf t).put o.dst v) w') (Q : Exit → Act → World → Prop) :
    o.wp P (actOf t) w next Q := by
  obtain ⟨dst, op, ty, pos, after, guard⟩ := o
  have V : ∀ {v w'}, (execOp (ev t) ⟨dst, op, ty, pos, after, guard⟩).run P w = .ok (.value v) w' → K v w' → (⟨dst, op, ty, pos, after, guard⟩ : Oper).wp P (actOf t) w next Q := by
    intro v w' h1 h2
    refine upon_value (v := v) (w' := w') ?_ (hn v w' h2)
    rw [ev_eq]
    exact h1
  unfold vcOp at h
  dsimp only at h
  split at h
  · obtain ⟨v, w', hr, hK⟩ := vcAlloc_run h
    exact V (by simp [execOp, hr]) hK
  · obtain ⟨v, w', hr, hK⟩ := vcBox_run (P := P) h
    exact V (by simp [execOp, hr]) hK
  · rename_i t1 len parts
    have e : parts.toList.map (fun (i, x) => (i, ev t x)) = (parts.map fun (i, x) => (i, ev t x)).toList := by simp
    rw [e] at h
    obtain ⟨v, w', hr, hK⟩ := vcBuildSl_run h
    exact V (by simp [execOp, hr]) hK
  · rename_i t1 a1 x1
    obtain ⟨w', hr, hK⟩ := vcSto_run h
    unfold Oper.wp
    rw [ev_eq]
    have : (execOp (ev t) ⟨dst, .store t1 a1 x1, ty, pos, after, guard⟩).run P w = .ok .skip w' := by simp [execOp, hr]
    rw [this]
    exact hn _ _ hK
  · obtain ⟨v, w', hr, hK⟩ := vcMake_run h
    exact V (by simp [execOp, hr]) hK
  · obtain ⟨v, w', hr, hK⟩ := vcRange_run h
    exact V (by simp [execOp, hr]) hK
  · obtain ⟨v, w', hr, hK⟩ := vcNext_run (P := P) (ty := ty) h
    exact V (by simp [execOp, hr]) hK
  · obtain ⟨v, w', hr, hK⟩ := vcCv_run h
    exact V (by simp [execOp, hr]) hK
  · rename_i args ts
    split at h
    · rename_i t1 t2 s x h1 h2
      obtain ⟨v, w', hr, hK⟩ := vcApp_run (ty := ty) h
      have e1 : ts = #[t1, t2] := Array.toList_inj.1 h1
      have e2 : args = #[s, x] := Array.toList_inj.1 h2
      subst e1; subst e2
      exact V (by simp [execOp, resolve, invoke, builtin, hr]) hK
    · exact h.elim
  · rename_i args ts
    split at h
    · rename_i t1 t2 s x h1 h2
      obtain ⟨v, w', hr, hK⟩ := vcCopy_run (ty := ty) (t2 := t2) h
      have e1 : ts = #[t1, t2] := Array.toList_inj.1 h1
      have e2 : args = #[s, x] := Array.toList_inj.1 h2
      subst e1; subst e2
      exact V (by simp [execOp, resolve, invoke, builtin, hr]) hK
    · exact h.elim
  · rename_i args ts
    split at h
    · rename_i t1 s h1 h2
      obtain ⟨w', hr, hK⟩ := vcClear_run (ty := ty) h
      have e1 : ts = #[t1] := Array.toList_inj.1 h1
      have e2 : args = #[s] := Array.toList_inj.1 h2
      subst e1; subst e2
      exact V (by simp [execOp, resolve, invoke, builtin, hr]) hK
    · exact h.elim
  · rename_i f args ts
    unfold vcCallV at h
    split at h
    · rename_i g first captured hf
      have e : (first.toList ++ (args.toList.map (ev t) ++ captured.toList)).toArray = first ++ args.map (ev t) ++ captured := by simp
      rw [e] at h
      rcases callF_upon hN h with ⟨hr, hC⟩ | ⟨v, w', hr, hK⟩
      · unfold Oper.wp
        rw [ev_eq]
        have : (execOp (ev t) ⟨dst, .call { callee := .value f, args := args, argTypes := ts }, ty, pos, after, guard⟩).run P w = .ok (.enter g (first ++ args.map (ev t) ++ captured)) w := by
          simp only [execOp, resolve, hf, Deferred.ofValue, Sem.run_bind, Sem.run_pure, Result.andThen, invoke]
          exact hr
        rw [this]
        refine hC.mono fun e w' ⟨v, he, hK⟩ => ?_
        subst he
        exact hn _ _ hK
      · refine V ?_ hK
        simp only [execOp, resolve, hf, Deferred.ofValue, Sem.run_bind, Sem.run_pure, Result.andThen, invoke]
        exact hr
    · exact h.elim
  · rename_i t1 r1
    obtain ⟨v, w', hr, hK⟩ := vcMk_run (P := P) (t := t1) (ρ := ev t) h
    exact V (by simp [execOp, hr]) hK
  · obtain ⟨v, hr, hK⟩ := vcLook_run h
    exact V (by simp [execOp, hr]) hK
  · rename_i t1 x1 k1 v1
    obtain ⟨w', hr, hK⟩ := vcMup_run h
    unfold Oper.wp
    rw [ev_eq]
    have : (execOp (ev t) ⟨dst, .mapUpdate t1 x1 k1 v1, ty, pos, after, guard⟩).run P w = .ok .skip w' := by simp [execOp, hr]
    rw [this]
    exact hn _ _ hK
  · rename_i args ts
    split at h
    · rename_i t1 t2 s x h1 h2
      obtain ⟨w', hr, hK⟩ := vcMdl_run (t2 := t2) (ty := ty) h
      have e1 : ts = #[t1, t2] := Array.toList_inj.1 h1
      have e2 : args = #[s, x] := Array.toList_inj.1 h2
      subst e1; subst e2
      exact V (by simp [execOp, resolve, invoke, builtin, hr]) hK
    · exact h.elim
  · obtain ⟨v, hr, hK⟩ := vcStill_run (o := ⟨dst, op, ty, pos, after, guard⟩) h
    exact V hr hK
theorem putV_self : ∀ {t : List Value} {d : Nat} {v : Value}, nthV t d = v → putV t d v = t
  | [], _, _, _ => rfl
  | x :: r, 0, v, h => by simp [nthV] at h; simp [putV, h]
  | x :: r, n + 1, v, h => by simp only [nthV] at h; simp [putV, putV_self h]
theorem yielded_of {all : List Oper} {t : List Value} {j : Nat} :
    (match slotOf all j with | none => (none : Option Bool) | some d => match nthV t d with | .bool b => some b | _ => none) = yielded all.toArray (actOf t).tmps j := by
  unfold slotOf yielded actOf
  simp only [List.getElem?_toArray]
  cases h : (all[j]?).bind (·.dst) with
  | none => simp
  | some d =>
    simp only [Option.bind_some]
    rw [nthV_eq]
    by_cases hd : d < t.length
    · simp [Array.getD_eq_getD_getElem?, hd]
      cases t[d] <;> rfl
    · simp [Array.getD_eq_getD_getElem?, hd, undef]
theorem vcList_sound (hN : NoCount P) {all : List Oper} {N : Nat} {K : List Value → World → Prop} {Q : Exit → Act → World → Prop} (hK : ∀ t w, t.length = N → K t w → Q .normal (actOf t) w) :
    ∀ (l : List Oper) (t : List Value) (w : World), t.length = N → vcList P all K l t w → wpList P all.toArray Q l (actOf t) w
  | [], t, w, hl, h => hK t w hl h
  | o :: r, t, w, hl, h => by
    have ih := vcList_sound hN (all := all) hK r
    have go : ∀ t : List Value, t.length = N → vcOp P (ev t) o w (fun v w' => vcList P all K r (putO t o.dst v) w') → o.wp P (actOf t) w (wpList P all.toArray Q r) Q := by
      intro t hl h
      exact vcOp_wp hN h (fun v w' hv => by rw [put_eq]; exact ih _ _ (by rw [putO_length]; exact hl) hv) Q
    have sk : ∀ t : List Value, t.length = N → vcList P all K r (putO t o.dst undef) w → wpList P all.toArray Q r ((actOf t).put o.dst undef) w := by
      intro t hl h
      rw [put_eq]
      exact ih _ _ (by rw [putO_length]; exact hl) h
    unfold vcList at h
    unfold wpList
    unfold Region.wanted
    split at h
    · rename_i hg
      simp only [hg, if_true]
      exact .inl (go t hl h)
    · rename_i j want hg
      simp only [hg]
      have hy := yielded_of (all := all) (t := t) (j := j)
      generalize yielded all.toArray (actOf t).tmps j = y at hy ⊢
      split at h
      · rename_i hd
        simp only [hd] at hy
        subst hy
        rw [if_neg (by simp)]
        exact sk t hl h
      · rename_i d hd
        simp only [hd] at hy
        generalize hv : nthV t d = x at h hy
        cases x
        case bool b =>
          simp only at hy h
          subst hy
          cases b
          · simp only [vIf, putV_self hv] at h
            cases want
            · rw [if_pos (by simp)]; exact .inl (go t hl h)
            · rw [if_neg (by simp)]; exact sk t hl h
          · simp only [vIf, putV_self hv] at h
            cases want
            · rw [if_neg (by simp)]; exact sk t hl h
            · rw [if_pos (by simp)]; exact .inl (go t hl h)
        all_goals
          simp only at hy h
          subst hy
          rw [if_neg (by simp)]
          exact sk t hl h
/-! ### a region that draws its order: the head of it only reads; one chain behind -/
theorem vcOp_still {t : List Value} {o : Oper} {K : Value → World → Prop} (hs : stillB P o.op = true) (h : vcOp P (ev t) o w K) : ∃ v, (execOp (ev t) o).run P w = .ok (.value v) w ∧ K v w := by
  obtain ⟨dst, op, ty, pos, after, guard⟩ := o
  unfold vcOp at h
  dsimp only at h hs
  split at h
  case h_8 s d x =>
    have hc : vcConv P s d (ev t x) (fun v => K v w) := by
      unfold vcCv at h
      simp only [stillB] at hs
      split at h
      · rename_i h1 h2; simp [h1, h2] at hs
      · rename_i h1 h2; simp [h1, h2] at hs
      · rename_i h1 h2; simp [h1, h2] at hs
      · exact h
    obtain ⟨v, hv, hK⟩ := vcConv_run (w := w) hc
    exact ⟨v, by simp [execOp, hv], hK⟩
  case h_17 => exact vcStill_run h
  all_goals simp [stillB] at hs
theorem vcList_still {all : List Oper} {K : List Value → World → Prop} : ∀ (n : Nat) (l : List Oper) (t : List Value), n ≤ headN P l → vcList P all K l t w →
    wpStill P all.toArray w (fun a => ∃ t', a = actOf t' ∧ t'.length = t.length ∧ vcList P all K (l.drop n) t' w) (l.take n) (actOf t)
  | 0, l, t, _, h => ⟨t, rfl, rfl, h⟩
  | n + 1, [], t, hn, h => by simp [headN] at hn
  | n + 1, o :: r, t, hn, h => by
    have hs : stillB P o.op = true := by
      unfold headN at hn
      split at hn
      · assumption
      · omega
    have hn' : n ≤ headN P r := by
      unfold headN at hn
      rw [if_pos hs] at hn
      omega
    rw [List.take_succ_cons, List.drop_succ_cons]
    have ih := fun (t' : List Value) (h' : vcList P all K r t' w) => vcList_still (K := K) n r t' hn' h'
    have W : ∀ (t0 t' : List Value), t'.length = t0.length → wpStill P all.toArray w (fun a => ∃ t'', a = actOf t'' ∧ t''.length = t'.length ∧ vcList P all K (r.drop n) t'' w) (r.take n) (actOf t') →
        wpStill P all.toArray w (fun a => ∃ t'', a = actOf t'' ∧ t''.length = t0.length ∧ vcList P all K (r.drop n) t'' w) (r.take n) (actOf t') := by
      intro t0 t' e hh
      rw [← e]; exact hh
    have go : vcOp P (ev t) o w (fun v w' => vcList P all K r (putO t o.dst v) w') → o.still P (actOf t) w (wpStill P all.toArray w (fun a => ∃ t', a = actOf t' ∧ t'.length = t.length ∧ vcList P all K (r.drop n) t' w) (r.take n)) := by
      intro h
      obtain ⟨v, hv, hK⟩ := vcOp_still hs h
      unfold Oper.still
      rw [ev_eq, hv]
      refine ⟨rfl, ?_⟩
      rw [put_eq]
      exact W _ _ (putO_length _ _ _) (ih _ hK)
    have sk : vcList P all K r (putO t o.dst undef) w → wpStill P all.toArray w (fun a => ∃ t', a = actOf t' ∧ t'.length = t.length ∧ vcList P all K (r.drop n) t' w) (r.take n) ((actOf t).put o.dst undef) := by
      intro h
      rw [put_eq]
      exact W _ _ (putO_length _ _ _) (ih _ h)
    unfold vcList at h
    unfold wpStill
    unfold Region.wanted
    split at h
    · rename_i hg
      simp only [hg, if_true]
      exact go h
    · rename_i j want hg
      simp only [hg]
      have hy := yielded_of (all := all) (t := t) (j := j)
      generalize yielded all.toArray (actOf t).tmps j = y at hy ⊢
      split at h
      · rename_i hd
        simp only [hd] at hy
        subst hy
        rw [if_neg (by simp)]
        exact sk h
      · rename_i d hd
        simp only [hd] at hy
        generalize hv : nthV t d = x at h hy
        cases x
        case bool b =>
          simp only at hy h
          subst hy
          cases b
          · simp only [vIf, putV_self hv] at h
            cases want
            · rw [if_pos (by simp)]; exact go h
            · rw [if_neg (by simp)]; exact sk h
          · simp only [vIf, putV_self hv] at h
            cases want
            · rw [if_neg (by simp)]; exact sk h
            · rw [if_pos (by simp)]; exact go h
        all_goals
          simp only at hy h
          subst hy
          rw [if_neg (by simp)]
          exact sk h
end
end Go.GV
