/- MY OWN ENGINE, part 6y: calls of yield; lists of operations in a round's frame too. -/
import Derived.Test.YtfhimpkpfelilaaDoorG6o
import Derived.RangeFuncSeq
import Derived.RangeFuncIn
namespace Go.GV
open Go
set_option linter.unusedSimpArgs false
set_option linter.unusedVariables false
/-- a call of yield -/
def yld (P : Program) (l : Nat) (args : List Value) (w : World) (K : Bool → World → Prop) : Prop := YieldAt Fence.wide 0 P l args.toArray w (fun e w' => ∃ b, e = .returned (.bool b) ∧ K b w')
/-- no fence at all, in a round's frame or outside of any -/
abbrev Wd (ro : Option Nat) : Fence := { Fence.wide with round := ro }
def vcOpY (P : Program) (ρ : Operand → Value) (o : Oper) (w : World) (K : Value → World → Prop) : Prop :=
  match o.op with
  | .call { callee := .value f, args, argTypes := _ } =>
    match ρ f with
    | .func (.yield l) first captured => gd (Nat.beq (first.toList.length + captured.toList.length) 0) (yld P l (args.toList.map ρ) w (fun b w' => K (.bool b) w'))
    | _ => vcOp P ρ o w K
  | _ => vcOp P ρ o w K
def vcListY (P : Program) (all : List Oper) (K : List Value → World → Prop) : List Oper → List Value → World → Prop
  | [], t, w => K t w
  | o :: r, t, w =>
    match o.guard with
    | none => vcOpY P (ev t) o w (fun v w' => vcListY P all K r (putO t o.dst v) w')
    | some (j, want) =>
      match slotOf all j with
      | none => vcListY P all K r (putO t o.dst undef) w
      | some d =>
        match nthV t d with
        | .bool b =>
          vIf b
            (match want with
            | true => vcOpY P (ev (putV t d (.bool true))) o w (fun v w' => vcListY P all K r (putO (putV t d (.bool true)) o.dst v) w')
            | false => vcListY P all K r (putO (putV t d (.bool true)) o.dst undef) w)
            (match want with
            | false => vcOpY P (ev (putV t d (.bool false))) o w (fun v w' => vcListY P all K r (putO (putV t d (.bool false)) o.dst v) w')
            | true => vcListY P all K r (putO (putV t d (.bool false)) o.dst undef) w)
        | _ => vcListY P all K r (putO t o.dst undef) w
section
variable {P : Program} {w : World}
theorem no_defer {ρ : Operand → Value} {o : Oper} {K : Value → World → Prop} (h : vcOpY P ρ o w K) : ∀ c, o.op ≠ .defer c := by
  obtain ⟨dst, op, ty, pos, after, guard⟩ := o
  intro c hc
  dsimp only at hc
  subst hc
  simp [vcOpY, vcOp, vcStill] at h
theorem upon_in {ro : Option Nat} {n : Nat} {o : Oper} {a : Act} {next : Act → World → Prop} {Q : Exit → Act → World → Prop} {r : Result Next} (h : o.upon P a next Q r) : o.uponIn (Wd ro) n P a next Q r := by
  unfold Oper.upon at h
  unfold Oper.uponIn
  split at h
  · exact h
  · exact h
  · exact h
  · refine ⟨fun hd => (by cases hd), callsIn_wide.2 h⟩
  · exact ⟨fun hd => (by cases hd), fun c cs _ => let ⟨v, w', q, s⟩ := h c cs; ⟨v, w', q, stepsIn_wide.2 s⟩⟩
  · exact h
  · exact h.elim
theorem yld_exec {o : Oper} {f : Operand} {args : Array Operand} {ts : Array TypeId} {ρ : Operand → Value} {l : Nat} (ho : o.op = .call { callee := .value f, args := args, argTypes := ts }) (hf : ρ f = .func (.yield l) #[] #[]) :
    execOp ρ o = Instr.yield l (args.map ρ) := by
  simp [execOp, ho, resolve, hf, Deferred.ofValue, invoke]
theorem vcOpY_wpIn (hN : NoCount P) {ro : Option Nat} {n : Nat} {t : List Value} {o : Oper} {K : Value → World → Prop} (h : vcOpY P (ev t) o w K) {next : Act → World → Prop} (hn : ∀ v w', K v w' → next ((actOf t).put o.dst v) w') (Q : Exit → Act → World → Prop) :
    o.wpIn (Wd ro) n P (actOf t) w next Q := by
  have hd := no_defer h
  refine ⟨fun f _ => trivial, ?_⟩
  rw [Oper.semAt_eq _ _ _ hd]
  have plain : vcOp P (ev t) o w K → o.uponIn (Wd ro) n P (actOf t) next Q ((execOp (actOf t).eval o).run P w) := fun h' => upon_in (vcOp_wp hN h' hn Q)
  unfold vcOpY at h
  obtain ⟨dst, op, ty, pos, after, guard⟩ := o
  dsimp only at h
  split at h
  · rename_i f args ts
    split at h
    · rename_i l first captured hf
      obtain ⟨h0, h⟩ := gd_iff.1 h
      have h0 := Nat.eq_of_beq_eq_true h0
      have e1 : first = #[] := Array.toList_inj.1 (List.length_eq_zero_iff.1 (by omega))
      have e2 : captured = #[] := Array.toList_inj.1 (List.length_eq_zero_iff.1 (by omega))
      subst e1; subst e2
      obtain ⟨fn, tmps, assign, body, hy, hR⟩ := h
      have e3 : (args.toList.map (ev t)).toArray = args.map (ev t) := by rw [← Array.toList_map, Array.toArray_toList]
      rw [e3] at hy
      rw [ev_eq, yld_exec rfl hf, hy]
      refine ⟨fun hd => (by cases hd), trivial, fun c cs _ => ?_⟩
      obtain ⟨e, w', ⟨b, rfl, hK⟩, hs⟩ := hR.2 c cs (room_wide _)
      exact ⟨.returned (.bool b), w', hn _ _ hK, hs⟩
    · exact plain h
  · exact plain h
theorem vcListY_sound (hN : NoCount P) {ro : Option Nat} {n : Nat} {all : List Oper} {N : Nat} {K : List Value → World → Prop} {Q : Exit → Act → World → Prop} (hK : ∀ t w, t.length = N → K t w → Q .normal (actOf t) w) :
    ∀ (l p : List Oper) (t : List Value) (w : World), all = p ++ l → t.length = N → vcListY P all K l t w → wpOpsIn (Wd ro) n P all.toArray Q (List.range' p.length l.length) (actOf t) w
  | [], p, t, w, ha, hl, h => hK t w hl h
  | o :: r, p, t, w, ha, hl, h => by
    have ih := fun t w => vcListY_sound hN (ro := ro) (n := n) (all := all) hK r (p ++ [o]) t w (by rw [ha]; simp)
    rw [List.length_append, List.length_singleton] at ih
    have ho : all.toArray[p.length]? = some o := by rw [List.getElem?_toArray, ha, List.getElem?_append_right (Nat.le_refl _), Nat.sub_self]; rfl
    have go : ∀ t : List Value, t.length = N → vcOpY P (ev t) o w (fun v w' => vcListY P all K r (putO t o.dst v) w') → o.wpIn (Wd ro) n P (actOf t) w (wpOpsIn (Wd ro) n P all.toArray Q (List.range' (p.length + 1) r.length)) Q := by
      intro t hl h
      exact vcOpY_wpIn hN h (fun v w' hv => by rw [put_eq]; exact ih _ _ (by rw [putO_length]; exact hl) hv) Q
    have sk : ∀ t : List Value, t.length = N → vcListY P all K r (putO t o.dst undef) w → (∀ f, o.about P w (actOf t).eval = some f → (Wd ro).fn f) ∧ wpOpsIn (Wd ro) n P all.toArray Q (List.range' (p.length + 1) r.length) ((actOf t).put o.dst undef) w := by
      intro t hl h
      rw [put_eq]
      exact ⟨fun _ _ => trivial, ih _ _ (by rw [putO_length]; exact hl) h⟩
    rw [List.length_cons, List.range'_succ]
    unfold wpOpsIn
    rw [ho]
    dsimp only
    unfold vcListY at h
    unfold Region.wanted
    split at h
    · rename_i hg
      simp only [hg, if_true]
      exact go t hl h
    · rename_i j want hg
      simp only [hg]
      have hy := yielded_of (all := all) (t := t) (j := j)
      generalize yielded all.toArray (actOf t).tmps j = y at hy ⊢
      split at h
      · rename_i hd
        simp only [hd] at hy
        subst hy
        rw [if_neg (by simp)]
        exact sk t hl h
      · rename_i d hd
        simp only [hd] at hy
        generalize hv : nthV t d = x at h hy
        cases x
        case bool b =>
          simp only at hy h
          subst hy
          cases b
          · simp only [vIf, putV_self hv] at h
            cases want
            · rw [if_pos (by simp)]; exact go t hl h
            · rw [if_neg (by simp)]; exact sk t hl h
          · simp only [vIf, putV_self hv] at h
            cases want
            · rw [if_neg (by simp)]; exact sk t hl h
            · rw [if_pos (by simp)]; exact go t hl h
        all_goals
          simp only at hy h
          subst hy
          rw [if_neg (by simp)]
          exact sk t hl h
/-- a region that draws no order, in whatever frame -/
theorem regionY_sound (hN : NoCount P) {ro : Option Nat} {n id : Nat} {ops : Array Oper} {N : Nat} {K : List Value → World → Prop} {Q : Exit → Act → World → Prop} (hK : ∀ t w, t.length = N → K t w → Q .normal (actOf t) w) {t : List Value} (hl : t.length = N) (h : vcListY P ops.toList K ops.toList t w) :
    (Code.region id ops false).wpIn (Wd ro) n P Q (actOf t) w := by
  refine wpIn_region ?_
  have := vcListY_sound hN (ro := ro) (n := n) (Q := Q) hK ops.toList [] t w rfl hl h
  rw [List.range_eq_range']
  simpa using this
end
end Go.GV
