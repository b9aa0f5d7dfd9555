/- MY OWN ENGINE, part 4: every operation; a row of operations. -/
import Derived.Test.YtfhimpkpfelilaaDoorG3
namespace Go.GV
open Go
set_option linter.unusedSimpArgs false
set_option linter.unusedVariables false

/-- an interface value that nobody knows is held against nil -/
def ifNil (x : Value) (K : Bool → Prop) : Prop := match x with | .nilIface => K true | .iface _ _ => K false | _ => False
def isIfT (P : Program) (t : TypeId) : Bool := match P.underlying t with | some (.interface _) => true | _ => false
def constB : Operand → Bool | .const _ => true | _ => false
def nilB : Value → Bool | .nilIface => true | _ => false
def vcBinI (P : Program) (op : BinOp) (t : TypeId) (oy : Operand) (x y : Value) (K : Value → Prop) : Prop :=
  vIf (isIfT P t && (constB oy && nilB y)) (match op with | .eql => ifNil x (fun b => K (.bool b)) | .neq => ifNil x (fun b => K (.bool !b)) | _ => False) (vcBin P op t x y K)
theorem ifNil_run {P : Program} {w : World} {t : TypeId} {ms : Array (String × TypeId)} (hu : P.underlying t = some (.interface ms)) {x : Value} {c : Value} {K : Bool → Prop} (h : ifNil x K) (op : BinOp) (hop : op = .eql ∨ op = .neq) (ox : Operand) :
    ∃ b, (do eqGuard op t ox (.const c) x .nilIface; binOp op t x .nilIface : Sem Value).run P w = .ok (.bool (if op = .eql then b else !b)) w ∧ K b := by
  unfold ifNil at h
  split at h
  · exact ⟨_, eq_of_in (fun d => by simp [Op.equalIn, run_underlying hu]) op hop ox (.const c) (fun op => guard_if _ _ _ _ _ _ (by rintro _ (rfl | rfl) <;> simp [eqGuard])) rfl rfl, h⟩
  · exact ⟨_, eq_of_in (fun d => by simp [Op.equalIn, run_underlying hu]) op hop ox (.const c) (fun op => guard_if _ _ _ _ _ _ (by rintro _ (rfl | rfl) <;> rfl)) rfl rfl, h⟩
  · exact h.elim
theorem vcBinI_run {P : Program} {w : World} {op : BinOp} {t : TypeId} {oy : Operand} {x y : Value} {K : Value → Prop} (h : vcBinI P op t oy x y K) (ox : Operand) :
    ∃ v, (do eqGuard op t ox oy x y; binOp op t x y : Sem Value).run P w = .ok v w ∧ K v := by
  unfold vcBinI at h
  rw [vIf_iff] at h
  cases hb : (isIfT P t && (constB oy && nilB y)) with
  | false => exact vcBin_run (h.2 hb) ox oy
  | true =>
    have h' := h.1 hb
    clear h
    simp only [Bool.and_eq_true] at hb
    obtain ⟨h1, h2, h3⟩ := hb
    obtain ⟨ms, hu⟩ : ∃ ms, P.underlying t = some (.interface ms) := by
      unfold isIfT at h1
      split at h1
      · rename_i ms hu; exact ⟨ms, hu⟩
      · cases h1
    obtain ⟨c, rfl⟩ : ∃ c, oy = .const c := by
      cases oy with
      | const c => exact ⟨c, rfl⟩
      | _ => cases h2
    have hy : y = .nilIface := by
      cases y with
      | nilIface => rfl
      | _ => cases h3
    subst hy
    split at h'
    · obtain ⟨b, hr, hK⟩ := ifNil_run (w := w) (c := c) hu h' .eql (.inl rfl) ox
      exact ⟨_, hr, by simpa using hK⟩
    · obtain ⟨b, hr, hK⟩ := ifNil_run (w := w) (c := c) hu h' .neq (.inr rfl) ox
      exact ⟨_, hr, by simpa using hK⟩
    · exact h'.elim
/-- the operations that leave the world alone, where the walk sees it -/
def vcStill (P : Program) (ρ : Operand → Value) (w : World) (op : Op) (K : Value → Prop) : Prop :=
  match op with
  | .move x | .assign x => K (ρ x)
  | .pick c a b => (match ρ c with | .bool bb => vIf bb (K (ρ a)) (K (ρ b)) | _ => False)
  | .extract x i => (match ρ x with | .tuple vs => (match vs[i]? with | some v => K v | none => False) | _ => False)
  | .makeFunc fn f c => K (.func fn (f.toList.map ρ).toArray (c.toList.map ρ).toArray)
  | .nilCheck x => vcNil (ρ x) K
  | .fieldAddr s x f => vcFA P s (ρ x) f K
  | .field s x f => vcFd P s (ρ x) f K
  | .indexAddr t x i => vcIxA P t (ρ x) (ρ i) K
  | .index t x i => vcIx P t (ρ x) (ρ i) K
  | .load t a => (match ρ a with | .pointer q => dr q (fun b o => vcLd P t w b o K) | _ => False)
  | .unOp op _ x => vcUn op (ρ x) K
  | .binOp op t x y _ => vcBinI P op t y (ρ x) (ρ y) K
  | .convert s d x => vcConv P s d (ρ x) K
  | .slice t x lo hi mx => vcSl P t (ρ x) (lo.map ρ) (hi.map ρ) (mx.map ρ) K
  | .build t parts => vcBuild P t (parts.toList.map fun (i, x) => (i, ρ x)) K
  | .call { callee := .builtin .len, args, argTypes } => (match argTypes[0]?, args[0]? with | some t, some x => vcLen P t (ρ x) K | _, _ => False)
  | .call { callee := .builtin .cap, args, argTypes } => (match argTypes[0]?, args[0]? with | some t, some x => vcCap P t (ρ x) K | _, _ => False)
  | .call { callee := .builtin .min, args, argTypes := _ } => vcMm true (args.toList.map ρ) K
  | .call { callee := .builtin .max, args, argTypes := _ } => vcMm false (args.toList.map ρ) K
  | _ => False

section
variable {P : Program} {w : World}
theorem vcStill_run {ρ : Operand → Value} {o : Oper} {K : Value → Prop} (h : vcStill P ρ w o.op K) : ∃ v, (execOp ρ o).run P w = .ok (.value v) w ∧ K v := by
  obtain ⟨dst, op, ty, pos, after, guard⟩ := o
  dsimp only at h
  unfold vcStill at h
  unfold execOp
  split at h
  · exact ⟨_, rfl, h⟩
  · exact ⟨_, rfl, h⟩
  · split at h
    · rename_i c a b _ bb e
      simp only [e, asBool]
      cases bb
      · exact ⟨_, rfl, h⟩
      · exact ⟨_, rfl, h⟩
    · exact h.elim
  · split at h
    · rename_i x i _ vs e
      split at h
      · rename_i v ev
        exact ⟨v, by simp [Instr.extract, e, ev], h⟩
      · exact h.elim
    · exact h.elim
  · rename_i fn f c
    refine ⟨_, ?_, h⟩
    have e1 : (f.toList.map ρ).toArray = f.map ρ := by rw [← Array.toList_map]
    have e2 : (c.toList.map ρ).toArray = c.map ρ := by rw [← Array.toList_map]
    rw [e1, e2]
    rfl
  · rename_i x
    unfold vcNil at h
    split at h
    · rename_i q e
      rw [dr_iff] at h
      obtain ⟨b, o, rfl, h⟩ := h
      exact ⟨_, by simp [e], h⟩
    · rename_i f a b e
      exact ⟨_, by simp [e], h⟩
    · exact h.elim
  · obtain ⟨v, hv, hK⟩ := vcFA_run (w := w) h; exact ⟨v, by simp [hv, Sem.run_bind], hK⟩
  · obtain ⟨v, hv, hK⟩ := vcFd_run (w := w) h; exact ⟨v, by simp [hv, Sem.run_bind], hK⟩
  · obtain ⟨v, hv, hK⟩ := vcIxA_run (w := w) h; exact ⟨v, by simp [hv, Sem.run_bind], hK⟩
  · obtain ⟨v, hv, hK⟩ := vcIx_run (w := w) h; exact ⟨v, by simp [hv, Sem.run_bind], hK⟩
  · split at h
    · rename_i q e
      rw [dr_iff] at h
      obtain ⟨b, o, rfl, h⟩ := h
      obtain ⟨v, hv, hK⟩ := vcLd_run h
      exact ⟨v, by simp [Instr.loadAt, Instr.sureAddr, e, hv, Sem.run_bind], hK⟩
    · exact h.elim
  · obtain ⟨v, hv, hK⟩ := vcUn_run (P := P) (w := w) h; exact ⟨v, by simp [hv, Sem.run_bind], hK⟩
  · rename_i op t x y _
    obtain ⟨v, hv, hK⟩ := vcBinI_run (w := w) h x
    refine ⟨v, ?_, hK⟩
    simp only [Sem.run_bind] at hv ⊢
    rw [hv]; rfl
  · obtain ⟨v, hv, hK⟩ := vcConv_run (w := w) h; exact ⟨v, by simp [hv, Sem.run_bind], hK⟩
  · obtain ⟨v, hv, hK⟩ := vcSl_run (w := w) h; exact ⟨v, by simp [hv, Sem.run_bind], hK⟩
  · rename_i t parts
    have e : parts.toList.map (fun (i, x) => (i, ρ x)) = (parts.map fun (i, x) => (i, ρ x)).toList := by simp
    rw [e] at h
    obtain ⟨v, hv, hK⟩ := vcBuild_run (w := w) h; exact ⟨v, by simp [hv, Sem.run_bind], hK⟩
  · rename_i args ts
    split at h
    · rename_i t x ht hx
      obtain ⟨v, hv, hK⟩ := vcLen_run (w := w) (ty := ty) (ts := ts) (xs := args.map ρ) ht (by simp [hx]) h
      exact ⟨v, by simp [resolve, invoke, builtin, hv, Sem.run_bind], hK⟩
    · exact h.elim
  · rename_i args ts
    split at h
    · rename_i t x ht hx
      obtain ⟨v, hv, hK⟩ := vcCap_run (w := w) (ty := ty) (ts := ts) (xs := args.map ρ) ht (by simp [hx]) h
      exact ⟨v, by simp [resolve, invoke, builtin, hv, Sem.run_bind], hK⟩
    · exact h.elim
  · rename_i args ts
    have e : args.toList.map ρ = (args.map ρ).toList := by simp
    rw [e] at h
    obtain ⟨v, hv, hK⟩ := vcMm_run (P := P) (w := w) (ts := ts) (ty := ty) h
    simp only [if_true] at hv
    exact ⟨v, by simp [resolve, invoke, builtin, hv, Sem.run_bind], hK⟩
  · rename_i args ts
    have e : args.toList.map ρ = (args.map ρ).toList := by simp
    rw [e] at h
    obtain ⟨v, hv, hK⟩ := vcMm_run (P := P) (w := w) (ts := ts) (ty := ty) h
    simp only [Bool.false_eq_true, if_false] at hv
    exact ⟨v, by simp [resolve, invoke, builtin, hv, Sem.run_bind], hK⟩
  · exact h.elim
end
end Go.GV
