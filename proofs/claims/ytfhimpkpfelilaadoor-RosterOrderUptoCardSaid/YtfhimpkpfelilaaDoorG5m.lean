/- MY OWN ENGINE, part 5m: maps whose keys are of an int kind. -/
import Derived.Test.YtfhimpkpfelilaaDoorG5
import Derived.MapKept
namespace Go.GV
open Go
set_option linter.unusedSimpArgs false
set_option linter.unusedVariables false
/-- an entry: its key, what it holds, its stamp -/
abbrev ME := Int × Value × Nat
def mkE (ik : IntKind) (x : ME) : MapEntry := { key := .int ik x.1, val := x.2.1, born := x.2.2 }
def mpO (ik : IntKind) (m : List ME) (c : Nat) : Obj := .map (m.map (mkE ik)).toArray c
def mpAt (w : World) (r : Nat) (ik : IntKind) (m : List ME) (c : Nat) : Prop := w.heap[r]? = some (mpO ik m c)
def mpos (n : Int) : List ME → Nat → Option (Nat × Value)
  | [], _ => none
  | x :: r, i => if n = x.1 then some (i, x.2.1) else mpos n r (i + 1)
def mfind (n : Int) (m : List ME) : Option Value := (mpos n m 0).map (·.2)
def mset (n : Int) (v : Value) (c : Nat) (m : List ME) : List ME :=
  match mpos n m 0 with
  | some x => m.modify x.1 fun e => (n, v, e.2.2)
  | none => m ++ [(n, v, c)]
def mclk (n : Int) (m : List ME) (c : Nat) : Nat :=
  match mpos n m 0 with
  | some _ => c
  | none => c + 1
def mdel (n : Int) (m : List ME) : List ME :=
  match mpos n m 0 with
  | some x => m.eraseIdx x.1
  | none => m
def mpW (w : World) (r : Nat) (o : Obj) : World := { w with heap := w.heap.setIfInBounds r o }
/-! ### what is asked -/
def drM (q : Option Nat) (K : Nat → Prop) : Prop :=
  match q with
  | some r => K r
  | none => False
def mlk (w : World) (r : Nat) (ik : IntKind) (n : Int) (K : Option Value → Prop) : Prop := ∃ m c, mpAt w r ik m c ∧ K (mfind n m)
def mup (w : World) (r : Nat) (ik : IntKind) (n : Int) (v : Value) (K : World → Prop) : Prop := ∃ m c, mpAt w r ik m c ∧ K (mpW w r (mpO ik (mset n v c m) (mclk n m c)))
def mdl (w : World) (r : Nat) (ik : IntKind) (n : Int) (K : World → Prop) : Prop := ∃ m c, mpAt w r ik m c ∧ K (mpW w r (mpO ik (mdel n m) c))
def mmk (w : World) (K : Nat → World → Prop) : Prop := K w.heap.size (w.alloc (.map #[] 0))
/-- what lies under a key: an aggregate -/
def lvA (z : List Value) (o : Option Value) (K : List Value → Prop) : Prop := ∃ cs, o.getD (ofL z) = ofL cs ∧ K cs
def kEqm : IntKind → IntKind → Bool
  | .i8, .i8 | .i16, .i16 | .i32, .i32 | .i64, .i64 | .u8, .u8 | .u16, .u16 | .u32, .u32 | .u64, .u64 => true
  | _, _ => false
theorem kEqm_eq {j k : IntKind} (h : kEqm j k = true) : j = k := by cases j <;> cases k <;> first | rfl | cases h
def vcGet (P : Program) (et : TypeId) (o : Option Value) (K : Value → Prop) : Prop :=
  match P.info? et with
  | some i =>
    match i.zero with
    | some (.agg z) => lvA z.toList o (fun cs => K (ofL cs))
    | _ => False
  | none => False
def vcMk (w : World) (r : Option Operand) (K : Value → World → Prop) : Prop :=
  match r with
  | none => mmk w (fun r w1 => K (.map (some r)) w1)
  | some _ => False
def vcLook (P : Program) (w : World) (t : TypeId) (x k : Value) (ok : Bool) (K : Value → Prop) : Prop :=
  match P.underlying t with
  | some (.map kt et) =>
    match P.underlying kt, x, k with
    | some (.int ik), .map q, .int ik' n => gd (kEqm ik' ik) (drM q fun r => mlk w r ik n fun o => vcGet P et o fun v => match ok with | true => K (.tuple #[v, .bool o.isSome]) | false => K v)
    | _, _, _ => False
  | _ => False
def vcMup (P : Program) (w : World) (t : TypeId) (x k v : Value) (K : World → Prop) : Prop :=
  match P.underlying t with
  | some (.map kt _) =>
    match P.underlying kt, x, k with
    | some (.int ik), .map q, .int ik' n => gd (kEqm ik' ik) (drM q fun r => mup w r ik n v K)
    | _, _, _ => False
  | _ => False
def vcMdl (P : Program) (w : World) (t : TypeId) (x k : Value) (K : World → Prop) : Prop :=
  match P.underlying t with
  | some (.map kt _) =>
    match P.underlying kt, x, k with
    | some (.int ik), .map q, .int ik' n => gd (kEqm ik' ik) (drM q fun r => mdl w r ik n K)
    | _, _, _ => False
  | _ => False
section
variable {P : Program} {w : World}
theorem findNow_mp (ik : IntKind) (n : Int) : ∀ (m : List ME) (i : Nat), Instr.findNow (.int ik) (.int ik n) (m.map (mkE ik)) i = some (mpos n m i)
  | [], i => rfl
  | x :: r, i => by
    rw [List.map_cons, Instr.findNow, mpos]
    have ih := findNow_mp ik n r (i + 1)
    by_cases h : n = x.1
    · simp [Instr.sameNow, mkE, h]
    · have hb : (n == x.1) = false := by simpa using h
      simp only [Instr.sameNow, mkE, if_true, hb, if_neg h]
      exact ih
theorem checkKey_int {ik : IntKind} {kt : TypeId} {n : Int} (e : Bool) (hk : P.underlying kt = some (.int ik)) : (Instr.checkKey e 10000 kt (.int ik n)).run P w = .ok () w := by
  unfold Instr.checkKey
  simp [Sem.run_bind, run_underlying hk, Result.andThen]
theorem findKey_mp {ik : IntKind} {kt : TypeId} {n : Int} (m : List ME) (hk : P.underlying kt = some (.int ik)) : (Instr.findKey kt (.int ik n) (m.map (mkE ik))).run P w = .ok (mpos n m 0) w := by
  simp [Instr.findKey, run_underlying hk, Result.andThen, findNow_mp]
theorem getObj_mp {r : Nat} {ik : IntKind} {m : List ME} {c : Nat} (h : mpAt w r ik m c) : (getObj r).run P w = .ok (.map (m.map (mkE ik)).toArray c) w := by
  have h : w.heap[r]? = some (.map (m.map (mkE ik)).toArray c) := h
  simp [getObj, Sem.run, h]
theorem setObj_mp {r : Nat} {ik : IntKind} {m : List ME} {c : Nat} (o : Obj) (h : mpAt w r ik m c) : (setObj r o).run P w = .ok () (mpW w r o) := by
  have h : w.heap[r]? = some (.map (m.map (mkE ik)).toArray c) := h
  simp [setObj, Sem.run, h, mpW]
theorem mpos_key (n : Int) : ∀ (m : List ME) (i j : Nat) (v : Value), mpos n m i = some (j, v) → i ≤ j ∧ ∃ b, m[j - i]? = some (n, v, b)
  | [], i, j, v, h => by cases h
  | x :: r, i, j, v, h => by
    rw [mpos] at h
    split at h
    · rename_i hx
      simp only [Option.some.injEq, Prod.mk.injEq] at h
      obtain ⟨rfl, rfl⟩ := h
      refine ⟨Nat.le_refl _, x.2.2, ?_⟩
      rw [Nat.sub_self, List.getElem?_cons_zero, hx]
    · obtain ⟨h1, b, h2⟩ := mpos_key n r (i + 1) j v h
      refine ⟨by omega, b, ?_⟩
      rw [show j - i = (j - (i + 1)) + 1 by omega, List.getElem?_cons_succ]
      exact h2
theorem sameBits_int (ik : IntKind) (n : Int) : Instr.sameBits 10000 (.int ik n) (.int ik n) = true := by
  simp [Instr.sameBits]
theorem vcMk_run {t : TypeId} {r : Option Operand} {ρ : Operand → Value} {K : Value → World → Prop} (h : vcMk w r K) : ∃ v w', (Instr.makeMap t (r.map ρ)).run P w = .ok v w' ∧ K v w' := by
  unfold vcMk at h
  split at h
  · refine ⟨_, _, ?_, h⟩
    simp [Instr.makeMap, newObj, Sem.run, Sem.run_bind, Result.andThen]
  · exact h.elim
theorem drM_iff {q : Option Nat} {K : Nat → Prop} : drM q K ↔ ∃ r, q = some r ∧ K r := by
  cases q with
  | none => exact ⟨fun h => h.elim, fun ⟨_, h, _⟩ => (by cases h)⟩
  | some r => exact ⟨fun h => ⟨r, rfl, h⟩, fun ⟨_, h, hk⟩ => (by injection h with h; subst h; exact hk)⟩
theorem vcGet_run {et : TypeId} {o : Option Value} {K : Value → Prop} (h : vcGet P et o K) : ∃ z, (zeroValue et).run P w = .ok z w ∧ K (o.getD z) := by
  unfold vcGet at h
  split at h
  · rename_i i hi
    split at h
    · rename_i z hz
      obtain ⟨cs, h1, h2⟩ := h
      have e : ofL z.toList = .agg z := by unfold ofL; simp
      rw [e] at h1
      refine ⟨.agg z, ?_, by rw [h1]; exact h2⟩
      simp [zeroValue, typeInfo, Sem.run_bind, program, Sem.run, Result.andThen, hi, hz]
    · exact h.elim
  · exact h.elim
theorem vcLook_run {t : TypeId} {x k : Value} {ok : Bool} {K : Value → Prop} (h : vcLook P w t x k ok K) : ∃ v, (Instr.lookup t x k ok).run P w = .ok v w ∧ K v := by
  unfold vcLook at h
  split at h
  · rename_i kt et ht
    split at h
    · rename_i ik q ik' n hk
      obtain ⟨he, h⟩ := gd_iff.1 h
      have := kEqm_eq he
      subst this
      obtain ⟨r, rfl, m, c, hm, h⟩ := drM_iff.1 h
      obtain ⟨z, hz, h⟩ := vcGet_run (w := w) h
      have hf : mfind n m = (mpos n m 0).map (·.2) := rfl
      cases hp : mpos n m 0 with
      | none =>
        rw [hf, hp] at h
        cases ok
        · exact ⟨_, by simp [Instr.lookup, run_underlying ht, getObj_mp hm, checkKey_int _ hk, findKey_mp m hk, hp, hz, Sem.run_bind, Result.andThen], h⟩
        · exact ⟨_, by simp [Instr.lookup, run_underlying ht, getObj_mp hm, checkKey_int _ hk, findKey_mp m hk, hp, hz, Sem.run_bind, Result.andThen], h⟩
      | some y =>
        obtain ⟨j, v⟩ := y
        rw [hf, hp] at h
        cases ok
        · exact ⟨_, by simp [Instr.lookup, run_underlying ht, getObj_mp hm, checkKey_int _ hk, findKey_mp m hk, hp, Sem.run_bind, Result.andThen], h⟩
        · exact ⟨_, by simp [Instr.lookup, run_underlying ht, getObj_mp hm, checkKey_int _ hk, findKey_mp m hk, hp, Sem.run_bind, Result.andThen], h⟩
    · exact h.elim
  · exact h.elim
theorem map_modify (ik : IntKind) (f : ME → ME) (g : MapEntry → MapEntry) : ∀ (m : List ME) (j : Nat), (∀ b v, m[j]? = some (b, v) → g (mkE ik (b, v)) = mkE ik (f (b, v))) → (m.map (mkE ik)).modify j g = (m.modify j f).map (mkE ik)
  | [], j, _ => by simp
  | x :: r, 0, h => by
    obtain ⟨b, v⟩ := x
    simp [h b v rfl]
  | x :: r, j + 1, h => by
    simp only [List.map_cons, List.modify_succ_cons]
    rw [map_modify ik f g r j (fun b v hb => h b v hb)]
theorem vcMup_run {t : TypeId} {x k v : Value} {K : World → Prop} (h : vcMup P w t x k v K) : ∃ w', (Instr.mapUpdate t x k v).run P w = .ok () w' ∧ K w' := by
  unfold vcMup at h
  split at h
  · rename_i kt et ht
    split at h
    · rename_i ik q ik' n hk
      obtain ⟨he, h⟩ := gd_iff.1 h
      have := kEqm_eq he
      subst this
      obtain ⟨r, rfl, m, c, hm, h⟩ := drM_iff.1 h
      refine ⟨_, ?_, h⟩
      cases hp : mpos n m 0 with
      | none =>
        simp [Instr.mapUpdate, run_underlying ht, getObj_mp hm, checkKey_int _ hk, findKey_mp m hk, hp, setObj_mp _ hm, Sem.run_bind, Result.andThen, mset, mclk, mpO, mkE]
      | some y =>
        obtain ⟨j, u⟩ := y
        obtain ⟨_, b, hb⟩ := mpos_key n m 0 j u hp
        rw [Nat.sub_zero] at hb
        have hget : (m.map (mkE ik')).toArray[j]? = some (mkE ik' (n, u, b)) := by simp [hb]
        have hkeep : (Instr.keyThatStays (.int ik' n) (.int ik' n)).run P w = .ok (.int ik' n) w := by simp [Instr.keyThatStays, sameBits_int]
        have hmod : (m.map (mkE ik')).modify j (fun e => { e with key := .int ik' n, val := v }) = (m.modify j (fun e => (n, v, e.2.2))).map (mkE ik') := map_modify ik' (fun e => (n, v, e.2.2)) _ m j (fun b v _ => rfl)
        simp [Instr.mapUpdate, run_underlying ht, getObj_mp hm, checkKey_int _ hk, findKey_mp m hk, hp, hb, mkE, hkeep, setObj_mp _ hm, Sem.run_bind, Result.andThen, mset, mclk, mpO]
        rw [hmod]
    · exact h.elim
  · exact h.elim
theorem map_eraseIdx' (ik : IntKind) : ∀ (m : List ME) (j : Nat), (m.map (mkE ik)).eraseIdx j = (m.eraseIdx j).map (mkE ik)
  | [], _ => by simp
  | _ :: _, 0 => by simp
  | x :: r, j + 1 => by simp [map_eraseIdx' ik r j]
theorem vcMdl_run {t t2 ty : TypeId} {x k : Value} {K : World → Prop} (h : vcMdl P w t x k K) : ∃ w', (Builtin.delete_ #[t, t2] ty #[x, k]).run P w = .ok (.tuple #[]) w' ∧ K w' := by
  unfold vcMdl at h
  split at h
  · rename_i kt et ht
    split at h
    · rename_i ik q ik' n hk
      obtain ⟨he, h⟩ := gd_iff.1 h
      have := kEqm_eq he
      subst this
      obtain ⟨r, rfl, m, c, hm, h⟩ := drM_iff.1 h
      refine ⟨_, ?_, h⟩
      cases hp : mpos n m 0 with
      | none =>
        simp [Builtin.delete_, run_underlying ht, getObj_mp hm, checkKey_int _ hk, findKey_mp m hk, hp, setObj_mp _ hm, Sem.run_bind, Result.andThen, mdel, mpO]
      | some y =>
        obtain ⟨j, u⟩ := y
        simp [Builtin.delete_, run_underlying ht, getObj_mp hm, checkKey_int _ hk, findKey_mp m hk, hp, setObj_mp _ hm, Sem.run_bind, Result.andThen, mdel, mpO, map_eraseIdx']
    · exact h.elim
  · exact h.elim
end
end Go.GV
