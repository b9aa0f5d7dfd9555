/- MY OWN ENGINE, part 0: a program's code as one proposition ('vc'), reckoned by unfolding, and proved to bring the kit's 'Code.wp'. Of no program. -/
import Derived.WalkKit
import Derived.StillTail
import Derived.LoopN
namespace Go.GV
open Go
set_option linter.unusedSimpArgs false
set_option linter.unusedVariables false

/-! ### the frame as a list -/
def nthV : List Value → Nat → Value
  | [], _ => undef
  | v :: _, 0 => v
  | _ :: r, n + 1 => nthV r n
def putV : List Value → Nat → Value → List Value
  | [], _, _ => []
  | _ :: r, 0, v => v :: r
  | x :: r, n + 1, v => x :: putV r n v
def putO (t : List Value) (dst : Option Tmp) (v : Value) : List Value :=
  match dst with
  | some d => putV t d v
  | none => t
def ev (t : List Value) : Operand → Value
  | .tmp i => nthV t i
  | .const v => v
  | .global g => .pointer (some ⟨g, 0, none⟩)
  | .func f => .func (.func f) #[] #[]
def actOf (t : List Value) : Act := ⟨t.toArray, []⟩

theorem nthV_eq : ∀ (t : List Value) (i : Nat), nthV t i = t.toArray.getD i undef
  | [], i => by simp [nthV]
  | v :: r, 0 => by simp [nthV]
  | v :: r, n + 1 => by rw [nthV, nthV_eq r n]; simp [Array.getD_eq_getD_getElem?]
theorem putV_eq : ∀ (t : List Value) (i : Nat) (v : Value), (putV t i v) = t.set i v
  | [], i, v => by simp [putV]
  | x :: r, 0, v => by simp [putV]
  | x :: r, n + 1, v => by simp [putV, putV_eq r n v]
theorem putV_length (t : List Value) (i : Nat) (v : Value) : (putV t i v).length = t.length := by simp [putV_eq]
theorem putO_length (t : List Value) (d : Option Tmp) (v : Value) : (putO t d v).length = t.length := by cases d <;> simp [putO, putV_length]
theorem ev_eq (t : List Value) : (actOf t).eval = ev t := by
  funext x; cases x <;> simp [Act.eval, ev, actOf, nthV_eq]
theorem put_eq (t : List Value) (d : Option Tmp) (v : Value) : (actOf t).put d v = actOf (putO t d v) := by
  cases d <;> simp [Act.put, putO, actOf, putV_eq]

/-! ### sizes -/
def szOf (P : Program) (t : TypeId) : Nat :=
  match P.info? t with
  | some i => i.size
  | none => 0
def byOf (P : Program) (t : TypeId) : Nat :=
  match P.info? t with
  | some i => i.bytes
  | none => 0

/-! ### memory -/
def cellAt (w : World) (b o : Nat) : Option Value := w.cell? ⟨b, o, none⟩
/-- n cells from a place on -/
def cellsAt (w : World) (b o : Nat) (cs : List Value) : Prop := ∀ j v, cs[j]? = some v → cellAt w b (o + j) = some v
def ldI (k : IntKind) (w : World) (b o : Nat) (K : Int → Prop) : Prop := ∃ x, cellAt w b o = some (.int k x) ∧ K x
def ldB (w : World) (b o : Nat) (K : Bool → Prop) : Prop := ∃ x, cellAt w b o = some (.bool x) ∧ K x
def ldS (w : World) (b o : Nat) (K : ByteArray → Prop) : Prop := ∃ x, cellAt w b o = some (.string x) ∧ K x
def ldP (w : World) (b o : Nat) (K : Option Addr → Prop) : Prop := ∃ x, cellAt w b o = some (.pointer x) ∧ K x
def ldSl (w : World) (b o : Nat) (K : Option Addr → Nat → Nat → Prop) : Prop := ∃ A n c, cellAt w b o = some (.slice A n c) ∧ K A n c
def ldM (w : World) (b o : Nat) (K : Option Nat → Prop) : Prop := ∃ r, cellAt w b o = some (.map r) ∧ K r
def ldV (w : World) (b o : Nat) (K : Value → Prop) : Prop := ∃ v, cellAt w b o = some v ∧ K v
def ldA (n : Nat) (w : World) (b o : Nat) (K : List Value → Prop) : Prop := ∃ cs : List Value, cs.length = n ∧ cellsAt w b o cs ∧ K cs
def splice (c : List Value) (o : Nat) (vs : List Value) : List Value := c.take o ++ vs ++ c.drop (o + vs.length)
def stB (w : World) (b o : Nat) (vs : List Value) : World :=
  { w with heap := w.heap.modify b fun
      | .cells c e f => .cells (splice c.toList o vs).toArray e f
      | x => x }
/-- a store of cells into a block -/
def st (w : World) (b o : Nat) (vs : List Value) (K : World → Prop) : Prop :=
  (∃ c e lo hi, w.heap[b]? = some (.cells c e (lo, hi)) ∧ o + vs.length ≤ c.size ∧ (hi ≤ o ∨ o + vs.length ≤ lo)) ∧ (∀ v ∈ vs, v.oneCell' = true) ∧ K (stB w b o vs)
/-- a new block -/
def nw (w : World) (cs : List Value) (e : TypeId) (K : Nat → World → Prop) : Prop := K w.heap.size (w.alloc (.cells cs.toArray e))
/-- a pointer that is not nil -/
def dr (q : Option Addr) (K : Nat → Nat → Prop) : Prop :=
  match q with
  | some a => (match a.spot with | none => K a.block a.off | some _ => False)
  | none => False
def vIf (b : Bool) (A B : Prop) : Prop :=
  match b with
  | true => A
  | false => B

theorem stB_heap {w : World} {b o : Nat} {vs : List Value} {c : Array Value} {e : TypeId} {f : Nat × Nat} (h : w.heap[b]? = some (.cells c e f)) :
    (stB w b o vs).heap[b]? = some (.cells (splice c.toList o vs).toArray e f) := by
  unfold stB
  simp only [Array.getElem?_modify, if_true, h]
  rfl
theorem stB_other {w : World} {b o : Nat} {vs : List Value} {k : Nat} (h : k ≠ b) : (stB w b o vs).heap[k]? = w.heap[k]? := by
  unfold stB
  simp only [Array.getElem?_modify]
  rw [if_neg (fun e => h e.symm)]
theorem stB_size (w : World) (b o : Nat) (vs : List Value) : (stB w b o vs).heap.size = w.heap.size := by simp [stB]
theorem stB_cons {w : World} {b o : Nat} {v : Value} {vs : List Value} {c : Array Value} {e : TypeId} {f : Nat × Nat} (h : w.heap[b]? = some (.cells c e f)) (hl : o + (v :: vs).length ≤ c.size) :
    stB (w.setCell ⟨b, o, none⟩ v) b (o + 1) vs = stB w b o (v :: vs) := by
  unfold stB World.setCell
  congr 1
  apply Array.ext_getElem?
  intro i
  simp only [Array.getElem?_modify]
  split
  · rename_i hi; subst hi
    rw [h]
    simp only [Option.map_some, Option.isSome_none, Bool.false_eq_true, if_false]
    simp only [List.length_cons] at hl
    congr 3
    unfold splice
    rw [Array.toList_setIfInBounds, List.set_eq_take_append_cons_drop, if_pos (by simp; omega)]
    have e1 : (List.take o c.toList ++ v :: List.drop (o + 1) c.toList).take (o + 1) = List.take o c.toList ++ [v] := by
      rw [List.take_append, List.length_take, Nat.min_eq_left (by simp; omega)]
      rw [List.take_of_length_le (by rw [List.length_take]; omega)]
      simp
    have e2 : (List.take o c.toList ++ v :: List.drop (o + 1) c.toList).drop (o + 1 + vs.length) = List.drop (o + (vs.length + 1)) c.toList := by
      rw [List.drop_append, List.length_take, Nat.min_eq_left (by simp; omega)]
      rw [List.drop_eq_nil_of_le (by rw [List.length_take]; omega), List.nil_append]
      rw [show o + 1 + vs.length - o = vs.length + 1 by omega, List.drop_succ_cons, List.drop_drop]
      congr 1
      omega
    rw [e1, e2]
    simp [List.length_cons]
  · rfl
theorem st_run {P : Program} (b o : Nat) : ∀ (vs : List Value) (i : Nat) (w : World) (c : Array Value) (e : TypeId) (lo hi : Nat), w.heap[b]? = some (.cells c e (lo, hi)) → o + i + vs.length ≤ c.size → (hi ≤ o + i ∨ o + i + vs.length ≤ lo) →
    (∀ v ∈ vs, v.oneCell' = true) → (storeCells ⟨b, o, none⟩ vs i).run P w = .ok () (stB w b (o + i) vs)
  | [], i, w, c, e, lo, hi, hb, _, _, _ => by
    have : stB w b (o + i) [] = w := by
      unfold stB
      have hm : (w.heap.modify b fun | .cells c e f => .cells (splice c.toList (o + i) []).toArray e f | x => x) = w.heap := by
        apply Array.ext_getElem?
        intro k
        simp only [Array.getElem?_modify]
        split
        · rename_i hk; subst hk; rw [hb]; simp [splice]
        · rfl
      rw [hm]
    rw [this]
    simp [storeCells]
  | v :: vs, i, w, c, e, lo, hi, hb, hl, hf, h1 => by
    simp only [List.length_cons] at hl hf
    have hadd : (⟨b, o, none⟩ : Addr).add i = ⟨b, o + i, none⟩ := by unfold Addr.add; split <;> simp_all
    have hc : w.cell? ⟨b, o + i, none⟩ = some (c[o + i]'(by omega)) := by
      simp only [World.cell?, hb]
      simp [show o + i < c.size by omega]
    have hfr : w.frozen? ⟨b, o + i, none⟩ = false := by
      simp only [World.frozen?, hb]
      rcases hf with hf | hf <;> simp <;> omega
    rw [storeCells]
    simp only [Sem.run_bind, hadd, run_store P w _ v _ (h1 v (by simp)), hc, hfr, Bool.false_eq_true, if_false, Result.andThen]
    have hb2 : (w.setCell ⟨b, o + i, none⟩ v).heap[b]? = some (.cells (c.setIfInBounds (o + i) v) e (lo, hi)) := by
      simp only [World.setCell, Array.getElem?_modify, if_true, hb]
      rfl
    rw [st_run b o vs (i + 1) _ _ e lo hi hb2 (by simp; omega) (by omega) (fun u hu => h1 u (by simp [hu]))]
    rw [← Nat.add_assoc, stB_cons hb (by simp; omega)]
end Go.GV
