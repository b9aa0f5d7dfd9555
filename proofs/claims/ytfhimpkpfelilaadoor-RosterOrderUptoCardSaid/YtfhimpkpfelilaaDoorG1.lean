/- MY OWN ENGINE, part 1: the operations that leave the world alone. -/
import Derived.Test.YtfhimpkpfelilaaDoorG0
import Derived.Stop.BytesEq
namespace Go.GV
open Go
set_option linter.unusedSimpArgs false
set_option linter.unusedVariables false

def iAnd (k : IntKind) (a b : Int) : Int := k.wrap (BitVec.ofInt k.bits a &&& BitVec.ofInt k.bits b).toNat
def iOr (k : IntKind) (a b : Int) : Int := k.wrap (BitVec.ofInt k.bits a ||| BitVec.ofInt k.bits b).toNat
def iXor (k : IntKind) (a b : Int) : Int := k.wrap (BitVec.ofInt k.bits a ^^^ BitVec.ofInt k.bits b).toNat
def gd (c : Bool) (A : Prop) : Prop := vIf c A False
/-- a byte's cell -/
def bv (b : UInt8) : Value := .int .u8 b.toNat
/-- two rows of bytes are held against each other -/
def eqAB (n : Nat) (xs ys : List Value) (K : Bool → Prop) : Prop :=
  ∃ X Y : List UInt8, X.length = n ∧ Y.length = n ∧ xs = X.map bv ∧ ys = Y.map bv ∧ K (X == Y)
/-- two rows of ints are held against each other -/
def eqI64 (n : Nat) (xs ys : List Value) (K : Bool → Prop) : Prop :=
  ∃ X Y : List Int, X.length = n ∧ Y.length = n ∧ xs = X.map (Value.int .i64) ∧ ys = Y.map (Value.int .i64) ∧ K (X == Y)
/-- all fields are ints, one behind the other -/
def i64F (P : Program) : List Field → Nat → Bool
  | [], _ => true
  | f :: fs, i => (f.name != "_") && ((f.offset == i) && ((match P.underlying f.type with | some (.int _) => true | _ => false) && i64F P fs (i + 1)))
/-- a text's or a number's cell -/
def mxv : ByteArray ⊕ Int → Value
  | .inl s => .string s
  | .inr i => .int .i64 i
def mxq : ByteArray ⊕ Int → ByteArray ⊕ Int → Bool
  | .inl a, .inl b => a == b
  | .inr a, .inr b => a == b
  | _, _ => false
def mxqL : List (ByteArray ⊕ Int) → List (ByteArray ⊕ Int) → Bool
  | x :: xs, y :: ys => mxq x y && mxqL xs ys
  | _, _ => true
def mxt : ByteArray ⊕ Int → Bool
  | .inl _ => true
  | .inr _ => false
/-- two rows of texts (true) and numbers are held against each other -/
def eqMx (ts : List Bool) (xs ys : List Value) (K : Bool → Prop) : Prop :=
  ∃ X Y : List (ByteArray ⊕ Int), X.map mxt = ts ∧ Y.map mxt = ts ∧ xs = X.map mxv ∧ ys = Y.map mxv ∧ K (mxqL X Y)
/-- all fields are texts or ints, one behind the other -/
def mxF (P : Program) : List Field → Nat → Option (List Bool)
  | [], _ => some []
  | f :: fs, i => if (f.name != "_") && (f.offset == i) then
      (match P.underlying f.type, mxF P fs (i + 1) with
       | some (.int _), some ts => some (false :: ts)
       | some .string, some ts => some (true :: ts)
       | _, _ => none)
    else none
/-- what a cell holds: a text, a bool, a byte, a number -/
inductive LK | s | b | y | i (k : IntKind)
def fitV : LK → Value → Bool
  | .s, .string _ => true
  | .b, .bool _ => true
  | .y, .int .u8 n => decide (0 ≤ n) && decide (n < 256)
  | .i k, .int k' _ => k == k'
  | _, _ => false
def fitL : List LK → List Value → Bool
  | [], [] => true
  | k :: ks, v :: vs => fitV k v && fitL ks vs
  | _, _ => false
def eqV : Value → Value → Bool
  | .string a, .string b => a.toList == b.toList
  | .int _ a, .int _ b => a == b
  | .bool a, .bool b => a == b
  | _, _ => false
def eqVL : List Value → List Value → Bool
  | x :: xs, y :: ys => eqV x y && eqVL xs ys
  | _, _ => true
/-- two plain data are held against each other, cell by cell -/
def eqPl (ks : List LK) (xs ys : List Value) (K : Bool → Prop) : Prop := fitL ks xs = true ∧ fitL ks ys = true ∧ K (eqVL xs ys)
def plF (g : TypeId → Option (List LK)) : List Field → Nat → Option (List LK)
  | [], _ => some []
  | f :: fs, i => if (f.name != "_") && (f.offset == i) then
      (match g f.type with
       | some ks => (match plF g fs (i + ks.length) with | some r => some (ks ++ r) | none => none)
       | none => none)
    else none
/-- the cells of a plain type -/
def pl (P : Program) : Nat → TypeId → Option (List LK)
  | 0, _ => none
  | d + 1, t =>
    match P.underlying t with
    | some (.int k) => some [.i k]
    | some .string => some [.s]
    | some .bool => some [.b]
    | some (.array n e) =>
      (match P.underlying e with
       | some (.int .u8) => if (szOf P e == 1) && ((szOf P t == n) && (n != 0)) then some (List.replicate n .y) else none
       | _ => none)
    | some (.struct fs) =>
      if P.stoodInHeld t then none else
      (match plF (pl P d) fs.toList 0 with
       | some ks => if (szOf P t == ks.length) && (ks.length != 0) then some ks else none
       | none => none)
    | _ => none
/-- one of the two is nil -/
def nilEq (a b : Option Addr) (K : Bool → Prop) : Prop :=
  match b with
  | none => K a.isNone
  | some _ => (match a with | none => K false | some _ => False)
def vcEq (P : Program) (t : TypeId) (x y : Value) (K : Bool → Prop) : Prop :=
  match P.underlying t, x, y with
  | some .bool, .bool a, .bool b => K (a == b)
  | some (.pointer _), .pointer a, .pointer b => nilEq a b K
  | some (.slice _), .slice a _ _, .slice b _ _ => nilEq a b K
  | some (.interface _), .iface _ _, .nilIface => K false
  | some (.array n e), .agg xs, .agg ys =>
    match P.underlying e with
    | some (.int .u8) => gd (szOf P e == 1) (gd (!P.eqGuardType P.depth t) (eqAB n xs.toList ys.toList K))
    | _ => False
  | some (.struct fs), .agg xs, .agg ys => gd (!P.stoodInHeld t) (gd (!P.eqGuardType P.depth t) (match i64F P fs.toList 0 with
    | true => eqI64 fs.size xs.toList ys.toList K
    | false => (match mxF P fs.toList 0 with
      | some ts => eqMx ts xs.toList ys.toList K
      | none => (match pl P 4 t with | some ks => eqPl ks xs.toList ys.toList K | none => False))))
  | _, _, _ => False
def vcBin (P : Program) (op : BinOp) (t : TypeId) (x y : Value) (K : Value → Prop) : Prop :=
  match op, x, y with
  | .shl, .int k a, .int _ b => gd (decide (0 ≤ b)) (K (.int k (k.wrap (a * 2 ^ min b.toNat k.bits))))
  | .shr, .int k a, .int _ b => gd (decide (0 ≤ b)) (K (.int k (a.fdiv (2 ^ min b.toNat k.bits))))
  | .add, .int k a, .int k' b => gd (k == k') (K (.int k (k.wrap (a + b))))
  | .sub, .int k a, .int k' b => gd (k == k') (K (.int k (k.wrap (a - b))))
  | .mul, .int k a, .int k' b => gd (k == k') (K (.int k (k.wrap (a * b))))
  | .quo, .int k a, .int k' b => gd (k == k') (gd (decide (b ≠ 0)) (K (.int k (k.wrap (a.tdiv b)))))
  | .rem, .int k a, .int k' b => gd (k == k') (gd (decide (b ≠ 0)) (K (.int k (a.tmod b))))
  | .and, .int k a, .int k' b => gd (k == k') (K (.int k (k.wrap (BitVec.ofInt k.bits a &&& BitVec.ofInt k.bits b).toNat)))
  | .or, .int k a, .int k' b => gd (k == k') (K (.int k (k.wrap (BitVec.ofInt k.bits a ||| BitVec.ofInt k.bits b).toNat)))
  | .xor, .int k a, .int k' b => gd (k == k') (K (.int k (k.wrap (BitVec.ofInt k.bits a ^^^ BitVec.ofInt k.bits b).toNat)))
  | .eql, .int k a, .int k' b => gd (k == k') (K (.bool (a == b)))
  | .neq, .int k a, .int k' b => gd (k == k') (K (.bool (a != b)))
  | .lss, .int k a, .int k' b => gd (k == k') (K (.bool (decide (a < b))))
  | .leq, .int k a, .int k' b => gd (k == k') (K (.bool (decide (a ≤ b))))
  | .gtr, .int k a, .int k' b => gd (k == k') (K (.bool (decide (a > b))))
  | .geq, .int k a, .int k' b => gd (k == k') (K (.bool (decide (a ≥ b))))
  | .add, .string a, .string b => gd (decide (a.size + b.size ≤ 9223372036854775807)) (K (.string (a ++ b)))
  | .eql, .string a, .string b => K (.bool (a.toList == b.toList))
  | .neq, .string a, .string b => K (.bool !(a.toList == b.toList))
  | .lss, .string a, .string b => K (.bool (Op.bytesLess a.toList b.toList))
  | .leq, .string a, .string b => K (.bool (Op.bytesLess a.toList b.toList || a.toList == b.toList))
  | .gtr, .string a, .string b => K (.bool !(Op.bytesLess a.toList b.toList || a.toList == b.toList))
  | .geq, .string a, .string b => K (.bool !Op.bytesLess a.toList b.toList)
  | .eql, x, y => vcEq P t x y (fun b => K (.bool b))
  | .neq, x, y => vcEq P t x y (fun b => K (.bool !b))
  | _, _, _ => False

theorem gd_iff {c : Bool} {A : Prop} : gd c A ↔ c = true ∧ A := by cases c <;> simp [gd, vIf]
theorem vIf_iff {b : Bool} {A B : Prop} : vIf b A B ↔ (b = true → A) ∧ (b = false → B) := by cases b <;> simp [vIf]

section
variable {P : Program} {w : World}
theorem szOf_run {t : TypeId} {n : Nat} (hn : n ≠ 0) (h : szOf P t = n) : (sizeOf t).run P w = .ok n w := by
  unfold szOf at h
  unfold sizeOf typeInfo
  cases hi : P.info? t with
  | none => rw [hi] at h; exact absurd h.symm hn
  | some i =>
    rw [hi] at h
    simp only [Sem.run_bind, program, Sem.run, Result.andThen, hi]
    simp [pure]
    exact h
theorem part_int {t : TypeId} {k : IntKind} (hu : P.underlying t = some (.int k)) {cs : List Value} {o : Nat} {v : Value} (h : cs[o]? = some v) : (part t cs.toArray o).run P w = .ok v w := by
  unfold part
  simp [isAgg, Sem.run_bind, run_underlying hu, Result.andThen, h]
theorem eqFields_run (d : Nat) : ∀ (fs : List Field) (i : Nat) (X Y : List Int), i64F P fs i = true → X.length = i + fs.length → Y.length = i + fs.length →
    (Op.eqFields (d + 1) (X.map (Value.int .i64)).toArray (Y.map (Value.int .i64)).toArray fs).run P w = .ok (X.drop i == Y.drop i) w
  | [], i, X, Y, _, hX, hY => by
    rw [List.drop_of_length_le (by simp at hX; omega), List.drop_of_length_le (by simp at hY; omega)]
    simp [Op.eqFields]
  | f :: fs, i, X, Y, h, hX, hY => by
    simp only [List.length_cons] at hX hY
    unfold i64F at h
    simp only [Bool.and_eq_true, bne_iff_ne, ne_eq, beq_iff_eq] at h
    obtain ⟨h1, h2, h3, h4⟩ := h
    have hx : X[i]? = some (X[i]'(by omega)) := List.getElem?_eq_getElem (by omega)
    have hy : Y[i]? = some (Y[i]'(by omega)) := List.getElem?_eq_getElem (by omega)
    have ex : X.drop i = X[i]'(by omega) :: X.drop (i + 1) := List.drop_eq_getElem_cons (by omega)
    have ey : Y.drop i = Y[i]'(by omega) :: Y.drop (i + 1) := List.drop_eq_getElem_cons (by omega)
    obtain ⟨k, hk⟩ : ∃ k, P.underlying f.type = some (.int k) := by
      split at h3
      · rename_i k hk; exact ⟨k, hk⟩
      · cases h3
    have px : (part f.type (X.map (Value.int .i64)).toArray f.offset).run P w = .ok (.int .i64 (X[i]'(by omega))) w := part_int hk (by rw [List.getElem?_map, h2, hx]; rfl)
    have py : (part f.type (Y.map (Value.int .i64)).toArray f.offset).run P w = .ok (.int .i64 (Y[i]'(by omega))) w := part_int hk (by rw [List.getElem?_map, h2, hy]; rfl)
    unfold Op.eqFields
    rw [if_pos h1]
    simp only [Sem.run_bind, px, py, Result.andThen_ok, run_equalIn_int w d f.type .i64 k _ _ hk]
    have hd : (X.drop i == Y.drop i) = ((X[i]'(by omega) == Y[i]'(by omega)) && (X.drop (i + 1) == Y.drop (i + 1))) := by rw [ex, ey]; rfl
    rw [hd]
    cases hxy : (X[i]'(by omega) == Y[i]'(by omega)) with
    | true =>
      simp only [Bool.not_true, Bool.false_eq_true, if_false, Bool.true_and]
      exact eqFields_run d fs (i + 1) X Y h4 (by omega) (by omega)
    | false =>
      simp only [Bool.not_false, if_true, Sem.run_pure, Bool.false_and]
theorem part_flat {t : TypeId} (hu : (∃ k, P.underlying t = some (.int k)) ∨ P.underlying t = some .string) {cs : List Value} {o : Nat} {v : Value} (h : cs[o]? = some v) : (part t cs.toArray o).run P w = .ok v w := by
  rcases hu with ⟨k, hu⟩ | hu
  · exact part_int hu h
  · unfold part
    simp [isAgg, Sem.run_bind, run_underlying hu, Result.andThen, h]
theorem mxqL_cons (x y : ByteArray ⊕ Int) (xs ys : List (ByteArray ⊕ Int)) : mxqL (x :: xs) (y :: ys) = (mxq x y && mxqL xs ys) := rfl
theorem run_equalIn_str (d : Nat) {t : TypeId} (a b : ByteArray) (hu : P.underlying t = some .string) : (Op.equalIn (d + 1) t (.string a) (.string b)).run P w = .ok (a == b) w := by
  simp [Op.equalIn, run_underlying hu]
theorem eqFieldsM_run (d : Nat) : ∀ (fs : List Field) (ts : List Bool) (U V X Y : List (ByteArray ⊕ Int)), mxF P fs U.length = some ts → U.length = V.length → X.map mxt = ts → Y.map mxt = ts →
    (Op.eqFields (d + 1) ((U ++ X).map mxv).toArray ((V ++ Y).map mxv).toArray fs).run P w = .ok (mxqL X Y) w
  | [], ts, U, V, X, Y, h, hUV, hX, hY => by
    simp [mxF] at h; subst h
    simp at hX hY; subst hX; subst hY
    simp [Op.eqFields, mxqL]
  | f :: fs, ts, U, V, X, Y, h, hUV, hX, hY => by
    unfold mxF at h
    split at h
    · rename_i h12
      simp only [Bool.and_eq_true, bne_iff_ne, ne_eq, beq_iff_eq] at h12
      obtain ⟨h1, h2⟩ := h12
      have main : ∀ (b : Bool) (ts' : List Bool) (x y : ByteArray ⊕ Int) (X' Y' : List (ByteArray ⊕ Int)), ((∃ k, P.underlying f.type = some (.int k)) ∨ P.underlying f.type = some .string) →
          mxF P fs (U.length + 1) = some ts' → X'.map mxt = ts' → Y'.map mxt = ts' → (Op.equalIn (d + 1) f.type (mxv x) (mxv y)).run P w = .ok (mxq x y) w →
          (Op.eqFields (d + 1) ((U ++ x :: X').map mxv).toArray ((V ++ y :: Y').map mxv).toArray (f :: fs)).run P w = .ok (mxqL (x :: X') (y :: Y')) w := by
        intro b ts' x y X' Y' hk hm hX' hY' hq
        have px : (part f.type ((U ++ x :: X').map mxv).toArray f.offset).run P w = .ok (mxv x) w := part_flat hk (by rw [List.getElem?_map, h2, List.getElem?_append_right (Nat.le_refl _)]; simp)
        have py : (part f.type ((V ++ y :: Y').map mxv).toArray f.offset).run P w = .ok (mxv y) w := part_flat hk (by rw [List.getElem?_map, h2, hUV, List.getElem?_append_right (Nat.le_refl _)]; simp)
        unfold Op.eqFields
        rw [if_pos h1, mxqL_cons]
        simp only [Sem.run_bind, px, py, Result.andThen_ok, hq]
        cases hxy : mxq x y with
        | true =>
          simp only [Bool.not_true, Bool.false_eq_true, if_false, Bool.true_and]
          have := eqFieldsM_run d fs ts' (U ++ [x]) (V ++ [y]) X' Y' (by simpa using hm) (by simpa using hUV) hX' hY'
          simpa using this
        | false =>
          simp only [Bool.not_false, if_true, Sem.run_pure, Bool.false_and]
      split at h
      · rename_i k ts' hk hm
        simp only [Option.some.injEq] at h; subst h
        match X, Y, hX, hY with
        | .inr i :: X', .inr j :: Y', hX, hY =>
          simp only [List.map_cons, List.cons.injEq] at hX hY
          exact main false ts' _ _ X' Y' (.inl ⟨k, hk⟩) hm hX.2 hY.2 (run_equalIn_int w d f.type .i64 k _ _ hk)
        | .inl i :: X', _, hX, _ => simp [mxt] at hX
        | .inr i :: X', .inl j :: Y', _, hY => simp [mxt] at hY
        | .inr i :: X', [], _, hY => simp at hY
        | [], _, hX, _ => simp at hX
      · rename_i ts' hk hm
        simp only [Option.some.injEq] at h; subst h
        match X, Y, hX, hY with
        | .inl i :: X', .inl j :: Y', hX, hY =>
          simp only [List.map_cons, List.cons.injEq] at hX hY
          exact main true ts' _ _ X' Y' (.inr hk) hm hX.2 hY.2 (run_equalIn_str d _ _ hk)
        | .inr i :: X', _, hX, _ => simp [mxt] at hX
        | .inl i :: X', .inr j :: Y', _, hY => simp [mxt] at hY
        | .inl i :: X', [], _, hY => simp at hY
        | [], _, hX, _ => simp at hX
      · cases h
    · cases h
theorem fitL_len : ∀ {ks : List LK} {xs : List Value}, fitL ks xs = true → xs.length = ks.length
  | [], [], _ => rfl
  | k :: ks, v :: vs, h => by
    unfold fitL at h
    rw [Bool.and_eq_true] at h
    simp [fitL_len h.2]
  | [], _ :: _, h => by simp [fitL] at h
  | _ :: _, [], h => by simp [fitL] at h
theorem fitL_app : ∀ {k1 k2 : List LK} {xs : List Value}, fitL (k1 ++ k2) xs = true → ∃ x1 x2, xs = x1 ++ x2 ∧ fitL k1 x1 = true ∧ fitL k2 x2 = true
  | [], k2, xs, h => ⟨[], xs, rfl, rfl, h⟩
  | k :: k1, k2, v :: vs, h => by
    rw [List.cons_append] at h
    unfold fitL at h
    rw [Bool.and_eq_true] at h
    obtain ⟨x1, x2, h1, h2, h3⟩ := fitL_app h.2
    refine ⟨v :: x1, x2, by rw [h1]; rfl, ?_, h3⟩
    unfold fitL
    rw [h.1, h2]; rfl
  | k :: k1, k2, [], h => by simp [fitL] at h
theorem eqVL_app : ∀ {x1 y1 x2 y2 : List Value}, x1.length = y1.length → eqVL (x1 ++ x2) (y1 ++ y2) = (eqVL x1 y1 && eqVL x2 y2)
  | [], [], _, _, _ => rfl
  | x :: x1, y :: y1, x2, y2, h => by
    have := eqVL_app (x1 := x1) (y1 := y1) (x2 := x2) (y2 := y2) (by simpa using h)
    simp only [List.cons_append, eqVL, this, Bool.and_assoc]
  | [], _ :: _, _, _, h => by simp at h
  | _ :: _, [], _, _, h => by simp at h
theorem eqVL_one {x y : Value} : eqVL [x] [y] = eqV x y := by simp [eqVL]
def isA (P : Program) (t : TypeId) : Bool := match P.underlying t with | some (.struct _) => true | some (.array _ _) => true | _ => false
def mkV (P : Program) (t : TypeId) (xs : List Value) : Value := if isA P t then .agg xs.toArray else xs.headD (.bool false)
theorem fit_one {k : LK} {xs : List Value} (h : fitL [k] xs = true) : ∃ x, xs = [x] ∧ fitV k x = true := by
  match xs, h with
  | [x], h => exact ⟨x, rfl, by simpa [fitL] using h⟩
  | [], h => simp [fitL] at h
  | x :: y :: r, h => simp [fitL] at h
theorem fit_bytes : ∀ {n : Nat} {xs : List Value}, fitL (List.replicate n .y) xs = true → ∃ X : List UInt8, X.length = n ∧ xs = X.map Extern.Stop.cell
  | 0, [], _ => ⟨[], rfl, rfl⟩
  | n + 1, v :: vs, h => by
    rw [List.replicate_succ] at h
    unfold fitL at h
    rw [Bool.and_eq_true] at h
    obtain ⟨X, h1, h2⟩ := fit_bytes h.2
    have hv := h.1
    unfold fitV at hv
    split at hv <;> try (cases hv; done)
    · rename_i k heq; cases heq
    · rename_i k heq; cases heq
    · rename_i m _
      rw [Bool.and_eq_true, decide_eq_true_iff, decide_eq_true_iff] at hv
      refine ⟨UInt8.ofNat m.toNat :: X, by simp [h1], ?_⟩
      rw [List.map_cons, h2]
      congr 1
      unfold Extern.Stop.cell
      congr 1
      rw [UInt8.toNat_ofNat', Nat.mod_eq_of_lt (by omega)]
      show m = ((m.toNat : Nat) : Int)
      omega
    · rename_i k k' _ heq; cases heq
  | 0, _ :: _, h => by simp [fitL] at h
  | n + 1, [], h => by rw [List.replicate_succ] at h; simp [fitL] at h
theorem eq_cells : ∀ {X Y : List UInt8}, X.length = Y.length → eqVL (X.map Extern.Stop.cell) (Y.map Extern.Stop.cell) = (X == Y)
  | [], [], _ => rfl
  | x :: X, y :: Y, h => by
    rw [List.map_cons, List.map_cons, eqVL, eq_cells (by simpa using h)]
    have : eqV (Extern.Stop.cell x) (Extern.Stop.cell y) = (x == y) := by
      simp only [Extern.Stop.cell, eqV]
      rw [Bool.eq_iff_iff, beq_iff_eq, beq_iff_eq, ← UInt8.toNat_inj]
      show ((x.toNat : Nat) : Int) = ((y.toNat : Nat) : Int) ↔ x.toNat = y.toNat
      omega
    rw [this]; rfl
  | [], _ :: _, h => by simp at h
  | _ :: _, [], h => by simp at h
theorem part_pl {d : Nat} {t : TypeId} {ks : List LK} (h : pl P d t = some ks) {cs xs : List Value} {off : Nat} (hx : (cs.drop off).take ks.length = xs) (hl : xs.length = ks.length) : (part t cs.toArray off).run P w = .ok (mkV P t xs) w := by
  cases d with
  | zero => cases h
  | succ d =>
    unfold pl at h
    have leaf : ∀ {k : LK}, ks = [k] → isA P t = false → (isAgg t).run P w = .ok false w → (part t cs.toArray off).run P w = .ok (mkV P t xs) w := by
      intro k hk ha hg
      subst hk
      have h1 : xs = [xs.headD (.bool false)] := by
        match xs, hl with
        | [x], _ => rfl
      have hc : cs[off]? = some (xs.headD (.bool false)) := by
        have h2 : ((cs.drop off).take 1)[0]? = xs[0]? := by rw [← hx]; rfl
        rw [h1] at h2
        simpa using h2
      unfold part mkV
      rw [ha]
      simp [Sem.run_bind, hg, Result.andThen, hc]
    have agg : ∀ n, n = ks.length → n ≠ 0 → szOf P t = n → isA P t = true → (isAgg t).run P w = .ok true w → (part t cs.toArray off).run P w = .ok (mkV P t xs) w := by
      intro n hn h0 hs ha hg
      unfold part mkV
      rw [ha]
      simp only [Sem.run_bind, hg, Result.andThen, if_true, szOf_run h0 hs, Sem.run_pure]
      congr 2
      subst hn
      rw [← hx]
      simp
    split at h
    · rename_i k hu
      simp only [Option.some.injEq] at h
      exact leaf h.symm (by unfold isA; rw [hu]) (by simp [isAgg, Sem.run_bind, run_underlying hu, Result.andThen])
    · rename_i hu
      simp only [Option.some.injEq] at h
      exact leaf h.symm (by unfold isA; rw [hu]) (by simp [isAgg, Sem.run_bind, run_underlying hu, Result.andThen])
    · rename_i hu
      simp only [Option.some.injEq] at h
      exact leaf h.symm (by unfold isA; rw [hu]) (by simp [isAgg, Sem.run_bind, run_underlying hu, Result.andThen])
    · rename_i n e hu
      split at h
      · split at h
        · rename_i hc
          simp only [Bool.and_eq_true, beq_iff_eq, bne_iff_ne, ne_eq] at hc
          simp only [Option.some.injEq] at h
          exact agg n (by rw [← h]; simp) hc.2.2 hc.2.1 (by unfold isA; rw [hu]) (by simp [isAgg, Sem.run_bind, run_underlying hu, Result.andThen])
        · cases h
      · cases h
    · rename_i fs hu
      split at h
      · cases h
      · split at h
        · split at h
          · rename_i hc
            simp only [Bool.and_eq_true, beq_iff_eq, bne_iff_ne, ne_eq] at hc
            simp only [Option.some.injEq] at h
            subst h
            exact agg _ rfl hc.2 hc.1 (by unfold isA; rw [hu]) (by simp [isAgg, Sem.run_bind, run_underlying hu, Result.andThen])
          · cases h
        · cases h
    · cases h
theorem eqFieldsP_run {d D : Nat} (IH : ∀ (t : TypeId) (ks : List LK), pl P d t = some ks → ∀ (xs ys : List Value), fitL ks xs = true → fitL ks ys = true → (Op.equalIn D t (mkV P t xs) (mkV P t ys)).run P w = .ok (eqVL xs ys) w) :
    ∀ (fs : List Field) (ks : List LK) (U V X Y : List Value), plF (pl P d) fs U.length = some ks → U.length = V.length → fitL ks X = true → fitL ks Y = true →
    (Op.eqFields D (U ++ X).toArray (V ++ Y).toArray fs).run P w = .ok (eqVL X Y) w
  | [], ks, U, V, X, Y, h, hUV, hX, hY => by
    simp [plF] at h; subst h
    have h1 := fitL_len hX
    have h2 := fitL_len hY
    have : X = [] := List.length_eq_zero_iff.1 h1
    have : Y = [] := List.length_eq_zero_iff.1 h2
    subst X; subst Y
    simp [Op.eqFields, eqVL]
  | f :: fs, ks, U, V, X, Y, h, hUV, hX, hY => by
    unfold plF at h
    split at h
    · rename_i h12
      simp only [Bool.and_eq_true, bne_iff_ne, ne_eq, beq_iff_eq] at h12
      obtain ⟨h1, h2⟩ := h12
      split at h
      · rename_i k1 hk1
        split at h
        · rename_i k2 hk2
          simp only [Option.some.injEq] at h
          subst h
          obtain ⟨X1, X2, rfl, a1, a2⟩ := fitL_app hX
          obtain ⟨Y1, Y2, rfl, b1, b2⟩ := fitL_app hY
          have la := fitL_len a1
          have lb := fitL_len b1
          have px : (part f.type (U ++ (X1 ++ X2)).toArray f.offset).run P w = .ok (mkV P f.type X1) w := part_pl hk1 (by rw [h2, List.drop_left, ← la, List.take_left]) la
          have py : (part f.type (V ++ (Y1 ++ Y2)).toArray f.offset).run P w = .ok (mkV P f.type Y1) w := part_pl hk1 (by rw [h2, hUV, List.drop_left, ← lb, List.take_left]) lb
          have hq := IH f.type k1 hk1 X1 Y1 a1 b1
          unfold Op.eqFields
          rw [if_pos h1, eqVL_app (by omega)]
          simp only [Sem.run_bind, px, py, Result.andThen_ok, hq]
          cases hxy : eqVL X1 Y1 with
          | true =>
            simp only [Bool.not_true, Bool.false_eq_true, if_false, Bool.true_and]
            have := eqFieldsP_run IH fs k2 (U ++ X1) (V ++ Y1) X2 Y2 (by rw [List.length_append, la]; exact hk2) (by simp only [List.length_append]; omega) a2 b2
            simpa using this
          | false =>
            simp only [Bool.not_false, if_true, Sem.run_pure, Bool.false_and]
        · cases h
      · cases h
    · cases h
theorem pl_run : ∀ (d : Nat) (t : TypeId) (ks : List LK), pl P d t = some ks → ∀ (D : Nat), d < D → ∀ (xs ys : List Value), fitL ks xs = true → fitL ks ys = true → (Op.equalIn D t (mkV P t xs) (mkV P t ys)).run P w = .ok (eqVL xs ys) w
  | 0, t, ks, h, D, hD, xs, ys, hx, hy => by cases h
  | d + 1, t, ks, h, 0, hD, xs, ys, hx, hy => by omega
  | d + 1, t, ks, h, D + 1, hD, xs, ys, hx, hy => by
    have h' := h
    unfold pl at h
    split at h
    · rename_i k hu
      simp only [Option.some.injEq] at h
      subst h
      obtain ⟨x, rfl, fx⟩ := fit_one hx
      obtain ⟨y, rfl, fy⟩ := fit_one hy
      have ha : isA P t = false := by unfold isA; rw [hu]
      unfold mkV
      rw [ha, eqVL_one]
      unfold fitV at fx fy
      split at fx <;> try (cases fx; done)
      all_goals (first | (rename_i heq; cases heq; done) | skip)
      all_goals (first | (rename_i heq _; cases heq; done) | skip)
      rename_i k1 k2 a heq
      cases heq
      split at fy <;> try (cases fy; done)
      all_goals (first | (rename_i heq; cases heq; done) | skip)
      rename_i k3 k4 b heq
      cases heq
      have e1 := eq_of_beq fx
      have e2 := eq_of_beq fy
      subst e1; subst e2
      exact run_equalIn_int w D t _ _ a b hu
    · rename_i hu
      simp only [Option.some.injEq] at h
      subst h
      obtain ⟨x, rfl, fx⟩ := fit_one hx
      obtain ⟨y, rfl, fy⟩ := fit_one hy
      have ha : isA P t = false := by unfold isA; rw [hu]
      unfold mkV
      rw [ha, eqVL_one]
      cases x <;> simp [fitV] at fx
      cases y <;> simp [fitV] at fy
      exact run_equalIn_string w D t _ _ hu
    · rename_i hu
      simp only [Option.some.injEq] at h
      subst h
      obtain ⟨x, rfl, fx⟩ := fit_one hx
      obtain ⟨y, rfl, fy⟩ := fit_one hy
      have ha : isA P t = false := by unfold isA; rw [hu]
      unfold mkV
      rw [ha, eqVL_one]
      cases x <;> simp [fitV] at fx
      cases y <;> simp [fitV] at fy
      exact run_equalIn_bool' w D t _ _ hu
    · rename_i n e hu
      split at h
      · rename_i he
        split at h
        · rename_i hc
          simp only [Bool.and_eq_true, beq_iff_eq, bne_iff_ne, ne_eq] at hc
          simp only [Option.some.injEq] at h
          subst h
          obtain ⟨X, hX, rfl⟩ := fit_bytes hx
          obtain ⟨Y, hY, rfl⟩ := fit_bytes hy
          have ha : isA P t = true := by unfold isA; rw [hu]
          unfold mkV
          rw [ha, eq_cells (by omega)]
          obtain ⟨D', rfl⟩ : ∃ D', D = D' + 1 := ⟨D - 1, by omega⟩
          exact run_equalIn_bytes (P := P) w D' t e n hu he (fun w => szOf_run (by decide) hc.1) X Y hX hY
        · cases h
      · cases h
    · rename_i fs hu
      split at h
      · cases h
      · rename_i hst
        split at h
        · rename_i ks' hks
          split at h
          · simp only [Option.some.injEq] at h
            subst h
            have ha : isA P t = true := by unfold isA; rw [hu]
            have hfo : P.fieldsOf t = fs := by unfold Program.fieldsOf; rw [hu]
            unfold mkV
            rw [ha]
            simp only [if_true]
            rw [run_equalIn_struct w D t _ _ (by rw [hfo]; exact hu) (by simpa using hst), hfo]
            exact eqFieldsP_run (fun t ks h xs ys hx hy => pl_run d t ks h D (by omega) xs ys hx hy) fs.toList ks' [] [] xs ys hks rfl hx hy
          · cases h
        · cases h
    · cases h
theorem eq_of_in {t : TypeId} {x y : Value} {b : Bool} (h : ∀ d, (Op.equalIn (d + 1) t x y).run P w = .ok b w) (op : BinOp) (hop : op = .eql ∨ op = .neq) (ox oy : Operand)
    (hg : ∀ op, eqGuard op t ox oy x y = pure ()) (he : binOp .eql t x y = (do pure (.bool (← Op.equal t x y)))) (hn : binOp .neq t x y = (do pure (.bool (!(← Op.equal t x y))))) :
    (do eqGuard op t ox oy x y; binOp op t x y : Sem Value).run P w = .ok (.bool (if op = .eql then b else !b)) w := by
  have h' : (Op.equal t x y).run P w = .ok b w := h 9999
  rcases hop with rfl | rfl
  · simp only [hg, he]
    simp [Sem.run_bind, Result.andThen, h']
  · simp only [hg, hn]
    simp [Sem.run_bind, Result.andThen, h']
theorem guard_if (op : BinOp) (t : TypeId) (ox oy : Operand) (x y : Value) (h : ∀ op', op' = .eql ∨ op' = .neq → eqGuard op' t ox oy x y = pure ()) : eqGuard op t ox oy x y = pure () := by
  by_cases h1 : op = .eql
  · exact h _ (.inl h1)
  · by_cases h2 : op = .neq
    · exact h _ (.inr h2)
    · unfold eqGuard
      rw [if_pos]
      cases op <;> first | rfl | exact absurd rfl h1 | exact absurd rfl h2
theorem vcEq_run {t : TypeId} {x y : Value} {K : Bool → Prop} (h : vcEq P t x y K) (op : BinOp) (hop : op = .eql ∨ op = .neq) (ox oy : Operand) :
    ∃ b, (do eqGuard op t ox oy x y; binOp op t x y : Sem Value).run P w = .ok (.bool (if op = .eql then b else !b)) w ∧ K b := by
  unfold vcEq at h
  split at h
  · rename_i a b hu
    exact ⟨_, eq_of_in (fun d => by simp [Op.equalIn, run_underlying hu]) op hop ox oy (fun op => guard_if _ _ _ _ _ _ (by rintro _ (rfl | rfl) <;> rfl)) rfl rfl, h⟩
  · rename_i e a b hu
    unfold nilEq at h
    split at h
    · exact ⟨_, eq_of_in (fun d => by cases a <;> simp [Op.equalIn, run_underlying hu]) op hop ox oy (fun op => guard_if _ _ _ _ _ _ (by rintro _ (rfl | rfl) <;> rfl)) rfl rfl, h⟩
    · split at h
      · exact ⟨_, eq_of_in (fun d => by simp [Op.equalIn, run_underlying hu]) op hop ox oy (fun op => guard_if _ _ _ _ _ _ (by rintro _ (rfl | rfl) <;> rfl)) rfl rfl, h⟩
      · exact h.elim
  · rename_i e a n1 c1 b n2 c2 hu
    unfold nilEq at h
    split at h
    · exact ⟨_, eq_of_in (fun d => by cases a <;> simp [Op.equalIn, run_underlying hu]) op hop ox oy (fun op => guard_if _ _ _ _ _ _ (by rintro _ (rfl | rfl) <;> rfl)) rfl rfl, h⟩
    · split at h
      · exact ⟨_, eq_of_in (fun d => by simp [Op.equalIn, run_underlying hu]) op hop ox oy (fun op => guard_if _ _ _ _ _ _ (by rintro _ (rfl | rfl) <;> rfl)) rfl rfl, h⟩
      · exact h.elim
  · rename_i hu
    exact ⟨_, eq_of_in (fun d => by simp [Op.equalIn, run_underlying hu]) op hop ox oy (fun op => guard_if _ _ _ _ _ _ (by rintro _ (rfl | rfl) <;> rfl)) rfl rfl, h⟩
  · rename_i n e xs ys hu
    split at h
    · rename_i he
      simp only [gd_iff, beq_iff_eq] at h
      obtain ⟨hs, hg, X, Y, hX, hY, hx, hy, hK⟩ := h
      have ex : xs = (X.map Extern.Stop.cell).toArray := by
        have : xs.toList.toArray = xs := by simp
        rw [← this, hx]; rfl
      have ey : ys = (Y.map Extern.Stop.cell).toArray := by
        have : ys.toList.toArray = ys := by simp
        rw [← this, hy]; rfl
      subst ex; subst ey
      have hr := run_equalIn_bytes (P := P) w 9998 t e n hu he (fun w => szOf_run (by decide) hs) X Y hX hY
      refine ⟨_, ?_, hK⟩
      have hg' : P.eqGuardType P.depth t = false := by simpa using hg
      have hgr : ∀ (op : BinOp) (ox oy : Operand) (a b : Array Value), (eqGuard op t ox oy (.agg a) (.agg b)).run P w = .ok () w := by
        intro op ox oy a b
        cases op <;> simp [eqGuard, Sem.run_bind, program, Sem.run, Result.andThen, hg']
      simp only [Sem.run_bind, hgr, Result.andThen]
      rcases hop with rfl | rfl
      · rw [run_eql_struct, hr]; simp [Result.andThen]
      · rw [run_neq_struct, hr]; simp [Result.andThen]
    · exact h.elim
  · rename_i fs xs ys hu
    simp only [gd_iff] at h
    obtain ⟨hst, hg, h⟩ := h
    have hfo : P.fieldsOf t = fs := by unfold Program.fieldsOf; rw [hu]
    have hg' : P.eqGuardType P.depth t = false := by simpa using hg
    have fin : ∀ b, (Op.equalIn 10000 t (.agg xs) (.agg ys)).run P w = .ok b w → K b → ∃ b, (do eqGuard op t ox oy (.agg xs) (.agg ys); binOp op t (.agg xs) (.agg ys) : Sem Value).run P w = .ok (.bool (if op = .eql then b else !b)) w ∧ K b := by
      intro b hr hK
      refine ⟨b, ?_, hK⟩
      simp only [Sem.run_bind, run_eqGuard_agg w _ _ _ _ _ _ hg', Result.andThen]
      rcases hop with rfl | rfl
      · rw [run_eql_struct, hr]; simp [Result.andThen]
      · rw [run_neq_struct, hr]; simp [Result.andThen]
    have eL : ∀ (zs : Array Value) (l : List Value), zs.toList = l → zs = l.toArray := by
      intro zs l h; rw [← h]
    split at h
    · rename_i hi
      obtain ⟨X, Y, hX, hY, hx, hy, hK⟩ := h
      rw [eL _ _ hx, eL _ _ hy] at fin ⊢
      refine fin _ ?_ hK
      rw [run_equalIn_struct w 9999 t _ _ (by rw [hfo]; exact hu) (by simpa using hst), hfo, eqFields_run 9998 fs.toList 0 X Y hi (by simpa using hX) (by simpa using hY)]
      rfl
    · split at h
      · rename_i ts hts
        obtain ⟨X, Y, hX, hY, hx, hy, hK⟩ := h
        rw [eL _ _ hx, eL _ _ hy] at fin ⊢
        refine fin _ ?_ hK
        rw [run_equalIn_struct w 9999 t _ _ (by rw [hfo]; exact hu) (by simpa using hst), hfo]
        exact eqFieldsM_run 9998 fs.toList ts [] [] X Y hts rfl hX hY
      · split at h
        · rename_i ks hks
          obtain ⟨hx, hy, hK⟩ := h
          refine fin _ ?_ hK
          have := pl_run (P := P) (w := w) 4 t ks hks 10000 (by decide) xs.toList ys.toList hx hy
          have ha : isA P t = true := by unfold isA; rw [hu]
          unfold mkV at this
          rw [ha] at this
          simpa using this
        · exact h.elim
  · exact h.elim
theorem vcBin_run {op : BinOp} {t : TypeId} {x y : Value} {K : Value → Prop} (h : vcBin P op t x y K) (ox oy : Operand) :
    ∃ v, (do eqGuard op t ox oy x y; binOp op t x y : Sem Value).run P w = .ok v w ∧ K v := by
  unfold vcBin at h
  split at h <;> first
    | exact h.elim
    | (simp only [gd_iff, beq_iff_eq, decide_eq_true_eq] at h
       first
        | (obtain ⟨rfl, h2, hK⟩ := h
           refine ⟨_, ?_, hK⟩
           simp [eqGuard, binOp, Op.intDiv, h2, pure, Sem.run]
           done)
        | (obtain ⟨rfl, hK⟩ := h
           refine ⟨_, ?_, hK⟩
           simp [eqGuard, binOp, Op.intArith, Op.intBits, Op.intCmp, pure, Sem.run]
           done)
        | (obtain ⟨h2, hK⟩ := h
           refine ⟨_, ?_, hK⟩
           have h3 : ¬ (_ : Int) < 0 := Int.not_lt.2 h2
           simp [eqGuard, binOp, Op.shift, pure, Sem.run, h3]
           done))
    | skip
  · simp only [gd_iff, decide_eq_true_eq] at h
    obtain ⟨h2, hK⟩ := h
    refine ⟨_, ?_, hK⟩
    have hm : IntKind.i64.max = 9223372036854775807 := by decide
    rename_i a b
    have hn : ¬ ((a.size + b.size : Nat) : Int) > IntKind.i64.max := by rw [hm]; omega
    simp only [eqGuard, binOp, Op.stringOp, if_neg hn]
    simp
  · exact ⟨_, by simp [eqGuard, binOp, Op.stringOp], h⟩
  · exact ⟨_, by simp [eqGuard, binOp, Op.stringOp], h⟩
  · exact ⟨_, by simp [eqGuard, binOp, Op.stringOp], h⟩
  · exact ⟨_, by simp [eqGuard, binOp, Op.stringOp], h⟩
  · exact ⟨_, by simp [eqGuard, binOp, Op.stringOp], h⟩
  · exact ⟨_, by simp [eqGuard, binOp, Op.stringOp], h⟩
  · obtain ⟨b, hb, hK⟩ := vcEq_run (w := w) h .eql (.inl rfl) ox oy
    exact ⟨_, hb, by simpa using hK⟩
  · obtain ⟨b, hb, hK⟩ := vcEq_run (w := w) h .neq (.inr rfl) ox oy
    exact ⟨_, hb, by simpa using hK⟩
end
end Go.GV
