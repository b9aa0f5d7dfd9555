/- MY OWN ENGINE, part 1: the operations that leave the world alone. -/
import Derived.Test.YtglojgicnchnpaaG0
import Derived.Stop.BytesEq
namespace Go.GV
open Go
set_option linter.unusedSimpArgs false
set_option linter.unusedVariables false

def iAnd (k : IntKind) (a b : Int) : Int := k.wrap (BitVec.ofInt k.bits a &&& BitVec.ofInt k.bits b).toNat
def iOr (k : IntKind) (a b : Int) : Int := k.wrap (BitVec.ofInt k.bits a ||| BitVec.ofInt k.bits b).toNat
def iXor (k : IntKind) (a b : Int) : Int := k.wrap (BitVec.ofInt k.bits a ^^^ BitVec.ofInt k.bits b).toNat
def gd (c : Bool) (A : Prop) : Prop := vIf c A False
/-- a byte's cell -/
def bv (b : UInt8) : Value := .int .u8 b.toNat
/-- two rows of bytes are held against each other -/
def eqAB (n : Nat) (xs ys : List Value) (K : Bool → Prop) : Prop :=
  ∃ X Y : List UInt8, X.length = n ∧ Y.length = n ∧ xs = X.map bv ∧ ys = Y.map bv ∧ K (X == Y)
/-- two rows of ints are held against each other -/
def eqI64 (n : Nat) (xs ys : List Value) (K : Bool → Prop) : Prop :=
  ∃ X Y : List Int, X.length = n ∧ Y.length = n ∧ xs = X.map (Value.int .i64) ∧ ys = Y.map (Value.int .i64) ∧ K (X == Y)
/-- all fields are ints, one behind the other -/
def i64F (P : Program) : List Field → Nat → Bool
  | [], _ => true
  | f :: fs, i => (f.name != "_") && ((f.offset == i) && ((match P.underlying f.type with | some (.int _) => true | _ => false) && i64F P fs (i + 1)))
/-- a text's or a number's cell -/
def mxv : ByteArray ⊕ Int → Value
  | .inl s => .string s
  | .inr i => .int .i64 i
def mxq : ByteArray ⊕ Int → ByteArray ⊕ Int → Bool
  | .inl a, .inl b => a == b
  | .inr a, .inr b => a == b
  | _, _ => false
def mxqL : List (ByteArray ⊕ Int) → List (ByteArray ⊕ Int) → Bool
  | x :: xs, y :: ys => mxq x y && mxqL xs ys
  | _, _ => true
def mxt : ByteArray ⊕ Int → Bool
  | .inl _ => true
  | .inr _ => false
/-- two rows of texts (true) and numbers are held against each other -/
def eqMx (ts : List Bool) (xs ys : List Value) (K : Bool → Prop) : Prop :=
  ∃ X Y : List (ByteArray ⊕ Int), X.map mxt = ts ∧ Y.map mxt = ts ∧ xs = X.map mxv ∧ ys = Y.map mxv ∧ K (mxqL X Y)
/-- all fields are texts or ints, one behind the other -/
def mxF (P : Program) : List Field → Nat → Option (List Bool)
  | [], _ => some []
  | f :: fs, i => if (f.name != "_") && (f.offset == i) then
      (match P.underlying f.type, mxF P fs (i + 1) with
       | some (.int _), some ts => some (false :: ts)
       | some .string, some ts => some (true :: ts)
       | _, _ => none)
    else none
/-- one of the two is nil -/
def nilEq (a b : Option Addr) (K : Bool → Prop) : Prop :=
  match b with
  | none => K a.isNone
  | some _ => (match a with | none => K false | some _ => False)
def vcEq (P : Program) (t : TypeId) (x y : Value) (K : Bool → Prop) : Prop :=
  match P.underlying t, x, y with
  | some .bool, .bool a, .bool b => K (a == b)
  | some (.pointer _), .pointer a, .pointer b => nilEq a b K
  | some (.slice _), .slice a _ _, .slice b _ _ => nilEq a b K
  | some (.interface _), .iface _ _, .nilIface => K false
  | some (.array n e), .agg xs, .agg ys =>
    match P.underlying e with
    | some (.int .u8) => gd (szOf P e == 1) (gd (!P.eqGuardType P.depth t) (eqAB n xs.toList ys.toList K))
    | _ => False
  | some (.struct fs), .agg xs, .agg ys => gd (!P.stoodInHeld t) (gd (!P.eqGuardType P.depth t) (match i64F P fs.toList 0 with
    | true => eqI64 fs.size xs.toList ys.toList K
    | false => (match mxF P fs.toList 0 with | some ts => eqMx ts xs.toList ys.toList K | none => False)))
  | _, _, _ => False
def vcBin (P : Program) (op : BinOp) (t : TypeId) (x y : Value) (K : Value → Prop) : Prop :=
  match op, x, y with
  | .shl, .int k a, .int _ b => gd (decide (0 ≤ b)) (K (.int k (k.wrap (a * 2 ^ min b.toNat k.bits))))
  | .shr, .int k a, .int _ b => gd (decide (0 ≤ b)) (K (.int k (a.fdiv (2 ^ min b.toNat k.bits))))
  | .add, .int k a, .int k' b => gd (k == k') (K (.int k (k.wrap (a + b))))
  | .sub, .int k a, .int k' b => gd (k == k') (K (.int k (k.wrap (a - b))))
  | .mul, .int k a, .int k' b => gd (k == k') (K (.int k (k.wrap (a * b))))
  | .quo, .int k a, .int k' b => gd (k == k') (gd (decide (b ≠ 0)) (K (.int k (k.wrap (a.tdiv b)))))
  | .rem, .int k a, .int k' b => gd (k == k') (gd (decide (b ≠ 0)) (K (.int k (a.tmod b))))
  | .and, .int k a, .int k' b => gd (k == k') (K (.int k (k.wrap (BitVec.ofInt k.bits a &&& BitVec.ofInt k.bits b).toNat)))
  | .or, .int k a, .int k' b => gd (k == k') (K (.int k (k.wrap (BitVec.ofInt k.bits a ||| BitVec.ofInt k.bits b).toNat)))
  | .xor, .int k a, .int k' b => gd (k == k') (K (.int k (k.wrap (BitVec.ofInt k.bits a ^^^ BitVec.ofInt k.bits b).toNat)))
  | .eql, .int k a, .int k' b => gd (k == k') (K (.bool (a == b)))
  | .neq, .int k a, .int k' b => gd (k == k') (K (.bool (a != b)))
  | .lss, .int k a, .int k' b => gd (k == k') (K (.bool (decide (a < b))))
  | .leq, .int k a, .int k' b => gd (k == k') (K (.bool (decide (a ≤ b))))
  | .gtr, .int k a, .int k' b => gd (k == k') (K (.bool (decide (a > b))))
  | .geq, .int k a, .int k' b => gd (k == k') (K (.bool (decide (a ≥ b))))
  | .add, .string a, .string b => gd (decide (a.size + b.size ≤ 9223372036854775807)) (K (.string (a ++ b)))
  | .eql, .string a, .string b => K (.bool (a.toList == b.toList))
  | .neq, .string a, .string b => K (.bool !(a.toList == b.toList))
  | .lss, .string a, .string b => K (.bool (Op.bytesLess a.toList b.toList))
  | .leq, .string a, .string b => K (.bool (Op.bytesLess a.toList b.toList || a.toList == b.toList))
  | .gtr, .string a, .string b => K (.bool !(Op.bytesLess a.toList b.toList || a.toList == b.toList))
  | .geq, .string a, .string b => K (.bool !Op.bytesLess a.toList b.toList)
  | .eql, x, y => vcEq P t x y (fun b => K (.bool b))
  | .neq, x, y => vcEq P t x y (fun b => K (.bool !b))
  | _, _, _ => False

theorem gd_iff {c : Bool} {A : Prop} : gd c A ↔ c = true ∧ A := by cases c <;> simp [gd, vIf]
theorem vIf_iff {b : Bool} {A B : Prop} : vIf b A B ↔ (b = true → A) ∧ (b = false → B) := by cases b <;> simp [vIf]

section
variable {P : Program} {w : World}
theorem szOf_run {t : TypeId} {n : Nat} (hn : n ≠ 0) (h : szOf P t = n) : (sizeOf t).run P w = .ok n w := by
  unfold szOf at h
  unfold sizeOf typeInfo
  cases hi : P.info? t with
  | none => rw [hi] at h; exact absurd h.symm hn
  | some i =>
    rw [hi] at h
    simp only [Sem.run_bind, program, Sem.run, Result.andThen, hi]
    simp [pure]
    exact h
theorem part_int {t : TypeId} {k : IntKind} (hu : P.underlying t = some (.int k)) {cs : List Value} {o : Nat} {v : Value} (h : cs[o]? = some v) : (part t cs.toArray o).run P w = .ok v w := by
  unfold part
  simp [isAgg, Sem.run_bind, run_underlying hu, Result.andThen, h]
theorem eqFields_run (d : Nat) : ∀ (fs : List Field) (i : Nat) (X Y : List Int), i64F P fs i = true → X.length = i + fs.length → Y.length = i + fs.length →
    (Op.eqFields (d + 1) (X.map (Value.int .i64)).toArray (Y.map (Value.int .i64)).toArray fs).run P w = .ok (X.drop i == Y.drop i) w
  | [], i, X, Y, _, hX, hY => by
    rw [List.drop_of_length_le (by simp at hX; omega), List.drop_of_length_le (by simp at hY; omega)]
    simp [Op.eqFields]
  | f :: fs, i, X, Y, h, hX, hY => by
    simp only [List.length_cons] at hX hY
    unfold i64F at h
    simp only [Bool.and_eq_true, bne_iff_ne, ne_eq, beq_iff_eq] at h
    obtain ⟨h1, h2, h3, h4⟩ := h
    have hx : X[i]? = some (X[i]'(by omega)) := List.getElem?_eq_getElem (by omega)
    have hy : Y[i]? = some (Y[i]'(by omega)) := List.getElem?_eq_getElem (by omega)
    have ex : X.drop i = X[i]'(by omega) :: X.drop (i + 1) := List.drop_eq_getElem_cons (by omega)
    have ey : Y.drop i = Y[i]'(by omega) :: Y.drop (i + 1) := List.drop_eq_getElem_cons (by omega)
    obtain ⟨k, hk⟩ : ∃ k, P.underlying f.type = some (.int k) := by
      split at h3
      · rename_i k hk; exact ⟨k, hk⟩
      · cases h3
    have px : (part f.type (X.map (Value.int .i64)).toArray f.offset).run P w = .ok (.int .i64 (X[i]'(by omega))) w := part_int hk (by rw [List.getElem?_map, h2, hx]; rfl)
    have py : (part f.type (Y.map (Value.int .i64)).toArray f.offset).run P w = .ok (.int .i64 (Y[i]'(by omega))) w := part_int hk (by rw [List.getElem?_map, h2, hy]; rfl)
    unfold Op.eqFields
    rw [if_pos h1]
    simp only [Sem.run_bind, px, py, Result.andThen_ok, run_equalIn_int w d f.type .i64 k _ _ hk]
    have hd : (X.drop i == Y.drop i) = ((X[i]'(by omega) == Y[i]'(by omega)) && (X.drop (i + 1) == Y.drop (i + 1))) := by rw [ex, ey]; rfl
    rw [hd]
    cases hxy : (X[i]'(by omega) == Y[i]'(by omega)) with
    | true =>
      simp only [Bool.not_true, Bool.false_eq_true, if_false, Bool.true_and]
      exact eqFields_run d fs (i + 1) X Y h4 (by omega) (by omega)
    | false =>
      simp only [Bool.not_false, if_true, Sem.run_pure, Bool.false_and]
theorem part_flat {t : TypeId} (hu : (∃ k, P.underlying t = some (.int k)) ∨ P.underlying t = some .string) {cs : List Value} {o : Nat} {v : Value} (h : cs[o]? = some v) : (part t cs.toArray o).run P w = .ok v w := by
  rcases hu with ⟨k, hu⟩ | hu
  · exact part_int hu h
  · unfold part
    simp [isAgg, Sem.run_bind, run_underlying hu, Result.andThen, h]
theorem mxqL_cons (x y : ByteArray ⊕ Int) (xs ys : List (ByteArray ⊕ Int)) : mxqL (x :: xs) (y :: ys) = (mxq x y && mxqL xs ys) := rfl
theorem run_equalIn_str (d : Nat) {t : TypeId} (a b : ByteArray) (hu : P.underlying t = some .string) : (Op.equalIn (d + 1) t (.string a) (.string b)).run P w = .ok (a == b) w := by
  simp [Op.equalIn, run_underlying hu]
theorem eqFieldsM_run (d : Nat) : ∀ (fs : List Field) (ts : List Bool) (U V X Y : List (ByteArray ⊕ Int)), mxF P fs U.length = some ts → U.length = V.length → X.map mxt = ts → Y.map mxt = ts →
    (Op.eqFields (d + 1) ((U ++ X).map mxv).toArray ((V ++ Y).map mxv).toArray fs).run P w = .ok (mxqL X Y) w
  | [], ts, U, V, X, Y, h, hUV, hX, hY => by
    simp [mxF] at h; subst h
    simp at hX hY; subst hX; subst hY
    simp [Op.eqFields, mxqL]
  | f :: fs, ts, U, V, X, Y, h, hUV, hX, hY => by
    unfold mxF at h
    split at h
    · rename_i h12
      simp only [Bool.and_eq_true, bne_iff_ne, ne_eq, beq_iff_eq] at h12
      obtain ⟨h1, h2⟩ := h12
      have main : ∀ (b : Bool) (ts' : List Bool) (x y : ByteArray ⊕ Int) (X' Y' : List (ByteArray ⊕ Int)), ((∃ k, P.underlying f.type = some (.int k)) ∨ P.underlying f.type = some .string) →
          mxF P fs (U.length + 1) = some ts' → X'.map mxt = ts' → Y'.map mxt = ts' → (Op.equalIn (d + 1) f.type (mxv x) (mxv y)).run P w = .ok (mxq x y) w →
          (Op.eqFields (d + 1) ((U ++ x :: X').map mxv).toArray ((V ++ y :: Y').map mxv).toArray (f :: fs)).run P w = .ok (mxqL (x :: X') (y :: Y')) w := by
        intro b ts' x y X' Y' hk hm hX' hY' hq
        have px : (part f.type ((U ++ x :: X').map mxv).toArray f.offset).run P w = .ok (mxv x) w := part_flat hk (by rw [List.getElem?_map, h2, List.getElem?_append_right (Nat.le_refl _)]; simp)
        have py : (part f.type ((V ++ y :: Y').map mxv).toArray f.offset).run P w = .ok (mxv y) w := part_flat hk (by rw [List.getElem?_map, h2, hUV, List.getElem?_append_right (Nat.le_refl _)]; simp)
        unfold Op.eqFields
        rw [if_pos h1, mxqL_cons]
        simp only [Sem.run_bind, px, py, Result.andThen_ok, hq]
        cases hxy : mxq x y with
        | true =>
          simp only [Bool.not_true, Bool.false_eq_true, if_false, Bool.true_and]
          have := eqFieldsM_run d fs ts' (U ++ [x]) (V ++ [y]) X' Y' (by simpa using hm) (by simpa using hUV) hX' hY'
          simpa using this
        | false =>
          simp only [Bool.not_false, if_true, Sem.run_pure, Bool.false_and]
      split at h
      · rename_i k ts' hk hm
        simp only [Option.some.injEq] at h; subst h
        match X, Y, hX, hY with
        | .inr i :: X', .inr j :: Y', hX, hY =>
          simp only [List.map_cons, List.cons.injEq] at hX hY
          exact main false ts' _ _ X' Y' (.inl ⟨k, hk⟩) hm hX.2 hY.2 (run_equalIn_int w d f.type .i64 k _ _ hk)
        | .inl i :: X', _, hX, _ => simp [mxt] at hX
        | .inr i :: X', .inl j :: Y', _, hY => simp [mxt] at hY
        | .inr i :: X', [], _, hY => simp at hY
        | [], _, hX, _ => simp at hX
      · rename_i ts' hk hm
        simp only [Option.some.injEq] at h; subst h
        match X, Y, hX, hY with
        | .inl i :: X', .inl j :: Y', hX, hY =>
          simp only [List.map_cons, List.cons.injEq] at hX hY
          exact main true ts' _ _ X' Y' (.inr hk) hm hX.2 hY.2 (run_equalIn_str d _ _ hk)
        | .inr i :: X', _, hX, _ => simp [mxt] at hX
        | .inl i :: X', .inr j :: Y', _, hY => simp [mxt] at hY
        | .inl i :: X', [], _, hY => simp at hY
        | [], _, hX, _ => simp at hX
      · cases h
    · cases h
theorem eq_of_in {t : TypeId} {x y : Value} {b : Bool} (h : ∀ d, (Op.equalIn (d + 1) t x y).run P w = .ok b w) (op : BinOp) (hop : op = .eql ∨ op = .neq) (ox oy : Operand)
    (hg : ∀ op, eqGuard op t ox oy x y = pure ()) (he : binOp .eql t x y = (do pure (.bool (← Op.equal t x y)))) (hn : binOp .neq t x y = (do pure (.bool (!(← Op.equal t x y))))) :
    (do eqGuard op t ox oy x y; binOp op t x y : Sem Value).run P w = .ok (.bool (if op = .eql then b else !b)) w := by
  have h' : (Op.equal t x y).run P w = .ok b w := h 9999
  rcases hop with rfl | rfl
  · simp only [hg, he]
    simp [Sem.run_bind, Result.andThen, h']
  · simp only [hg, hn]
    simp [Sem.run_bind, Result.andThen, h']
theorem guard_if (op : BinOp) (t : TypeId) (ox oy : Operand) (x y : Value) (h : ∀ op', op' = .eql ∨ op' = .neq → eqGuard op' t ox oy x y = pure ()) : eqGuard op t ox oy x y = pure () := by
  by_cases h1 : op = .eql
  · exact h _ (.inl h1)
  · by_cases h2 : op = .neq
    · exact h _ (.inr h2)
    · unfold eqGuard
      rw [if_pos]
      cases op <;> first | rfl | exact absurd rfl h1 | exact absurd rfl h2
theorem vcEq_run {t : TypeId} {x y : Value} {K : Bool → Prop} (h : vcEq P t x y K) (op : BinOp) (hop : op = .eql ∨ op = .neq) (ox oy : Operand) :
    ∃ b, (do eqGuard op t ox oy x y; binOp op t x y : Sem Value).run P w = .ok (.bool (if op = .eql then b else !b)) w ∧ K b := by
  unfold vcEq at h
  split at h
  · rename_i a b hu
    exact ⟨_, eq_of_in (fun d => by simp [Op.equalIn, run_underlying hu]) op hop ox oy (fun op => guard_if _ _ _ _ _ _ (by rintro _ (rfl | rfl) <;> rfl)) rfl rfl, h⟩
  · rename_i e a b hu
    unfold nilEq at h
    split at h
    · exact ⟨_, eq_of_in (fun d => by cases a <;> simp [Op.equalIn, run_underlying hu]) op hop ox oy (fun op => guard_if _ _ _ _ _ _ (by rintro _ (rfl | rfl) <;> rfl)) rfl rfl, h⟩
    · split at h
      · exact ⟨_, eq_of_in (fun d => by simp [Op.equalIn, run_underlying hu]) op hop ox oy (fun op => guard_if _ _ _ _ _ _ (by rintro _ (rfl | rfl) <;> rfl)) rfl rfl, h⟩
      · exact h.elim
  · rename_i e a n1 c1 b n2 c2 hu
    unfold nilEq at h
    split at h
    · exact ⟨_, eq_of_in (fun d => by cases a <;> simp [Op.equalIn, run_underlying hu]) op hop ox oy (fun op => guard_if _ _ _ _ _ _ (by rintro _ (rfl | rfl) <;> rfl)) rfl rfl, h⟩
    · split at h
      · exact ⟨_, eq_of_in (fun d => by simp [Op.equalIn, run_underlying hu]) op hop ox oy (fun op => guard_if _ _ _ _ _ _ (by rintro _ (rfl | rfl) <;> rfl)) rfl rfl, h⟩
      · exact h.elim
  · rename_i hu
    exact ⟨_, eq_of_in (fun d => by simp [Op.equalIn, run_underlying hu]) op hop ox oy (fun op => guard_if _ _ _ _ _ _ (by rintro _ (rfl | rfl) <;> rfl)) rfl rfl, h⟩
  · rename_i n e xs ys hu
    split at h
    · rename_i he
      simp only [gd_iff, beq_iff_eq] at h
      obtain ⟨hs, hg, X, Y, hX, hY, hx, hy, hK⟩ := h
      have ex : xs = (X.map Extern.Stop.cell).toArray := by
        have : xs.toList.toArray = xs := by simp
        rw [← this, hx]; rfl
      have ey : ys = (Y.map Extern.Stop.cell).toArray := by
        have : ys.toList.toArray = ys := by simp
        rw [← this, hy]; rfl
      subst ex; subst ey
      have hr := run_equalIn_bytes (P := P) w 9998 t e n hu he (fun w => szOf_run (by decide) hs) X Y hX hY
      refine ⟨_, ?_, hK⟩
      have hg' : P.eqGuardType P.depth t = false := by simpa using hg
      have hgr : ∀ (op : BinOp) (ox oy : Operand) (a b : Array Value), (eqGuard op t ox oy (.agg a) (.agg b)).run P w = .ok () w := by
        intro op ox oy a b
        cases op <;> simp [eqGuard, Sem.run_bind, program, Sem.run, Result.andThen, hg']
      simp only [Sem.run_bind, hgr, Result.andThen]
      rcases hop with rfl | rfl
      · rw [run_eql_struct, hr]; simp [Result.andThen]
      · rw [run_neq_struct, hr]; simp [Result.andThen]
    · exact h.elim
  · rename_i fs xs ys hu
    simp only [gd_iff] at h
    obtain ⟨hst, hg, h⟩ := h
    have hfo : P.fieldsOf t = fs := by unfold Program.fieldsOf; rw [hu]
    have hg' : P.eqGuardType P.depth t = false := by simpa using hg
    have fin : ∀ b, (Op.equalIn 10000 t (.agg xs) (.agg ys)).run P w = .ok b w → K b → ∃ b, (do eqGuard op t ox oy (.agg xs) (.agg ys); binOp op t (.agg xs) (.agg ys) : Sem Value).run P w = .ok (.bool (if op = .eql then b else !b)) w ∧ K b := by
      intro b hr hK
      refine ⟨b, ?_, hK⟩
      simp only [Sem.run_bind, run_eqGuard_agg w _ _ _ _ _ _ hg', Result.andThen]
      rcases hop with rfl | rfl
      · rw [run_eql_struct, hr]; simp [Result.andThen]
      · rw [run_neq_struct, hr]; simp [Result.andThen]
    have eL : ∀ (zs : Array Value) (l : List Value), zs.toList = l → zs = l.toArray := by
      intro zs l h; rw [← h]
    split at h
    · rename_i hi
      obtain ⟨X, Y, hX, hY, hx, hy, hK⟩ := h
      rw [eL _ _ hx, eL _ _ hy] at fin ⊢
      refine fin _ ?_ hK
      rw [run_equalIn_struct w 9999 t _ _ (by rw [hfo]; exact hu) (by simpa using hst), hfo, eqFields_run 9998 fs.toList 0 X Y hi (by simpa using hX) (by simpa using hY)]
      rfl
    · split at h
      · rename_i ts hts
        obtain ⟨X, Y, hX, hY, hx, hy, hK⟩ := h
        rw [eL _ _ hx, eL _ _ hy] at fin ⊢
        refine fin _ ?_ hK
        rw [run_equalIn_struct w 9999 t _ _ (by rw [hfo]; exact hu) (by simpa using hst), hfo]
        exact eqFieldsM_run 9998 fs.toList ts [] [] X Y hts rfl hX hY
      · exact h.elim
  · exact h.elim
theorem vcBin_run {op : BinOp} {t : TypeId} {x y : Value} {K : Value → Prop} (h : vcBin P op t x y K) (ox oy : Operand) :
    ∃ v, (do eqGuard op t ox oy x y; binOp op t x y : Sem Value).run P w = .ok v w ∧ K v := by
  unfold vcBin at h
  split at h <;> first
    | exact h.elim
    | (simp only [gd_iff, beq_iff_eq, decide_eq_true_eq] at h
       first
        | (obtain ⟨rfl, h2, hK⟩ := h
           refine ⟨_, ?_, hK⟩
           simp [eqGuard, binOp, Op.intDiv, h2, pure, Sem.run]
           done)
        | (obtain ⟨rfl, hK⟩ := h
           refine ⟨_, ?_, hK⟩
           simp [eqGuard, binOp, Op.intArith, Op.intBits, Op.intCmp, pure, Sem.run]
           done)
        | (obtain ⟨h2, hK⟩ := h
           refine ⟨_, ?_, hK⟩
           have h3 : ¬ (_ : Int) < 0 := Int.not_lt.2 h2
           simp [eqGuard, binOp, Op.shift, pure, Sem.run, h3]
           done))
    | skip
  · simp only [gd_iff, decide_eq_true_eq] at h
    obtain ⟨h2, hK⟩ := h
    refine ⟨_, ?_, hK⟩
    have hm : IntKind.i64.max = 9223372036854775807 := by decide
    rename_i a b
    have hn : ¬ ((a.size + b.size : Nat) : Int) > IntKind.i64.max := by rw [hm]; omega
    simp only [eqGuard, binOp, Op.stringOp, if_neg hn]
    simp
  · exact ⟨_, by simp [eqGuard, binOp, Op.stringOp], h⟩
  · exact ⟨_, by simp [eqGuard, binOp, Op.stringOp], h⟩
  · exact ⟨_, by simp [eqGuard, binOp, Op.stringOp], h⟩
  · exact ⟨_, by simp [eqGuard, binOp, Op.stringOp], h⟩
  · exact ⟨_, by simp [eqGuard, binOp, Op.stringOp], h⟩
  · exact ⟨_, by simp [eqGuard, binOp, Op.stringOp], h⟩
  · obtain ⟨b, hb, hK⟩ := vcEq_run (w := w) h .eql (.inl rfl) ox oy
    exact ⟨_, hb, by simpa using hK⟩
  · obtain ⟨b, hb, hK⟩ := vcEq_run (w := w) h .neq (.inr rfl) ox oy
    exact ⟨_, hb, by simpa using hK⟩
end
end Go.GV
