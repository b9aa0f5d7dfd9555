/- MY OWN ENGINE, part 2: loads, places, parts; all operations that leave the world alone, together. -/
import Derived.Test.YtfhimpkpfelilaaDoorG1
namespace Go.GV
open Go
set_option linter.unusedSimpArgs false
set_option linter.unusedVariables false

/-! ### typed reading of a list of cells -/
def ptI (k : IntKind) (v : Value) (K : Int → Prop) : Prop :=
  match v with
  | .int k' x => gd (k' == k) (K x)
  | _ => False
def ptB (v : Value) (K : Bool → Prop) : Prop :=
  match v with
  | .bool x => K x
  | _ => False
def ptS (v : Value) (K : ByteArray → Prop) : Prop :=
  match v with
  | .string x => K x
  | _ => False
def ptP (v : Value) (K : Option Addr → Prop) : Prop :=
  match v with
  | .pointer x => K x
  | _ => False
def ptSl (v : Value) (K : Option Addr → Nat → Nat → Prop) : Prop :=
  match v with
  | .slice A n c => K A n c
  | _ => False
def ptM (v : Value) (K : Option Nat → Prop) : Prop :=
  match v with
  | .map r => K r
  | _ => False
def ptA (n : Nat) (v : Value) (K : List Value → Prop) : Prop :=
  match v with
  | .agg cs => gd (cs.size == n) (K cs.toList)
  | _ => False
/-- the list of cells as an aggregate of so many cells -/
def ofL (cs : List Value) : Value := .agg cs.toArray
/-- a part of a row of cells, by its type -/
def vcPart (P : Program) (t : TypeId) (cs : List Value) (o : Nat) (K : Value → Prop) : Prop :=
  match P.underlying t with
  | some (.struct _) | some (.array _ _) => K (ofL ((cs.drop o).take (szOf P t)))
  | some (.int k) => gd (decide (o < cs.length)) (ptI k (nthV cs o) (fun x => K (.int k x)))
  | some .bool => gd (decide (o < cs.length)) (ptB (nthV cs o) (fun x => K (.bool x)))
  | some .string => gd (decide (o < cs.length)) (ptS (nthV cs o) (fun x => K (.string x)))
  | some (.pointer _) => gd (decide (o < cs.length)) (ptP (nthV cs o) (fun x => K (.pointer x)))
  | some (.slice _) => gd (decide (o < cs.length)) (ptSl (nthV cs o) (fun A n c => K (.slice A n c)))
  | some (.map _ _) => gd (decide (o < cs.length)) (ptM (nthV cs o) (fun r => K (.map r)))
  | some (.interface _) | some (.func _ _ _) => gd (decide (o < cs.length)) (K (nthV cs o))
  | _ => False
def vcLd (P : Program) (t : TypeId) (w : World) (b o : Nat) (K : Value → Prop) : Prop :=
  match P.underlying t with
  | some (.struct _) | some (.array _ _) => ldA (szOf P t) w b o (fun cs => K (ofL cs))
  | some (.int k) => ldI k w b o (fun x => K (.int k x))
  | some .bool => ldB w b o (fun x => K (.bool x))
  | some .string => ldS w b o (fun x => K (.string x))
  | some (.pointer _) => ldP w b o (fun x => K (.pointer x))
  | some (.slice _) => ldSl w b o (fun A n c => K (.slice A n c))
  | some (.map _ _) => ldM w b o (fun r => K (.map r))
  | some (.interface _) | some (.func _ _ _) => ldV w b o K
  | _ => False
def vcIxA (P : Program) (t : TypeId) (x i : Value) (K : Value → Prop) : Prop :=
  match P.underlying t, x, i with
  | some (.slice e), .slice A len _, .int _ n => gd (szOf P e != 0) (dr A (fun b o => gd (decide (0 ≤ n)) (gd (decide (n < (len : Int))) (K (.pointer (some ⟨b, o + n.toNat * szOf P e, none⟩))))))
  | some (.array len e), .pointer A, .int _ n => gd (szOf P e != 0) (dr A (fun b o => gd (decide (0 ≤ n)) (gd (decide (n < (len : Int))) (K (.pointer (some ⟨b, o + n.toNat * szOf P e, none⟩))))))
  | _, _, _ => False
def byteAt (s : ByteArray) (i : Nat) : Int := ((s.data.toList.getD i 0).toNat : Int)
def vcIx (P : Program) (t : TypeId) (x i : Value) (K : Value → Prop) : Prop :=
  match P.underlying t, x, i with
  | some .string, .string s, .int _ n => gd (decide (0 ≤ n)) (gd (decide (n < (s.size : Int))) (K (.int .u8 (byteAt s n.toNat))))
  | some (.array len e), .agg cs, .int _ n => gd (decide (0 ≤ n)) (gd (decide (n < (len : Int))) (gd (szOf P e != 0) (vcPart P e cs.toList (n.toNat * szOf P e) K)))
  | _, _, _ => False
def bnd (v : Option Value) (d : Nat) (top : Nat) (K : Nat → Prop) : Prop :=
  match v with
  | none => K d
  | some (.int _ n) => gd (decide (0 ≤ n)) (gd (decide (n ≤ (top : Int))) (K n.toNat))
  | some _ => False
/-- the bounds of a cut: low, high, greatest -/
def bnds (len cap : Nat) (lo hi mx : Option Value) (K : Nat → Nat → Nat → Prop) : Prop :=
  bnd mx cap cap (fun m => gd (mx.isNone || hi.isSome) (bnd hi len m (fun h => bnd lo 0 h (fun l => K l h m))))
def slA (A : Option Addr) (m l sz : Nat) : Option Addr := if m = l then A else A.map (·.add (l * sz))
def vcSl (P : Program) (t : TypeId) (x : Value) (lo hi mx : Option Value) (K : Value → Prop) : Prop :=
  match P.underlying t, x with
  | some .string, .string s => gd mx.isNone (bnds s.size s.size lo hi none (fun l h _ => K (.string (s.extract l h))))
  | some (.slice e), .slice A len cap => gd (szOf P e != 0) (bnds len cap lo hi mx (fun l h m => K (.slice (slA A m l (szOf P e)) (h - l) (m - l))))
  | some (.array n e), .pointer (some a) => gd (szOf P e != 0) (bnds n n lo hi mx (fun l h m => K (.slice (slA (some a) m l (szOf P e)) (h - l) (m - l))))
  | _, _ => False
def vcLen (P : Program) (t : TypeId) (x : Value) (K : Value → Prop) : Prop :=
  match P.underlying t, x with
  | some .string, .string s => K (.int .i64 s.size)
  | some (.slice _), .slice _ n _ => K (.int .i64 n)
  | some (.array n _), _ => K (.int .i64 n)
  | some (.map _ _), .map none => K (.int .i64 0)
  | some (.pointer a), _ => (match P.underlying a with | some (.array n _) => K (.int .i64 n) | _ => False)
  | _, _ => False
def vcCap (P : Program) (t : TypeId) (x : Value) (K : Value → Prop) : Prop :=
  match P.underlying t, x with
  | some (.slice _), .slice _ _ c => K (.int .i64 c)
  | some (.array n _), _ => K (.int .i64 n)
  | _, _ => False
def vcUn (op : UnOp) (x : Value) (K : Value → Prop) : Prop :=
  match op, x with
  | .not, .bool b => K (.bool !b)
  | .neg, .int k n => K (.int k (k.wrap (0 - n)))
  | .xor, .int k n => K (.int k (iXor k (if k.signed then -1 else k.max) n))
  | _, _ => False
def vcConv (P : Program) (s d : TypeId) (x : Value) (K : Value → Prop) : Prop :=
  match P.underlying s, P.underlying d, x with
  | some (.int _), some (.int k), .int _ n => K (.int k (k.wrap n))
  | some .string, some .string, .string s => K (.string s)
  | _, _, _ => False
def vcFA (P : Program) (s : TypeId) (x : Value) (f : Nat) (K : Value → Prop) : Prop :=
  match P.underlying s, x with
  | some (.struct fs), .pointer (some a) => (match fs[f]? with | some fd => gd (szOf P fd.type != 0) (K (.pointer (some (a.add fd.offset)))) | none => False)
  | _, _ => False
def vcFd (P : Program) (s : TypeId) (x : Value) (f : Nat) (K : Value → Prop) : Prop :=
  match P.underlying s, x with
  | some (.struct fs), .agg cs => (match fs[f]? with | some fd => gd (szOf P fd.type != 0) (vcPart P fd.type cs.toList fd.offset K) | none => False)
  | _, _ => False
def vcNil (x : Value) (K : Value → Prop) : Prop :=
  match x with
  | .pointer q => dr q (fun b o => K (.pointer (some ⟨b, o, none⟩)))
  | .func (.func f) a b => K (.func (.func f) a b)
  | _ => False
def vcMm (isMin : Bool) (args : List Value) (K : Value → Prop) : Prop :=
  match args with
  | [.int k x, .int k' y] => gd (k == k') (K (.int k (if isMin then (if y < x then y else x) else (if x < y then y else x))))
  | _ => False

section
variable {P : Program} {w : World}
theorem szOf_run' {t : TypeId} {d : TypeDesc} (hu : P.underlying t = some d) : (sizeOf t).run P w = .ok (szOf P t) w := by
  obtain ⟨i, hi⟩ := info_of_underlying hu
  unfold szOf sizeOf typeInfo
  simp only [Sem.run_bind, program, Sem.run, Result.andThen, hi]
  simp [pure]
theorem dr_iff {q : Option Addr} {K : Nat → Nat → Prop} : dr q K ↔ ∃ b o, q = some ⟨b, o, none⟩ ∧ K b o := by
  unfold dr
  constructor
  · intro h
    split at h
    · rename_i a
      split at h
      · rename_i hs
        exact ⟨a.block, a.off, by cases a; simp_all, h⟩
      · exact h.elim
    · exact h.elim
  · rintro ⟨b, o, rfl, h⟩
    exact h
theorem add_none (b o n : Nat) : (⟨b, o, none⟩ : Addr).add n = ⟨b, o + n, none⟩ := by
  unfold Addr.add; split <;> simp_all
theorem sz_run {t : TypeId} (h : (szOf P t != 0) = true) : (sizeOf t).run P w = .ok (szOf P t) w := szOf_run (by simpa using h) rfl
theorem vcIxA_run {t : TypeId} {x i : Value} {K : Value → Prop} (h : vcIxA P t x i K) : ∃ v, (Instr.indexAt t x i).run P w = .ok v w ∧ K v := by
  unfold vcIxA at h
  split at h
  · rename_i e A len _ k n hu
    simp only [dr_iff, gd_iff, decide_eq_true_eq] at h
    obtain ⟨hs, b, o, rfl, h0, h1, hK⟩ := h
    refine ⟨_, ?_, hK⟩
    have he : P.elem t = e := by simp [Program.elem, hu]
    rw [run_indexAt_slice (h := by rw [he]; exact hu), if_pos ⟨h0, h1⟩, he, sz_run hs]
    simp [Result.andThen, add_none]
  · rename_i len e A k n hu
    simp only [dr_iff, gd_iff, decide_eq_true_eq] at h
    obtain ⟨hs, b, o, rfl, h0, h1, hK⟩ := h
    refine ⟨_, ?_, hK⟩
    have he : P.elem t = e := by simp [Program.elem, hu]
    have hl : P.arrayLen t = len := by simp [Program.arrayLen, hu]
    rw [run_indexAt_array (h := by rw [he, hl]; exact hu), hl, if_pos ⟨h0, h1⟩, he, sz_run hs]
    simp [Result.andThen, add_none]
  · exact h.elim
theorem isAgg_run {t : TypeId} {d : TypeDesc} (hu : P.underlying t = some d) : (isAgg t).run P w = .ok (match d with | .struct _ | .array _ _ => true | _ => false) w := by
  unfold isAgg
  simp only [Sem.run_bind, run_underlying hu, Result.andThen]
  cases d <;> simp
theorem nth_get {cs : List Value} {o : Nat} (h : o < cs.length) : cs.toArray[o]? = some (nthV cs o) := by
  rw [nthV_eq]
  simp [Array.getD_eq_getD_getElem?, h]
theorem part_plain {t : TypeId} {d : TypeDesc} (hu : P.underlying t = some d) (hd : (match d with | .struct _ | .array _ _ => true | _ => false) = false) {cs : List Value} {o : Nat} (h : o < cs.length) :
    (part t cs.toArray o).run P w = .ok (nthV cs o) w := by
  unfold part
  simp only [Sem.run_bind, isAgg_run hu, hd, Result.andThen, nth_get h]
  simp
theorem part_agg {t : TypeId} {d : TypeDesc} (hu : P.underlying t = some d) (hd : (match d with | .struct _ | .array _ _ => true | _ => false) = true) (cs : List Value) (o : Nat) :
    (part t cs.toArray o).run P w = .ok (ofL ((cs.drop o).take (szOf P t))) w := by
  unfold part
  simp only [Sem.run_bind, isAgg_run hu, hd, Result.andThen, if_true, szOf_run' hu]
  simp [ofL]
theorem vcPart_run {t : TypeId} {cs : List Value} {o : Nat} {K : Value → Prop} (h : vcPart P t cs o K) : ∃ v, (part t cs.toArray o).run P w = .ok v w ∧ K v := by
  unfold vcPart at h
  split at h
  · rename_i hu; exact ⟨_, part_agg hu rfl _ _, h⟩
  · rename_i hu; exact ⟨_, part_agg hu rfl _ _, h⟩
  · rename_i hu; simp only [gd_iff, decide_eq_true_eq] at h; obtain ⟨hl, h⟩ := h
    refine ⟨_, part_plain hu rfl hl, ?_⟩
    unfold ptI at h; split at h
    · rename_i e; simp only [gd_iff, beq_iff_eq] at h; obtain ⟨rfl, h⟩ := h; rw [e]; exact h
    · exact h.elim
  · rename_i hu; simp only [gd_iff, decide_eq_true_eq] at h; obtain ⟨hl, h⟩ := h
    refine ⟨_, part_plain hu rfl hl, ?_⟩
    unfold ptB at h; split at h
    · rename_i e; rw [e]; exact h
    · exact h.elim
  · rename_i hu; simp only [gd_iff, decide_eq_true_eq] at h; obtain ⟨hl, h⟩ := h
    refine ⟨_, part_plain hu rfl hl, ?_⟩
    unfold ptS at h; split at h
    · rename_i e; rw [e]; exact h
    · exact h.elim
  · rename_i hu; simp only [gd_iff, decide_eq_true_eq] at h; obtain ⟨hl, h⟩ := h
    refine ⟨_, part_plain hu rfl hl, ?_⟩
    unfold ptP at h; split at h
    · rename_i e; rw [e]; exact h
    · exact h.elim
  · rename_i hu; simp only [gd_iff, decide_eq_true_eq] at h; obtain ⟨hl, h⟩ := h
    refine ⟨_, part_plain hu rfl hl, ?_⟩
    unfold ptSl at h; split at h
    · rename_i e; rw [e]; exact h
    · exact h.elim
  · rename_i hu; simp only [gd_iff, decide_eq_true_eq] at h; obtain ⟨hl, h⟩ := h
    refine ⟨_, part_plain hu rfl hl, ?_⟩
    unfold ptM at h; split at h
    · rename_i e; rw [e]; exact h
    · exact h.elim
  · rename_i hu; simp only [gd_iff, decide_eq_true_eq] at h; obtain ⟨hl, h⟩ := h
    exact ⟨_, part_plain hu rfl hl, h⟩
  · rename_i hu; simp only [gd_iff, decide_eq_true_eq] at h; obtain ⟨hl, h⟩ := h
    exact ⟨_, part_plain hu rfl hl, h⟩
  · exact h.elim
theorem loadVar_plain {t : TypeId} {d : TypeDesc} (hu : P.underlying t = some d) (hd : (match d with | .struct _ | .array _ _ => true | _ => false) = false) {b o : Nat} {v : Value} (h : cellAt w b o = some v) :
    (loadVar t ⟨b, o, none⟩).run P w = .ok v w := by
  unfold loadVar
  unfold cellAt at h
  simp only [Sem.run_bind, isAgg_run hu, hd, Result.andThen]
  simp [h]
theorem loadVar_agg {t : TypeId} {d : TypeDesc} (hu : P.underlying t = some d) (hd : (match d with | .struct _ | .array _ _ => true | _ => false) = true) {b o : Nat} {cs : List Value} (hl : cs.length = szOf P t) (h : cellsAt w b o cs) :
    (loadVar t ⟨b, o, none⟩).run P w = .ok (ofL cs) w := by
  have hr := run_loadCells_list (P := P) w ⟨b, o, none⟩ cs (fun j v hv => by rw [add_none]; exact h j v hv)
  rw [hl] at hr
  unfold loadVar
  simp only [Sem.run_bind, isAgg_run hu, hd, Result.andThen, if_true, szOf_run' hu, hr]
  simp [ofL]
theorem vcLd_run {t : TypeId} {b o : Nat} {K : Value → Prop} (h : vcLd P t w b o K) : ∃ v, (loadVar t ⟨b, o, none⟩).run P w = .ok v w ∧ K v := by
  unfold vcLd at h
  split at h
  · rename_i hu; obtain ⟨cs, hl, hc, h⟩ := h; exact ⟨_, loadVar_agg hu rfl hl hc, h⟩
  · rename_i hu; obtain ⟨cs, hl, hc, h⟩ := h; exact ⟨_, loadVar_agg hu rfl hl hc, h⟩
  · rename_i hu; obtain ⟨x, hc, h⟩ := h; exact ⟨_, loadVar_plain hu rfl hc, h⟩
  · rename_i hu; obtain ⟨x, hc, h⟩ := h; exact ⟨_, loadVar_plain hu rfl hc, h⟩
  · rename_i hu; obtain ⟨x, hc, h⟩ := h; exact ⟨_, loadVar_plain hu rfl hc, h⟩
  · rename_i hu; obtain ⟨x, hc, h⟩ := h; exact ⟨_, loadVar_plain hu rfl hc, h⟩
  · rename_i hu; obtain ⟨x, y, z, hc, h⟩ := h; exact ⟨_, loadVar_plain hu rfl hc, h⟩
  · rename_i hu; obtain ⟨x, hc, h⟩ := h; exact ⟨_, loadVar_plain hu rfl hc, h⟩
  · rename_i hu; obtain ⟨x, hc, h⟩ := h; exact ⟨_, loadVar_plain hu rfl hc, h⟩
  · rename_i hu; obtain ⟨x, hc, h⟩ := h; exact ⟨_, loadVar_plain hu rfl hc, h⟩
  · exact h.elim
theorem vcIx_run {t : TypeId} {x i : Value} {K : Value → Prop} (h : vcIx P t x i K) : ∃ v, (Instr.index t x i).run P w = .ok v w ∧ K v := by
  unfold vcIx at h
  split at h
  · rename_i s k n hu
    simp only [gd_iff, decide_eq_true_eq] at h
    obtain ⟨h0, h1, hK⟩ := h
    refine ⟨_, ?_, hK⟩
    have hn : n.toNat < s.size := by omega
    have hg : s[n.toNat]? = some (s[n.toNat]'hn) := by simp [hn]
    unfold Instr.index
    simp only [asIntOf, Sem.run_bind, run_underlying hu, Result.andThen, Sem.run_pure, h0, if_true, hg, byteAt]
    have e : s.data[n.toNat]? = some (s[n.toNat]'hn) := Array.getElem?_eq_getElem hn
    simp [e]
  · rename_i len e cs k n hu
    simp only [gd_iff, decide_eq_true_eq] at h
    obtain ⟨h0, h1, hs, hK⟩ := h
    obtain ⟨v, hv, hK⟩ := vcPart_run (w := w) hK
    refine ⟨v, ?_, hK⟩
    unfold Instr.index
    simp only [asIntOf, Sem.run_bind, run_underlying hu, Result.andThen, Sem.run_pure, if_pos (And.intro h0 h1), sz_run hs]
    simpa using hv
  · exact h.elim

theorem bound_run {k : IntKind} {n : Int} {top : Nat} (code : BoundsCode) (h0 : 0 ≤ n) (h1 : n ≤ (top : Int)) : (Instr.sliceBound (.int k n) top code).run P w = .ok n.toNat w := by
  unfold Instr.sliceBound
  simp only [asIntOf, Sem.run_bind, Sem.run_pure, Result.andThen]
  rw [if_pos ⟨h0, h1⟩]
  simp
theorem bnds_run {len cap : Nat} {lo hi mx : Option Value} {K : Nat → Nat → Nat → Prop} (h : bnds len cap lo hi mx K) (isS : Bool) :
    ∃ l hh m, (Instr.sliceBounds isS len cap lo hi mx).run P w = .ok (l, hh, m) w ∧ K l hh m := by
  unfold bnds bnd at h
  have B : ∀ (k : IntKind) (n : Int) (top : Nat) (code : BoundsCode), 0 ≤ n → n ≤ (top : Int) → (Instr.sliceBound (.int k n) top code).run P w = .ok n.toNat w := fun k n top code h0 h1 => bound_run code h0 h1
  unfold Instr.sliceBounds
  split at h
  · simp only [gd_iff, Option.isNone_none, Bool.true_or, true_and] at h
    split at h
    · split at h
      · exact ⟨_, _, _, by simp [Sem.run_bind], h⟩
      · try simp only [gd_iff, decide_eq_true_eq] at h
        exact ⟨_, _, _, by simp [Sem.run_bind, B _ _ _ _ h.1 h.2.1, Result.andThen], h.2.2⟩
      · exact h.elim
    · try simp only [gd_iff, decide_eq_true_eq] at h
      obtain ⟨h0, h1, h⟩ := h
      split at h
      · exact ⟨_, _, _, by simp [Sem.run_bind, B _ _ _ _ h0 h1, Result.andThen], h⟩
      · try simp only [gd_iff, decide_eq_true_eq] at h
        exact ⟨_, _, _, by simp [Sem.run_bind, B _ _ _ _ h0 h1, B _ _ _ _ h.1 h.2.1, Result.andThen], h.2.2⟩
      · exact h.elim
    · exact h.elim
  · try simp only [gd_iff, decide_eq_true_eq, Option.isNone_some, Bool.false_or] at h
    obtain ⟨g0, g1, hi', h⟩ := h
    split at h
    · cases hi'
    · try simp only [gd_iff, decide_eq_true_eq] at h
      obtain ⟨h0, h1, h⟩ := h
      split at h
      · exact ⟨_, _, _, by simp [Sem.run_bind, B _ _ _ _ g0 g1, B _ _ _ _ h0 h1, Result.andThen], h⟩
      · try simp only [gd_iff, decide_eq_true_eq] at h
        exact ⟨_, _, _, by simp [Sem.run_bind, B _ _ _ _ g0 g1, B _ _ _ _ h0 h1, B _ _ _ _ h.1 h.2.1, Result.andThen], h.2.2⟩
      · exact h.elim
    · exact h.elim
  · exact h.elim
theorem vcSl_run {t : TypeId} {x : Value} {lo hi mx : Option Value} {K : Value → Prop} (h : vcSl P t x lo hi mx K) : ∃ v, (Instr.sliceAt t x lo hi mx).run P w = .ok v w ∧ K v := by
  unfold vcSl at h
  split at h
  · rename_i s hu
    simp only [gd_iff] at h
    obtain ⟨hm, h⟩ := h
    obtain ⟨l, hh, m, hr, hK⟩ := bnds_run (P := P) (w := w) h false
    refine ⟨_, ?_, hK⟩
    have hm' : mx.isSome = false := by cases mx <;> simp_all
    unfold Instr.sliceAt Instr.slice
    simp [Sem.run_bind, run_underlying hu, Result.andThen, hr, hm']
  · rename_i e A len cap hu
    simp only [gd_iff] at h
    obtain ⟨hs, h⟩ := h
    obtain ⟨l, hh, m, hr, hK⟩ := bnds_run (P := P) (w := w) h true
    refine ⟨_, ?_, hK⟩
    unfold Instr.sliceAt Instr.slice
    simp [Sem.run_bind, run_underlying hu, Result.andThen, hr, sz_run hs, slA]
  · rename_i n e a hu
    simp only [gd_iff] at h
    obtain ⟨hs, h⟩ := h
    obtain ⟨l, hh, m, hr, hK⟩ := bnds_run (P := P) (w := w) h false
    refine ⟨_, ?_, hK⟩
    unfold Instr.sliceAt
    simp [Sem.run_bind, run_underlying hu, Result.andThen, hr, sz_run hs, slA, Instr.sureAddr]
    split <;> rfl
  · exact h.elim
theorem vcLen_run {t ty : TypeId} {ts : Array TypeId} {x : Value} {xs : Array Value} (ht : ts[0]? = some t) (hx : xs[0]? = some x) {K : Value → Prop} (h : vcLen P t x K) : ∃ v, (Builtin.len_ ts ty xs).run P w = .ok v w ∧ K v := by
  unfold vcLen at h
  unfold Builtin.len_
  simp only [ht, hx]
  split at h
  · rename_i hu; exact ⟨_, by simp [Sem.run_bind, run_underlying hu, Result.andThen, goInt], h⟩
  · rename_i hu; exact ⟨_, by simp [Sem.run_bind, run_underlying hu, Result.andThen, goInt], h⟩
  · rename_i hu; exact ⟨_, by simp [Sem.run_bind, run_underlying hu, Result.andThen, goInt], h⟩
  · rename_i hu; exact ⟨_, by simp [Sem.run_bind, run_underlying hu, Result.andThen, goInt], h⟩
  · rename_i hu
    split at h
    · rename_i hu2; exact ⟨_, by simp [Sem.run_bind, run_underlying hu, run_underlying hu2, Result.andThen, goInt], h⟩
    · exact h.elim
  · exact h.elim
theorem vcCap_run {t ty : TypeId} {ts : Array TypeId} {x : Value} {xs : Array Value} (ht : ts[0]? = some t) (hx : xs[0]? = some x) {K : Value → Prop} (h : vcCap P t x K) : ∃ v, (Builtin.cap_ ts ty xs).run P w = .ok v w ∧ K v := by
  unfold vcCap at h
  unfold Builtin.cap_
  simp only [ht, hx]
  split at h
  · rename_i hu; exact ⟨_, by simp [Sem.run_bind, run_underlying hu, Result.andThen, goInt], h⟩
  · rename_i hu; exact ⟨_, by simp [Sem.run_bind, run_underlying hu, Result.andThen, goInt], h⟩
  · exact h.elim
theorem vcUn_run {op : UnOp} {x : Value} {K : Value → Prop} (h : vcUn op x K) : ∃ v, (Op.unary op x).run P w = .ok v w ∧ K v := by
  unfold vcUn at h
  split at h
  · exact ⟨_, by simp [Op.unary], h⟩
  · exact ⟨_, rfl, h⟩
  · exact ⟨_, rfl, h⟩
  · exact h.elim
theorem vcConv_run {s d : TypeId} {x : Value} {K : Value → Prop} (h : vcConv P s d x K) : ∃ v, (convert s d x).run P w = .ok v w ∧ K v := by
  unfold vcConv at h
  unfold convert
  split at h
  · rename_i h1 h2; exact ⟨_, by simp [Sem.run_bind, run_underlying h1, run_underlying h2, Result.andThen, Conv.intToInt], h⟩
  · rename_i h1 h2; exact ⟨_, by simp [Sem.run_bind, run_underlying h1, run_underlying h2, Result.andThen], h⟩
  · exact h.elim
theorem vcFA_run {s : TypeId} {x : Value} {f : Nat} {K : Value → Prop} (h : vcFA P s x f K) : ∃ v, (Instr.fieldAt s x f).run P w = .ok v w ∧ K v := by
  unfold vcFA at h
  split at h
  · rename_i fs a hu
    split at h
    · rename_i fd hf
      simp only [gd_iff] at h
      obtain ⟨hs, hK⟩ := h
      refine ⟨_, ?_, hK⟩
      have hs' : szOf P fd.type ≠ 0 := by simpa using hs
      unfold Instr.fieldAt
      simp [Sem.run_bind, run_underlying hu, Result.andThen, hf, Instr.sureAddr, fieldPlace, sz_run hs, hs']
    · exact h.elim
  · exact h.elim
theorem vcFd_run {s : TypeId} {x : Value} {f : Nat} {K : Value → Prop} (h : vcFd P s x f K) : ∃ v, (Instr.field s x f).run P w = .ok v w ∧ K v := by
  unfold vcFd at h
  split at h
  · rename_i fs cs hu
    split at h
    · rename_i fd hf
      simp only [gd_iff] at h
      obtain ⟨hs, h⟩ := h
      obtain ⟨v, hv, hK⟩ := vcPart_run (w := w) h
      refine ⟨v, ?_, hK⟩
      unfold Instr.field
      simp only [Sem.run_bind, run_underlying hu, Result.andThen, hf, asAgg, Sem.run_pure]
      simpa using hv
    · exact h.elim
  · exact h.elim
theorem vcMm_run {isMin : Bool} {ts : Array TypeId} {ty : TypeId} {args : Array Value} {K : Value → Prop} (h : vcMm isMin args.toList K) :
    ∃ v, ((if isMin then Builtin.min_ ts ty args else Builtin.max_ ts ty args)).run P w = .ok v w ∧ K v := by
  unfold vcMm at h
  split at h
  · rename_i k x k' y e
    simp only [gd_iff, beq_iff_eq] at h
    obtain ⟨rfl, hK⟩ := h
    refine ⟨_, ?_, hK⟩
    cases isMin <;> simp [Builtin.min_, Builtin.max_, e, Builtin.min2, Builtin.max2]
  · exact h.elim
end
end Go.GV
