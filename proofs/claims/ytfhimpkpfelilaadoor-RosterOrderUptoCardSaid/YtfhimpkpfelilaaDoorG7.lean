/- MY OWN ENGINE, part 7: code and functions. -/
import Derived.Test.YtfhimpkpfelilaaDoorG6y
namespace Go.GV
open Go
set_option linter.unusedSimpArgs false
set_option linter.unusedVariables false

/-- the number of a code's first region -/
def firstR : Code → Nat
  | .region id _ _ => id
  | .seq a _ => firstR a
  | .block _ b => firstR b
  | .loop b => firstR b + 1000
  | .scope b => firstR b
  | .cond _ a _ => firstR a
  | _ => 0
def mkT : Nat → Nat → List Nat → List Value → (Nat → Value) → List Value
  | 0, _, _, _, _ => []
  | n + 1, i, l :: ls, v :: vs, d => if Nat.beq i l then v :: mkT n (i + 1) ls vs d else d i :: mkT n (i + 1) (l :: ls) (v :: vs) d
  | n + 1, i, _, _, d => d i :: mkT n (i + 1) [] [] d
theorem mkT_eq (t : List Value) : ∀ (n i : Nat) (ls : List Nat), mkT n i ls (ls.map (nthV t)) (nthV t) = (List.range' i n).map (nthV t)
  | 0, i, ls => by simp [mkT]
  | n + 1, i, [] => by
    simp only [mkT, List.map_nil, List.range'_succ, List.map_cons]
    rw [show mkT n (i + 1) [] [] (nthV t) = mkT n (i + 1) [] (([] : List Nat).map (nthV t)) (nthV t) from rfl, mkT_eq t n (i + 1) []]
  | n + 1, i, l :: ls => by
    simp only [mkT, List.map_cons, List.range'_succ]
    split
    · rename_i h
      have : i = l := Nat.eq_of_beq_eq_true h
      subst this
      rw [mkT_eq t n (i + 1) ls]
    · rw [show nthV t l :: List.map (nthV t) ls = (l :: ls).map (nthV t) from rfl, mkT_eq t n (i + 1) (l :: ls)]
theorem nthV_range : ∀ (t : List Value), (List.range' 0 t.length).map (nthV t) = t := by
  intro t
  apply List.ext_getElem?
  intro i
  rw [List.getElem?_map]
  by_cases h : i < t.length
  · rw [List.getElem?_range' h]
    simp [nthV_eq, Array.getD_eq_getD_getElem?, h]
  · rw [List.getElem?_eq_none (by simp; omega), List.getElem?_eq_none (by omega)]
    rfl
theorem mkT_length (d : Nat → Value) : ∀ (n i : Nat) (ls : List Nat) (vs : List Value), (mkT n i ls vs d).length = n
  | 0, _, _, _ => rfl
  | n + 1, i, [], vs => by simp [mkT, mkT_length d n (i + 1) [] []]
  | n + 1, i, l :: ls, [] => by simp [mkT, mkT_length d n (i + 1) [] []]
  | n + 1, i, l :: ls, v :: vs => by
    simp only [mkT]
    split <;> simp [mkT_length d n (i + 1)]
/-! ### the state that is carried over a loop's head or a place where ways meet: typed -/
/-- captured pointers, several -/
def PT : Nat → Type
  | 0 => Unit
  | n + 1 => (Nat × Nat) × PT n
def ptL : (n : Nat) → PT n → List Value
  | 0, _ => []
  | n + 1, x => .pointer (some ⟨x.1.1, x.1.2, none⟩) :: ptL n x.2
def ptD : (n : Nat) → List Value → PT n
  | 0, _ => ()
  | n + 1, [] => ((0, 0), ptD n [])
  | n + 1, v :: r => ((match v with | .pointer (some q) => (q.block, q.off) | _ => ((0, 0) : Nat × Nat)), ptD n r)
def oneP (v : Value) : Bool := match v with | .pointer (some q) => (match q.spot with | none => true | some _ => false) | _ => false
def ptOk : Nat → List Value → Bool
  | 0, [] => true
  | n + 1, v :: r => oneP v && ptOk n r
  | _, _ => false
theorem pt_back : ∀ (n : Nat) (l : List Value), ptOk n l = true → ptL n (ptD n l) = l
  | 0, [], _ => rfl
  | 0, _ :: _, h => by cases h
  | n + 1, [], h => by cases h
  | n + 1, v :: r, h => by
    have h' : (oneP v && ptOk n r) = true := h
    rw [Bool.and_eq_true] at h'
    have ih := pt_back n r h'.2
    have h1 := h'.1
    unfold oneP at h1
    split at h1
    · rename_i q
      obtain ⟨b, o, sp⟩ := q
      cases sp with
      | none => show Value.pointer (some ⟨b, o, none⟩) :: ptL n (ptD n r) = _; rw [ih]
      | some _ => cases h1
    · cases h1
inductive SK where
  | kI (k : IntKind) | kB | kS | kP | kL | kSl | kA | kM | kV | kF (g : Nat) | kG (g : Nat) | kY | kH (g : Nat) (n : Nat) | kR (g : Nat)
def SK.T : SK → Type
  | .kI _ => Int | .kB => Bool | .kS => ByteArray | .kP => Option Addr | .kL => Nat × Nat | .kSl => Option Addr × Nat × Nat | .kA => List Value | .kM => Option Nat | .kV => Value | .kF _ => Unit | .kG _ => Nat × Nat | .kY => Nat | .kH _ n => PT n | .kR _ => Nat × Nat
def SK.enc : (k : SK) → k.T → Value
  | .kI k, x => .int k x
  | .kB, x => .bool x
  | .kS, x => .string x
  | .kP, x => .pointer x
  | .kL, x => .pointer (some ⟨x.1, x.2, none⟩)
  | .kSl, x => .slice x.1 x.2.1 x.2.2
  | .kA, x => ofL x
  | .kM, x => .map x
  | .kV, x => x
  | .kF g, _ => .func (.func g) #[] #[]
  | .kG g, x => .func (.func g) #[] #[.pointer (some ⟨x.1, x.2, none⟩)]
  | .kY, x => .func (.yield x) #[] #[]
  | .kH g n, x => .func (.func g) #[] (ptL n x).toArray
  | .kR g, x => .func (.func g) #[.pointer (some ⟨x.1, x.2, none⟩)] #[]
def SK.dec : (k : SK) → Value → k.T
  | .kI _, x => (match x with | .int _ n => n | _ => (0 : Int))
  | .kB, x => (match x with | .bool n => n | _ => false)
  | .kS, x => (match x with | .string n => n | _ => ByteArray.empty)
  | .kP, x => (match x with | .pointer n => n | _ => (none : Option Addr))
  | .kL, x => (match x with | .pointer (some q) => (q.block, q.off) | _ => ((0, 0) : Nat × Nat))
  | .kSl, x => (match x with | .slice q n c => (q, n, c) | _ => ((none, 0, 0) : Option Addr × Nat × Nat))
  | .kA, x => (match x with | .agg cs => cs.toList | _ => ([] : List Value))
  | .kM, x => (match x with | .map n => n | _ => (none : Option Nat))
  | .kV, x => x
  | .kF _, _ => ()
  | .kG _, x => (match x with | .func _ _ v => (match v.toList with | [.pointer (some q)] => (q.block, q.off) | _ => ((0, 0) : Nat × Nat)) | _ => ((0, 0) : Nat × Nat))
  | .kY, x => (match x with | .func (.yield l) _ _ => l | _ => (0 : Nat))
  | .kH _ n, x => (match x with | .func _ _ v => ptD n v.toList | _ => ptD n [])
  | .kR _, x => (match x with | .func _ v _ => (match v.toList with | [.pointer (some q)] => (q.block, q.off) | _ => ((0, 0) : Nat × Nat)) | _ => ((0, 0) : Nat × Nat))
def kEq : IntKind → IntKind → Bool
  | .i8, .i8 | .i16, .i16 | .i32, .i32 | .i64, .i64 | .u8, .u8 | .u16, .u16 | .u32, .u32 | .u64, .u64 => true
  | _, _ => false
theorem kEq_eq {j k : IntKind} (h : kEq j k = true) : j = k := by cases j <;> cases k <;> first | rfl | cases h
def oneL (l : List Value) : Bool := match l with | [.pointer (some q)] => (match q.spot with | none => true | some _ => false) | _ => false
theorem oneL_eq {l : List Value} (h : oneL l = true) : ∃ b o, l = [.pointer (some ⟨b, o, none⟩)] := by
  unfold oneL at h
  split at h
  · rename_i q
    obtain ⟨b, o, sp⟩ := q
    cases sp with
    | none => exact ⟨b, o, rfl⟩
    | some _ => cases h
  · cases h
def SK.ok : (k : SK) → Value → Bool
  | .kI k, x => (match x with | .int k' _ => kEq k' k | _ => false)
  | .kB, x => (match x with | .bool _ => true | _ => false)
  | .kS, x => (match x with | .string _ => true | _ => false)
  | .kP, x => (match x with | .pointer _ => true | _ => false)
  | .kL, x => (match x with | .pointer (some q) => (match q.spot with | none => true | some _ => false) | _ => false)
  | .kSl, x => (match x with | .slice _ _ _ => true | _ => false)
  | .kA, x => (match x with | .agg _ => true | _ => false)
  | .kM, x => (match x with | .map _ => true | _ => false)
  | .kV, _ => true
  | .kF g, x => (match x with | .func (.func g') u v => Nat.beq g' g && (u.toList.isEmpty && v.toList.isEmpty) | _ => false)
  | .kG g, x => (match x with | .func (.func g') u v => Nat.beq g' g && (u.toList.isEmpty && oneL v.toList) | _ => false)
  | .kY, x => (match x with | .func (.yield _) u v => u.toList.isEmpty && v.toList.isEmpty | _ => false)
  | .kH g n, x => (match x with | .func (.func g') u v => Nat.beq g' g && (u.toList.isEmpty && ptOk n v.toList) | _ => false)
  | .kR g, x => (match x with | .func (.func g') u v => Nat.beq g' g && (v.toList.isEmpty && oneL u.toList) | _ => false)
theorem encdec_L (x : Value) (h : SK.kL.ok x = true) : SK.kL.enc (SK.kL.dec x) = x := by
  cases x
  case pointer q =>
    cases q with
    | none => cases h
    | some a =>
      obtain ⟨b, o, sp⟩ := a
      cases sp with
      | none => rfl
      | some _ => cases h
  all_goals cases h
theorem encdec_A (x : Value) (h : SK.kA.ok x = true) : SK.kA.enc (SK.kA.dec x) = x := by
  cases x
  case agg cs =>
    have e : cs.toList.toArray = cs := by simp
    exact congrArg Value.agg e
  all_goals cases h
theorem encdec_F (g : Nat) (x : Value) (h : (SK.kF g).ok x = true) : (SK.kF g).enc ((SK.kF g).dec x) = x := by
  cases x
  case func f u v =>
    cases f
    case func g' =>
      have h' : (Nat.beq g' g && (u.toList.isEmpty && v.toList.isEmpty)) = true := h
      simp only [Bool.and_eq_true] at h'
      obtain ⟨h1, h2, h3⟩ := h'
      have e1 := Nat.eq_of_beq_eq_true h1
      have e2 : u = #[] := by simpa using h2
      have e3 : v = #[] := by simpa using h3
      subst e1; subst e2; subst e3
      rfl
    all_goals cases h
  all_goals cases h
theorem encdec_G (g : Nat) (x : Value) (h : (SK.kG g).ok x = true) : (SK.kG g).enc ((SK.kG g).dec x) = x := by
  cases x
  case func f u v =>
    cases f
    case func g' =>
      have h' : (Nat.beq g' g && (u.toList.isEmpty && oneL v.toList)) = true := h
      simp only [Bool.and_eq_true] at h'
      obtain ⟨h1, h2, h3⟩ := h'
      have e1 := Nat.eq_of_beq_eq_true h1
      have e2 : u = #[] := by simpa using h2
      obtain ⟨b, o, e3⟩ := oneL_eq h3
      have e4 : v = #[.pointer (some ⟨b, o, none⟩)] := by
        apply Array.toList_inj.1
        rw [e3]
      subst e1; subst e2; subst e4
      rfl
    all_goals cases h
  all_goals cases h
theorem encdec_Y (x : Value) (h : SK.kY.ok x = true) : SK.kY.enc (SK.kY.dec x) = x := by
  cases x
  case func f u v =>
    cases f
    case yield l =>
      have h' : (u.toList.isEmpty && v.toList.isEmpty) = true := h
      simp only [Bool.and_eq_true] at h'
      obtain ⟨h2, h3⟩ := h'
      have e2 : u = #[] := by simpa using h2
      have e3 : v = #[] := by simpa using h3
      subst e2; subst e3
      rfl
    all_goals cases h
  all_goals cases h
theorem encdec_R (g : Nat) (x : Value) (h : (SK.kR g).ok x = true) : (SK.kR g).enc ((SK.kR g).dec x) = x := by
  cases x
  case func f u v =>
    cases f
    case func g' =>
      have h' : (Nat.beq g' g && (v.toList.isEmpty && oneL u.toList)) = true := h
      simp only [Bool.and_eq_true] at h'
      obtain ⟨h1, h2, h3⟩ := h'
      have e1 := Nat.eq_of_beq_eq_true h1
      have e2 : v = #[] := by simpa using h2
      obtain ⟨b, o, e3⟩ := oneL_eq h3
      have e4 : u = #[.pointer (some ⟨b, o, none⟩)] := by
        apply Array.toList_inj.1
        rw [e3]
      subst e1; subst e2; subst e4
      rfl
    all_goals cases h
  all_goals cases h
theorem encdec_H (g n : Nat) (x : Value) (h : (SK.kH g n).ok x = true) : (SK.kH g n).enc ((SK.kH g n).dec x) = x := by
  cases x
  case func f u v =>
    cases f
    case func g' =>
      have h' : (Nat.beq g' g && (u.toList.isEmpty && ptOk n v.toList)) = true := h
      simp only [Bool.and_eq_true] at h'
      obtain ⟨h1, h2, h3⟩ := h'
      have e1 := Nat.eq_of_beq_eq_true h1
      have e2 : u = #[] := by simpa using h2
      subst e1; subst e2
      show Value.func (.func g') #[] (ptL n (ptD n v.toList)).toArray = _
      rw [pt_back n _ h3, Array.toArray_toList]
    all_goals cases h
  all_goals cases h
theorem encdec_I (k : IntKind) (x : Value) (h : (SK.kI k).ok x = true) : (SK.kI k).enc ((SK.kI k).dec x) = x := by
  cases x
  case int k' n =>
    have h' : kEq k' k = true := h
    have e := kEq_eq h'
    subst e
    rfl
  all_goals cases h
theorem SK.enc_dec (k : SK) (x : Value) (h : k.ok x = true) : k.enc (k.dec x) = x := by
  cases k
  case kI k => exact encdec_I k x h
  case kL => exact encdec_L x h
  case kA => exact encdec_A x h
  case kF g => exact encdec_F g x h
  case kG g => exact encdec_G g x h
  case kY => exact encdec_Y x h
  case kH g n => exact encdec_H g n x h
  case kR g => exact encdec_R g x h
  case kV => rfl
  all_goals (cases x <;> first | rfl | cases h)
def Tup : List SK → Type
  | [] => Unit
  | k :: r => k.T × Tup r
def encs : (ks : List SK) → Tup ks → List Value
  | [], _ => []
  | k :: r, x => k.enc x.1 :: encs r x.2
def decs : (ks : List SK) → List Value → Tup ks
  | [], _ => ()
  | k :: r, [] => (k.dec undef, decs r [])
  | k :: r, v :: vs => (k.dec v, decs r vs)
def oks : List SK → List Value → Bool
  | [], [] => true
  | k :: r, v :: vs => k.ok v && oks r vs
  | _, _ => false
theorem encs_decs : ∀ (ks : List SK) (vs : List Value), oks ks vs = true → encs ks (decs ks vs) = vs
  | [], [], _ => rfl
  | k :: r, v :: vs, h => by
    simp only [oks, Bool.and_eq_true] at h
    simp only [decs, encs, SK.enc_dec _ _ h.1, encs_decs r vs h.2]
  | [], _ :: _, h => by simp [oks] at h
  | _ :: _, [], h => by simp [oks] at h
/-- a place where ways meet -/
def jnC {σ : Type} (J : σ → World → Prop) (s : σ) (w : World) : Prop := J s w
def loopC {σ : Type} (B : σ → World → (σ → World → Prop) → Prop) : Nat → σ → World → Prop
  | 0, _, _ => False
  | n + 1, s, w => B s w (loopC B n)
def slotsOf : List (Nat × SK) → List Nat
  | [] => []
  | x :: r => x.1 :: slotsOf r
def kindsOf : List (Nat × SK) → List SK
  | [] => []
  | x :: r => x.2 :: kindsOf r
def proj (t : List Value) : List Nat → List Value
  | [] => []
  | i :: r => nthV t i :: proj t r
theorem proj_eq (t : List Value) : ∀ l, proj t l = l.map (nthV t)
  | [] => rfl
  | i :: r => by simp [proj, proj_eq t r]
def vcJ (sl : List (Nat × SK)) (J : Tup (kindsOf sl) → World → Prop) (t : List Value) (w : World) : Prop :=
  gd (oks (kindsOf sl) (proj t (slotsOf sl))) (jnC J (decs (kindsOf sl) (proj t (slotsOf sl))) w)
/-- what a program's print tells the engine: the slots that are carried over each loop's head, and over places where ways meet -/
structure Ann where
  lp : List (Nat × List (Nat × SK))
  jn : List (Nat × List (Nat × SK))
def find? : List (Nat × List (Nat × SK)) → Nat → Option (List (Nat × SK))
  | [], _ => none
  | x :: r, n => if Nat.beq x.1 n then some x.2 else find? r n
def lpOf (A : Ann) (n : Nat) : List (Nat × SK) :=
  match find? A.lp n with
  | some l => l
  | none => []
def vc (P : Program) (N : Nat) (A : Ann) : Code → (Exit → List Value → World → Prop) → List Value → World → Prop
  | .skip, Q, t, w => Q .normal t w
  | .region _ ops draw, Q, t, w =>
    match draw with
    | false => vcListY P ops.toList (Q .normal) ops.toList t w
    | true => vcDraw P ops.toList (Q .normal) t w
  | .seq a b, Q, t, w =>
    match find? A.jn (firstR b) with
    | none => vc P N A a (fun e t w => match e with | .normal => vc P N A b Q t w | e => Q e t w) t w
    | some sl => vc P N A a (fun e t w => match e with | .normal => vcJ sl (fun s w => ∀ d : Nat → Value, vc P N A b Q (mkT N 0 (slotsOf sl) (encs (kindsOf sl) s) d) w) t w | e => Q e t w) t w
  | .cond c x y, Q, t, w => (match ev t c with | .bool b => vIf b (vc P N A x Q t w) (vc P N A y Q t w) | _ => False)
  | .block id c, Q, t, w => vc P N A c (fun e t w => match e with | .exit j => (if Nat.beq j id then Q .normal t w else Q (.exit j) t w) | e => Q e t w) t w
  | .loop c, Q, t, w =>
    vcJ (lpOf A (firstR c)) (fun s w => ∃ n, loopC (fun s w C => ∀ d : Nat → Value, vc P N A c (fun e t w' => match e with | .normal => vcJ (lpOf A (firstR c)) C t w' | e => Q e t w') (mkT N 0 (slotsOf (lpOf A (firstR c))) (encs (kindsOf (lpOf A (firstR c))) s) d) w) n s w) t w
  | .exit id, Q, t, w => Q (.exit id) t w
  | .ret, Q, t, w => Q .ret t w
  | .scope c, Q, t, w => vc P N A c (fun e t w => match e with | .goto _ => False | e => Q e t w) t w
  | .label _, Q, t, w => Q .normal t w
  | _, _, _, _ => False
def vcRes (P : Program) (t : List Value) (w : World) : List ResultVar → (List Value → Prop) → Prop
  | [], K => K []
  | .tmp i :: r, K => vcRes P t w r (fun vs => K (nthV t i :: vs))
  | .cell a ty :: r, K => (match nthV t a with | .pointer q => dr q (fun b o => vcLd P ty w b o (fun v => vcRes P t w r (fun vs => K (v :: vs)))) | _ => False)
def vcFn (P : Program) (A : Ann) (f : FuncId) (args : List Value) (w : World) (Q : Value → World → Prop) : Prop :=
  match P.funcs[f]? with
  | some fn =>
    match fn.body with
    | some c => gd (decide (args.length ≤ fn.ntmps)) (vc P fn.ntmps A c (fun e t w => match e with | .normal => vcRes P t w fn.results.toList (fun vs => Q (retOf vs) w) | .ret => vcRes P t w fn.results.toList (fun vs => Q (retOf vs) w) | _ => False)
        (args ++ List.replicate (fn.ntmps - args.length) undef) w)
    | none => False
  | none => False

section
variable {P : Program}
/-- what the kit's rule leaves, in this engine's words -/
def Post (N : Nat) (Q : Exit → List Value → World → Prop) : Exit → Act → World → Prop := fun e a w => ∃ t, a = actOf t ∧ t.length = N ∧ Q e t w
theorem wpStill_mono {ops : Array Oper} {w : World} {Q Q' : Act → Prop} (h : ∀ a, Q a → Q' a) : ∀ (l : List Oper) (a : Act), wpStill P ops w Q l a → wpStill P ops w Q' l a
  | [], a, hh => h a hh
  | o :: r, a, hh => by
    unfold wpStill at hh ⊢
    split at hh
    · rename_i hw
      rw [if_pos hw]
      exact Oper.still_mono (fun a => wpStill_mono h r a) hh
    · rename_i hw
      rw [if_neg hw]
      exact wpStill_mono h r _ hh
theorem vcJ_out {sl : List (Nat × SK)} {J : Tup (kindsOf sl) → World → Prop} {t : List Value} {w : World} (h : vcJ sl J t w) : oks (kindsOf sl) (proj t (slotsOf sl)) = true ∧ J (decs (kindsOf sl) (proj t (slotsOf sl))) w := gd_iff.1 h
theorem mkT_back {sl : List (Nat × SK)} {t : List Value} {N : Nat} (hl : t.length = N) (hok : oks (kindsOf sl) (proj t (slotsOf sl)) = true) :
    mkT N 0 (slotsOf sl) (encs (kindsOf sl) (decs (kindsOf sl) (proj t (slotsOf sl)))) (nthV t) = t := by
  rw [encs_decs _ _ hok, proj_eq, mkT_eq, ← hl, nthV_range]
theorem vcJ_back {sl : List (Nat × SK)} {t : List Value} {w : World} {N : Nat} {K : List Value → World → Prop} (hl : t.length = N) (h : vcJ sl (fun s w => ∀ d : Nat → Value, K (mkT N 0 (slotsOf sl) (encs (kindsOf sl) s) d) w) t w) : K t w := by
  obtain ⟨hok, h⟩ := vcJ_out h
  have h := h (nthV t)
  rwa [mkT_back hl hok] at h
theorem vc_sound (hN : NoCount P) (hm : P.follows .mixedOrders = true) {N : Nat} {A : Ann} : ∀ (c : Code) (Q : Exit → List Value → World → Prop) (t : List Value) (w : World), t.length = N → vc P N A c Q t w → c.wp P (Post N Q) (actOf t) w
  | .skip, Q, t, w, hl, h => wp_skip ⟨t, rfl, hl, h⟩
  | .region id ops false, Q, t, w, hl, h => by
    exact wpIn_wide.1 (regionY_sound (ro := none) (n := 0) hN (N := N) (Q := Post N Q) (fun t w hl h => ⟨t, rfl, hl, h⟩) hl h)
  | .region id ops true, Q, t, w, hl, h => by
    have e : ops = ops.toList.toArray := by simp
    rw [e]
    exact vcDraw_sound hN hm (fun t w hl h => ⟨t, rfl, hl, h⟩) hl h
  | .seq a b, Q, t, w, hl, h => by
    unfold vc at h
    split at h
    · refine wp_seq (Go.wp_mono (vc_sound hN hm a _ t w hl h) ?_)
      rintro e a w ⟨t', rfl, hl', hq⟩
      cases e with
      | normal => exact vc_sound hN hm b Q t' w hl' hq
      | _ => exact ⟨t', rfl, hl', hq⟩
    · refine wp_seq (Go.wp_mono (vc_sound hN hm a _ t w hl h) ?_)
      rintro e a w ⟨t', rfl, hl', hq⟩
      cases e with
      | normal => exact vc_sound hN hm b Q t' w hl' (vcJ_back hl' hq)
      | _ => exact ⟨t', rfl, hl', hq⟩
  | .cond c x y, Q, t, w, hl, h => by
    simp only [vc] at h
    split at h
    · rename_i b hb
      refine wp_cond (t := b) (by rw [ev_eq]; exact hb) ?_
      cases b
      · exact vc_sound hN hm y Q t w hl h
      · exact vc_sound hN hm x Q t w hl h
    · exact h.elim
  | .block id c, Q, t, w, hl, h => by
    refine wp_block (Go.wp_mono (vc_sound hN hm c _ t w hl h) ?_)
    rintro e a w ⟨t', rfl, hl', hq⟩
    cases e with
    | exit j =>
      simp only [Exit.inBlock]
      by_cases hj : j = id
      · subst hj
        rw [if_pos rfl]
        simp only [Nat.beq_refl, if_true] at hq
        exact ⟨t', rfl, hl', hq⟩
      · rw [if_neg hj]
        have : Nat.beq j id = false := by rw [← Bool.not_eq_true]; exact fun hh => hj (Nat.eq_of_beq_eq_true hh)
        simp only [this, Bool.false_eq_true, if_false] at hq
        exact ⟨t', rfl, hl', hq⟩
    | _ => exact ⟨t', rfl, hl', hq⟩
  | .loop c, Q, t, w, hl, h => by
    have ihc := vc_sound hN hm (N := N) (A := A) c
    unfold vc at h
    obtain ⟨hok, n, h⟩ := vcJ_out h
    refine wp_loop_rounds n ?_
    have key : ∀ (n : Nat) (t : List Value) (w : World), t.length = N → oks (kindsOf (lpOf A (firstR c))) (proj t (slotsOf (lpOf A (firstR c)))) = true →
        loopC (fun s w C => ∀ d : Nat → Value, vc P N A c (fun e t w' => match e with | .normal => vcJ (lpOf A (firstR c)) C t w' | e => Q e t w') (mkT N 0 (slotsOf (lpOf A (firstR c))) (encs (kindsOf (lpOf A (firstR c))) s) d) w) n (decs (kindsOf (lpOf A (firstR c))) (proj t (slotsOf (lpOf A (firstR c))))) w →
        Code.rounds P c (Post N Q) n (actOf t) w := by
      intro n
      induction n with
      | zero => intro t w _ _ h; exact h
      | succ n ih =>
        intro t w hl hok h
        have h := h (nthV t)
        rw [mkT_back hl hok] at h
        rw [rounds_succ]
        refine Go.wp_mono (ihc _ t w hl h) ?_
        rintro e a w ⟨t', rfl, hl', hq⟩
        cases e with
        | normal =>
          obtain ⟨hok', hq⟩ := vcJ_out hq
          exact ih t' w hl' hok' hq
        | _ => exact ⟨t', rfl, hl', hq⟩
    exact key n t w hl hok h
  | .exit id, Q, t, w, hl, h => wp_exit ⟨t, rfl, hl, h⟩
  | .ret, Q, t, w, hl, h => wp_ret ⟨t, rfl, hl, h⟩
  | .rangeFunc .., _, _, _, _, h => h.elim
  | .scope c, Q, t, w, hl, h => by
    refine wp_scope_straight (Go.wp_mono (vc_sound hN hm c _ t w hl h) ?_)
    rintro e a w ⟨t', rfl, hl', hq⟩
    cases e with
    | goto l => exact hq.elim
    | _ => exact ⟨t', rfl, hl', hq⟩
  | .label _, Q, t, w, hl, h => wp_label ⟨t, rfl, hl, h⟩
  | .goto _, _, _, _, _, h => h.elim
  | .refuse _, _, _, _, _, h => h.elim
def resV (tmps : Array Value) : ResultVar → Sem Value
  | .tmp t => pure (tmps.getD t undef)
  | .cell a t => do loadVar t (← asAddr (tmps.getD a undef))
theorem vcRes_run {t : List Value} {w : World} : ∀ (rs : List ResultVar) (K : List Value → Prop), vcRes P t w rs K →
    ∃ vs, (rs.mapM (resV t.toArray)).run P w = .ok vs w ∧ vs.length = rs.length ∧ K vs
  | [], K, h => ⟨[], by simp, rfl, h⟩
  | .tmp i :: r, K, h => by
    obtain ⟨vs, hv, hl, hK⟩ := vcRes_run r _ h
    refine ⟨nthV t i :: vs, ?_, by simp [hl], hK⟩
    rw [List.mapM_cons]
    simp only [resV, Sem.run_bind, Sem.run_pure, Result.andThen, hv, ← nthV_eq]
  | .cell a ty :: r, K, h => by
    simp only [vcRes] at h
    split at h
    · rename_i q hq
      rw [dr_iff] at h
      obtain ⟨b, o, rfl, h⟩ := h
      obtain ⟨v, hv, h⟩ := vcLd_run h
      obtain ⟨vs, hvs, hl, hK⟩ := vcRes_run r _ h
      refine ⟨v :: vs, ?_, by simp [hl], hK⟩
      rw [List.mapM_cons]
      rw [nthV_eq] at hq
      simp only [resV, Sem.run_bind, hq, asAddr, Sem.run_pure, Result.andThen, hv, hvs]
    · exact h.elim
theorem results_run {fn : Func} {t : List Value} {w : World} {Q : Value → Prop} (h : vcRes P t w fn.results.toList (fun vs => Q (retOf vs))) : ∃ v, (results fn t.toArray).run P w = .ok v w ∧ Q v := by
  obtain ⟨vs, hv, hl, hQ⟩ := vcRes_run _ _ h
  refine ⟨_, ?_, hQ⟩
  have e : results fn t.toArray = (do let vs ← fn.results.mapM (resV t.toArray); pure (if h : vs.size = 1 then vs[0] else .tuple vs)) := by
    unfold results
    congr 1
  rw [e, Array.mapM_eq_mapM_toList]
  simp only [map_eq_pure_bind, Sem.run_bind, hv, Sem.run_pure, Result.andThen]
  congr 1
  unfold retOf
  split
  · rename_i h1
    match vs, h1 with
    | [v], _ => rfl
  · rename_i h1
    split
    · exact absurd rfl h1
    · rfl
theorem vcFn_sound (hN : NoCount P) (hm : P.follows .mixedOrders = true) {A : Ann} {f : FuncId} {args : List Value} {w : World} {Q : Value → World → Prop} (h : vcFn P A f args w Q) :
    Calls P f args.toArray w (fun e w' => ∃ v, e = .returned v ∧ Q v w') := by
  unfold vcFn at h
  split at h
  · rename_i fn hf
    split at h
    · rename_i c hc
      simp only [gd_iff, decide_eq_true_eq] at h
      obtain ⟨hl, h⟩ := h
      refine calls_of_wp hf hc ?_
      have e : ({ tmps := args.toArray ++ Array.replicate (fn.ntmps - args.toArray.size) undef, defers := [] } : Act) = actOf (args ++ List.replicate (fn.ntmps - args.length) undef) := by
        simp [actOf]
      rw [e]
      refine Go.wp_mono (vc_sound hN hm c _ _ w (by simp; omega) h) ?_
      rintro e a w ⟨t, rfl, ht, hq⟩
      cases e with
      | normal =>
        obtain ⟨v, hv, hQ⟩ := results_run (Q := fun v => Q v w) hq
        exact ⟨rfl, v, hv, v, rfl, hQ⟩
      | ret =>
        obtain ⟨v, hv, hQ⟩ := results_run (Q := fun v => Q v w) hq
        exact ⟨rfl, v, hv, v, rfl, hQ⟩
      | _ => exact hq.elim
    · exact h.elim
  · exact h.elim
theorem vcFn_of (hN : NoCount P) (hm : P.follows .mixedOrders = true) {A : Ann} {f : FuncId} {args : List Value} {w : World} {Q : Value → World → Prop} {X : Prop} (h : X) (e : vcFn P A f args w Q = X) :
    Calls P f args.toArray w (fun e w' => ∃ v, e = .returned v ∧ Q v w') := vcFn_sound hN hm (e.symm ▸ h)
end
end Go.GV
