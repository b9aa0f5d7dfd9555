/- chapter 51, plainly: the parts of a name; the order of parts, and of names -/
import Derived.Test.YtegihbpdemjeaaaDoorLTxt
namespace Go.Proofs.YtegihbpdemjeaaaDoor
open Go.GV Go.RowKit Go.Lib
set_option linter.unusedVariables false
set_option linter.unusedSimpArgs false
abbrev Bs := List UInt8
def fig (c : UInt8) : Bool := decide (48 ≤ c.toNat) && decide (c.toNat ≤ 57)
/-- how many bytes of the same kind lead -/
def run (k : Bool) : Bs → Nat
  | [] => 0
  | x :: r => if fig x = k then run k r + 1 else 0
theorem run_le (k : Bool) : ∀ l, run k l ≤ l.length
  | [] => Nat.le_refl _
  | x :: r => by
    rw [run]
    split
    · have := run_le k r; simp; omega
    · simp
def prt : Bs → List Bs
  | [] => []
  | c :: r => (c :: r.take (run (fig c) r)) :: prt (r.drop (run (fig c) r))
termination_by l => l.length
decreasing_by simp [List.length_drop]; omega
theorem prt_nil : prt [] = [] := by rw [prt]
theorem prt_cons (c : UInt8) (r : Bs) : prt (c :: r) = (c :: r.take (run (fig c) r)) :: prt (r.drop (run (fig c) r)) := by rw [prt]
theorem prt_ind {P : Bs → Prop} (h0 : P []) (h1 : ∀ c r, P (r.drop (run (fig c) r)) → P (c :: r)) : ∀ l, P l := by
  intro l
  generalize hn : l.length = n
  induction n using Nat.strongRecOn generalizing l with
  | ind n ih =>
    match l, hn with
    | [], _ => exact h0
    | c :: r, hn => exact h1 c r (ih _ (by rw [← hn]; simp [List.length_drop]; omega) _ rfl)
theorem prt_join (l : Bs) : (prt l).flatten = l := by
  refine prt_ind (P := fun l => (prt l).flatten = l) (by rw [prt_nil]; rfl) (fun c r ih => ?_) l
  rw [prt_cons, List.flatten_cons, ih, List.cons_append, List.take_append_drop]
theorem prt_inj {a b : Bs} (h : prt a = prt b) : a = b := by rw [← prt_join a, ← prt_join b, h]
theorem prt_ne (l : Bs) : ∀ p ∈ prt l, p ≠ [] := by
  refine prt_ind (P := fun l => ∀ p ∈ prt l, p ≠ []) (by rw [prt_nil]; intro p hp; cases hp) (fun c r ih => ?_) l
  rw [prt_cons]
  intro p hp
  rcases List.mem_cons.1 hp with rfl | hp
  · simp
  · exact ih p hp
theorem prt_len (l : Bs) : (prt l).length ≤ l.length := by
  refine prt_ind (P := fun l => (prt l).length ≤ l.length) (by rw [prt_nil]; exact Nat.le_refl _) (fun c r ih => ?_) l
  rw [prt_cons, List.length_cons, List.length_cons]
  rw [List.length_drop] at ih
  omega
/-- a first part, told by its bytes -/
theorem run_app {k : Bool} : ∀ (a b : Bs), (∀ x ∈ a, fig x = k) → (∀ x, b.head? = some x → fig x ≠ k) → run k (a ++ b) = a.length
  | [], [], _, _ => rfl
  | [], y :: b, _, h => by
    show run k (y :: b) = 0
    rw [run, if_neg (h y rfl)]
  | x :: a, b, ha, hb => by
    rw [List.cons_append, run, if_pos (ha x (List.mem_cons_self ..)), run_app a b (fun y hy => ha y (List.mem_cons_of_mem _ hy)) hb]
    rfl
theorem prt_app {c : UInt8} {a b : Bs} (ha : ∀ x ∈ a, fig x = fig c) (hb : ∀ x, b.head? = some x → fig x ≠ fig c) : prt (c :: (a ++ b)) = (c :: a) :: prt b := by
  rw [prt_cons, run_app a b ha hb, List.take_left, List.drop_left]
/-! ### orders -/
structure OrdR {α : Type} (c : α → α → Int) : Prop where
  rg : ∀ a b, c a b = -1 ∨ c a b = 0 ∨ c a b = 1
  an : ∀ a b, c a b = - c b a
  ze : ∀ a b, c a b = 0 ↔ a = b
  tr : ∀ a b d, c a b ≤ 0 → c b d ≤ 0 → c a d ≤ 0
def cmpI (a b : Int) : Int := if a < b then -1 else if a > b then 1 else 0
theorem cmpI_ord : OrdR cmpI := by
  refine ⟨fun a b => ?_, fun a b => ?_, fun a b => ?_, fun a b d => ?_⟩ <;> unfold cmpI <;> (repeat' split) <;> omega
theorem cb_ord : OrdR compareBytes := ⟨cmp_range, cmp_anti, cmp_zero, cmp_trans⟩
/-- noughts ahead are left out -/
def strip : Bs → Bs
  | [] => []
  | x :: r => if x = 48 then strip r else x :: r
theorem strip_eq : ∀ l : Bs, l = List.replicate (l.length - (strip l).length) 48 ++ strip l ∧ (strip l).length ≤ l.length
  | [] => ⟨rfl, Nat.le_refl _⟩
  | x :: r => by
    obtain ⟨h1, h2⟩ := strip_eq r
    rw [strip]
    by_cases h : x = 48
    · rw [if_pos h, List.length_cons, show r.length + 1 - (strip r).length = (r.length - (strip r).length) + 1 by omega, List.replicate_succ, List.cons_append, ← h1, h]
      exact ⟨rfl, by omega⟩
    · rw [if_neg h, Nat.sub_self]
      exact ⟨rfl, Nat.le_refl _⟩
theorem strip_inj {a b : Bs} (h1 : strip a = strip b) (h2 : a.length = b.length) : a = b := by
  rw [(strip_eq a).1, (strip_eq b).1, h1, h2]
def numC (a b : Bs) : Int :=
  if cmpI (strip a).length (strip b).length ≠ 0 then cmpI (strip a).length (strip b).length
  else if compareBytes (strip a) (strip b) ≠ 0 then compareBytes (strip a) (strip b) else cmpI a.length b.length
theorem numC_ord : OrdR numC := by
  have i := cmpI_ord
  have j := cb_ord
  refine ⟨fun a b => ?_, fun a b => ?_, fun a b => ?_, fun a b d h1 h2 => ?_⟩
  · unfold numC
    split
    · exact i.rg _ _
    · split
      · exact j.rg _ _
      · exact i.rg _ _
  · unfold numC
    have e1 := i.an (strip a).length (strip b).length
    have e2 := j.an (strip a) (strip b)
    have e3 := i.an a.length b.length
    (repeat' split) <;> omega
  · unfold numC
    have e1 := i.ze (strip a).length (strip b).length
    have e2 := j.ze (strip a) (strip b)
    have e3 := i.ze a.length b.length
    constructor
    · intro h
      split at h
      · omega
      · split at h
        · omega
        · exact strip_inj (e2.1 (by omega)) (by have := e3.1 h; omega)
    · rintro rfl
      rw [if_neg (by rw [(i.ze _ _).2 rfl]; decide), if_neg (by rw [(j.ze _ _).2 rfl]; decide)]
      exact (i.ze _ _).2 rfl
  · unfold numC at h1 h2 ⊢
    have z1 := i.ze (strip a).length (strip b).length
    have z2 := i.ze (strip b).length (strip d).length
    have z3 := i.ze (strip a).length (strip d).length
    have t1 := i.tr (strip a).length (strip b).length (strip d).length
    have y1 := j.ze (strip a) (strip b)
    have y2 := j.ze (strip b) (strip d)
    have y3 := j.ze (strip a) (strip d)
    have t2 := j.tr (strip a) (strip b) (strip d)
    have t3 := i.tr a.length b.length d.length
    by_cases a1 : cmpI (strip a).length (strip b).length = 0
    · rw [if_neg (by omega)] at h1
      have l1 := z1.1 a1
      by_cases a2 : cmpI (strip b).length (strip d).length = 0
      · rw [if_neg (by omega)] at h2
        have l2 := z2.1 a2
        rw [if_neg (by rw [z3.2 (by omega)]; decide)]
        by_cases b1 : compareBytes (strip a) (strip b) = 0
        · rw [if_neg (by omega)] at h1
          have s1 := y1.1 b1
          by_cases b2 : compareBytes (strip b) (strip d) = 0
          · rw [if_neg (by omega)] at h2
            rw [if_neg (by rw [y3.2 (s1.trans (y2.1 b2))]; decide)]
            exact t3 h1 h2
          · rw [if_pos b2] at h2
            rw [s1, if_pos b2]; exact h2
        · rw [if_pos b1] at h1
          by_cases b2 : compareBytes (strip b) (strip d) = 0
          · rw [← y2.1 b2, if_pos b1]; exact h1
          · rw [if_pos b2] at h2
            have := t2 h1 h2
            by_cases b3 : compareBytes (strip a) (strip d) = 0
            · have e := y3.1 b3
              rw [e] at h1 b1
              have := j.an (strip b) (strip d)
              omega
            · rw [if_pos b3]; exact this
      · rw [if_pos a2] at h2
        rw [l1, if_pos a2]; exact h2
    · rw [if_pos a1] at h1
      by_cases a2 : cmpI (strip b).length (strip d).length = 0
      · rw [← z2.1 a2, if_pos a1]; exact h1
      · rw [if_pos a2] at h2
        have := t1 h1 h2
        by_cases a3 : cmpI (strip a).length (strip d).length = 0
        · have e := z3.1 a3
          rw [e] at h1 a1
          have := i.an (strip b).length (strip d).length
          omega
        · rw [if_pos a3]; exact this
def hd : Bs → Bool
  | [] => false
  | c :: _ => fig c
def prtC (a b : Bs) : Int := if hd a then (if hd b then numC a b else -1) else (if hd b then 1 else compareBytes a b)
theorem prtC_ord : OrdR prtC := by
  have i := numC_ord
  have j := cb_ord
  refine ⟨fun a b => ?_, fun a b => ?_, fun a b => ?_, fun a b d => ?_⟩
  · unfold prtC
    cases hd a <;> cases hd b <;> simp [i.rg, j.rg] <;> first | exact j.rg _ _ | exact i.rg _ _
  · unfold prtC
    cases hd a <;> cases hd b <;> simp <;> first | exact j.an _ _ | exact i.an _ _
  · unfold prtC
    cases h1 : hd a <;> cases h2 : hd b <;> simp
    · exact j.ze _ _
    · intro e; rw [e, h2] at h1; cases h1
    · intro e; rw [e, h2] at h1; cases h1
    · exact i.ze _ _
  · unfold prtC
    cases h1 : hd a <;> cases h2 : hd b <;> cases h3 : hd d <;> simp
    · exact j.tr _ _ _
    · exact i.tr _ _ _
def lexC : List Bs → List Bs → Int
  | [], [] => 0
  | [], _ :: _ => -1
  | _ :: _, [] => 1
  | a :: x, b :: y => if prtC a b ≠ 0 then prtC a b else lexC x y
theorem lexC_rg : ∀ a b, lexC a b = -1 ∨ lexC a b = 0 ∨ lexC a b = 1
  | [], [] => by simp [lexC]
  | [], _ :: _ => by simp [lexC]
  | _ :: _, [] => by simp [lexC]
  | a :: x, b :: y => by
    rw [lexC]
    split
    · exact prtC_ord.rg _ _
    · exact lexC_rg x y
theorem lexC_an : ∀ a b, lexC a b = - lexC b a
  | [], [] => by simp [lexC]
  | [], _ :: _ => by simp [lexC]
  | _ :: _, [] => by simp [lexC]
  | a :: x, b :: y => by
    have h := prtC_ord.an a b
    have := lexC_an x y
    rw [lexC, lexC]
    (repeat' split) <;> omega
theorem lexC_ze : ∀ a b, lexC a b = 0 ↔ a = b
  | [], [] => by simp [lexC]
  | [], _ :: _ => by simp [lexC]
  | _ :: _, [] => by simp [lexC]
  | a :: x, b :: y => by
    have h := prtC_ord.ze a b
    have := lexC_ze x y
    rw [lexC, List.cons.injEq]
    split
    · rename_i h1
      exact ⟨fun h2 => absurd h2 h1, fun h2 => absurd (h.2 h2.1) h1⟩
    · rename_i h1
      have h1 : prtC a b = 0 := by omega
      rw [this]
      exact ⟨fun h2 => ⟨h.1 h1, h2⟩, fun h2 => h2.2⟩
theorem lexC_tr : ∀ a b d, lexC a b ≤ 0 → lexC b d ≤ 0 → lexC a d ≤ 0
  | [], _, [], _, _ => by simp [lexC]
  | [], _, _ :: _, _, _ => by simp [lexC]
  | _ :: _, [], _, h, _ => by simp [lexC] at h
  | _ :: _, _ :: _, [], _, h => by simp [lexC] at h
  | a :: x, b :: y, d :: z, h1, h2 => by
    have ih := lexC_tr x y z
    rw [lexC] at h1 h2 ⊢
    have t := prtC_ord.tr a b d
    have z1 := prtC_ord.ze a b
    have z2 := prtC_ord.ze b d
    have z3 := prtC_ord.ze a d
    by_cases a1 : prtC a b = 0
    · rw [if_neg (by omega)] at h1
      have e := z1.1 a1
      subst e
      by_cases a2 : prtC a d = 0
      · rw [if_neg (by omega)] at h2
        rw [if_neg (by omega)]; exact ih h1 h2
      · rw [if_pos a2] at h2
        rw [if_pos a2]; exact h2
    · rw [if_pos a1] at h1
      by_cases a2 : prtC b d = 0
      · have e := z2.1 a2
        subst e
        rw [if_pos a1]; exact h1
      · rw [if_pos a2] at h2
        have := t h1 h2
        by_cases a3 : prtC a d = 0
        · have e := z3.1 a3
          subst e
          have := prtC_ord.an a b
          omega
        · rw [if_pos a3]; exact this
def verC (a b : Bs) : Int := lexC (prt a) (prt b)
theorem verC_ord : OrdR verC :=
  ⟨fun a b => lexC_rg _ _, fun a b => lexC_an _ _, fun a b => (lexC_ze _ _).trans ⟨prt_inj, fun h => by rw [h]⟩, fun a b d => lexC_tr _ _ _⟩
/-! ### the document's -/
def lessP (a b : Bs) : Bool :=
  if hd a ≠ hd b then hd a
  else if hd a = false then Op.bytesLess a b
  else if strip a = strip b then decide (a.length < b.length)
  else if (strip a).length = (strip b).length then Op.bytesLess (strip a) (strip b)
  else decide ((strip a).length < (strip b).length)
theorem cmpI_lt {a b : Nat} : cmpI (a : Int) (b : Int) < 0 ↔ a < b := by
  unfold cmpI
  (repeat' split) <;> omega
theorem lessP_eq (a b : Bs) : lessP a b = decide (prtC a b < 0) := by
  unfold lessP prtC
  cases h1 : hd a <;> cases h2 : hd b <;> simp
  · rw [bless_cmp]
  · unfold numC
    have z1 := cmpI_ord.ze (strip a).length (strip b).length
    have z2 := cb_ord.ze (strip a) (strip b)
    by_cases e : strip a = strip b
    · rw [if_pos e, if_neg (by rw [e, (cmpI_ord.ze _ _).2 rfl]; decide), if_neg (by rw [z2.2 e]; decide)]
      rw [Bool.eq_iff_iff, decide_eq_true_iff, decide_eq_true_iff, cmpI_lt]
    · rw [if_neg e]
      by_cases l : (strip a).length = (strip b).length
      · rw [if_pos l, if_neg (by rw [l, (cmpI_ord.ze _ _).2 rfl]; decide), if_pos (fun h => e (z2.1 h)), bless_cmp]
      · rw [if_neg l, if_pos (fun h => l (by have := z1.1 h; omega))]
        rw [Bool.eq_iff_iff, decide_eq_true_iff, decide_eq_true_iff, cmpI_lt]
/-- the first parts that differ decide -/
theorem lexC_skip : ∀ (i : Nat) (a b : List Bs), a.take i = b.take i → i ≤ a.length → i ≤ b.length → lexC a b = lexC (a.drop i) (b.drop i)
  | 0, _, _, _, _, _ => rfl
  | i + 1, [], _, _, h, _ => by simp at h
  | i + 1, _ :: _, [], _, _, h => by simp at h
  | i + 1, a :: x, b :: y, h, h1, h2 => by
    simp only [List.take_succ_cons, List.cons.injEq] at h
    rw [lexC, if_neg (by rw [(prtC_ord.ze _ _).2 h.1]; decide), lexC_skip i x y h.2 (by simpa using h1) (by simpa using h2)]
    rfl
end Go.Proofs.YtegihbpdemjeaaaDoor
