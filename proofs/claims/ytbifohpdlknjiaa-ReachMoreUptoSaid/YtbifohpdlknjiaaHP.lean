/- chapter 33: the law that more roots and more links only add to what is reached -/
import Derived.Test.YtbifohpdlknjiaaHT
import Derived.Test.YtbifohpdlknjiaaHL
namespace Go.Proofs.Ytbifohpdlknjiaa
open Go.GV Go.RowKit Go.Lib
set_option linter.unusedVariables false
set_option linter.unusedSimpArgs false
theorem Row.elem_ne {w : World} {B B' : Nat} {e e' : TypeId} {sz sz' : Nat} {A A' : Option Addr} {n c n' c' : Nat} {vs vs' : List Value} (h : Row w B e sz A n c vs) (h' : Row w B' e' sz' A' n' c' vs') (he : e ≠ e') : ∀ k, blkOf A' = some k → ¬ blkOf A = some k := by
  intro k h1 h2
  rcases h.at_ with ⟨rfl, _⟩ | ⟨b, cs, rfl, _, hb, _⟩
  · simp [blkOf] at h2
  rcases h'.at_ with ⟨rfl, _⟩ | ⟨b', cs', rfl, _, hb', _⟩
  · simp [blkOf] at h1
  simp only [blkOf, Option.some.injEq] at h1 h2
  subst h1; subst h2
  rw [hb] at hb'
  injection hb' with hb'
  injection hb' with _ h3 _
  exact he h3
structure JJ (w0 : World) (u : World) (A : Option Addr) (n c : Nat) (x : List Dig) (A' : Option Addr) (n' c' : Nat) (y : List Lnk) : Prop where
  fr : Fr (fun _ => False) w0 u
  rd : Row u w0.heap.size 27 32 A n c (dcs x)
  rl : Row u w0.heap.size 29 64 A' n' c' (lks y)
  hn : n = x.length
  hn' : n' = y.length
theorem lks_append (a b : List Lnk) : lks (a ++ b) = lks a ++ lks b := by simp [lks]
theorem lks_one (l : List Lnk) : ∀ v ∈ lks l, v.oneCell' = true := by
  intro v hv
  simp only [lks, List.mem_flatten, List.mem_map] at hv
  obtain ⟨_, ⟨x, _, rfl⟩, hv⟩ := hv
  exact bvs_one _ v hv
theorem JJ.nwD {w0 u : World} {A' : Option Addr} {n' c' : Nat} {y : List Lnk} {K : Nat → World → Prop} (h : JJ w0 u none 0 0 [] A' n' c' y) (hK : ∀ b u', JJ w0 u' (some ⟨b, 0, none⟩) 0 0 [] A' n' c' y → K b u') : nw u [] 27 K := by
  refine nw_mk (hK _ _ ⟨h.fr.trans1 (Fr.alloc _ _ _), ?_, (Fr.alloc (fun _ => False) u _).row h.rl (fun _ _ h => h), rfl, h.hn'⟩)
  exact Row.new (n := 0) (vs := []) h.fr.size (by simp)
theorem JJ.nwL {w0 u : World} {A : Option Addr} {n c : Nat} {x : List Dig} {K : Nat → World → Prop} (h : JJ w0 u A n c x none 0 0 []) (hK : ∀ b u', JJ w0 u' A n c x (some ⟨b, 0, none⟩) 0 0 [] → K b u') : nw u [] 29 K := by
  refine nw_mk (hK _ _ ⟨h.fr.trans1 (Fr.alloc _ _ _), (Fr.alloc (fun _ => False) u _).row h.rd (fun _ _ h => h), ?_, h.hn, rfl⟩)
  exact Row.new (n := 0) (vs := []) h.fr.size (by simp)
theorem JJ.appD {w0 u : World} {A : Option Addr} {n c : Nat} {x : List Dig} {A' : Option Addr} {n' c' : Nat} {y : List Lnk} {X : Option Addr} {m cm : Nat} {z : List Dig} {K : Option Addr → Nat → Nat → World → Prop} (h : JJ w0 u A n c x A' n' c' y) (hz : Sl w0 32 X m (dcs z)) (hzl : z.length = m) (hb : x.length + m ≤ 1099511627776)
    (hK : ∀ A2 n2 c2 u', JJ w0 u' A2 n2 c2 (x ++ z) A' n' c' y → K A2 n2 c2 u') : app u 32 32 Z27 27 A n c (.slice X m cm) K := by
  have hn := h.hn
  refine app_row h.rd (h.fr.sl hz (fun _ _ _ h => h)).src (dcs_oneCell z) (by decide +kernel) (by omega) (by omega) h.fr.size (fun A2 c2 w' hr f => hK _ _ _ _ ⟨?_, by rw [dcs_append]; exact hr, ?_, by rw [List.length_append]; omega, h.hn'⟩)
  · exact h.fr.trans f (fun _ _ h => h) (fun k hk hk2 => by have := (h.rd.blt hk2).1; omega)
  · exact f.row h.rl (fun k hk => Row.elem_ne h.rd h.rl (by decide) k hk)
theorem JJ.appL {w0 u : World} {A : Option Addr} {n c : Nat} {x : List Dig} {A' : Option Addr} {n' c' : Nat} {y : List Lnk} {X : Option Addr} {m cm : Nat} {z : List Lnk} {K : Option Addr → Nat → Nat → World → Prop} (h : JJ w0 u A n c x A' n' c' y) (hz : Sl w0 64 X m (lks z)) (hzl : z.length = m) (hb : y.length + m ≤ 1099511627776)
    (hK : ∀ A2 n2 c2 u', JJ w0 u' A n c x A2 n2 c2 (y ++ z) → K A2 n2 c2 u') : app u 64 64 Z29 29 A' n' c' (.slice X m cm) K := by
  have hn := h.hn'
  refine app_row h.rl (h.fr.sl hz (fun _ _ _ h => h)).src (lks_one z) (by decide +kernel) (by omega) (by omega) h.fr.size (fun A2 c2 w' hr f => hK _ _ _ _ ⟨?_, ?_, by rw [lks_append]; exact hr, h.hn, by rw [List.length_append]; omega⟩)
  · exact h.fr.trans f (fun _ _ h => h) (fun k hk hk2 => by have := (h.rl.blt hk2).1; omega)
  · exact f.row h.rd (fun k hk => Row.elem_ne h.rl h.rd (by decide) k hk)
theorem JJ.kp {w0 u : World} {A : Option Addr} {n c : Nat} {x : List Dig} {A' : Option Addr} {n' c' : Nat} {y : List Lnk} {b o k : Nat} {P : Prop} (h : JJ w0 u A n c x A' n' c' y) (hb : b < w0.heap.size) (hP : P) : kp w0 b o k u P := kp_mk h.fr hb (fun h => h) hP
theorem Rch.mono {r r' : List Dig} {l l' : List Lnk} (hr : ∀ d ∈ r, d ∈ r') (hl : ∀ x ∈ l, x ∈ l') {d : Dig} (h : Rch r l d) : Rch r' l' d := by
  induction h with
  | root h => exact .root (hr _ h)
  | link _ h2 ih => exact .link ih (hl _ h2)
set_option maxHeartbeats 1000000 in
theorem more_law (R : Option Addr) (nr cr : Nat) (r : List Dig) (O : Option Addr) (no co : Nat) (o : List Dig) (L : Option Addr) (nl cl : Nat) (l : List Lnk) (M : Option Addr) (nm cm : Nat) (m : List Lnk) (w : World) (h : Sl w 32 R nr (dcs r)) (hw : W32 r) (ho : Sl w 32 O no (dcs o)) (hwo : W32 o) (hl : Sl w 64 L nl (lks l)) (hwl : WL l) (hm : Sl w 64 M nm (lks m)) (hwm : WL m) (hn : nr ≤ 1073741824) (hno : no ≤ 1073741824) (hnl : nl ≤ 1073741824) (hnm : nm ≤ 1073741824) :
    Calls Try.prog 4 #[ofL [.slice R nr cr, .slice O no co, .slice L nl cl, .slice M nm cm]] w fun e w' => e = .returned (.bool true) ∧ Fr (fun _ => False) w w' := by
  refine (F4.of [.slice R nr cr, .slice O no co, .slice L nl cl, .slice M nm cm] w (Q := fun v w' => v = .bool true ∧ Fr (fun _ => False) w w') ?_).mono (fun e w' ⟨v, he, hv, h⟩ => ⟨by rw [he, hv], h⟩)
  have hrl := sl_len h hw
  have hol := sl_len ho hwo
  have hll := lnk_len hl hwl
  have hml := lnk_len hm hwm
  refine nw_mk ?_
  have f1 : Fr (fun _ => False) w (w.alloc (.cells ([.slice R nr cr, .slice O no co, .slice L nl cl, .slice M nm cm] : List Value).toArray 33)) := Fr.alloc _ _ _
  have r1 := RecAt.new w [.slice R nr cr, .slice O no co, .slice L nl cl, .slice M nm cm] 33
  generalize w.heap.size = b1 at r1 ⊢
  generalize w.alloc (.cells ([.slice R nr cr, .slice O no co, .slice L nl cl, .slice M nm cm] : List Value).toArray 33) = w2 at f1 r1 ⊢
  have h2 := f1.sl h (fun _ _ _ h => h)
  have ho2 := f1.sl ho (fun _ _ _ h => h)
  have hl2 := f1.sl hl (fun _ _ _ h => h)
  have hm2 := f1.sl hm (fun _ _ _ h => h)
  refine ⟨_, _, _, r1.cell rfl, _, _, _, r1.cell rfl, (of_calls R nr cr r L nl cl l w2 h2 hw hl2 hwl (by omega) (by omega)).mono ?_⟩
  rintro e w3 ⟨f3, A, c, a, rfl, hra, hwa, haa, hal, hma⟩
  refine ⟨_, _, _, rfl, ?_⟩
  have fd := f3.trans1 (Fr.drew _ w3)
  have r4 := r1.fr fd (fun h => h)
  have hra4 : Row w3.drew w2.heap.size 27 32 A a.length c (dcs a) := (Fr.drew (fun _ => False) w3).row hra (fun _ _ h => h)
  generalize w3.drew = w4 at fd r4 hra4 ⊢
  refine ⟨_, _, _, r4.cell rfl, _, _, _, r4.cell rfl, _, _, _, r4.cell rfl, _, _, _, r4.cell rfl, ?_⟩
  have hb1 := r4.lt
  have fw4 := f1.trans1 fd
  have h4 := fd.sl h2 (fun _ _ _ h => h)
  have ho4 := fd.sl ho2 (fun _ _ _ h => h)
  have hl4 := fd.sl hl2 (fun _ _ _ h => h)
  have hm4 := fd.sl hm2 (fun _ _ _ h => h)
  have fin : ∀ (u : World) (A1 : Option Addr) (n1 c1 : Nat) (A2 : Option Addr) (n2 c2 : Nat), JJ w4 u A1 n1 c1 (([] ++ r) ++ o) A2 n2 c2 (([] ++ l) ++ m) → Calls Try.prog 6 #[.slice A1 n1 c1, .slice A2 n2 c2] u fun e10 w9 => ∃ (A11 : Option Addr) (n12 c13 : Nat), e10 = .returned (Value.slice A11 n12 c13) ∧ jnC (F4.l4 (fun v w' => v = .bool true ∧ Fr (fun _ => False) w w')) ((b1, 0), (A, a.length, c), (A11, n12, c13), (0), ()) w9 := by
    intro u A1 n1 c1 A2 n2 c2 hJ
    simp only [List.nil_append] at hJ
    have e1 := hJ.hn
    have e2 := hJ.hn'
    rw [List.length_append] at e1 e2
    refine (of_calls A1 n1 c1 (r ++ o) A2 n2 c2 (l ++ m) u hJ.rd.sl (fun d hd => (List.mem_append.1 hd).elim (hw d) (hwo d)) hJ.rl.sl (fun d hd => (List.mem_append.1 hd).elim (hwl d) (hwm d)) (by omega) (by omega)).mono ?_
    rintro e w5 ⟨f5, A5, c5, b, rfl, hrb, hwb, hab, hbl, hmb⟩
    refine ⟨_, _, _, rfl, jnC_mk ?_⟩
    have g5 := hJ.fr.trans1 f5
    refine loop_rule (fun s u => Fr (fun _ => False) w5 u ∧ ∃ (i : Nat), i ≤ a.length ∧ s = ((b1, 0), (A, a.length, c), (A5, b.length, c5), (i : Int), ()))
      (fun s _ => (a.length - s.2.2.2.1).toNat) ?_ _ _ ⟨Fr.refl _ _, 0, by omega, rfl⟩
    rintro s u C ⟨hf, i, hi, rfl⟩ hC _
    have hra5 := (g5.trans1 hf).row hra4 (fun _ _ h => h)
    refine vIf_mk (fun hlt => ?_) (fun hge => ?_)
    · have hlt2 : (i : Int) < (a.length : Int) := of_decide_eq_true hlt
      have gi : a[i]? = some (a[i]'(by omega)) := List.getElem?_eq_getElem (by omega)
      have li := hwa.at gi
      obtain ⟨b', o', hA, hcell⟩ := sl_dig hra5.sl hwa (i := i) (by omega)
      subst hA
      generalize hx : a[i]'(by omega) = x at gi li
      have lx : (x.map bv).length = 32 := by simp [li]
      have ci : cellsAt u b' (o' + ((i : Int)).toNat * 32) (x.map bv) := by rw [Int.toNat_natCast]; exact hcell i x gi
      refine dr_mk (gd_mk (decide_eq_true (by show (0 : Int) ≤ (i : Int); omega)) (gd_mk (decide_eq_true hlt2) ⟨x.map bv, lx, ci, (rhas_calls A5 b.length c5 b x u (hf.sl hrb.sl (fun _ _ _ h => h)) hwb li (by omega)).mono ?_⟩))
      rintro e u2 ⟨rfl, f2⟩
      have hxb : x ∈ b := (hmb x).2 (((hma x).1 (List.mem_of_getElem? gi)).mono (fun d hd => List.mem_append_left _ hd) (fun d hd => List.mem_append_left _ hd))
      rw [decide_eq_true hxb]
      refine ⟨_, rfl, vIf_f rfl (jnC_mk (hC _ _ ⟨hf.trans1 f2, i + 1, by omega, ?_⟩ ?_))⟩
      · show (_, _, _, IntKind.wrap .i64 ((i : Int) + 1), ()) = _
        rw [ei64 i (by omega)]
      · show ((a.length : Int) - IntKind.wrap .i64 ((i : Int) + 1)).toNat < ((a.length : Int) - (i : Int)).toNat
        rw [ei64 i (by omega)]; omega
    · have gu := g5.trans1 hf
      refine ⟨_, _, _, (r4.fr gu (fun h => h)).cell rfl, (of_calls A a.length c a L nl cl l u hra5.sl hwa (gu.sl hl4 (fun _ _ _ h => h)) hwl (by omega) (by omega)).mono ?_⟩
      rintro e u2 ⟨f2, A6, c6, a6, rfl, hr6, hw6, ha6, hl6, hm6⟩
      have heq : a6 = a := ha6.unique haa (fun d => by
        rw [hm6]
        constructor
        · intro hd
          exact hd.least (p := fun d => d ∈ a) (fun d hd => hd) (fun x y hxy hx => (hma y).2 (.link ((hma x).1 hx) hxy))
        · exact fun hd => .root hd)
      subst heq
      refine ⟨_, _, _, rfl, (same_dig A6 a6.length c6 a6 A a6.length c a6 u2 hr6.sl hw6 (f2.row hra5 (fun _ _ h => h)).sl hwa (by omega)).mono ?_⟩
      rintro e u3 ⟨rfl, f3'⟩
      rw [decide_eq_true (rfl : a6 = a6)]
      refine ⟨_, rfl, vIf_t rfl ((lives_calls u3).mono ?_)⟩
      rintro e u4 ⟨rfl, f4⟩
      exact ⟨_, rfl, rfl, (((fw4.trans1 gu).trans1 f2).trans1 f3').trans1 f4⟩
  have J0 : JJ w4 w4 none 0 0 [] none 0 0 [] := ⟨Fr.refl _ _, Row.nil _ _ _ _, Row.nil _ _ _ _, rfl, rfl⟩
  have l1 : ([] : List Dig).length + nr ≤ 1099511627776 := by show 0 + nr ≤ _; omega
  have l2 : ([] ++ r : List Dig).length + no ≤ 1099511627776 := by simp only [List.nil_append]; omega
  have l3 : ([] : List Lnk).length + nl ≤ 1099511627776 := by show 0 + nl ≤ _; omega
  have l4 : ([] ++ l : List Lnk).length + nm ≤ 1099511627776 := by simp only [List.nil_append]; omega
  repeat' first
    | exact fin _ _ _ _ _ _ _ J0
    | refine JJ.kp J0 hb1 ?_
    | (refine JJ.nwD J0 ?_; clear J0; rintro _ _ J0)
    | (refine JJ.nwL J0 ?_; clear J0; rintro _ _ J0)
    | (refine JJ.appD J0 h4 hrl l1 ?_; clear J0; rintro _ _ _ _ J0)
    | (refine JJ.appD J0 ho4 hol l2 ?_; clear J0; rintro _ _ _ _ J0)
    | (refine JJ.appL J0 hl4 hll l3 ?_; clear J0; rintro _ _ _ _ J0)
    | (refine JJ.appL J0 hm4 hml l4 ?_; clear J0; rintro _ _ _ _ J0)
    | refine And.intro ?_ ?_
end Go.Proofs.Ytbifohpdlknjiaa
