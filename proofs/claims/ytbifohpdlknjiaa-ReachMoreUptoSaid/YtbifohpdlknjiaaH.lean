/- chapter 33: what is reached -/
import Derived.Test.YtbifohpdlknjiaaLDRowG
import Derived.Test.YtbifohpdlknjiaaLDRefB
import Derived.Test.YtbifohpdlknjiaaLDHas
import Derived.Test.YtbifohpdlknjiaaG12
namespace Go.Proofs.Ytbifohpdlknjiaa
open Go.GV Go.RowKit Go.Lib
set_option linter.unusedVariables false
set_option linter.unusedSimpArgs false
/-! ### links -/
abbrev Lnk := Dig × Dig
def lks (l : List Lnk) : List Value := (l.map (fun x => (x.1 ++ x.2).map bv)).flatten
def WL (l : List Lnk) : Prop := ∀ x ∈ l, x.1.length = 32 ∧ x.2.length = 32
theorem WL.at {l : List Lnk} (h : WL l) {i : Nat} {x : Lnk} (hi : l[i]? = some x) : x.1.length = 32 ∧ x.2.length = 32 := h x (List.mem_of_getElem? hi)
theorem lks_flat {l : List Lnk} (h : WL l) : (lks l).length = l.length * 64 ∧ ∀ (i : Nat) (x : Lnk) (j : Nat), l[i]? = some x → j < 64 → (lks l)[i * 64 + j]? = ((x.1 ++ x.2).map bv)[j]? := by
  obtain ⟨h1, h2⟩ := flatten_get (vss := l.map (fun x => (x.1 ++ x.2).map bv)) (k := 64) (fun i v hv => by
    rw [List.getElem?_map] at hv
    cases hr : l[i]? with
    | none => rw [hr] at hv; cases hv
    | some d => rw [hr] at hv; injection hv with hv; subst hv; rw [List.length_map, List.length_append, (h.at hr).1, (h.at hr).2])
  refine ⟨by unfold lks; rw [h1, List.length_map], fun i d j hi hj => ?_⟩
  exact h2 i _ j (by rw [List.getElem?_map, hi]; rfl) hj
theorem sl_lnk {w : World} {A : Option Addr} {n : Nat} {l : List Lnk} (hs : Sl w 64 A n (lks l)) (hw : WL l) {i : Nat} (hi : i < n) : ∃ b o, A = some ⟨b, o, none⟩ ∧ ∀ j x, l[j]? = some x → cellsAt w b (o + j * 64) ((x.1 ++ x.2).map bv) := by
  obtain ⟨b, o, hA, hc⟩ := hs.2 (by omega)
  refine ⟨b, o, hA, fun j x hj q v hq => ?_⟩
  have hql := (List.getElem?_eq_some_iff.1 hq).1
  rw [List.length_map, List.length_append, (hw.at hj).1, (hw.at hj).2] at hql
  rw [Nat.add_assoc]
  exact hc _ v (((lks_flat hw).2 j x q hj hql).trans hq)
theorem lnk_len {w : World} {A : Option Addr} {n : Nat} {l : List Lnk} (hs : Sl w 64 A n (lks l)) (hw : WL l) : l.length = n := by
  have := hs.1
  rw [(lks_flat hw).1] at this
  omega
theorem cells_left {w : World} {b o : Nat} {x y : List Value} (h : cellsAt w b o (x ++ y)) : cellsAt w b o x := fun j v hj => h j v (by rw [List.getElem?_append_left (List.getElem?_eq_some_iff.1 hj).1]; exact hj)
theorem cells_right {w : World} {b o : Nat} {x y : List Value} (h : cellsAt w b o (x ++ y)) : cellsAt w b (o + x.length) y := fun j v hj => by
  rw [Nat.add_assoc]
  exact h _ v (by rw [List.getElem?_append_right (by omega), Nat.add_sub_cancel_left]; exact hj)
/-! ### what is reached, plainly -/
inductive Rch (roots : List Dig) (l : List Lnk) : Dig → Prop
  | root {d : Dig} : d ∈ roots → Rch roots l d
  | link {a b : Dig} : Rch roots l a → (a, b) ∈ l → Rch roots l b
theorem Rch.least {roots : List Dig} {l : List Lnk} {p : Dig → Prop} (hr : ∀ d ∈ roots, p d) (hl : ∀ a b, (a, b) ∈ l → p a → p b) {d : Dig} (h : Rch roots l d) : p d := by
  induction h with
  | root h => exact hr _ h
  | link _ h2 ih => exact hl _ _ h2 ih
/-- how many links lead to what isn't met -/
def newL (met : List Dig) (l : List Lnk) : Nat := (l.filter (fun x => !decide (x.2 ∈ met))).length
theorem newL_le (met : List Dig) (l : List Lnk) : newL met l ≤ l.length := List.length_filter_le _ _
theorem newL_mono {met met' : List Dig} (h : ∀ d ∈ met, d ∈ met') : ∀ l : List Lnk, newL met' l ≤ newL met l
  | [] => Nat.le_refl _
  | x :: l => by
    have ih := newL_mono h l
    simp only [newL, List.filter_cons] at ih ⊢
    by_cases h1 : x.2 ∈ met
    · have h2 := h _ h1
      simp only [decide_eq_true h1, decide_eq_true h2, Bool.not_true, Bool.false_eq_true, if_false]
      exact ih
    · by_cases h2 : x.2 ∈ met'
      · simp only [decide_eq_false h1, decide_eq_true h2, Bool.not_true, Bool.not_false, Bool.false_eq_true, if_false, if_true, List.length_cons]
        omega
      · simp only [decide_eq_false h1, decide_eq_false h2, Bool.not_false, if_true, List.length_cons]
        omega
theorem newL_lt {met met' : List Dig} (h : ∀ d ∈ met, d ∈ met') : ∀ {l : List Lnk} {x : Lnk}, x ∈ l → x.2 ∉ met → x.2 ∈ met' → newL met' l + 1 ≤ newL met l
  | [], x, hx, _, _ => by cases hx
  | y :: l, x, hx, h1, h2 => by
    have hm := newL_mono h l
    simp only [newL, List.filter_cons] at hm ⊢
    rcases List.mem_cons.1 hx with rfl | hx
    · simp only [decide_eq_false h1, decide_eq_true h2, Bool.not_true, Bool.not_false, Bool.false_eq_true, if_false, if_true, List.length_cons]
      omega
    · have ih := newL_lt h hx h1 h2
      simp only [newL] at ih
      by_cases g1 : y.2 ∈ met
      · have g2 := h _ g1
        simp only [decide_eq_true g1, decide_eq_true g2, Bool.not_true, Bool.false_eq_true, if_false]
        exact ih
      · by_cases g2 : y.2 ∈ met'
        · simp only [decide_eq_false g1, decide_eq_true g2, Bool.not_true, Bool.not_false, Bool.false_eq_true, if_false, if_true, List.length_cons]
          omega
        · simp only [decide_eq_false g1, decide_eq_false g2, Bool.not_false, if_true, List.length_cons]
          omega
set_option maxHeartbeats 2000000 in
theorem of_calls (A : Option Addr) (n c : Nat) (r : List Dig) (L : Option Addr) (nl cl : Nat) (l : List Lnk) (w : World) (h : Sl w 32 A n (dcs r)) (hw : W32 r) (hl : Sl w 64 L nl (lks l)) (hwl : WL l) (hn : n ≤ 17179869184) (hnl : nl ≤ 17179869184) :
    Calls Try.prog 6 #[.slice A n c, .slice L nl cl] w fun e w' => Fr (fun _ => False) w w' ∧ ∃ A' c' r', e = .returned (.slice A' r'.length c') ∧ Row w' w.heap.size 27 32 A' r'.length c' (dcs r') ∧ W32 r' ∧ Asc r' ∧ r'.length ≤ n + nl ∧ ∀ d, d ∈ r' ↔ Rch r l d := by
  refine (F6.of A n c L nl cl w (Q := fun v w' => Fr (fun _ => False) w w' ∧ ∃ A' c' r', v = .slice A' r'.length c' ∧ Row w' w.heap.size 27 32 A' r'.length c' (dcs r') ∧ W32 r' ∧ Asc r' ∧ r'.length ≤ n + nl ∧ ∀ d, d ∈ r' ↔ Rch r l d) ?_).mono (fun e w' ⟨v, he, hf, A', c', r', hv, h⟩ => ⟨hf, A', c', r', by rw [he, hv], h⟩)
  have hrl := sl_len h hw
  have hll := lnk_len hl hwl
  have hZ : Z27.length = 32 := by decide +kernel
  have hZl : Z29.length = 64 := by decide +kernel
  refine (row_calls A n c r w h hw (by omega)).mono ?_
  rintro e w1 ⟨f1, A1, c1, m1, rfl, hr1, hw1, ha1, hl1, hm1⟩
  refine ⟨_, _, _, rfl, (clone_dig A1 m1.length c1 m1 w1 hr1.sl hw1 (by omega)).mono ?_⟩
  rintro e w2 ⟨A2, c2, rfl, f2, hr2⟩
  refine ⟨_, _, _, rfl, jnC_mk ?_⟩
  have hw1s := f1.size
  have upB : ∀ {u : World} {B B' : Nat} {A : Option Addr} {k c : Nat} {vs : List Value}, B' ≤ B → Row u B 27 32 A k c vs → Row u B' 27 32 A k c vs := by
    intro u B B' A k c vs hB hr
    refine ⟨hr.len, hr.le, ?_⟩
    rcases hr.at_ with h' | ⟨b', cs', q1, q2, q3⟩
    · exact .inl h'
    · exact .inr ⟨b', cs', q1, by omega, q3⟩
  -- 'ahead' lies in blocks of its own: met's block is below G, ahead's is not
  refine loop_ruleN (fun k s u => Fr (fun _ => False) w u ∧ ∃ (met ahead : List Dig) (A5 : Option Addr) (c5 : Nat) (A6 : Option Addr) (c6 : Nat), s = ((L, nl, cl), (A5, met.length, c5), (A6, ahead.length, c6), ()) ∧
      Row u w.heap.size 27 32 A5 met.length c5 (dcs met) ∧ RowO u w.heap.size 27 32 A6 ahead.length c6 (dcs ahead) ∧ (∀ q, blkOf A5 = some q → blkOf A6 ≠ some q) ∧ W32 met ∧ W32 ahead ∧ Asc met ∧
      met.length + newL met l ≤ n + nl ∧ ahead.length + newL met l ≤ n + nl ∧ (∀ d ∈ met, Rch r l d) ∧ (∀ d ∈ r, d ∈ met) ∧ (∀ d ∈ ahead, d ∈ met) ∧ (∀ a ∈ met, a ∈ ahead ∨ ∀ b, (a, b) ∈ l → b ∈ met) ∧ k = 2 * newL met l + ahead.length) ?_ _ _ _
    ⟨f1.trans1 f2, m1, m1, A1, c1, A2, c2, rfl, f2.row hr1 (fun _ _ h => h), (upB hw1s hr2).toO, ?_, hw1, hw1, ha1, by have := newL_le m1 l; omega, by have := newL_le m1 l; omega, fun d hd => .root ((hm1 d).1 hd), fun d hd => (hm1 d).2 hd, fun d hd => hd, fun a ha => .inl ha, rfl⟩
  rotate_left
  · intro q hq hq2
    have g1 := (hr1.blt hq).2
    have g2 := (hr2.blt hq2).1
    omega
  rintro k s u C3 ⟨hf, met, ahead, A5, c5, A6, c6, rfl, h5, h6, hne, hw5, hw6, ha5, hb5, hb6, hmR, hrm, ham, hcl, rfl⟩ hC3 _
  have hus := hf.size
  refine vIf_mk (fun hgt => ?_) (fun hle => ?_)
  · have hgt2 : (ahead.length : Int) > 0 := of_decide_eq_true hgt
    match ahead, hgt2 with
    | now :: rest, _ =>
    have hnow : now.length = 32 := hw6 now (List.mem_cons_self ..)
    have lnow : (now.map bv).length = 32 := by simp [hnow]
    have hwr : W32 rest := fun d hd => hw6 d (List.mem_cons_of_mem _ hd)
    obtain ⟨b6, o6, hA6, hc6⟩ := sl_dig h6.sl hw6 (i := 0) (by simp)
    subst hA6
    have c0 := hc6 0 now rfl
    rw [Nat.zero_mul, Nat.add_zero] at c0
    refine dr_mk (gd_mk (decide_eq_true (by simp)) ⟨_, lnow, c0, nw_mk (gd_mk (by rw [lnow]; rfl) ?_)⟩)
    have g1 : Fr (fun _ => False) u (u.alloc (.cells Z27.toArray 27)) := Fr.alloc _ _ _
    have r7 : RecAt (u.alloc (.cells Z27.toArray 27)) u.heap.size 27 Z27 := RecAt.new u _ _
    refine r7.st_mk (o := 0) (by rw [lnow, hZ]; omega) (bvs_one _) (fun r7' g2 => gd_mk (decide_eq_true (by show (1 : Int) ≤ (((now :: rest).length : Nat) : Int); simp only [List.length_cons]; omega)) (jnC_mk ?_))
    rw [splice_full (by rw [lnow, hZ])] at r7'
    have hsz : (stB (u.alloc (.cells Z27.toArray 27)) u.heap.size 0 (now.map bv)).heap.size = u.heap.size + 1 := by rw [stB_size, alloc_size]
    generalize stB (u.alloc (.cells Z27.toArray 27)) u.heap.size 0 (now.map bv) = u1 at r7' g2 hsz ⊢
    have g12 : Fr (fun _ => False) u u1 := g1.trans g2 (fun _ _ h => h) (fun q hq h' => by omega)
    generalize hb7 : u.heap.size = b7 at *
    have h6t := (g12.rowO (show RowO u w.heap.size _ 32 _ (rest.length + 1) c6 (dcs (now :: rest)) from h6) (fun _ _ h => h))
    have e6 : dcs (now :: rest) = now.map bv ++ dcs rest := by rw [← dcs_one, ← dcs_append]; rfl
    rw [e6] at h6t
    have h6r := h6t.tail lnow (by omega)
    rw [Nat.add_sub_cancel] at h6r
    have hblk6 : blkOf (slA (some (⟨b6, o6, none⟩ : Addr)) c6 1 32) = some b6 := by
      unfold slA
      split
      · rfl
      · simp [blkOf, Addr.add]
    show ∃ n, loopC (F6.b7 _ C3) n ((L, nl, cl), (A5, met.length, c5), (slA (some ⟨b6, o6, none⟩) c6 1 32, rest.length, c6 - 1), (b7, 0), (L, nl, cl), (nl : Int), (0 : Int), ()) u1
    have hb6l := (h6.blt (b := b6) rfl).2
    -- the links, one by one
    refine loop_rule (fun s u2 => Fr (fun _ => False) u1 u2 ∧ ∃ j : Nat, j ≤ nl ∧ s = ((L, nl, cl), (A5, met.length, c5), (slA (some ⟨b6, o6, none⟩) c6 1 32, rest.length, c6 - 1), (b7, 0), (L, nl, cl), (nl : Int), (j : Int), ()) ∧ ∀ (q : Nat) (x : Lnk), q < j → l[q]? = some x → x.1 = now → x.2 ∈ met)
      (fun s _ => (nl - s.2.2.2.2.2.2.1).toNat) ?_ _ _ ⟨Fr.refl _ _, 0, by omega, rfl, fun q x hq => by omega⟩
    rintro s u2 C7 ⟨hf2, j, hj, rfl, hseen⟩ hC7 _
    have hwu1 : Fr (fun _ => False) w u1 := hf.trans1 g12
    have hwu2 := hwu1.trans1 hf2
    have hu2s := hf2.size
    refine vIf_mk (fun hlt => ?_) (fun hge => ?_)
    · have hlt2 : (j : Int) < (nl : Int) := of_decide_eq_true hlt
      have gj : l[j]? = some (l[j]'(by omega)) := List.getElem?_eq_getElem (by omega)
      obtain ⟨lj1, lj2⟩ := hwl.at gj
      obtain ⟨bl, ol, hL, hcell⟩ := sl_lnk (hwu2.sl hl (fun _ _ _ h => h)) hwl (i := j) (by omega)
      subst hL
      generalize hx : l[j]'(by omega) = x at gj lj1 lj2
      have hxl : x ∈ l := List.mem_of_getElem? gj
      have lx : ((x.1 ++ x.2).map bv).length = 64 := by rw [List.length_map, List.length_append, lj1, lj2]
      have lx1 : (x.1.map bv).length = 32 := by simp [lj1]
      have lx2 : (x.2.map bv).length = 32 := by simp [lj2]
      refine dr_mk (gd_mk (decide_eq_true (by show (0 : Int) ≤ (j : Int); omega)) (gd_mk (decide_eq_true hlt2) ⟨(x.1 ++ x.2).map bv, lx, by show cellsAt u2 bl (ol + ((j : Int)).toNat * 64) _; rw [Int.toNat_natCast]; exact hcell j x gj, nw_mk (gd_mk (by rw [lx]; rfl) ?_)⟩))
      have k1 : Fr (fun _ => False) u2 (u2.alloc (.cells Z29.toArray 29)) := Fr.alloc _ _ _
      have r20 : RecAt (u2.alloc (.cells Z29.toArray 29)) u2.heap.size 29 Z29 := RecAt.new u2 _ _
      refine r20.st_mk (o := 0) (by rw [lx, hZl]; omega) (bvs_one _) (fun r20' k2 => ?_)
      rw [splice_full (by rw [lx, hZl])] at r20'
      have hsz2 : (stB (u2.alloc (.cells Z29.toArray 29)) u2.heap.size 0 ((x.1 ++ x.2).map bv)).heap.size = u2.heap.size + 1 := by rw [stB_size, alloc_size]
      generalize stB (u2.alloc (.cells Z29.toArray 29)) u2.heap.size 0 ((x.1 ++ x.2).map bv) = u3 at r20' k2 hsz2 ⊢
      have k12 : Fr (fun _ => False) u2 u3 := k1.trans k2 (fun _ _ h => h) (fun q hq h' => by omega)
      have h13 : Fr (fun _ => False) u1 u3 := hf2.trans1 k12
      have cx : cellsAt u3 u2.heap.size 0 (x.1.map bv ++ x.2.map bv) := by
        rw [← List.map_append]; exact r20'.cells (o := 0) (fun q v hq => by simpa using hq)
      have cx1 := cells_left cx
      have cx2 := cells_right cx
      rw [lx1] at cx2
      have c7 : ∀ {v : World}, Fr (fun _ => False) u1 v → cellsAt v b7 0 (now.map bv) := fun fv => cellsB (r7'.fr fv (fun h => h))
      have ej : IntKind.wrap .i64 ((j : Int) + 1) = ((j + 1 : Nat) : Int) := by rw [i64_id (by omega) (by omega)]; rfl
      have nextj : ∀ v : World, Fr (fun _ => False) u1 v → (x.1 = now → x.2 ∈ met) → jnC C7 ((some ⟨bl, ol, none⟩, nl, cl), (A5, met.length, c5), (slA (some ⟨b6, o6, none⟩) c6 1 32, rest.length, c6 - 1), (b7, 0), (some ⟨bl, ol, none⟩, nl, cl), (nl : Int), IntKind.wrap .i64 ((j : Int) + 1), ()) v := by
        intro v fv hok
        refine jnC_mk (hC7 _ _ ⟨fv, j + 1, by omega, by rw [ej], fun q y hq hy hyn => ?_⟩ ?_)
        · by_cases hqj : q = j
          · subst hqj; rw [gj] at hy; injection hy with hy; subst hy; exact hok hyn
          · exact hseen q y (by omega) hy hyn
        · show ((nl : Int) - IntKind.wrap .i64 ((j : Int) + 1)).toNat < ((nl : Int) - (j : Int)).toNat
          rw [ej]; omega
      refine ⟨_, lx1, cx1, _, lnow, c7 h13, ⟨_, _, lj1, hnow, rfl, rfl, vIf_mk (fun hne => nextj u3 h13 (fun he => by rw [he] at hne; simp at hne)) (fun heq => ?_)⟩⟩
      have heq2 : x.1 = now := by simpa using heq
      refine ⟨_, lx2, cx2, (has_calls A5 met.length c5 met x.2 u3 (((g12.trans1 h13).row h5 (fun _ _ h => h)).sl) hw5 ha5 lj2 (by omega)).mono ?_⟩
      rintro e u4 ⟨rfl, k4⟩
      have h14 := h13.trans1 k4
      refine ⟨_, rfl, vIf_mk (fun hin => nextj u4 h14 (fun _ => of_decide_eq_true hin)) (fun hout => jnC_mk (fun _ => ?_))⟩
      have hnot : x.2 ∉ met := of_decide_eq_false hout
      have hR2 : Rch r l x.2 := .link (hmR now (ham now (List.mem_cons_self ..))) (by rw [← heq2]; exact hxl)
      have cx24 : cellsAt u4 u2.heap.size (0 + 32) (x.2.map bv) := k4.cells cx2 (fun h => h)
      refine ⟨_, lx2, cx24, gd_mk (by rw [lx2]; rfl) ?_⟩
      have h5u4 : Row u4 w.heap.size 27 32 A5 met.length c5 (dcs met) := (g12.trans1 h14).row h5 (fun _ _ h => h)
      have hb2l := r20'.lt
      have hu4s := k4.size
      refine push_dig (n := met.length) h5u4 lj2 (by have := hwu2.size; omega) (by omega) (fun A33 c33 u5 h33 k5 => ?_)
      have h14w : Fr (fun _ => False) w u4 := hwu1.trans1 h14
      have hA5w : ∀ q, blkOf A5 = some q → w.heap.size ≤ q ∧ q < b7 := fun q hq => by have := h5.blt hq; rw [hb7] at this; exact this
      have hw33 : W32 (met ++ [x.2]) := by
        intro d hd
        rcases List.mem_append.1 hd with h1 | h1
        · exact hw5 d h1
        · simp at h1; subst h1; exact lj2
      have hl33 : (met ++ [x.2]).length = met.length + 1 := by simp
      refine (row_calls A33 (met.length + 1) c33 (met ++ [x.2]) u5 h33.sl hw33 (by omega)).mono ?_
      rintro e u6 ⟨k6, A39, c39, met', rfl, h39, hw39, ha39, hl39, hm39⟩
      have h15w : Fr (fun _ => False) w u5 := h14w.trans k5 (fun _ _ h => h) (fun q hq h' => by have := hA5w q h'; omega)
      have h16w : Fr (fun _ => False) w u6 := h15w.trans1 k6
      -- blocks laid since u1, other than met's own
      have h46 : Fr (fun q => blkOf A5 = some q) u4 u6 := k5.trans k6 (fun _ _ h => h) (fun _ _ h => h.elim)
      have c42 : cellsAt u6 u2.heap.size (0 + 32) (x.2.map bv) := h46.cells cx24 (fun h' => by have := hA5w _ h'; omega)
      have c43 : cellsAt u6 b7 0 (now.map bv) := h46.cells (c7 h14) (fun h' => by have := hA5w _ h'; omega)
      refine ⟨_, _, _, rfl, _, lx2, c42, _, lnow, c43, gd_mk (by rw [lx2]; rfl) (gd_mk (by rw [lnow]; rfl) (nw_mk ?_))⟩
      rw [List.append_nil]
      have m1' : Fr (fun _ => False) u6 (u6.alloc (.cells (x.2.map bv ++ now.map bv).toArray 27)) := Fr.alloc _ _ _
      have r44 : Row (u6.alloc (.cells (x.2.map bv ++ now.map bv).toArray 27)) 0 27 32 (some ⟨u6.heap.size, 0, none⟩) 2 2 (dcs [x.2, now]) := by
        have e : dcs [x.2, now] = x.2.map bv ++ now.map bv := by simp [dcs]
        rw [e]; exact Row.new (Nat.zero_le _) (by rw [List.length_append, lx2, lnow])
      have hsz6 : (u6.alloc (.cells (x.2.map bv ++ now.map bv).toArray 27)).heap.size = u6.heap.size + 1 := alloc_size _ _
      generalize u6.alloc (.cells (x.2.map bv ++ now.map bv).toArray 27) = u7 at m1' r44 hsz6 ⊢
      have hne6 : ∀ q, blkOf (slA (some (⟨b6, o6, none⟩ : Addr)) c6 1 32) = some q → ¬ blkOf A5 = some q := fun q hq h' => by
        rw [hblk6] at hq
        exact hne q h' hq
      have h6u7 : RowO u7 w.heap.size 27 32 (slA (some ⟨b6, o6, none⟩) c6 1 32) rest.length (c6 - 1) (dcs rest) := m1'.rowO (h46.rowO (h14.rowO h6r (fun _ _ h => h)) hne6) (fun _ _ h => h)
      have h39u7 := m1'.row h39 (fun _ _ h => h)
      have hu16 := h16w.size
      simp only [List.length_cons] at hb6
      refine app_rowO (n := rest.length) (m := 2) h6u7 r44.sl.src (dcs_oneCell _) hZ (by omega) (by omega) (by omega) (fun A46 c48 u8 h46' k8 hA46 => ?_)
      have hsub : ∀ d ∈ met, d ∈ met' := fun d hd => (hm39 d).2 (List.mem_append_left _ hd)
      have hx2' : x.2 ∈ met' := (hm39 x.2).2 (List.mem_append_right _ (List.mem_singleton.2 rfl))
      have hnew := newL_lt hsub hxl hnot hx2'
      have hfw8 : Fr (fun _ => False) w u8 := (h16w.trans1 m1').trans k8 (fun _ _ h => h) (fun q hq h' => by
        rw [hblk6] at h'
        injection h' with h'
        subst h'
        have := (h6.blt (b := b6) rfl).1
        omega)
      have hA39 : ∀ q, blkOf A39 = some q → u5.heap.size ≤ q ∧ q < u6.heap.size := fun q hq => h39.blt hq
      have hk5s := k5.size
      have h39u8 : Row u8 w.heap.size 27 32 A39 met'.length c39 (dcs met') := by
        refine upB (B := u5.heap.size) (by have := h15w.size; omega) (k8.row h39u7 (fun q hq h' => ?_))
        rw [hblk6] at h'
        injection h' with h'
        have := hA39 q hq
        omega
      refine jnC_mk (hC3 _ _ _ ?_ ⟨hfw8, met', rest ++ [x.2, now], A39, c39, A46, c48, by rw [List.length_append]; rfl, h39u8, ?_, ?_, hw39, ?_, ha39, ?_, ?_, ?_, ?_, ?_, ?_, rfl⟩)
      · rw [List.length_append]; simp only [List.length_cons, List.length_nil]; omega
      · rw [dcs_append, List.length_append]; exact h46'
      · intro q hq hq2
        have g3 := hA39 q hq
        rcases hA46 q hq2 with g4 | g4
        · rw [hblk6] at g4
          injection g4 with g4
          omega
        · omega
      · intro d hd
        rcases List.mem_append.1 hd with h1 | h1
        · exact hwr d h1
        · simp at h1
          rcases h1 with rfl | rfl
          · exact lj2
          · exact hnow
      · omega
      · rw [List.length_append]; simp only [List.length_cons, List.length_nil]; omega
      · intro d hd
        rcases List.mem_append.1 ((hm39 d).1 hd) with h1 | h1
        · exact hmR d h1
        · simp at h1; subst h1; exact hR2
      · exact fun d hd => hsub d (hrm d hd)
      · intro d hd
        rcases List.mem_append.1 hd with h1 | h1
        · exact hsub d (ham d (List.mem_cons_of_mem _ h1))
        · simp at h1
          rcases h1 with rfl | rfl
          · exact hx2'
          · exact hsub _ (ham _ (List.mem_cons_self ..))
      · intro a ha
        rcases List.mem_append.1 ((hm39 a).1 ha) with h1 | h1
        · rcases hcl a h1 with h2 | h2
          · rcases List.mem_cons.1 h2 with rfl | h2
            · exact .inl (List.mem_append_right _ (by simp))
            · exact .inl (List.mem_append_left _ h2)
          · exact .inr (fun b hb => hsub b (h2 b hb))
        · simp at h1; subst h1
          exact .inl (List.mem_append_right _ (by simp))
    · have hge2 : ¬ (j : Int) < (nl : Int) := of_decide_eq_false hge
      have hjn : j = nl := by omega
      subst hjn
      refine jnC_mk (hC3 _ _ _ ?_ ⟨hwu2, met, rest, A5, c5, _, _, rfl, (g12.trans1 hf2).row h5 (fun _ _ h => h), hf2.rowO h6r (fun _ _ h => h), ?_, hw5, hwr, ha5, hb5, ?_, hmR, hrm, fun d hd => ham d (List.mem_cons_of_mem _ hd), ?_, rfl⟩)
      · simp only [List.length_cons]; omega
      · intro q hq
        rw [hblk6]
        exact hne q hq
      · simp only [List.length_cons] at hb6; omega
      · intro a ha
        rcases hcl a ha with h1 | h1
        · rcases List.mem_cons.1 h1 with rfl | h1
          · refine .inr (fun b hb => ?_)
            obtain ⟨q, hq, hqx⟩ := List.mem_iff_getElem.1 hb
            exact hseen q (a, b) (by omega) (by rw [List.getElem?_eq_getElem hq, hqx]) rfl
          · exact .inl h1
        · exact .inr h1
  · have hle2 : ¬ (ahead.length : Int) > 0 := of_decide_eq_false hle
    have ha0 : ahead = [] := List.length_eq_zero_iff.1 (by omega)
    subst ha0
    refine ⟨hf, A5, c5, met, rfl, h5, hw5, ha5, by omega, fun d => ⟨hmR d, fun hd => ?_⟩⟩
    refine hd.least (p := fun d => d ∈ met) hrm (fun a b hab ha => ?_)
    rcases hcl a ha with h1 | h1
    · cases h1
    · exact h1 b hab
end Go.Proofs.Ytbifohpdlknjiaa
