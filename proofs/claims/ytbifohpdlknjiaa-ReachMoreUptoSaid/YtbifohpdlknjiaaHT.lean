/- chapter 33: from where links lead; the document's 'of' -/
import Derived.Test.YtbifohpdlknjiaaHL
namespace Go.Proofs.Ytbifohpdlknjiaa
open Go.GV Go.RowKit Go.Lib
set_option linter.unusedVariables false
set_option linter.unusedSimpArgs false
theorem row_low {u : World} {B B' : Nat} {e : TypeId} {sz : Nat} {A : Option Addr} {k c : Nat} {vs : List Value} (hB : B' ≤ B) (hr : Row u B e sz A k c vs) : Row u B' e sz A k c vs := by
  refine ⟨hr.len, hr.le, ?_⟩
  rcases hr.at_ with h' | ⟨b', cs', q1, q2, q3⟩
  · exact .inl h'
  · exact .inr ⟨b', cs', q1, by omega, q3⟩
theorem ei64 (i : Nat) (h : i < 1099511627776) : IntKind.wrap .i64 ((i : Int) + 1) = ((i + 1 : Nat) : Int) := by rw [i64_id (by omega) (by omega)]; rfl
def usr (d : Dig) (l : List Lnk) : List Dig := (l.filter (fun x => decide (x.2 = d))).map (·.1)
theorem usr_snoc {d : Dig} {l : List Lnk} {x : Lnk} {i : Nat} (h : l[i]? = some x) : usr d (l.take (i + 1)) = usr d (l.take i) ++ (if x.2 = d then [x.1] else []) := by
  rw [List.take_add_one, h, Option.toList_some]
  unfold usr
  rw [List.filter_append, List.map_append]
  congr 1
  by_cases hx : x.2 = d
  · rw [if_pos hx]; simp [hx]
  · rw [if_neg hx]; simp [hx]
theorem users_calls (d : Dig) (L : Option Addr) (nl cl : Nat) (l : List Lnk) (w : World) (hd : d.length = 32) (hl : Sl w 64 L nl (lks l)) (hwl : WL l) (hnl : nl ≤ 17179869184) :
    Calls Try.prog 10 #[ofL (d.map bv), .slice L nl cl] w fun e w' => Fr (fun _ => False) w w' ∧ ∃ A' c' r', e = .returned (.slice A' r'.length c') ∧ Row w' w.heap.size 27 32 A' r'.length c' (dcs r') ∧ W32 r' ∧ Asc r' ∧ r'.length ≤ nl ∧ ∀ x, x ∈ r' ↔ x ∈ usr d l := by
  refine (F10.of (d.map bv) L nl cl w (Q := fun v w' => Fr (fun _ => False) w w' ∧ ∃ A' c' r', v = .slice A' r'.length c' ∧ Row w' w.heap.size 27 32 A' r'.length c' (dcs r') ∧ W32 r' ∧ Asc r' ∧ r'.length ≤ nl ∧ ∀ x, x ∈ r' ↔ x ∈ usr d l) ?_).mono (fun e w' ⟨v, he, hf, A', c', r', hv, h⟩ => ⟨hf, A', c', r', by rw [he, hv], h⟩)
  have hll := lnk_len hl hwl
  have hZl : Z29.length = 64 := by decide +kernel
  have ld : (d.map bv).length = 32 := by simp [hd]
  refine nw_mk (jnC_mk ?_)
  have f1 : Fr (fun _ => False) w (w.alloc (.cells (d.map bv).toArray 27)) := Fr.alloc _ _ _
  have r1 : RecAt (w.alloc (.cells (d.map bv).toArray 27)) w.heap.size 27 (d.map bv) := RecAt.new w _ _
  have hs1 : (w.alloc (.cells (d.map bv).toArray 27)).heap.size = w.heap.size + 1 := alloc_size _ _
  generalize w.alloc (.cells (d.map bv).toArray 27) = w1 at f1 r1 hs1 ⊢
  generalize hB : w.heap.size = B at *
  refine loop_rule (fun s u => Fr (fun _ => False) w u ∧ RecAt u B 27 (d.map bv) ∧ ∃ (i : Nat) (A5 : Option Addr) (c5 : Nat), i ≤ nl ∧ s = ((B, 0), (A5, (usr d (l.take i)).length, c5), (L, nl, cl), (nl : Int), (i : Int), ()) ∧ Row u (B + 1) 27 32 A5 (usr d (l.take i)).length c5 (dcs (usr d (l.take i))))
    (fun s _ => (nl - s.2.2.2.2.1).toNat) ?_ _ _ ⟨f1, r1, 0, none, 0, by omega, rfl, Row.nil _ _ _ _⟩
  rintro s u C ⟨hf, hr1, i, A5, c5, hi, rfl, hr5⟩ hC _
  have hus := hf.size
  have hul : ∀ i, (usr d (l.take i)).length ≤ i := fun i => by
    have h1 := List.length_filter_le (fun x : Lnk => decide (x.2 = d)) (l.take i)
    unfold usr
    rw [List.length_map]
    rw [List.length_take] at h1
    omega
  have hli := hul i
  have hwu : ∀ i, W32 (usr d (l.take i)) := fun i x hx => by
    unfold usr at hx
    obtain ⟨y, hy, rfl⟩ := List.mem_map.1 hx
    exact (hwl y (List.mem_of_mem_take (List.mem_filter.1 hy).1)).1
  refine vIf_mk (fun hlt => ?_) (fun hge => ?_)
  · have hlt2 : (i : Int) < (nl : Int) := of_decide_eq_true hlt
    have gi : l[i]? = some (l[i]'(by omega)) := List.getElem?_eq_getElem (by omega)
    obtain ⟨l1, l2⟩ := hwl.at gi
    obtain ⟨bl, ol, hL, hcell⟩ := sl_lnk (hf.sl hl (fun _ _ _ h => h)) hwl (i := i) (by omega)
    subst hL
    have hsn := usr_snoc (d := d) gi
    generalize l[i]'(by omega) = x at gi l1 l2 hsn
    have lx : ((x.1 ++ x.2).map bv).length = 64 := by rw [List.length_map, List.length_append, l1, l2]
    have lx1 : (x.1.map bv).length = 32 := by simp [l1]
    have lx2 : (x.2.map bv).length = 32 := by simp [l2]
    refine dr_mk (gd_mk (decide_eq_true (by show (0 : Int) ≤ (i : Int); omega)) (gd_mk (decide_eq_true hlt2) ⟨(x.1 ++ x.2).map bv, lx, by show cellsAt u bl (ol + ((i : Int)).toNat * 64) _; rw [Int.toNat_natCast]; exact hcell i x gi, nw_mk (gd_mk (by rw [lx]; rfl) ?_)⟩))
    have k1 : Fr (fun _ => False) u (u.alloc (.cells Z29.toArray 29)) := Fr.alloc _ _ _
    refine (RecAt.new u Z29 29).st_mk (o := 0) (by rw [lx, hZl]; omega) (bvs_one _) (fun r20 k2 => ?_)
    rw [splice_full (by rw [lx, hZl])] at r20
    have hsz2 : (stB (u.alloc (.cells Z29.toArray 29)) u.heap.size 0 ((x.1 ++ x.2).map bv)).heap.size = u.heap.size + 1 := by rw [stB_size, alloc_size]
    generalize stB (u.alloc (.cells Z29.toArray 29)) u.heap.size 0 ((x.1 ++ x.2).map bv) = u3 at r20 k2 hsz2 ⊢
    have k12 : Fr (fun _ => False) u u3 := k1.trans k2 (fun _ _ h => h) (fun q hq h' => by omega)
    have cx : cellsAt u3 u.heap.size 0 (x.1.map bv ++ x.2.map bv) := by
      rw [← List.map_append]; exact r20.cells (o := 0) (fun q v hq => by simpa using hq)
    have cx1 := cells_left cx
    have cx2 := cells_right cx
    rw [lx1] at cx2
    have hmeas : ((nl : Int) - IntKind.wrap .i64 ((i : Int) + 1)).toNat < ((nl : Int) - (i : Int)).toNat := by rw [ei64 i (by omega)]; omega
    refine ⟨_, lx2, cx2, _, ld, cellsB (hr1.fr k12 (fun h => h)), ⟨_, _, l2, hd, rfl, rfl, vIf_mk (fun heq => ?_) (fun hne => ?_)⟩⟩
    · have heq2 : x.2 = d := by simpa using heq
      rw [if_pos heq2] at hsn
      refine ⟨_, lx1, cx1, gd_mk (by rw [lx1]; rfl) ?_⟩
      refine push_dig (n := (usr d (l.take i)).length) (k12.row hr5 (fun _ _ h => h)) l1 (by omega) (by omega) (fun A' c' w' hr' f' => ?_)
      have hA5 : ∀ k, blkOf A5 = some k → B + 1 ≤ k := fun k hk => (hr5.blt hk).1
      have hl1 : (usr d (l.take i)).length + 1 = (usr d (l.take (i + 1))).length := by rw [hsn]; simp
      rw [hl1, ← hsn] at hr'
      rw [hl1]
      refine jnC_mk (hC _ _ ⟨(hf.trans1 k12).trans f' (fun _ _ h => h) (fun k hk h' => by have := hA5 k h'; omega), (hr1.fr k12 (fun h => h)).fr f' (fun h' => by have := hA5 _ h'; omega), i + 1, A', c', by omega, by rw [ei64 i (by omega)], hr'⟩ hmeas)
    · have hne2 : ¬ x.2 = d := by
        intro he; rw [he] at hne; simp at hne
      rw [if_neg hne2, List.append_nil] at hsn
      refine jnC_mk (hC _ _ ⟨hf.trans1 k12, hr1.fr k12 (fun h => h), i + 1, A5, c5, by omega, by rw [ei64 i (by omega), hsn], by rw [hsn]; exact k12.row hr5 (fun _ _ h => h)⟩ hmeas)
  · have hge2 : ¬ (i : Int) < (nl : Int) := of_decide_eq_false hge
    rw [List.take_of_length_le (by omega)] at hr5
    have hw2 := hwu nl
    rw [List.take_of_length_le (by omega)] at hw2
    have h2 : (usr d (l.take i)).length = (usr d l).length := by rw [List.take_of_length_le (by omega)]
    have h3 := hul i
    show Calls Try.prog 15 #[.slice A5 (usr d (l.take i)).length c5] u _
    rw [h2]
    refine (row_calls A5 (usr d l).length c5 (usr d l) u hr5.sl hw2 (by omega)).mono ?_
    rintro e u2 ⟨f2, A6, c6, r6, rfl, hr6, hw6, ha6, hl6, hm6⟩
    exact ⟨_, _, _, rfl, hf.trans1 f2, A6, c6, r6, rfl, row_low (by omega) hr6, hw6, ha6, by omega, hm6⟩
theorem rusers_calls (d : Dig) (L : Option Addr) (nl cl : Nat) (l : List Lnk) (w : World) (hd : d.length = 32) (hl : Sl w 64 L nl (lks l)) (hwl : WL l) (hnl : nl ≤ 17179869184) :
    Calls Try.prog 11 #[ofL (d.map bv), .slice L nl cl] w fun e w' => Fr (fun _ => False) w w' ∧ ∃ A' c' r', e = .returned (.slice A' r'.length c') ∧ Row w' w.heap.size 27 32 A' r'.length c' (dcs r') ∧ W32 r' ∧ Asc r' ∧ r'.length ≤ nl ∧ ∀ x, x ∈ r' ↔ x ∈ usr d l := by
  refine (F11.of (d.map bv) L nl cl w (Q := fun v w' => Fr (fun _ => False) w w' ∧ ∃ A' c' r', v = .slice A' r'.length c' ∧ Row w' w.heap.size 27 32 A' r'.length c' (dcs r') ∧ W32 r' ∧ Asc r' ∧ r'.length ≤ nl ∧ ∀ x, x ∈ r' ↔ x ∈ usr d l) ?_).mono (fun e w' ⟨v, he, hf, A', c', r', hv, h⟩ => ⟨hf, A', c', r', by rw [he, hv], h⟩)
  have hll := lnk_len hl hwl
  have ld : (d.map bv).length = 32 := by simp [hd]
  refine nw_mk (jnC_mk ?_)
  have f1 : Fr (fun _ => False) w (w.alloc (.cells (d.map bv).toArray 27)) := Fr.alloc _ _ _
  have r1 : RecAt (w.alloc (.cells (d.map bv).toArray 27)) w.heap.size 27 (d.map bv) := RecAt.new w _ _
  generalize w.alloc (.cells (d.map bv).toArray 27) = w1 at f1 r1 ⊢
  generalize hB : w.heap.size = B at *
  refine loop_rule (fun s u => Fr (fun _ => False) w u ∧ RecAt u B 27 (d.map bv) ∧ ∃ (i : Nat) (out : List Dig) (A5 : Option Addr) (c5 : Nat), i ≤ nl ∧ s = ((L, nl, cl), (B, 0), (A5, out.length, c5), (i : Int), ()) ∧ Row u B 27 32 A5 out.length c5 (dcs out) ∧ W32 out ∧ Asc out ∧ out.length ≤ i ∧ ∀ x, x ∈ out ↔ x ∈ usr d (l.take i))
    (fun s _ => (nl - s.2.2.2.1).toNat) ?_ _ _ ⟨f1, r1, 0, [], none, 0, by omega, rfl, Row.nil _ _ _ _, (fun x hx => by cases hx), List.Pairwise.nil, Nat.le_refl _, fun x => by simp [usr]⟩
  rintro s u C ⟨hf, hr1, i, out, A5, c5, hi, rfl, hr5, hw5, ha5, hol, hmem⟩ hC _
  have hus := hf.size
  refine vIf_mk (fun hlt => ?_) (fun hge => ?_)
  · have hlt2 : (i : Int) < (nl : Int) := of_decide_eq_true hlt
    have fd : Fr (fun _ => False) u u.drew := Fr.drew _ _
    have gi : l[i]? = some (l[i]'(by omega)) := List.getElem?_eq_getElem (by omega)
    obtain ⟨l1, l2⟩ := hwl.at gi
    obtain ⟨bl, ol, hL, hcell⟩ := sl_lnk ((hf.trans1 fd).sl hl (fun _ _ _ h => h)) hwl (i := i) (by omega)
    subst hL
    have hsn := usr_snoc (d := d) gi
    generalize l[i]'(by omega) = x at gi l1 l2 hsn
    have lx1 : (x.1.map bv).length = 32 := by simp [l1]
    have lx2 : (x.2.map bv).length = 32 := by simp [l2]
    have cc : cellsAt u.drew bl (ol + ((i : Int)).toNat * 64) (x.1.map bv ++ x.2.map bv) := by rw [Int.toNat_natCast, ← List.map_append]; exact hcell i x gi
    have c1 := cells_left cc
    have c2 := cells_right cc
    rw [lx1] at c2
    have d0 : decide (0 ≤ (i : Int)) = true := decide_eq_true (by omega)
    have hmeas : ((nl : Int) - IntKind.wrap .i64 ((i : Int) + 1)).toNat < ((nl : Int) - (i : Int)).toNat := by rw [ei64 i (by omega)]; omega
    refine dr_mk (gd_mk d0 (gd_mk (decide_eq_true hlt2) ⟨_, lx2, c2, _, ld, cellsB (show RecAt u.drew B _ _ from hr1), ⟨_, _, l2, hd, rfl, rfl, vIf_mk (fun heq => ?_) (fun hne => ?_)⟩⟩))
    · have heq2 : x.2 = d := by simpa using heq
      rw [if_pos heq2] at hsn
      refine dr_mk (gd_mk d0 (gd_mk (decide_eq_true hlt2) ⟨_, lx1, c1, (put_calls A5 out.length c5 out x.1 u.drew ((fd.row hr5 (fun _ _ h => h)).sl) hw5 ha5 l1 (by omega)).mono ?_⟩))
      rintro e u2 ⟨f2, A6, c6, r6, rfl, hr6, hw6, ha6, hl6, hm6⟩
      have fu2 := fd.trans1 f2
      refine ⟨_, _, _, rfl, jnC_mk (hC _ _ ⟨hf.trans1 fu2, hr1.fr fu2 (fun h => h), i + 1, r6, A6, c6, by omega, by rw [ei64 i (by omega)], row_low (by show B ≤ u.heap.size; omega) hr6, hw6, ha6, by omega, fun y => ?_⟩ hmeas)⟩
      rw [hm6, hmem, hsn, List.mem_append, List.mem_singleton]
      exact Or.comm
    · have hne2 : ¬ x.2 = d := by
        intro he; rw [he] at hne; simp at hne
      rw [if_neg hne2, List.append_nil] at hsn
      exact jnC_mk (hC _ _ ⟨hf.trans1 fd, hr1, i + 1, out, A5, c5, by omega, by rw [ei64 i (by omega)], fd.row hr5 (fun _ _ h => h), hw5, ha5, by omega, fun y => by rw [hsn]; exact hmem y⟩ hmeas)
  · have hge2 : ¬ (i : Int) < (nl : Int) := of_decide_eq_false hge
    rw [List.take_of_length_le (by omega)] at hmem
    exact ⟨hf, A5, c5, out, rfl, hr5, hw5, ha5, by omega, hmem⟩
def Closed (met : List Dig) (l : List Lnk) : Prop := ∀ x ∈ l, x.1 ∈ met → x.2 ∈ met
set_option maxHeartbeats 1000000 in
theorem rof_calls (A : Option Addr) (n c : Nat) (r : List Dig) (L : Option Addr) (nl cl : Nat) (l : List Lnk) (w : World) (h : Sl w 32 A n (dcs r)) (hw : W32 r) (hl : Sl w 64 L nl (lks l)) (hwl : WL l) (hn : n ≤ 17179869184) (hnl : nl ≤ 17179869184) :
    Calls Try.prog 12 #[.slice A n c, .slice L nl cl] w fun e w' => Fr (fun _ => False) w w' ∧ ∃ A' c' r', e = .returned (.slice A' r'.length c') ∧ Row w' w.heap.size 27 32 A' r'.length c' (dcs r') ∧ W32 r' ∧ Asc r' ∧ r'.length ≤ n + nl ∧ ∀ d, d ∈ r' ↔ Rch r l d := by
  refine (F12.of A n c L nl cl w (Q := fun v w' => Fr (fun _ => False) w w' ∧ ∃ A' c' r', v = .slice A' r'.length c' ∧ Row w' w.heap.size 27 32 A' r'.length c' (dcs r') ∧ W32 r' ∧ Asc r' ∧ r'.length ≤ n + nl ∧ ∀ d, d ∈ r' ↔ Rch r l d) ?_).mono (fun e w' ⟨v, he, hf, A', c', r', hv, h⟩ => ⟨hf, A', c', r', by rw [he, hv], h⟩)
  have hrl := sl_len h hw
  have hll := lnk_len hl hwl
  refine (rrow_calls A n c r w h hw (by omega)).mono ?_
  rintro e w1 ⟨f1, A1, c1, m1, rfl, hr1, hw1, ha1, hl1, hm1⟩
  refine ⟨_, _, _, rfl, jnC_mk ?_⟩
  refine loop_rule (fun s u => Fr (fun _ => False) w u ∧ ∃ (t : Nat) (met : List Dig) (A5 : Option Addr) (c5 : Nat), t ≤ nl + 1 ∧ s = ((L, nl, cl), (A5, met.length, c5), (t : Int), ()) ∧ Row u w.heap.size 27 32 A5 met.length c5 (dcs met) ∧ W32 met ∧ Asc met ∧
      met.length + newL met l ≤ n + nl ∧ (∀ d ∈ met, Rch r l d) ∧ (∀ d ∈ r, d ∈ met) ∧ (Closed met l ∨ newL met l + t ≤ nl))
    (fun s _ => (nl + 1 - s.2.2.1).toNat) ?_ _ _ ⟨f1, 0, m1, A1, c1, by omega, rfl, hr1, hw1, ha1, by have := newL_le m1 l; omega, fun d hd => .root ((hm1 d).1 hd), fun d hd => (hm1 d).2 hd, .inr (by have := newL_le m1 l; omega)⟩
  rintro s u C3 ⟨hf, t, met0, A5, c5, ht, rfl, hr5, hw5, ha5, hb5, hmR, hrm, hcl⟩ hC3 _
  refine vIf_mk (fun hle => jnC_mk ?_) (fun hgt => ?_)
  · have hle2 : (t : Int) ≤ (nl : Int) := of_decide_eq_true hle
    refine loop_rule (fun s u => Fr (fun _ => False) w u ∧ ∃ (j : Nat) (met : List Dig) (A5 : Option Addr) (c5 : Nat), j ≤ nl ∧ s = ((L, nl, cl), (A5, met.length, c5), (t : Int), (j : Int), ()) ∧ Row u w.heap.size 27 32 A5 met.length c5 (dcs met) ∧ W32 met ∧ Asc met ∧
        met.length + newL met l ≤ n + nl ∧ (∀ d ∈ met, Rch r l d) ∧ (∀ d ∈ r, d ∈ met) ∧ ((newL met l + 1 ≤ newL met0 l ∧ newL met0 l + t ≤ nl) ∨ (met = met0 ∧ ∀ (q : Nat) (x : Lnk), q < j → l[q]? = some x → x.1 ∈ met → x.2 ∈ met)))
      (fun s _ => (nl - s.2.2.2.1).toNat) ?_ _ _ ⟨hf, 0, met0, A5, c5, by omega, rfl, hr5, hw5, ha5, hb5, hmR, hrm, .inr ⟨rfl, fun q x hq => by omega⟩⟩
    clear hf hr5
    rintro s u C6 ⟨hf, j, met, A5, c5, hj, rfl, hr5, hw5, ha5, hb5, hmR, hrm, hst⟩ hC6 _
    have hus := hf.size
    refine vIf_mk (fun hlt => ?_) (fun hge => ?_)
    · have hlt2 : (j : Int) < (nl : Int) := of_decide_eq_true hlt
      have gj : l[j]? = some (l[j]'(by omega)) := List.getElem?_eq_getElem (by omega)
      obtain ⟨l1, l2⟩ := hwl.at gj
      obtain ⟨bl, ol, hL, hcell⟩ := sl_lnk (hf.sl hl (fun _ _ _ h => h)) hwl (i := j) (by omega)
      subst hL
      generalize l[j]'(by omega) = x at gj l1 l2
      have hxl : x ∈ l := List.mem_of_getElem? gj
      have lx1 : (x.1.map bv).length = 32 := by simp [l1]
      have lx2 : (x.2.map bv).length = 32 := by simp [l2]
      have cc : ∀ {v : World}, Fr (fun _ => False) u v → cellsAt v bl (ol + ((j : Int)).toNat * 64) (x.1.map bv ++ x.2.map bv) := fun fv => by rw [Int.toNat_natCast, ← List.map_append]; exact fv.cells (hcell j x gj) (fun h => h)
      have d0 : decide (0 ≤ (j : Int)) = true := decide_eq_true (by omega)
      have hmeas : ((nl : Int) - IntKind.wrap .i64 ((j : Int) + 1)).toNat < ((nl : Int) - (j : Int)).toNat := by rw [ei64 j (by omega)]; omega
      refine dr_mk (gd_mk d0 (gd_mk (decide_eq_true hlt2) ⟨_, lx1, cells_left (cc (Fr.refl _ _)), (rhas_calls A5 met.length c5 met x.1 u hr5.sl hw5 l1 (by omega)).mono ?_⟩))
      rintro e u2 ⟨rfl, f2⟩
      refine ⟨_, rfl, vIf_mk (fun hin => ?_) (fun hout => ?_)⟩
      · have hin : x.1 ∈ met := of_decide_eq_true hin
        have c2 := cells_right (cc f2)
        rw [lx1] at c2
        refine dr_mk (gd_mk d0 (gd_mk (decide_eq_true hlt2) ⟨_, lx2, c2, (put_calls A5 met.length c5 met x.2 u2 ((f2.row hr5 (fun _ _ h => h)).sl) hw5 ha5 l2 (by omega)).mono ?_⟩))
        rintro e u3 ⟨f3, A6, c6, m6, rfl, hr6, hw6, ha6, hl6, hm6⟩
        have hu2 := f2.size
        have hsub : ∀ d ∈ met, d ∈ m6 := fun d hd => (hm6 d).2 (.inr hd)
        have hx6 : x.2 ∈ m6 := (hm6 x.2).2 (.inl rfl)
        refine ⟨_, _, _, rfl, ?_⟩
        by_cases hx2 : x.2 ∈ met
        · have hm : m6 = met := ha6.unique ha5 (fun d => by
            rw [hm6]
            exact ⟨fun h' => h'.elim (fun e => e ▸ hx2) (fun h => h), fun h => .inr h⟩)
          subst hm
          refine jnC_mk (hC6 _ _ ⟨(hf.trans1 f2).trans1 f3, j + 1, m6, A6, c6, by omega, by rw [ei64 j (by omega)], row_low (by omega) hr6, hw6, ha6, hb5, hmR, hrm, ?_⟩ hmeas)
          rcases hst with h' | ⟨h1, h2⟩
          · exact .inl h'
          · refine .inr ⟨h1, fun q y hq hy => ?_⟩
            by_cases hqj : q = j
            · subst hqj; rw [gj] at hy; injection hy with hy; subst hy; exact fun _ => hx2
            · exact h2 q y (by omega) hy
        · have hlt3 := newL_lt hsub hxl hx2 hx6
          refine jnC_mk (hC6 _ _ ⟨(hf.trans1 f2).trans1 f3, j + 1, m6, A6, c6, by omega, by rw [ei64 j (by omega)], row_low (by omega) hr6, hw6, ha6, by omega, fun d hd => ?_, fun d hd => hsub d (hrm d hd), .inl ?_⟩ hmeas)
          · rcases (hm6 d).1 hd with rfl | hd
            · exact .link (hmR _ hin) hxl
            · exact hmR d hd
          · rcases hst with ⟨h1, h2⟩ | ⟨h1, h2⟩
            · exact ⟨by omega, h2⟩
            · subst h1
              refine ⟨hlt3, ?_⟩
              rcases hcl with h' | h'
              · exact absurd (h' x hxl hin) hx2
              · exact h'
      · have hout : x.1 ∉ met := of_decide_eq_false hout
        refine jnC_mk (hC6 _ _ ⟨hf.trans1 f2, j + 1, met, A5, c5, by omega, by rw [ei64 j (by omega)], f2.row hr5 (fun _ _ h => h), hw5, ha5, hb5, hmR, hrm, ?_⟩ hmeas)
        rcases hst with h' | ⟨h1, h2⟩
        · exact .inl h'
        · refine .inr ⟨h1, fun q y hq hy => ?_⟩
          by_cases hqj : q = j
          · subst hqj; rw [gj] at hy; injection hy with hy; subst hy; exact fun h' => absurd h' hout
          · exact h2 q y (by omega) hy
    · have hge2 : ¬ (j : Int) < (nl : Int) := of_decide_eq_false hge
      refine jnC_mk (hC3 _ _ ⟨hf, t + 1, met, A5, c5, by omega, ?_, hr5, hw5, ha5, hb5, hmR, hrm, ?_⟩ ?_)
      · show (_, _, IntKind.wrap .i64 ((t : Int) + 1), ()) = _
        rw [ei64 t (by omega)]
      · rcases hst with ⟨h1, h2⟩ | ⟨h1, h2⟩
        · exact .inr (by omega)
        · refine .inl (fun x hx hx1 => ?_)
          obtain ⟨q, hq, hqx⟩ := List.mem_iff_getElem.1 hx
          exact h2 q x (by omega) (by rw [List.getElem?_eq_getElem hq, hqx]) hx1
      · show ((nl : Int) + 1 - IntKind.wrap .i64 ((t : Int) + 1)).toNat < ((nl : Int) + 1 - (t : Int)).toNat
        rw [ei64 t (by omega)]; omega
  · have hgt2 : ¬ (t : Int) ≤ (nl : Int) := of_decide_eq_false hgt
    have hcl2 : Closed met0 l := by
      rcases hcl with h' | h'
      · exact h'
      · omega
    refine ⟨hf, A5, c5, met0, rfl, hr5, hw5, ha5, by omega, fun d => ⟨hmR d, fun hd => ?_⟩⟩
    exact hd.least (p := fun d => d ∈ met0) hrm (fun a b hab ha => hcl2 (a, b) hab ha)
end Go.Proofs.Ytbifohpdlknjiaa
