/- chapter 18: the document's table -/
import Derived.Test.YtbcbpgfjmcmclaaHF
import Derived.Test.YtbcbpgfjmcmclaaLDRowJ
import Derived.Test.YtbcbpgfjmcmclaaLDRefB
namespace Go.Proofs.Ytbcbpgfjmcmclaa
open Go.GV Go.RowKit Go.Slots Go.Lib
set_option linter.unusedVariables false
set_option linter.unusedSimpArgs false
abbrev Pr := Key × Int
def prC (x : Pr) : List Value := x.1.map bv ++ [.int .i64 x.2]
def prs (l : List Pr) : List Value := (l.map prC).flatten
def WP (l : List Pr) : Prop := ∀ x ∈ l, x.1.length = 32
theorem WP.at {l : List Pr} (h : WP l) {i : Nat} {x : Pr} (hi : l[i]? = some x) : x.1.length = 32 := h x (List.mem_of_getElem? hi)
theorem prC_len {x : Pr} (h : x.1.length = 32) : (prC x).length = 33 := by simp [prC, h]
theorem prs_flat {l : List Pr} (h : WP l) : (prs l).length = l.length * 33 ∧ ∀ (i : Nat) (x : Pr) (j : Nat), l[i]? = some x → j < 33 → (prs l)[i * 33 + j]? = (prC x)[j]? := by
  obtain ⟨h1, h2⟩ := flatten_get (vss := l.map prC) (k := 33) (fun i v hv => by
    rw [List.getElem?_map] at hv
    cases hr : l[i]? with
    | none => rw [hr] at hv; cases hv
    | some d => rw [hr] at hv; injection hv with hv; subst hv; exact prC_len (h.at hr))
  refine ⟨by unfold prs; rw [h1, List.length_map], fun i d j hi hj => ?_⟩
  exact h2 i _ j (by rw [List.getElem?_map, hi]; rfl) hj
theorem sl_pr {w : World} {A : Option Addr} {n : Nat} {l : List Pr} (hs : Sl w 33 A n (prs l)) (hw : WP l) {i : Nat} (hi : i < n) : ∃ b o, A = some ⟨b, o, none⟩ ∧ ∀ j x, l[j]? = some x → cellsAt w b (o + j * 33) (prC x) := by
  obtain ⟨b, o, hA, hc⟩ := hs.2 (by omega)
  refine ⟨b, o, hA, fun j x hj q v hq => ?_⟩
  have hql := (List.getElem?_eq_some_iff.1 hq).1
  rw [prC_len (hw.at hj)] at hql
  rw [Nat.add_assoc]
  exact hc _ v (((prs_flat hw).2 j x q hj hql).trans hq)
theorem pr_len {w : World} {A : Option Addr} {n : Nat} {l : List Pr} (hs : Sl w 33 A n (prs l)) (hw : WP l) : l.length = n := by
  have := hs.1
  rw [(prs_flat hw).1] at this
  omega
theorem prs_append (a b : List Pr) : prs (a ++ b) = prs a ++ prs b := by simp [prs]
theorem prs_single (x : Pr) : prs [x] = prC x := by simp [prs]
theorem prC_one (x : Pr) : ∀ v ∈ prC x, v.oneCell' = true := by
  intro v hv
  rcases List.mem_append.1 hv with h | h
  · exact bvs_one x.1 v h
  · simp only [List.mem_singleton] at h; subst h; rfl
theorem cells_left {w : World} {b o : Nat} {x y : List Value} (h : cellsAt w b o (x ++ y)) : cellsAt w b o x := fun j v hj => h j v (by rw [List.getElem?_append_left (List.getElem?_eq_some_iff.1 hj).1]; exact hj)
theorem cells_right {w : World} {b o : Nat} {x y : List Value} (h : cellsAt w b o (x ++ y)) : cellsAt w b (o + x.length) y := fun j v hj => by
  rw [Nat.add_assoc]
  exact h _ v (by rw [List.getElem?_append_right (by omega), Nat.add_sub_cancel_left]; exact hj)
theorem pr_key {w : World} {b o : Nat} {x : Pr} (h : cellsAt w b o (prC x)) : cellsAt w b o (x.1.map bv) := cells_left h
theorem pr_val {w : World} {b o : Nat} {x : Pr} (hx : x.1.length = 32) (h : cellsAt w b o (prC x)) : cellAt w b (o + 32) = some (.int .i64 x.2) := by
  have := cells_right h 0 _ rfl
  rwa [List.length_map, hx, Nat.add_zero] at this
theorem push_pr {w : World} {B : Nat} {A : Option Addr} {n c : Nat} {out : List Pr} {x : Pr} {K : Option Addr → Nat → Nat → World → Prop} (hr : Row w B 45 33 A n c (prs out)) (hd : x.1.length = 32) (hB : B ≤ w.heap.size) (hn : n ≤ 1099511627776) {b : Nat} (hb : RecAt w b 45 (prC x))
    (hK : ∀ A' c' w', Row w' B 45 33 A' (n + 1) c' (prs (out ++ [x])) → Fr (fun k => blkOf A = some k) w w' → K A' (n + 1) c' w') : app w 33 40 Z45 45 A n c (.slice (some ⟨b, 0, none⟩) 1 1) K := by
  have hs : srcOf w 33 (.slice (some ⟨b, 0, none⟩) 1 1) 1 (prC x) := Sl.src (n := 1) ⟨by rw [prC_len hd], fun _ => ⟨b, 0, rfl, hb.cells (fun j v hj => by simpa using hj)⟩⟩
  exact app_row hr hs (prC_one x) (by decide +kernel) (by omega) (by omega) hB (fun A' c' w' hr' f' => hK A' c' w' (by rw [prs_append, prs_single]; exact hr') f')
/-! ### plainly -/
def lk : List Pr → Key → Option Int
  | [], _ => none
  | x :: l, k => if x.1 = k then some x.2 else lk l k
def cutL (l : List Pr) (k : Key) : List Pr := l.filter (fun x => !decide (x.1 = k))
theorem cutL_snoc {l : List Pr} {k : Key} {i : Nat} {x : Pr} (h : l[i]? = some x) : cutL (l.take (i + 1)) k = cutL (l.take i) k ++ (if x.1 = k then [] else [x]) := by
  rw [List.take_add_one, h, Option.toList_some]
  unfold cutL
  rw [List.filter_append]
  congr 1
  by_cases hd : x.1 = k
  · rw [if_pos hd]; simp [hd]
  · rw [if_neg hd]; simp [hd]
theorem cutL_len (l : List Pr) (k : Key) : (cutL l k).length ≤ l.length := List.length_filter_le _ _
theorem cutL_mem {l : List Pr} {k : Key} {x : Pr} : x ∈ cutL l k ↔ x ∈ l ∧ x.1 ≠ k := by simp [cutL]
theorem cutL_WP {l : List Pr} {k : Key} (h : WP l) : WP (cutL l k) := fun x hx => h x (cutL_mem.1 hx).1
/-! ### Get -/
theorem rget_calls (A : Option Addr) (n c : Nat) (l : List Pr) (sl : Int) (k : Key) (w : World) (h : Sl w 33 A n (prs l)) (hw : WP l) (hk : k.length = 32) (hn : n ≤ 17179869184) :
    Calls Try.prog 15 #[ofL [.slice A n c, .int .i64 sl], ofL (k.map bv)] w fun e w' => Fr (fun _ => False) w w' ∧ e = .returned (.tuple #[.int .i64 ((lk l k).getD 0), .bool (lk l k).isSome]) := by
  refine (F15.of [.slice A n c, .int .i64 sl] (k.map bv) w (Q := fun v w' => Fr (fun _ => False) w w' ∧ v = .tuple #[.int .i64 ((lk l k).getD 0), .bool (lk l k).isSome]) ?_).mono (fun e w' ⟨v, he, hf, hv⟩ => ⟨hf, by rw [he, hv]⟩)
  have hrl := pr_len h hw
  have lkk : (k.map bv).length = 32 := by simp [hk]
  refine nw_mk (nw_mk (jnC_mk ?_))
  have f1 : Fr (fun _ => False) w (w.alloc (.cells [Value.slice A n c, Value.int .i64 sl].toArray 37)) := Fr.alloc _ _ _
  have r1 : RecAt (w.alloc (.cells [Value.slice A n c, Value.int .i64 sl].toArray 37)) w.heap.size 37 [Value.slice A n c, Value.int .i64 sl] := RecAt.new w _ _
  generalize w.alloc (.cells [Value.slice A n c, Value.int .i64 sl].toArray 37) = w1 at f1 r1 ⊢
  have f2 : Fr (fun _ => False) w1 (w1.alloc (.cells (k.map bv).toArray 28)) := Fr.alloc _ _ _
  have r2 : RecAt (w1.alloc (.cells (k.map bv).toArray 28)) w1.heap.size 28 (k.map bv) := RecAt.new w1 _ _
  generalize w1.alloc (.cells (k.map bv).toArray 28) = w2 at f2 r2 ⊢
  generalize w.heap.size = b1 at r1 ⊢
  generalize w1.heap.size = b2 at r2 ⊢
  refine loop_rule (fun s u => Fr (fun _ => False) w u ∧ RecAt u b1 37 [Value.slice A n c, Value.int .i64 sl] ∧ RecAt u b2 28 (k.map bv) ∧ ∃ i : Nat, i ≤ n ∧ s = ((b1, 0), (b2, 0), (i : Int), ()) ∧ lk (l.drop i) k = lk l k)
    (fun s _ => (n - s.2.2.1).toNat) ?_ _ _ ⟨f1.trans1 f2, r1.fr f2 (fun h => h), r2, 0, by omega, rfl, rfl⟩
  rintro s u C ⟨hf, hr1, hr2, i, hi, rfl, hl⟩ hC _
  refine ⟨A, n, c, hr1.cell rfl, vIf_mk (fun hlt => ?_) (fun hge => ?_)⟩
  · have hlt2 : (i : Int) < (n : Int) := of_decide_eq_true hlt
    have gi : l[i]? = some (l[i]'(by omega)) := List.getElem?_eq_getElem (by omega)
    have hdr : l.drop i = l[i]'(by omega) :: l.drop (i + 1) := List.drop_eq_getElem_cons (by omega)
    have li := hw.at gi
    have fd : Fr (fun _ => False) u u.drew := Fr.drew _ _
    obtain ⟨b, o, hA, hcell⟩ := sl_pr ((hf.trans1 fd).sl h (fun _ _ _ h => h)) hw (i := i) (by omega)
    subst hA
    generalize l[i]'(by omega) = x at gi li hdr
    rw [hdr] at hl
    have lx : (x.1.map bv).length = 32 := by simp [li]
    have ci : cellsAt u.drew b (o + ((i : Int)).toNat * 33) (prC x) := by rw [Int.toNat_natCast]; exact hcell i x gi
    have d0 : decide (0 ≤ (i : Int)) = true := decide_eq_true (by omega)
    refine ⟨_, _, _, hr1.cell rfl, dr_mk (gd_mk d0 (gd_mk (decide_eq_true hlt2) ⟨_, lx, pr_key ci, _, lkk, cellsB (show RecAt u.drew b2 _ _ from hr2), ⟨_, _, li, hk, rfl, rfl, vIf_mk (fun heq => ?_) (fun hne => ?_)⟩⟩))⟩
    · have heq2 : x.1 = k := by simpa using heq
      simp only [lk] at hl
      rw [if_pos heq2] at hl
      refine ⟨_, _, _, hr1.cell rfl, dr_mk (gd_mk d0 (gd_mk (decide_eq_true hlt2) ⟨_, pr_val li ci, hf.trans1 fd, ?_⟩))⟩
      rw [← hl]; rfl
    · have hne2 : ¬ x.1 = k := by
        intro he; rw [he] at hne; simp at hne
      simp only [lk] at hl
      rw [if_neg hne2] at hl
      refine jnC_mk (hC _ _ ⟨hf.trans1 fd, hr1, hr2, i + 1, by omega, ?_, hl⟩ ?_)
      · show (_, _, IntKind.wrap .i64 ((i : Int) + 1), ()) = _
        rw [i64_id (by omega) (by omega)]; rfl
      · show ((n : Int) - IntKind.wrap .i64 ((i : Int) + 1)).toNat < ((n : Int) - (i : Int)).toNat
        rw [i64_id (by omega) (by omega)]; omega
  · have hge2 : ¬ (i : Int) < (n : Int) := of_decide_eq_false hge
    rw [List.drop_of_length_le (by omega)] at hl
    refine ⟨hf, ?_⟩
    rw [← hl]; rfl
end Go.Proofs.Ytbcbpgfjmcmclaa
