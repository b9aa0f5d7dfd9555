/- rows of digests: how they lie; the document Same -/
import Derived.Test.YtklanoocjlpemaaLWdF
import Derived.Test.YtklanoocjlpemaaG11
namespace Go.Proofs.Ytklanoocjlpemaa
open Go.GV Go.RowKit Go.Lib
set_option linter.unusedVariables false
set_option linter.unusedSimpArgs false
theorem eqAB_bytes {n : Nat} {a b : List UInt8} {K : Bool → Prop} (ha : a.length = n) (hb : b.length = n) (hK : K (a == b)) : eqAB n (a.map bv) (b.map bv) K := ⟨a, b, ha, hb, rfl, rfl, hK⟩
abbrev Dig := List UInt8
def dcs (r : List Dig) : List Value := (r.map (fun d => d.map bv)).flatten
def W32 (r : List Dig) : Prop := ∀ d ∈ r, d.length = 32
theorem W32.at {r : List Dig} (h : W32 r) {i : Nat} {d : Dig} (hi : r[i]? = some d) : d.length = 32 := h d (List.mem_of_getElem? hi)
theorem dcs_flat {r : List Dig} (h : W32 r) : (dcs r).length = r.length * 32 ∧ ∀ (i : Nat) (d : Dig) (j : Nat), r[i]? = some d → j < 32 → (dcs r)[i * 32 + j]? = (d.map bv)[j]? := by
  obtain ⟨h1, h2⟩ := flatten_get (vss := r.map (fun d => d.map bv)) (k := 32) (fun i v hv => by
    rw [List.getElem?_map] at hv
    cases hr : r[i]? with
    | none => rw [hr] at hv; cases hv
    | some d => rw [hr] at hv; injection hv with hv; subst hv; rw [List.length_map]; exact h.at hr)
  refine ⟨by unfold dcs; rw [h1, List.length_map], fun i d j hi hj => ?_⟩
  exact h2 i _ j (by rw [List.getElem?_map, hi]; rfl) hj
theorem dcs_len {r : List Dig} (h : W32 r) : (dcs r).length = r.length * 32 := (dcs_flat h).1
theorem dcs_at {r : List Dig} (h : W32 r) {i : Nat} {d : Dig} (hi : r[i]? = some d) (j : Nat) (v : Value) (hv : (d.map bv)[j]? = some v) : (dcs r)[i * 32 + j]? = some v := by
  have hj := (List.getElem?_eq_some_iff.1 hv).1
  rw [List.length_map, h.at hi] at hj
  rw [(dcs_flat h).2 i d j hi hj]; exact hv
theorem dcs_append (a b : List Dig) : dcs (a ++ b) = dcs a ++ dcs b := by simp [dcs]
theorem dcs_one (d : Dig) : dcs [d] = d.map bv := by simp [dcs]
theorem dcs_oneCell (r : List Dig) : ∀ v ∈ dcs r, v.oneCell' = true := by
  intro v hv
  simp only [dcs, List.mem_flatten, List.mem_map] at hv
  obtain ⟨l, ⟨d, _, rfl⟩, hv⟩ := hv
  exact bvs_one d v hv
theorem dcs_take {r : List Dig} (h : W32 r) (k : Nat) : dcs (r.take k) = (dcs r).take (k * 32) := by
  by_cases hk : k ≤ r.length
  · have e : dcs r = dcs (r.take k) ++ dcs (r.drop k) := by rw [← dcs_append, List.take_append_drop]
    have hl : (dcs (r.take k)).length = k * 32 := by rw [dcs_len (fun d hd => h d (List.mem_of_mem_take hd)), List.length_take]; congr 1; omega
    rw [e, List.take_append_of_le_length (by omega), List.take_of_length_le (l := dcs (r.take k)) (by omega)]
  · rw [List.take_of_length_le (by omega), List.take_of_length_le (by rw [dcs_len h]; omega)]
/-- an element of a slice of digests -/
theorem sl_dig {w : World} {A : Option Addr} {n : Nat} {r : List Dig} (hs : Sl w 32 A n (dcs r)) (hw : W32 r) {i : Nat} (hi : i < n) : ∃ b o, A = some ⟨b, o, none⟩ ∧ ∀ j d, r[j]? = some d → cellsAt w b (o + j * 32) (d.map bv) := by
  obtain ⟨b, o, hA, hc⟩ := hs.2 (by omega)
  refine ⟨b, o, hA, fun j d hj q v hq => ?_⟩
  rw [Nat.add_assoc]
  exact hc _ v (dcs_at hw hj q v hq)
theorem sl_len {w : World} {A : Option Addr} {n : Nat} {r : List Dig} (hs : Sl w 32 A n (dcs r)) (hw : W32 r) : r.length = n := by
  have := hs.1
  rw [dcs_len hw] at this
  omega
theorem push_dig {w : World} {B : Nat} {A : Option Addr} {n c : Nat} {out : List Dig} {d : Dig} {K : Option Addr → Nat → Nat → World → Prop} (hr : Row w B 29 32 A n c (dcs out)) (hd : d.length = 32) (hB : B ≤ w.heap.size) (hn : n ≤ 2199023255552)
    (hK : ∀ A' c' w', Row w' B 29 32 A' (n + 1) c' (dcs (out ++ [d])) → Fr (fun k => blkOf A = some k) w w' → K A' (n + 1) c' w') : nw w (d.map bv ++ []) 29 fun b w' => app w' 32 32 Z29 29 A n c (.slice (some ⟨b, 0, none⟩) 1 1) K := by
  refine nw_mk ?_
  rw [List.append_nil]
  have f1 : Fr (fun _ => False) w (w.alloc (.cells (d.map bv).toArray 29)) := Fr.alloc _ _ _
  have r1 : Row (w.alloc (.cells (d.map bv).toArray 29)) 0 29 32 (some ⟨w.heap.size, 0, none⟩) 1 1 (dcs [d]) := by
    rw [dcs_one]; exact Row.new (Nat.zero_le _) (by rw [List.length_map, hd])
  have hs : (w.alloc (.cells (d.map bv).toArray 29)).heap.size = w.heap.size + 1 := alloc_size _ _
  generalize w.alloc (.cells (d.map bv).toArray 29) = w1 at f1 r1 hs ⊢
  have hA : ∀ k, blkOf A = some k → k < w.heap.size := fun k hk => (hr.blt hk).2
  refine app_row (f1.row hr (fun _ _ h => h)) r1.sl.src (dcs_oneCell [d]) (by decide +kernel) (by omega) (by omega) (by omega) (fun A' c' w' hr' f' => hK A' c' w' (by rw [dcs_append]; exact hr') ?_)
  exact f1.trans f' (fun _ _ h => h.elim) (fun _ _ h => h)
theorem same_dig (A : Option Addr) (n c : Nat) (r : List Dig) (A' : Option Addr) (n' c' : Nat) (r' : List Dig) (w : World) (h : Sl w 32 A n (dcs r)) (hw : W32 r) (h' : Sl w 32 A' n' (dcs r')) (hw' : W32 r') (hn : n ≤ 1099511627776) :
    Calls Try.prog 21 #[.slice A n c, .slice A' n' c'] w fun e w' => e = .returned (.bool (decide (r = r'))) ∧ Fr (fun _ => False) w w' := by
  refine (F21.of A n c A' n' c' w (Q := fun v w' => v = .bool (decide (r = r')) ∧ Fr (fun _ => False) w w') ?_).mono (fun e w' ⟨v, he, hv, h⟩ => ⟨by rw [he, hv], h⟩)
  have hl := sl_len h hw
  have hl' := sl_len h' hw'
  refine vIf_mk (fun h0 => ?_) (fun h0 => jnC_mk ?_)
  · have h0 : (n : Int) ≠ n' := by simpa using h0
    refine ⟨?_, Fr.refl _ _⟩
    rw [decide_eq_false]
    intro e; subst e; omega
  have h0 : n = n' := by have : (n : Int) = n' := by simpa using h0
                         omega
  subst h0
  refine loop_rule (fun s u => Fr (fun _ => False) w u ∧ ∃ i : Nat, i ≤ n ∧ s = ((A, n, c), (A', n, c'), (i : Int), ()) ∧ r.take i = r'.take i)
    (fun s _ => (n - s.2.2.1).toNat) ?_ _ _ ⟨Fr.refl _ _, 0, by omega, rfl, by simp⟩
  rintro s u C ⟨hf, i, hi, rfl, ht⟩ hC _
  refine vIf_mk (fun hlt => ?_) (fun hge => ?_)
  · have hlt2 : (i : Int) < (n : Int) := of_decide_eq_true hlt
    have fd : Fr (fun _ => False) u u.drew := Fr.drew _ _
    have gi : r[i]? = some (r[i]'(by omega)) := List.getElem?_eq_getElem (by omega)
    have gi' : r'[i]? = some (r'[i]'(by omega)) := List.getElem?_eq_getElem (by omega)
    have li := hw.at gi
    have li' := hw'.at gi'
    obtain ⟨b, o, hA, hcell⟩ := sl_dig ((hf.trans1 fd).sl h (fun _ _ _ h => h)) hw (i := i) (by omega)
    obtain ⟨b', o', hA', hcell'⟩ := sl_dig ((hf.trans1 fd).sl h' (fun _ _ _ h => h)) hw' (i := i) (by omega)
    subst hA; subst hA'
    have d0 : decide (0 ≤ (i : Int)) = true := decide_eq_true (by omega)
    refine dr_mk (gd_mk d0 (gd_mk (decide_eq_true hlt2) ⟨_, by rw [List.length_map]; exact li, by show cellsAt u.drew b (o + ((i : Int)).toNat * 32) _; rw [Int.toNat_natCast]; exact hcell i _ gi, dr_mk (gd_mk d0 (gd_mk (decide_eq_true hlt2) ⟨_, by rw [List.length_map]; exact li', by show cellsAt u.drew b' (o' + ((i : Int)).toNat * 32) _; rw [Int.toNat_natCast]; exact hcell' i _ gi', ⟨_, _, li, li', rfl, rfl, ?_⟩⟩))⟩))
    refine vIf_mk (fun hne => ⟨?_, hf.trans1 fd⟩) (fun he => jnC_mk (hC _ _ ⟨hf.trans1 fd, i + 1, by omega, ?_, ?_⟩ ?_))
    · rw [decide_eq_false]
      intro e
      subst e
      simp at hne
    · show (_, _, IntKind.wrap .i64 ((i : Int) + 1), ()) = _
      rw [i64_id (by omega) (by omega)]; rfl
    · have he2 : r[i]'(by omega) = r'[i]'(by omega) := by simpa using he
      rw [List.take_add_one, List.take_add_one, ht, gi, gi', he2]
    · show ((n : Int) - IntKind.wrap .i64 ((i : Int) + 1)).toNat < ((n : Int) - (i : Int)).toNat
      rw [i64_id (by omega) (by omega)]; omega
  · have hge2 : ¬ (i : Int) < (n : Int) := of_decide_eq_false hge
    refine ⟨?_, hf⟩
    rw [decide_eq_true]
    rw [← List.take_of_length_le (l := r) (i := i) (by omega), ← List.take_of_length_le (l := r') (i := i) (by omega)]; exact ht
end Go.Proofs.Ytklanoocjlpemaa
