/- rows of texts; are texts the same (beside rows of ints) -/
import Derived.Test.YtfhimpkpfelilaaDoorLInt0
import Derived.Test.YtfhimpkpfelilaaDoorG8
namespace Go.Proofs.YtfhimpkpfelilaaDoor
open Go.GV Go.RowKit Go.Lib
set_option linter.unusedVariables false
set_option linter.unusedSimpArgs false
/-! ### rows of texts -/
def svs (l : List ByteArray) : List Value := l.map Value.string
theorem svs_len (l : List ByteArray) : (svs l).length = l.length := by simp [svs]
theorem svs_app (a b : List ByteArray) : svs (a ++ b) = svs a ++ svs b := by simp [svs]
theorem svs_one (l : List ByteArray) : ∀ v ∈ svs l, v.oneCell' = true := by
  intro v hv
  simp only [svs, List.mem_map] at hv
  obtain ⟨x, _, rfl⟩ := hv
  rfl
theorem svs_at {l : List ByteArray} {i : Nat} {x : ByteArray} (h : l[i]? = some x) : (svs l)[i]? = some (.string x) := by simp [svs, h]
theorem ss_n {w : World} {A : Option Addr} {n : Nat} {l : List ByteArray} (h : Sl w 1 A n (svs l)) : l.length = n := by
  have := h.1
  rw [svs_len] at this
  omega
theorem ss_rd {w : World} {A : Option Addr} {n : Nat} {l : List ByteArray} (h : Sl w 1 A n (svs l)) {i : Nat} (hi : i < n) {x : ByteArray} (hx : l[i]? = some x) {K : ByteArray → Prop} (hK : K x) :
    dr A fun b o => gd (decide (0 ≤ (i : Int))) (gd (decide ((i : Int) < ((n : Nat) : Int))) (ldS w b (o + ((i : Int)).toNat * 1) K)) := by
  obtain ⟨b, o, rfl, hc⟩ := h.2 (by omega)
  refine dr_mk (gd_mk (decide_eq_true (by omega)) (gd_mk (decide_eq_true (by omega)) ⟨x, ?_, hK⟩))
  rw [Int.toNat_natCast, Nat.mul_one]
  exact hc i _ (svs_at hx)
theorem push_s {w : World} {B : Nat} {A : Option Addr} {n c : Nat} {out : List ByteArray} {x : ByteArray} {K : Option Addr → Nat → Nat → World → Prop} (hr : Row w B 9 1 A n c (svs out)) (hB : B ≤ w.heap.size) (hn : n ≤ 1099511627776)
    (hK : ∀ A' c' w', Row w' B 9 1 A' (n + 1) c' (svs (out ++ [x])) → Fr (fun k => blkOf A = some k) w w' → K A' (n + 1) c' w') : nw w ([Value.string x] ++ []) 9 fun b w' => app w' 1 16 [Value.string (⟨#[]⟩ : ByteArray)] 9 A n c (.slice (some ⟨b, 0, none⟩) 1 1) K := by
  refine nw_mk ?_
  rw [List.append_nil]
  have f1 : Fr (fun _ => False) w (w.alloc (.cells [Value.string x].toArray 9)) := Fr.alloc _ _ _
  have r1 : Row (w.alloc (.cells [Value.string x].toArray 9)) 0 9 1 (some ⟨w.heap.size, 0, none⟩) 1 1 (svs [x]) := Row.new (Nat.zero_le _) rfl
  have hs : (w.alloc (.cells [Value.string x].toArray 9)).heap.size = w.heap.size + 1 := alloc_size _ _
  generalize w.alloc (.cells [Value.string x].toArray 9) = w1 at f1 r1 hs ⊢
  refine app_row (f1.row hr (fun _ _ h => h)) r1.sl.src (svs_one [x]) rfl (by omega) (by omega) (by omega) (fun A' c' w' hr' f' => hK A' c' w' (by rw [svs_app]; exact hr') ?_)
  exact f1.trans f' (fun _ _ h => h.elim) (fun _ _ h => h)
theorem texts_calls (A : Option Addr) (n c : Nat) (A' : Option Addr) (n' c' : Nat) (l : List ByteArray) (w : World) (h : Sl w 1 A n (svs l)) (h' : Sl w 1 A' n' (svs l)) (hn : n ≤ 1000000000) :
    Calls Tryd.prog 16 #[.slice A n c, .slice A' n' c'] w fun r w' => r = .returned (.bool true) ∧ Fr (fun _ => False) w w' := by
  refine (F16.of A n c A' n' c' w (Q := fun v w' => v = .bool true ∧ Fr (fun _ => False) w w') ?_).mono (fun e w' ⟨v, he, hv, h⟩ => ⟨by rw [he, hv], h⟩)
  have hl := ss_n h
  have hl' := ss_n h'
  have : n = n' := by omega
  subst this
  refine vIf_f (by simp) (jnC_mk (loop_rule (fun s u => Fr (fun _ => False) w u ∧ ∃ i : Nat, i ≤ n ∧ s = ((A, n, c), (A', n, c'), (i : Int), ())) (fun s _ => (n - s.2.2.1).toNat) ?_ _ _ ⟨Fr.refl _ _, 0, by omega, rfl⟩))
  rintro s u C ⟨hf, i, hi, rfl⟩ hC _
  refine vIf_mk (fun hlt => ?_) (fun hge => ?_)
  · have hlt2 : (i : Int) < (n : Int) := of_decide_eq_true hlt
    have gi : l[i]? = some (l[i]'(by omega)) := List.getElem?_eq_getElem (by omega)
    generalize l[i]'(by omega) = x at gi
    have fd := hf.trans1 (Fr.drew _ u)
    refine ss_rd (fd.sl h (fun _ _ _ h => h)) (by omega) gi (ss_rd (fd.sl h' (fun _ _ _ h => h)) (by omega) gi (vIf_f (by simp) (jnC_mk (hC _ _ ⟨fd, i + 1, by omega, by rw [ei i (by omega)]⟩ ?_))))
    show ((n : Int) - IntKind.wrap .i64 ((i : Int) + 1)).toNat < ((n : Int) - (i : Int)).toNat
    rw [ei i (by omega)]; omega
  · exact ⟨rfl, hf⟩
end Go.Proofs.YtfhimpkpfelilaaDoor
