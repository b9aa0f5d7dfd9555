/- files' names: words, File (from chapter 08) -/
import Derived.Test.YtfhimpkpfelilaaDoorLNumP
import Derived.Test.YtfhimpkpfelilaaDoorLNamS
namespace Go.Proofs.YtfhimpkpfelilaaDoor
open Go.GV Go.RowKit Go.Lib
set_option linter.unusedVariables false
set_option linter.unusedSimpArgs false
def bs (l : List UInt8) : ByteArray := ⟨l.toArray⟩
theorem bs_size (l : List UInt8) : (bs l).size = l.length := by simp [bs, ByteArray.size]
theorem bs_list (l : List UInt8) : (bs l).data.toList = l := by simp [bs]
theorem bs_self (s : ByteArray) : bs s.data.toList = s := by
  obtain ⟨⟨l⟩⟩ := s
  rfl
theorem bs_app (a b : List UInt8) : bs a ++ bs b = bs (a ++ b) := by
  apply ByteArray.ext
  simp [bs, ByteArray.data_append]
theorem bs_toList (l : List UInt8) : (bs l).toList = l := by rw [ByteArray.toList_eq, bs_list]
theorem eq_iff (a b : List UInt8) : ((bs a).toList == (bs b).toList) = decide (a = b) := by
  rw [bs_toList, bs_toList]
  by_cases h : a = b
  · subst h; simp
  · rw [decide_eq_false h]; simpa using h
/-! ### the variables that are read -/
structure VK (w : World) : Prop where
  tab : Lib.TabIs Tryd.prog w "internal/strconv.uint64pow10" .u64 Lib.pow10Tab
  err : ∃ tp p, w.var? Tryd.prog "strconv.ErrSyntax" = some #[.iface tp p]
theorem var_fr {w w' : World} {n : String} {cs : Array Value} (f : Fr (fun _ => False) w w') (h : w.var? Tryd.prog n = some cs) : w'.var? Tryd.prog n = some cs := by
  unfold World.var? at h ⊢
  cases hg : Tryd.prog.globalNamed n with
  | none => rw [hg] at h; cases h
  | some g =>
    simp only [hg, Option.bind_some] at h ⊢
    have hlt : g < w.heap.size := by
      rcases Nat.lt_or_ge g w.heap.size with h' | h'
      · exact h'
      · rw [Array.getElem?_eq_none h'] at h; cases h
    rw [f.block g hlt (fun h => h)]
    exact h
theorem VK.fr {w w' : World} (h : VK w) (f : Fr (fun _ => False) w w') : VK w' := by
  obtain ⟨h1, tp, p, h2⟩ := h
  exact ⟨var_fr f h1, tp, p, var_fr f h2⟩
theorem below_fr {w w' : World} (h : Below w.heap.size w w') : Fr (fun _ => False) w w' := Fr.of_below h (fun k hk hB => by omega)
theorem grow_fr (w : World) (k : Nat) (os : Array Obj) : Fr (fun _ => False) w (Go.Sort.grow (w.drewN k) os) := by
  refine ⟨rfl, rfl, rfl, ?_, fun j hj _ => ?_⟩
  · show w.heap.size ≤ (w.heap ++ os).size
    rw [Array.size_append]; omega
  · show (w.heap ++ os)[j]? = w.heap[j]?
    rw [Array.getElem?_append_left hj]
/-! ### word, words -/
theorem fourC (k : Int) (h1 : 1 ≤ k) (h3 : k ≤ 3) : ([Value.string (⟨#[]⟩ : ByteArray), .string ⟨#[115, 101, 103, 45]⟩, .string ⟨#[104, 105, 110, 116, 45]⟩, .string ⟨#[112, 111, 105, 110, 116, 45]⟩] : List Value)[k.toNat]? = some (.string (bs (wl k))) := by
  rcases kinds h1 h3 with rfl | rfl | rfl <;> rfl
theorem wl_nil {k : Int} (h : ¬ (1 ≤ k ∧ k ≤ 3)) : wl k = [] := by
  unfold wl
  rw [if_neg (by omega), if_neg (by omega), if_neg (by omega)]
theorem word_calls (k : Int) (w : World) : Calls Tryd.prog 24 #[.int .i64 k] w fun e w' => e = .returned (.string (bs (wl k))) ∧ Fr (fun _ => False) w w' := by
  refine (F24.of k w (Q := fun v w' => v = .string (bs (wl k)) ∧ Fr (fun _ => False) w w') ?_).mono (fun e w' ⟨v, he, hv, h⟩ => ⟨by rw [he, hv], h⟩)
  refine nw_mk (gd_mk rfl ?_)
  have f1 : Fr (fun _ => False) w (w.alloc (.cells Z61.toArray 61)) := Fr.alloc _ _ _
  refine (RecAt.new w Z61 61).st_mk (o := 0) (vs := [Value.string (⟨#[]⟩ : ByteArray), .string ⟨#[115, 101, 103, 45]⟩, .string ⟨#[104, 105, 110, 116, 45]⟩, .string ⟨#[112, 111, 105, 110, 116, 45]⟩]) (Nat.le_refl 4) (by
    intro x hx
    simp only [List.mem_cons, List.not_mem_nil, or_false] at hx
    rcases hx with rfl | rfl | rfl | rfl <;> rfl) (fun r f2 => ?_)
  rw [splice_full (c := Z61) (vs := [Value.string (⟨#[]⟩ : ByteArray), .string ⟨#[115, 101, 103, 45]⟩, .string ⟨#[104, 105, 110, 116, 45]⟩, .string ⟨#[112, 111, 105, 110, 116, 45]⟩]) rfl] at r
  have f : Fr (fun _ => False) w (stB (w.alloc (.cells Z61.toArray 61)) w.heap.size 0 [Value.string (⟨#[]⟩ : ByteArray), .string ⟨#[115, 101, 103, 45]⟩, .string ⟨#[104, 105, 110, 116, 45]⟩, .string ⟨#[112, 111, 105, 110, 116, 45]⟩]) := f1.trans f2 (fun _ _ h => h) (fun j hj h => by omega)
  refine vIf_mk (fun h0 => ?_) (fun h0 => vIf_mk (fun h4 => ?_) (fun h4 => jnC_mk (fun _ => ?_)))
  · have h0 : k ≤ 0 := of_decide_eq_true h0
    rw [wl_nil (by omega)]
    exact ⟨rfl, f⟩
  · have h4 : k ≥ 4 := of_decide_eq_true h4
    rw [wl_nil (by omega)]
    exact ⟨rfl, f⟩
  · have h0 : ¬ k ≤ 0 := of_decide_eq_false h0
    have h4 : ¬ k ≥ 4 := of_decide_eq_false h4
    refine gd_mk (decide_eq_true (by show (0 : Int) ≤ k; omega)) (gd_mk (decide_eq_true (by show k < 4; omega)) ⟨_, r.cell (by rw [show 0 + k.toNat * 1 = k.toNat by omega]; exact fourC k (by omega) (by omega)), rfl, f⟩)
/-! ### File -/
set_option maxHeartbeats 1000000 in
theorem file_calls (k n : Int) (w : World) (hv : VK w) : Calls Tryd.prog 14 #[.int .i64 k, .int .i64 n] w fun e w' => e = .returned (.string (bs (fileL k n))) ∧ Fr (fun _ => False) w w' := by
  refine (F14.of k n w (Q := fun v w' => v = .string (bs (fileL k n)) ∧ Fr (fun _ => False) w w') ?_).mono (fun e w' ⟨v, he, hv, h⟩ => ⟨by rw [he, hv], h⟩)
  refine (word_calls k w).mono ?_
  rintro e u ⟨rfl, f⟩
  refine ⟨_, rfl, vIf_mk (fun h0 => ?_) (fun h0 => vIf_mk (fun h1 => ?_) (fun h1 => vIf_mk (fun h2 => ?_) (fun h2 => jnC_mk (fun _ => ?_))))⟩
  · rw [nil_iff, bs_size] at h0
    have h0 := of_decide_eq_true h0
    rw [fileL_nil (fun h => by
      obtain ⟨a, b, _, _⟩ := h
      rcases kinds a b with rfl | rfl | rfl <;> simp [wl] at h0)]
    exact ⟨rfl, f⟩
  · have h1 : n < 1 := of_decide_eq_true h1
    rw [fileL_nil (fun h => by have := h.2.2.1; omega)]
    exact ⟨rfl, f⟩
  · have h2 : n > 99999999 := of_decide_eq_true h2
    rw [fileL_nil (fun h => by have := h.2.2.2; omega)]
    exact ⟨rfl, f⟩
  · rw [nil_iff, bs_size] at h0
    have h0 := of_decide_eq_false h0
    have h1 : ¬ n < 1 := of_decide_eq_false h1
    have h2 : ¬ n > 99999999 := of_decide_eq_false h2
    have hk : 1 ≤ k ∧ k ≤ 3 := by
      by_cases h : 1 ≤ k ∧ k ≤ 3
      · exact h
      · rw [wl_nil h] at h0; exact absurd rfl h0
    have hg : good k n := ⟨hk.1, hk.2, by omega, by omega⟩
    have hit : Lib.itoa n = decDigits n.toNat := by unfold Lib.itoa; rw [if_neg (by omega)]
    obtain ⟨p1, p2⟩ := pad_digs 7 n.toNat (by omega)
    refine (Tryd.strconv_Itoa n (by omega) (by omega) u (hv.fr f).tab).mono ?_
    rintro e u2 ⟨rfl, q, os, rfl⟩
    have f2 := f.trans1 (grow_fr u q os)
    rw [hit]
    have hsz : (bs (decDigits n.toNat)).size = (decDigits n.toNat).length := bs_size _
    refine ⟨bs (decDigits n.toNat), rfl, ?_⟩
    have hw : IntKind.wrap .i64 (8 - ((bs (decDigits n.toNat)).size : Int)) = ((8 - (decDigits n.toNat).length : Nat) : Int) := by rw [hsz, i64_id (by omega) (by omega)]; omega
    dsimp only
    rw [hw]
    refine (Tryd.strings_Repeat ⟨#[48]⟩ (8 - (decDigits n.toNat).length) _ (by omega) (by show 1 * _ ≤ _; omega)).mono ?_
    rintro e u3 ⟨rfl, hb⟩
    have f3 := f2.trans1 (below_fr hb)
    refine ⟨bs (repeatL [48] (8 - (decDigits n.toNat).length)), rfl, ?_⟩
    have hwl : (wl k).length ≤ 6 := by rcases kinds hk.1 hk.2 with rfl | rfl | rfl <;> simp [wl]
    have hrl : (repeatL [48] (8 - (decDigits n.toNat).length)).length ≤ 8 := by rw [repeatL_length]; simp
    refine gd_mk (decide_eq_true (by rw [bs_size, bs_size]; omega)) (gd_mk (decide_eq_true (by rw [bs_app, bs_size, bs_size, List.length_append]; omega)) ⟨?_, f3⟩)
    rw [bs_app, bs_app, fileL_good hg, List.append_assoc, p2]
end Go.Proofs.YtfhimpkpfelilaaDoor
