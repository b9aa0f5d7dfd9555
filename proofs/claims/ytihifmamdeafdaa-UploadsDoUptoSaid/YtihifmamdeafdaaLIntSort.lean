/- rows of ints: how they lie; one more; the sort -/
import Derived.Test.YtihifmamdeafdaaV
import Derived.Test.YtihifmamdeafdaaG12
import Derived.Test.YtihifmamdeafdaaLSortI
import Derived.Shelf.Sort.Plain
import Derived.Shelf.Slices.In.SortNone
namespace Go.Proofs.Ytihifmamdeafdaa
open Go.GV Go.RowKit Go.Lib
set_option linter.unusedVariables false
set_option linter.unusedSimpArgs false
def ivs (l : List Int) : List Value := l.map (Value.int .i64)
theorem ivs_len (l : List Int) : (ivs l).length = l.length := by simp [ivs]
theorem ivs_app (a b : List Int) : ivs (a ++ b) = ivs a ++ ivs b := by simp [ivs]
theorem ivs_one (l : List Int) : ∀ v ∈ ivs l, v.oneCell' = true := by
  intro v hv
  simp only [ivs, List.mem_map] at hv
  obtain ⟨x, _, rfl⟩ := hv
  rfl
theorem ivs_at {l : List Int} {i : Nat} {x : Int} (h : l[i]? = some x) : (ivs l)[i]? = some (.int .i64 x) := by simp [ivs, h]
theorem ivs_take (l : List Int) (k : Nat) : (ivs l).take k = ivs (l.take k) := by simp [ivs]
theorem sl_n {w : World} {A : Option Addr} {n : Nat} {l : List Int} (h : Sl w 1 A n (ivs l)) : l.length = n := by
  have := h.1
  rw [ivs_len] at this
  omega
theorem sl_at {w : World} {A : Option Addr} {n : Nat} {l : List Int} (h : Sl w 1 A n (ivs l)) {i : Nat} (hi : i < n) {x : Int} (hx : l[i]? = some x) : ∃ b o, A = some ⟨b, o, none⟩ ∧ ∀ j y, l[j]? = some y → cellAt w b (o + j * 1) = some (.int .i64 y) := by
  obtain ⟨b, o, hA, hc⟩ := h.2 (by omega)
  exact ⟨b, o, hA, fun j y hj => by rw [Nat.mul_one]; exact hc j _ (ivs_at hj)⟩
/-- a step of a loop over a row of ints -/
theorem sl_rd {w : World} {A : Option Addr} {n : Nat} {l : List Int} (h : Sl w 1 A n (ivs l)) {i : Nat} (hi : i < n) {x : Int} (hx : l[i]? = some x) {K : Int → Prop} (hK : K x) :
    dr A fun b o => gd (decide (0 ≤ (i : Int))) (gd (decide ((i : Int) < ((n : Nat) : Int))) (ldI .i64 w b (o + ((i : Int)).toNat * 1) K)) := by
  obtain ⟨b, o, rfl, hc⟩ := sl_at h hi hx
  refine dr_mk (gd_mk (decide_eq_true (by omega)) (gd_mk (decide_eq_true (by omega)) ⟨x, ?_, hK⟩))
  rw [Int.toNat_natCast]
  exact hc i x hx
theorem push_int {w : World} {B : Nat} {A : Option Addr} {n c : Nat} {out : List Int} {x : Int} {K : Option Addr → Nat → Nat → World → Prop} (hr : Row w B 3 1 A n c (ivs out)) (hB : B ≤ w.heap.size) (hn : n ≤ 2199023255552)
    (hK : ∀ A' c' w', Row w' B 3 1 A' (n + 1) c' (ivs (out ++ [x])) → Fr (fun k => blkOf A = some k) w w' → K A' (n + 1) c' w') : nw w ([Value.int .i64 x] ++ []) 3 fun b w' => app w' 1 8 [Value.int .i64 0] 3 A n c (.slice (some ⟨b, 0, none⟩) 1 1) K := by
  refine nw_mk ?_
  rw [List.append_nil]
  have f1 : Fr (fun _ => False) w (w.alloc (.cells [Value.int .i64 x].toArray 3)) := Fr.alloc _ _ _
  have r1 : Row (w.alloc (.cells [Value.int .i64 x].toArray 3)) 0 3 1 (some ⟨w.heap.size, 0, none⟩) 1 1 (ivs [x]) := Row.new (Nat.zero_le _) rfl
  have hs : (w.alloc (.cells [Value.int .i64 x].toArray 3)).heap.size = w.heap.size + 1 := alloc_size _ _
  generalize w.alloc (.cells [Value.int .i64 x].toArray 3) = w1 at f1 r1 hs ⊢
  refine app_row (f1.row hr (fun _ _ h => h)) r1.sl.src (ivs_one [x]) rfl (by omega) (by omega) (by omega) (fun A' c' w' hr' f' => hK A' c' w' (by rw [ivs_app]; exact hr') ?_)
  exact f1.trans f' (fun _ _ h => h.elim) (fun _ _ h => h)
theorem at_lt {l : List Int} {i : Nat} (h : i < l.length) : l[i]? = some (l[i]'h) := List.getElem?_eq_getElem h
/-! ### the sort -/
theorem sort_nil (c : Nat) (w : World) : Calls Try.prog 22 #[.slice none 0 c] w fun e w' => e = .returned (.tuple #[]) ∧ w' = w :=
  Any.slices_Sort_int_none Try.sortI none c w
open Go.Sort in
theorem sort_int (B : Nat) (e : TypeId) (b c : Nat) (l : List Int) (n : Nat) (w : World) (h : Row w B e 1 (some ⟨b, 0, none⟩) n c (ivs l)) (hn : n < 4611686018427387904) :
    Calls Try.prog 22 #[.slice (some ⟨b, 0, none⟩) n c] w fun e' w' => e' = .returned (.tuple #[]) ∧ Fr (fun k => k = b) w w' ∧ ∃ r, Row w' B e 1 (some ⟨b, 0, none⟩) n c (ivs r) ∧ r.Perm l ∧ r.Pairwise (· ≤ ·) := by
  have hrl := sl_n h.sl
  have hlen := h.len
  rcases h.at_ with ⟨h', _⟩ | ⟨b', cs, hA, hB, hh, hs, ht⟩
  · cases h'
  injection hA with hA
  injection hA with hA
  subst hA
  have hH : Holds (Value.int .i64) w b 0 l.toArray := by
    intro j hj
    have hj2 : j < l.length := by simpa using hj
    have e1 : l.toArray[j]! = l[j]'hj2 := by
      rw [getElem!_pos l.toArray j hj]; simp
    rw [e1]
    constructor
    · exact cellsAt_take hh ht j _ (ivs_at (at_lt hj2))
    · simp [World.frozen?, hh]
  have hcon := Any.slices_Sort_int Try.sortI b 0 c l w hH (heap_lt hh) (by omega)
  rw [hrl] at hcon
  refine Calls.mono hcon ?_
  rintro e' w' ⟨rfl, q, os, rfl⟩
  generalize hd : l.mergeSort (fun x y => decide (x ≤ y)) = d
  have hperm : d.Perm l := by rw [← hd]; exact List.mergeSort_perm _ _
  have hsrt : d.Pairwise (· ≤ ·) := by
    have h1 := List.pairwise_mergeSort (le := fun x y : Int => decide (x ≤ y)) (fun a b c h1 h2 => by simp at *; omega) (fun a b => by simp; omega) l
    rw [hd] at h1
    exact h1.imp (fun h => of_decide_eq_true h)
  have hdl : d.length = n := by rw [hperm.length_eq, hrl]
  have hle := h.le
  have heap : ∀ k, k < w.heap.size → (grow (putRow (Value.int .i64) (Go.Sort.ahead w q) b 0 d.toArray) os).heap[k]? = if k = b then some (.cells (putCells (Value.int .i64) 0 d.toArray cs) e) else w.heap[k]? := by
    intro k hk
    show ((putRow (Value.int .i64) (Go.Sort.ahead w q) b 0 d.toArray).heap ++ os)[k]? = _
    have hsz : k < (putRow (Value.int .i64) (Go.Sort.ahead w q) b 0 d.toArray).heap.size := by
      show k < ((Go.Sort.ahead w q).heap.modify b _).size
      rw [Array.size_modify]; exact hk
    rw [Array.getElem?_append_left hsz]
    show ((Go.Sort.ahead w q).heap.modify b (onCells (putCells (Value.int .i64) 0 d.toArray)))[k]? = _
    rw [Array.getElem?_modify]
    by_cases hkb : k = b
    · subst hkb
      rw [if_pos rfl, if_pos rfl]
      show Option.map _ w.heap[k]? = _
      rw [hh]; rfl
    · rw [if_neg (fun h => hkb h.symm), if_neg hkb]; rfl
  refine ⟨rfl, ⟨rfl, rfl, rfl, ?_, fun k hk hn' => ?_⟩, d, ⟨?_, hle, .inr ⟨b, putCells (Value.int .i64) 0 d.toArray cs, rfl, hB, ?_, ?_, ?_⟩⟩, hperm, hsrt⟩
  · show w.heap.size ≤ ((putRow (Value.int .i64) (Go.Sort.ahead w q) b 0 d.toArray).heap ++ os).size
    have : (putRow (Value.int .i64) (Go.Sort.ahead w q) b 0 d.toArray).heap.size = w.heap.size := by
      show ((Go.Sort.ahead w q).heap.modify b _).size = _
      rw [Array.size_modify]; rfl
    rw [Array.size_append]; omega
  · rw [heap k hk, if_neg hn']
  · rw [ivs_len, hdl]; omega
  · rw [heap b (heap_lt hh), if_pos rfl]
  · simp [putCells, hs]
  · apply List.ext_getElem?
    intro j
    have hcsz : n ≤ cs.size := by rw [hs]; omega
    by_cases hj : j < n
    · rw [List.getElem?_take, if_pos (by omega), Array.getElem?_toList]
      unfold putCells
      rw [Array.getElem?_mapIdx, Array.getElem?_eq_getElem (show j < cs.size by omega), Option.map_some, if_pos ⟨Nat.zero_le _, by simp; omega⟩]
      rw [Nat.sub_zero, getElem!_pos d.toArray j (by simp; omega), ivs_at (at_lt (by omega))]
      simp
    · rw [List.getElem?_take, if_neg (by omega), List.getElem?_eq_none (by rw [ivs_len, hdl]; omega)]
end Go.Proofs.Ytihifmamdeafdaa
