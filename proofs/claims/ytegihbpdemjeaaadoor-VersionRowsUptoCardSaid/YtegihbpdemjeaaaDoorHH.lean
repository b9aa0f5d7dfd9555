/- chapter 51: the program's row of names: Clone, the sort, Compact -/
import Derived.Test.YtegihbpdemjeaaaDoorHG
import Derived.Test.YtegihbpdemjeaaaDoorLSortT
import Derived.Test.YtegihbpdemjeaaaDoorG12
import Derived.Shelf.SlSortCmp.Whole1
import Derived.Shelf.SlSortCmp.NoneTotal
namespace Go.Proofs.YtegihbpdemjeaaaDoor
open Go.GV Go.RowKit Go.Lib
set_option linter.unusedVariables false
set_option linter.unusedSimpArgs false
abbrev bvs (r : List Bs) : List Value := svs (r.map ba)
theorem bvs_len (r : List Bs) : (bvs r).length = r.length := by simp [bvs, svs]
theorem bvs_app (a b : List Bs) : bvs (a ++ b) = bvs a ++ bvs b := by simp [bvs, svs]
theorem bvs_at {r : List Bs} {i : Nat} {x : Bs} (h : r[i]? = some x) : (bvs r)[i]? = some (.string (ba x)) := svs_at (map_at h)
theorem bvs_take (r : List Bs) (k : Nat) : bvs (r.take k) = (bvs r).take k := by simp [bvs, svs, List.map_take]
theorem bvs_set (r : List Bs) (k : Nat) (x : Bs) (hk : k < r.length) : bvs (r.set k x) = splice (bvs r) k [.string (ba x)] := by
  apply List.ext_getElem?
  intro t
  rw [splice_get (by rw [bvs_len]; simp; omega)]
  by_cases h : k = t
  · subst h
    rw [bvs_at (List.getElem?_set_self hk), if_neg (by omega), if_pos (by simp)]; simp
  · have e : (bvs (r.set k x))[t]? = (bvs r)[t]? := by simp [bvs, svs, List.getElem?_set_ne h]
    rw [e]
    by_cases h3 : t < k
    · rw [if_pos h3]
    · rw [if_neg h3, if_neg (by simp; omega)]
theorem bs_n {w : World} {A : Option Addr} {n : Nat} {r : List Bs} (h : Sl w 1 A n (bvs r)) : r.length = n := by
  have := h.1
  rw [bvs_len] at this
  omega
theorem bs_cell {w : World} {A : Option Addr} {n : Nat} {r : List Bs} (h : Sl w 1 A n (bvs r)) {i : Nat} (hi : i < n) : ∃ b o, A = some ⟨b, o, none⟩ ∧ ∀ j x, r[j]? = some x → w.cell? ⟨b, o + j, none⟩ = some (.string (ba x)) := by
  obtain ⟨b, o, hA, hc⟩ := h.2 (by omega)
  exact ⟨b, o, hA, fun j x hj => hc j _ (bvs_at hj)⟩
theorem bs_rd {w : World} {A : Option Addr} {n : Nat} {r : List Bs} (h : Sl w 1 A n (bvs r)) {i : Nat} (hi : i < n) {x : Bs} (hx : r[i]? = some x) {K : ByteArray → Prop} (hK : K (ba x)) :
    dr A fun b o => gd (decide (0 ≤ (i : Int))) (gd (decide ((i : Int) < ((n : Nat) : Int))) (ldS w b (o + ((i : Int)).toNat * 1) K)) := ss_rd h hi (map_at hx) hK
/-- writing cells of a row -/
theorem row_splice {w : World} {B : Nat} {e : TypeId} {sz : Nat} {A : Option Addr} {n c : Nat} {vs us : List Value} {o' : Nat} {K : World → Prop} (hr : Row w B e sz A n c vs) (hn : n ≠ 0) (hfit : o' + us.length ≤ n * sz) (h1 : ∀ v ∈ us, v.oneCell' = true)
    (hK : ∀ w', Row w' B e sz A n c (splice vs o' us) → Fr (fun k => blkOf A = some k) w w' → K w') : dr A fun b o => st w b (o + o') us K := by
  rcases hr.at_ with ⟨_, h0, _⟩ | ⟨b, cs, rfl, hB, hh, hs, ht⟩
  · exact absurd h0 hn
  · have hle := hr.le
    have hl := hr.len
    have hmul : n * sz ≤ c * sz := Nat.mul_le_mul_right _ hle
    show st w b (0 + o') us K
    rw [Nat.zero_add]
    have hfit2 : o' + us.length ≤ cs.toList.length := by simp; omega
    refine ⟨⟨cs, e, 0, 0, hh, by simpa using hfit2, .inl (Nat.zero_le _)⟩, h1, hK _ ⟨by rw [splice_length (by omega)]; exact hl, hle, .inr ⟨b, _, rfl, hB, stB_heap hh, ?_, ?_⟩⟩ (Fr.st (fun _ => rfl))⟩
    · simp only [List.size_toArray]; rw [splice_length hfit2]; simpa using hs
    · apply List.ext_getElem?
      intro j
      simp only [List.getElem?_take]
      by_cases hj : j < n * sz
      · rw [if_pos hj, splice_get hfit2, splice_get (by omega), ← ht]
        simp only [List.getElem?_take]
        by_cases h2 : j < o'
        · rw [if_pos h2, if_pos h2, if_pos hj]
        · rw [if_neg h2, if_neg h2]
          split
          · rfl
          · first | rfl | rw [if_pos hj]
      · rw [if_neg hj, List.getElem?_eq_none (by rw [splice_length (by omega)]; omega)]
theorem row_cut {w : World} {B : Nat} {e : TypeId} {sz : Nat} {A : Option Addr} {n c k : Nat} {vs : List Value} (hr : Row w B e sz A n c vs) (hk : k ≤ n) : Row w B e sz A k c (vs.take (k * sz)) := by
  have hl := hr.len
  have hle := hr.le
  have hmul : k * sz ≤ n * sz := Nat.mul_le_mul_right _ hk
  refine ⟨by rw [List.length_take]; omega, by omega, ?_⟩
  rcases hr.at_ with ⟨h1, h2, h3⟩ | ⟨b, cs, h1, h2, h3, h4, h5⟩
  · exact .inl ⟨h1, by omega, h3⟩
  · refine .inr ⟨b, cs, h1, h2, h3, h4, ?_⟩
    rw [← h5, List.take_take, Nat.min_eq_left hmul]
theorem clone_v (A : Option Addr) (n c : Nat) (r : List Bs) (w : World) (h : Sl w 1 A n (bvs r)) (hn : n ≤ 1099511627776) :
    Calls Tryd.prog 27 #[.slice A n c] w fun e w' => ∃ A' c', e = .returned (.slice A' n c') ∧ Fr (fun _ => False) w w' ∧ Row w' w.heap.size 9 1 A' n c' (bvs r) := by
  refine (F27.of A n c w (Q := fun v w' => ∃ A' c', v = .slice A' n c' ∧ Fr (fun _ => False) w w' ∧ Row w' w.heap.size 9 1 A' n c' (bvs r)) ?_).mono (fun e w' ⟨v, he, A', c', hv, h⟩ => ⟨A', c', by rw [he, hv], h⟩)
  have hl := bs_n h
  refine vIf_mk (fun h0 => ?_) (fun h0 => ?_)
  · have hA : A = none := by simpa using h0
    subst hA
    have hn0 : n = 0 := by
      by_cases hn0 : n = 0
      · exact hn0
      · obtain ⟨b, o, hA, _⟩ := h.2 (by omega); cases hA
    subst hn0
    have : r = [] := List.length_eq_zero_iff.1 hl
    subst this
    exact ⟨none, 0, rfl, Fr.refl _ _, Row.nil _ _ _ _⟩
  · refine nw_mk ?_
    have f1 : Fr (fun _ => False) w (w.alloc (.cells ([] : List Value).toArray 9)) := Fr.alloc _ _ _
    have r1 : Row (w.alloc (.cells ([] : List Value).toArray 9)) w.heap.size 9 1 (some ⟨w.heap.size, 0, none⟩) 0 0 [] := Row.new (Nat.le_refl _) rfl
    have hs1 : (w.alloc (.cells ([] : List Value).toArray 9)).heap.size = w.heap.size + 1 := alloc_size _ _
    generalize w.alloc (.cells ([] : List Value).toArray 9) = w1 at f1 r1 hs1 ⊢
    refine app_row r1 (f1.sl h (fun _ _ _ h => h)).src (svs_one _) rfl (by omega) (by omega) (by omega) (fun A' c' w' hr' f' => ?_)
    rw [Nat.zero_add, List.nil_append] at hr'
    rw [Nat.zero_add]
    exact ⟨A', c', rfl, f1.trans f' (fun _ _ h => h) (fun k hk h' => by simp only [blkOf, Option.some.injEq] at h'; omega), hr'⟩
/-! ### the sort -/
abbrev SB : Type := { l : Bs // l.length ≤ 4294967296 }
instance : Inhabited SB := ⟨⟨[], by simp⟩⟩
def encV (x : SB) : Value := .string (ba x.1)
def cfV (x y : SB) : Int := verC x.1 y.1
def Sm (r : List Bs) : Prop := ∀ x ∈ r, x.length ≤ 4294967296
open Go.Sort in
theorem swoV : SWO (ltOf cfV) where
  irrefl x := by unfold ltOf cfV; rw [(verC_ord.ze _ _).2 rfl]; rfl
  trans x y z h1 h2 := by
    unfold ltOf cfV at *
    have h1 : LtV x.1 y.1 := of_decide_eq_true (p := verC x.1 y.1 < 0) h1
    have h2 : LtV y.1 z.1 := of_decide_eq_true (p := verC y.1 z.1 < 0) h2
    exact decide_eq_true (show verC x.1 z.1 < 0 from h1.trans h2)
  ntrans x y z h1 h2 := by
    unfold ltOf cfV at *
    have h1 : ¬ verC x.1 y.1 < 0 := of_decide_eq_false h1
    have h2 : ¬ verC y.1 z.1 < 0 := of_decide_eq_false h2
    refine decide_eq_false (fun h3 => ?_)
    have h3 : verC x.1 z.1 < 0 := h3
    have := verC_ord.an x.1 y.1
    have := verC_ord.an y.1 z.1
    have hzx : verC z.1 x.1 ≤ 0 := verC_ord.tr z.1 y.1 x.1 (by omega) (by omega)
    have := verC_ord.an x.1 z.1
    omega
open Go.Sort in
/-- what lays blocks and draws, and no more, leaves the world so -/
theorem Gr.grown {w w' : World} (h : Gr w w') : ∃ q os, w' = grow (w.drewN q) os := by
  obtain ⟨⟨ho, ht, hu, hs, hb⟩, hd⟩ := h
  refine ⟨w'.drawn - w.drawn, w'.heap.extract w.heap.size w'.heap.size, ?_⟩
  obtain ⟨h1, t1, d1, o1, u1⟩ := w
  obtain ⟨h2, t2, d2, o2, u2⟩ := w'
  simp only [grow, World.drewN] at *
  subst ho; subst ht; subst hu
  congr 1
  · apply Array.ext_getElem?
    intro k
    by_cases hk : k < h1.size
    · rw [Array.getElem?_append_left hk]; exact hb k hk (fun h => h)
    · rw [Array.getElem?_append_right (by omega), Array.getElem?_extract]
      simp only [Nat.min_self]
      by_cases hk2 : k < h2.size
      · rw [if_pos (by omega)]; congr 1; omega
      · rw [if_neg (by omega), Array.getElem?_eq_none (by omega)]
  · omega
open Go.Sort in
theorem sort_v (B : Nat) (e : TypeId) (b c : Nat) (r : List Bs) (n : Nat) (w : World) (h : Row w B e 1 (some ⟨b, 0, none⟩) n c (bvs r)) (hw : Sm r) (hn : n < 4611686018427387904) :
    Calls Tryd.prog 28 #[.slice (some ⟨b, 0, none⟩) n c, .func (.func 6) #[] #[]] w fun e' w' => e' = .returned (.tuple #[]) ∧ Fr (fun k => k = b) w w' ∧ ∃ r', Sm r' ∧ Row w' B e 1 (some ⟨b, 0, none⟩) n c (bvs r') ∧ r'.Perm r ∧ r'.Pairwise LeV := by
  have hrl := bs_n h.sl
  obtain ⟨d, hd⟩ : ∃ d : Array SB, d.toList.map (·.1) = r := by
    refine ⟨(r.attach.map fun x => (⟨x.1, hw x.1 x.2⟩ : SB)).toArray, ?_⟩
    show List.map (fun x : SB => x.1) (List.map (fun x : { x // x ∈ r } => (⟨x.1, hw x.1 x.2⟩ : SB)) r.attach) = r
    rw [List.map_map]
    exact List.attach_map_subtype_val r
  have hds : d.size = n := by rw [← hrl, ← hd, List.length_map, Array.length_toList]
  rcases h.at_ with ⟨h', _⟩ | ⟨b', cs, hA, hB, hh, hs, ht⟩
  · cases h'
  injection hA with hA
  injection hA with hA
  subst hA
  rw [Nat.mul_one] at hs ht
  have hle := h.le
  have get : ∀ (d' : Array SB) (j : Nat) (hj : j < d'.size), (bvs (d'.toList.map (·.1)))[j]? = some (encV d'[j]!) := fun d' j hj => by
    refine bvs_at ?_
    rw [List.getElem?_map, Array.getElem?_toList, Array.getElem?_eq_getElem hj, getElem!_pos d' j hj]; rfl
  have hH : Holds encV w b 0 d := by
    intro j hj
    have hg := get d j hj
    rw [hd] at hg
    have hjt := ht ▸ hg
    rw [List.getElem?_take, if_pos (by omega), Array.getElem?_toList] at hjt
    rw [Nat.zero_add]
    constructor
    · show World.cell? _ _ = _
      unfold World.cell?
      simp only [hh]
      exact hjt
    · simp [World.frozen?, hh]
  have eg : ∀ args w, (callFunc 6 args).run Tryd.prog w = .ok (.enter 6 args) w := enters_of Tryd.func6 (by kernel_rfl) rfl
  have hcmp : CmpLays1 Tryd.prog 6 #[] encV cfV b 0 d.size w := fun m os dk _ x y => (cmp_calls x.1 y.1 _ x.2 y.2).mono (fun e w' ⟨he, hg⟩ => ⟨he, hg.grown⟩)
  have hcon := Any.slices_SortFunc Tryd.sortT encV (fun x => rfl) cfV swoV 6 #[] b 0 c d w eg hcmp hH (heap_lt hh) (by omega)
  rw [hds] at hcon
  refine Calls.mono hcon ?_
  rintro e' w' ⟨rfl, d', q, os, hp, hsd, rfl⟩
  obtain ⟨hp1, _, hp3⟩ := hp
  have hds' : d'.size = n := by omega
  have hperm : d'.toList.Perm d.toList := by
    have e1 : d'.extract 0 n = d' := by rw [← hds']; simp
    have e2 : d.extract 0 n = d := by rw [← hds]; simp
    rw [e1, e2] at hp3
    exact hp3
  have hw' : Sm (d'.toList.map (·.1)) := by
    intro x hx
    obtain ⟨y, _, rfl⟩ := List.mem_map.1 hx
    exact y.2
  have hlen' : (d'.toList.map (·.1)).length = n := by rw [List.length_map, Array.length_toList, hds']
  -- the heap behind
  have heap : ∀ k, k < w.heap.size → (sortWorld encV w b 0 q d' os).heap[k]? = if k = b then some (.cells (putCells encV 0 d' cs) e) else w.heap[k]? := by
    intro k hk
    show ((putRow encV (Go.Sort.ahead w q) b 0 d').heap ++ os)[k]? = _
    have hsz : k < (putRow encV (Go.Sort.ahead w q) b 0 d').heap.size := by
      show k < ((Go.Sort.ahead w q).heap.modify b _).size
      rw [Array.size_modify]; exact hk
    rw [Array.getElem?_append_left hsz]
    show ((Go.Sort.ahead w q).heap.modify b (onCells (putCells encV 0 d')))[k]? = _
    rw [Array.getElem?_modify]
    by_cases hkb : k = b
    · subst hkb
      rw [if_pos rfl, if_pos rfl]
      show Option.map _ w.heap[k]? = _
      rw [hh]; rfl
    · rw [if_neg (fun h => hkb h.symm), if_neg hkb]; rfl
  refine ⟨rfl, ⟨rfl, rfl, rfl, ?_, fun k hk hn' => ?_⟩, d'.toList.map (·.1), hw', ⟨?_, hle, .inr ⟨b, putCells encV 0 d' cs, rfl, hB, ?_, ?_, ?_⟩⟩, ?_, ?_⟩
  · show w.heap.size ≤ ((putRow encV (Go.Sort.ahead w q) b 0 d').heap ++ os).size
    have : (putRow encV (Go.Sort.ahead w q) b 0 d').heap.size = w.heap.size := by
      show ((Go.Sort.ahead w q).heap.modify b _).size = _
      rw [Array.size_modify]; rfl
    rw [Array.size_append]; omega
  · rw [heap k hk, if_neg hn']
  · rw [bvs_len, hlen', Nat.mul_one]
  · rw [heap b (heap_lt hh), if_pos rfl]
  · simp [putCells, hs]
  · apply List.ext_getElem?
    intro j
    rw [Nat.mul_one]
    by_cases hj : j < n
    · rw [List.getElem?_take, if_pos hj, Array.getElem?_toList, get d' j (by omega)]
      unfold putCells
      rw [Array.getElem?_mapIdx, Array.getElem?_eq_getElem (show j < cs.size by omega), Option.map_some, if_pos ⟨Nat.zero_le _, by omega⟩]
      rfl
    · rw [List.getElem?_take, if_neg hj, List.getElem?_eq_none (by rw [bvs_len, hlen']; omega)]
  · rw [← hd]; exact hperm.map _
  · rw [List.pairwise_map]
    refine List.pairwise_iff_getElem.2 (fun i j hi hj hij => ?_)
    have := hsd i j (Nat.zero_le _) hij (by rw [Array.length_toList] at hj; omega)
    unfold ltOf cfV at this
    have h3 := of_decide_eq_false this
    rw [Array.length_toList] at hi hj
    rw [getElem!_pos d' j (by omega), getElem!_pos d' i (by omega)] at h3
    show verC _ _ ≤ 0
    have := verC_ord.an (d'[j]'(by omega)).1 (d'[i]'(by omega)).1
    simp only [Array.getElem_toList]
    omega
theorem sort_nil (c : Nat) (w : World) : Calls Tryd.prog 28 #[.slice none 0 c, .func (.func 6) #[] #[]] w fun e w' => e = .returned (.tuple #[]) ∧ w' = w :=
  AnyF.slices_SortFunc_none (P := Tryd.prog) (ρ := Tryd.sortT_ren) { Tryd.sortT with } none c (.func (.func 6) #[] #[]) w
end Go.Proofs.YtegihbpdemjeaaaDoor
