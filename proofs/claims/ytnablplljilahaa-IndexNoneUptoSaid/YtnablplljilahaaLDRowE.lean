/- rows of digests: Clone, the sort, Compact -/
import Derived.Test.YtnablplljilahaaLDRowD
import Derived.Test.YtnablplljilahaaLSortS
import Derived.Shelf.SlSortCmp.WholeK
namespace Go.Proofs.Ytnablplljilahaa.Dg
open Go.GV Go.RowKit Go.Lib
set_option linter.unusedVariables false
set_option linter.unusedSimpArgs false
/-- writing cells of a row -/
theorem row_splice {w : World} {B : Nat} {e : TypeId} {sz : Nat} {A : Option Addr} {n c : Nat} {vs us : List Value} {o' : Nat} {K : World → Prop} (hr : Row w B e sz A n c vs) (hn : n ≠ 0) (hfit : o' + us.length ≤ n * sz) (h1 : ∀ v ∈ us, v.oneCell' = true)
    (hK : ∀ w', Row w' B e sz A n c (splice vs o' us) → Fr (fun k => blkOf A = some k) w w' → K w') : dr A fun b o => st w b (o + o') us K := by
  rcases hr.at_ with ⟨_, h0, _⟩ | ⟨b, cs, rfl, hB, hh, hs, ht⟩
  · exact absurd h0 hn
  · have hle := hr.le
    have hl := hr.len
    have hmul : n * sz ≤ c * sz := Nat.mul_le_mul_right _ hle
    show st w b (0 + o') us K
    rw [Nat.zero_add]
    have hfit2 : o' + us.length ≤ cs.toList.length := by simp; omega
    refine ⟨⟨cs, e, 0, 0, hh, by simpa using hfit2, .inl (Nat.zero_le _)⟩, h1, hK _ ⟨by rw [splice_length (by omega)]; exact hl, hle, .inr ⟨b, _, rfl, hB, stB_heap hh, ?_, ?_⟩⟩ (Fr.st (fun _ => rfl))⟩
    · simp only [List.size_toArray]; rw [splice_length hfit2]; simpa using hs
    · apply List.ext_getElem?
      intro j
      simp only [List.getElem?_take]
      by_cases hj : j < n * sz
      · rw [if_pos hj, splice_get hfit2, splice_get (by omega), ← ht]
        simp only [List.getElem?_take]
        by_cases h2 : j < o'
        · rw [if_pos h2, if_pos h2, if_pos hj]
        · rw [if_neg h2, if_neg h2]
          split
          · rfl
          · first | rfl | rw [if_pos hj]
      · rw [if_neg hj, List.getElem?_eq_none (by rw [splice_length (by omega)]; omega)]
theorem row_cut {w : World} {B : Nat} {e : TypeId} {sz : Nat} {A : Option Addr} {n c k : Nat} {vs : List Value} (hr : Row w B e sz A n c vs) (hk : k ≤ n) : Row w B e sz A k c (vs.take (k * sz)) := by
  have hl := hr.len
  have hle := hr.le
  have hmul : k * sz ≤ n * sz := Nat.mul_le_mul_right _ hk
  refine ⟨by rw [List.length_take]; omega, by omega, ?_⟩
  rcases hr.at_ with ⟨h1, h2, h3⟩ | ⟨b, cs, h1, h2, h3, h4, h5⟩
  · exact .inl ⟨h1, by omega, h3⟩
  · refine .inr ⟨b, cs, h1, h2, h3, h4, ?_⟩
    rw [← h5, List.take_take, Nat.min_eq_left hmul]
theorem clone_dig (A : Option Addr) (n c : Nat) (r : List Dig) (w : World) (h : Sl w 32 A n (dcs r)) (hw : W32 r) (hn : n ≤ 1099511627776) :
    Calls Try.prog 54 #[.slice A n c] w fun e w' => ∃ A' c', e = .returned (.slice A' n c') ∧ Fr (fun _ => False) w w' ∧ Row w' w.heap.size 29 32 A' n c' (dcs r) := by
  refine (F54.of A n c w (Q := fun v w' => ∃ A' c', v = .slice A' n c' ∧ Fr (fun _ => False) w w' ∧ Row w' w.heap.size 29 32 A' n c' (dcs r)) ?_).mono (fun e w' ⟨v, he, A', c', hv, h⟩ => ⟨A', c', by rw [he, hv], h⟩)
  have hl := sl_len h hw
  refine vIf_mk (fun h0 => ?_) (fun h0 => ?_)
  · have hA : A = none := by simpa using h0
    subst hA
    have hn0 : n = 0 := by
      by_cases hn0 : n = 0
      · exact hn0
      · obtain ⟨b, o, hA, _⟩ := h.2 hn0; cases hA
    subst hn0
    have : r = [] := List.length_eq_zero_iff.1 hl
    subst this
    exact ⟨none, 0, rfl, Fr.refl _ _, Row.nil _ _ _ _⟩
  · refine nw_mk ?_
    have f1 : Fr (fun _ => False) w (w.alloc (.cells ([] : List Value).toArray 29)) := Fr.alloc _ _ _
    have r1 : Row (w.alloc (.cells ([] : List Value).toArray 29)) w.heap.size 29 32 (some ⟨w.heap.size, 0, none⟩) 0 0 [] := Row.new (Nat.le_refl _) rfl
    have hs1 : (w.alloc (.cells ([] : List Value).toArray 29)).heap.size = w.heap.size + 1 := alloc_size _ _
    generalize w.alloc (.cells ([] : List Value).toArray 29) = w1 at f1 r1 hs1 ⊢
    refine app_row r1 (f1.sl h (fun _ _ _ h => h)).src (dcs_oneCell r) (by decide +kernel) (by omega) (by omega) (by omega) (fun A' c' w' hr' f' => ?_)
    rw [Nat.zero_add, List.nil_append] at hr'
    rw [Nat.zero_add]
    exact ⟨A', c', rfl, f1.trans f' (fun _ _ h => h) (fun k hk h' => by simp only [blkOf, Option.some.injEq] at h'; omega), hr'⟩
/-! ### the sort -/
abbrev D32 : Type := { l : Dig // l.length = 32 }
instance : Inhabited D32 := ⟨⟨List.replicate 32 0, by simp⟩⟩
def encD (x : D32) : List Value := x.1.map bv
def cfD (x y : D32) : Int := compareBytes x.1 y.1
open Go.Sort in
theorem swoD : SWO (ltOf cfD) where
  irrefl x := by unfold ltOf cfD; rw [cmp_self]; rfl
  trans x y z h1 h2 := by
    unfold ltOf cfD at *
    have h1 : LtD x.1 y.1 := of_decide_eq_true (p := compareBytes x.1 y.1 < 0) h1
    have h2 : LtD y.1 z.1 := of_decide_eq_true (p := compareBytes y.1 z.1 < 0) h2
    exact decide_eq_true (show compareBytes x.1 z.1 < 0 from h1.trans h2)
  ntrans x y z h1 h2 := by
    unfold ltOf cfD at *
    have h1 : ¬ compareBytes x.1 y.1 < 0 := of_decide_eq_false h1
    have h2 : ¬ compareBytes y.1 z.1 < 0 := of_decide_eq_false h2
    refine decide_eq_false (fun h3 => ?_)
    have h3 : compareBytes x.1 z.1 < 0 := h3
    have := cmp_anti x.1 y.1
    have := cmp_anti y.1 z.1
    have hzx : compareBytes z.1 x.1 ≤ 0 := cmp_trans z.1 y.1 x.1 (by omega) (by omega)
    have := cmp_anti x.1 z.1
    omega
open Go.Sort in
/-- Cmp, with the world it leaves to the cell -/
theorem cmp_world (a b : Dig) (w : World) (ha : a.length = 32) (hb : b.length = 32) :
    Calls Try.prog 56 #[ofL (a.map bv), ofL (b.map bv)] w fun e w' => e = .returned (.int .i64 (compareBytes a b)) ∧ ∃ q os, w' = grow (w.drewN q) os := by
  refine (F56.of (a.map bv) (b.map bv) w (Q := fun v w' => v = .int .i64 (compareBytes a b) ∧ ∃ q os, w' = grow (w.drewN q) os) ?_).mono (fun e w' ⟨v, he, hv, h⟩ => ⟨by rw [he, hv], h⟩)
  refine nw_mk (nw_mk ?_)
  have r1 : RecAt (w.alloc (.cells (a.map bv).toArray 29)) w.heap.size 29 (a.map bv) := RecAt.new w _ _
  have e1 : w.alloc (.cells (a.map bv).toArray 29) = grow w #[.cells (a.map bv).toArray 29] := rfl
  generalize hw1 : w.alloc (.cells (a.map bv).toArray 29) = w1 at r1 e1 ⊢
  have r2 : RecAt (w1.alloc (.cells (b.map bv).toArray 29)) w1.heap.size 29 (b.map bv) := RecAt.new w1 _ _
  have r12 := r1.fr (Fr.alloc (fun _ => False) w1 (.cells (b.map bv).toArray 29)) (fun h => h)
  have e2 : w1.alloc (.cells (b.map bv).toArray 29) = grow w #[.cells (a.map bv).toArray 29, .cells (b.map bv).toArray 29] := by rw [e1, alloc_eq_grow, grow_grow]; rfl
  generalize w1.alloc (.cells (b.map bv).toArray 29) = w2 at r2 r12 e2 ⊢
  have cell : ∀ {l : List UInt8} {u : World} {g : Nat} {ty : TypeId}, RecAt u g ty (l.map bv) → cellsAt u g 0 (l.map bv) := fun r => r.cells (o := 0) (fun q v hq => by simpa using hq)
  refine ⟨a.map bv, by simp [ha], cell r12, b.map bv, by simp [hb], cell r2, eqAB_bytes ha hb (vIf_mk (fun he => ?_) (fun hne => ?_))⟩
  · have he : a = b := by simpa using he
    subst he
    exact ⟨by rw [cmp_self], 0, _, by rw [e2]; rfl⟩
  · have s1 : Sl w2.drew 1 (some ⟨w.heap.size, 0, none⟩) 32 (a.map bv) := ⟨by simp [ha], fun _ => ⟨_, 0, rfl, cell (show RecAt w2.drew _ _ _ from r12)⟩⟩
    have s2 : Sl w2.drew 1 (some ⟨w1.heap.size, 0, none⟩) 32 (b.map bv) := ⟨by simp [hb], fun _ => ⟨_, 0, rfl, cell (show RecAt w2.drew _ _ _ from r2)⟩⟩
    refine (F63.of _ 32 32 _ 32 32 w2.drew (Q := fun v w' => v = .int .i64 (compareBytes a b) ∧ w' = w2.drew) (compare_ext Try.func83 (by kernel_rfl) (by kernel_rfl) (by kernel_rfl) s1 s2 ⟨_, rfl, rfl, rfl⟩)).mono ?_
    rintro e w3 ⟨v, rfl, rfl, rfl⟩
    exact ⟨_, rfl, rfl, 1, #[.cells (a.map bv).toArray 29, .cells (b.map bv).toArray 29], by rw [e2]; rfl⟩
theorem drewN_fields (w : World) (n : Nat) : (w.drewN n).heap = w.heap ∧ (w.drewN n).os = w.os ∧ (w.drewN n).tape = w.tape ∧ (w.drewN n).output = w.output := by
  simp [World.drewN]
theorem flatK_dcs (d : Array D32) : (Go.Sort.flatK encD 32 d).toList = dcs (d.toList.map (·.1)) := by
  have hw : W32 (d.toList.map (·.1)) := by
    intro x hx
    obtain ⟨y, _, rfl⟩ := List.mem_map.1 hx
    exact y.2
  apply List.ext_getElem?
  intro t
  by_cases ht : t < d.size * 32
  · have h1 := Go.Sort.get_flatK encD 32 d t ht
    have hi : t / 32 < d.size := by omega
    have h2 : d[t / 32]! = d[t / 32]'hi := getElem!_pos d (t / 32) hi
    have hlen : (encD (d[t / 32]'hi)).length = 32 := by unfold encD; rw [List.length_map]; exact (d[t / 32]'hi).2
    have h3 : (encD (d[t / 32]'hi))[t % 32]! = (encD (d[t / 32]'hi))[t % 32]'(by omega) := getElem!_pos (encD (d[t / 32]'hi)) (t % 32) (by omega)
    have hs : t < (Go.Sort.flatK encD 32 d).size := by rw [Go.Sort.size_flatK]; exact ht
    have h4 : (Go.Sort.flatK encD 32 d)[t]! = (Go.Sort.flatK encD 32 d)[t]'hs := getElem!_pos (Go.Sort.flatK encD 32 d) t hs
    have h5 := (dcs_flat hw).2 (t / 32) (d[t / 32]'hi).1 (t % 32) (by rw [List.getElem?_map, Array.getElem?_toList, Array.getElem?_eq_getElem hi]; rfl) (by omega)
    rw [show t / 32 * 32 + t % 32 = t by omega] at h5
    rw [h5, Array.getElem?_toList, Array.getElem?_eq_getElem hs, ← h4, h1, h2, h3, ← List.getElem?_eq_getElem]
    rfl
  · rw [List.getElem?_eq_none (by rw [Array.length_toList, Go.Sort.size_flatK]; omega), List.getElem?_eq_none (by rw [dcs_len hw]; simp; omega)]
open Go.Sort in
theorem sort_dig (B : Nat) (e : TypeId) (b c : Nat) (r : List Dig) (n : Nat) (w : World) (h : Row w B e 32 (some ⟨b, 0, none⟩) n c (dcs r)) (hw : W32 r) (hn : n < 4611686018427387904) :
    Calls Try.prog 55 #[.slice (some ⟨b, 0, none⟩) n c, .func (.func 56) #[] #[]] w fun e' w' => e' = .returned (.tuple #[]) ∧ Fr (fun k => k = b) w w' ∧ ∃ r', W32 r' ∧ Row w' B e 32 (some ⟨b, 0, none⟩) n c (dcs r') ∧ r'.Perm r ∧ r'.Pairwise LeD := by
  have hrl := sl_len h.sl hw
  obtain ⟨d, hd⟩ : ∃ d : Array D32, d.toList.map (·.1) = r := by
    refine ⟨(r.attach.map fun x => (⟨x.1, hw x.1 x.2⟩ : D32)).toArray, ?_⟩
    show List.map (fun x : D32 => x.1) (List.map (fun x : { x // x ∈ r } => (⟨x.1, hw x.1 x.2⟩ : D32)) r.attach) = r
    rw [List.map_map]
    exact List.attach_map_subtype_val r
  have hds : d.size = n := by
    rw [← hrl, ← hd, List.length_map, Array.length_toList]
  have hcs := flatK_dcs d
  rw [hd] at hcs
  rcases h.at_ with ⟨h', _⟩ | ⟨b', cs, hA, hB, hh, hs, ht⟩
  · cases h'
  injection hA with hA
  injection hA with hA
  subst hA
  have hH : HoldsK encD 32 w b 0 d := by
    intro j hj
    rw [size_flatK] at hj
    have hjl : j < (dcs r).length := by rw [dcs_len hw, hrl, ← hds]; exact hj
    have hsz : j < (flatK encD 32 d).size := by rw [size_flatK]; exact hj
    have e1 : (flatK encD 32 d)[j]! = (dcs r)[j]'hjl := by
      rw [getElem!_pos (flatK encD 32 d) j hsz]
      have : (flatK encD 32 d).toList[j]? = (dcs r)[j]? := by rw [hcs]
      rw [Array.getElem?_toList, Array.getElem?_eq_getElem hsz, List.getElem?_eq_getElem hjl] at this
      exact Option.some.inj this
    rw [e1]
    constructor
    · have := cellsAt_take hh ht j _ (List.getElem?_eq_getElem hjl)
      exact this
    · simp [World.frozen?, hh]
  have eg : ∀ args w, (callFunc 56 args).run Try.prog w = .ok (.enter 56 args) w := enters_of Try.func56 (by kernel_rfl) rfl
  have hcmp : CmpLays Try.prog 56 #[] encD 32 cfD b 0 d.size w := fun m os dk _ x y => cmp_world x.1 y.1 _ x.2 y.2
  have hcon := AnyQ.slices_SortFunc Try.sortD 32 Try.isAgg29 Try.sizeOf29 encD (fun x => by unfold encD; rw [List.length_map]; exact x.2) (fun x v hv => bvs_one x.1 v hv) cfD swoD 56 #[] b 0 c d w eg hcmp hH (heap_lt hh) (by omega)
  rw [hds] at hcon
  refine Calls.mono hcon ?_
  rintro e' w' ⟨rfl, d', q, os, hp, hsd, rfl⟩
  obtain ⟨hp1, _, hp3⟩ := hp
  have hds' : d'.size = n := by omega
  have hperm : d'.toList.Perm d.toList := by
    have e1 : d'.extract 0 n = d' := by rw [← hds']; simp
    have e2 : d.extract 0 n = d := by rw [← hds]; simp
    rw [e1, e2] at hp3
    exact hp3
  have hw' : W32 (d'.toList.map (·.1)) := by
    intro x hx
    obtain ⟨y, _, rfl⟩ := List.mem_map.1 hx
    exact y.2
  have hfl : (flatK encD 32 d').toList = dcs (d'.toList.map (·.1)) := flatK_dcs d'
  have hlen' : (d'.toList.map (·.1)).length = n := by rw [List.length_map, Array.length_toList, hds']
  have hfsz : (flatK encD 32 d').size = n * 32 := by rw [size_flatK, hds']
  have hle := h.le
  -- the heap behind
  have heap : ∀ k, k < w.heap.size → (sortWorldK encD 32 w b 0 q d' os).heap[k]? = if k = b then some (.cells (putCells id 0 (flatK encD 32 d') cs) e) else w.heap[k]? := by
    intro k hk
    show ((putRow id (Go.Sort.ahead w q) b 0 (flatK encD 32 d')).heap ++ os)[k]? = _
    have hsz : k < (putRow id (Go.Sort.ahead w q) b 0 (flatK encD 32 d')).heap.size := by
      show k < ((Go.Sort.ahead w q).heap.modify b _).size
      rw [Array.size_modify]; exact hk
    rw [Array.getElem?_append_left hsz]
    show ((Go.Sort.ahead w q).heap.modify b (onCells (putCells id 0 (flatK encD 32 d'))))[k]? = _
    rw [Array.getElem?_modify]
    by_cases hkb : k = b
    · subst hkb
      rw [if_pos rfl, if_pos rfl]
      show Option.map _ w.heap[k]? = _
      rw [hh]; rfl
    · rw [if_neg (fun h => hkb h.symm), if_neg hkb]; rfl
  refine ⟨rfl, ⟨rfl, rfl, rfl, ?_, fun k hk hn' => ?_⟩, d'.toList.map (·.1), hw', ⟨?_, hle, .inr ⟨b, putCells id 0 (flatK encD 32 d') cs, rfl, hB, ?_, ?_, ?_⟩⟩, ?_, ?_⟩
  · show w.heap.size ≤ ((putRow id (Go.Sort.ahead w q) b 0 (flatK encD 32 d')).heap ++ os).size
    have : (putRow id (Go.Sort.ahead w q) b 0 (flatK encD 32 d')).heap.size = w.heap.size := by
      show ((Go.Sort.ahead w q).heap.modify b _).size = _
      rw [Array.size_modify]; rfl
    rw [Array.size_append]; omega
  · rw [heap k hk, if_neg hn']
  · rw [dcs_len hw', hlen']
  · rw [heap b (heap_lt hh), if_pos rfl]
  · simp [putCells, hs]
  · apply List.ext_getElem?
    intro j
    have hcsz : n * 32 ≤ cs.size := by rw [hs]; exact Nat.mul_le_mul_right _ hle
    by_cases hj : j < n * 32
    · rw [List.getElem?_take, if_pos hj, ← hfl, Array.getElem?_toList, Array.getElem?_toList]
      unfold putCells
      rw [Array.getElem?_mapIdx, Array.getElem?_eq_getElem (show j < cs.size by omega), Option.map_some, if_pos ⟨Nat.zero_le _, by omega⟩]
      show some ((flatK encD 32 d')[j - 0]!) = _
      rw [Nat.sub_zero, getElem!_pos (flatK encD 32 d') j (by omega), Array.getElem?_eq_getElem (by omega)]
    · rw [List.getElem?_take, if_neg hj, List.getElem?_eq_none (by rw [dcs_len hw', hlen']; omega)]
  · rw [← hd]; exact hperm.map _
  · rw [List.pairwise_map]
    refine List.pairwise_iff_getElem.2 (fun i j hi hj hij => ?_)
    have := hsd i j (Nat.zero_le _) hij (by rw [Array.length_toList] at hj; omega)
    unfold ltOf cfD at this
    have h3 := of_decide_eq_false this
    rw [Array.length_toList] at hi hj
    rw [getElem!_pos d' j (by omega), getElem!_pos d' i (by omega)] at h3
    show compareBytes _ _ ≤ 0
    have := cmp_anti (d'[j]'(by omega)).1 (d'[i]'(by omega)).1
    simp only [Array.getElem_toList]
    omega
end Go.Proofs.Ytnablplljilahaa.Dg
