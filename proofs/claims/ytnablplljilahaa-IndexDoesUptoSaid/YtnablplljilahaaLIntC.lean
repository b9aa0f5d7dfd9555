/- ints: Grow, Concat, Sort -/
import Derived.Test.YtnablplljilahaaLIntB
import Derived.Test.YtnablplljilahaaLSortI
import Derived.Shelf.Sort.Plain
import Derived.Shelf.Slices.In.SortNone
namespace Go.Proofs.Ytnablplljilahaa
open Go.GV Go.RowKit Go.Lib
set_option linter.unusedVariables false
set_option linter.unusedSimpArgs false
theorem grow_calls (m : Nat) (w : World) (hm : m ≤ 1099511627776) :
    Calls Try.prog 58 #[.slice none 0 0, .int .i64 m] w fun e w' => Fr (fun _ => False) w w' ∧ ∃ A' c', e = .returned (.slice A' 0 c') ∧ Row w' w.heap.size 3 1 A' 0 c' [] := by
  refine (F58.of none 0 0 m w (Q := fun v w' => Fr (fun _ => False) w w' ∧ ∃ A' c', v = .slice A' 0 c' ∧ Row w' w.heap.size 3 1 A' 0 c' []) ?_).mono (fun e w' ⟨v, he, hf, A', c', hv, h⟩ => ⟨hf, A', c', by rw [he, hv], h⟩)
  refine vIf_f (decide_eq_false (by omega)) (jnC_mk (fun _ => ?_))
  have e0 : IntKind.wrap .i64 ((m : Int) - IntKind.wrap .i64 (((0 : Nat) : Int) - ((0 : Nat) : Int))) = m := by
    rw [i64_id (n := ((0 : Nat) : Int) - ((0 : Nat) : Int)) (by omega) (by omega), i64_id (by omega) (by omega)]; omega
  show vIf (decide (IntKind.wrap .i64 ((m : Int) - IntKind.wrap .i64 (((0 : Nat) : Int) - ((0 : Nat) : Int))) > 0)) _ _
  refine vIf_mk (fun h0 => ?_) (fun h0 => ⟨Fr.refl _ _, none, 0, rfl, Row.nil _ _ _ _⟩)
  refine gd_mk rfl (gd_mk rfl ?_)
  show appZ w 1 8 [Value.int .i64 0] 3 none 0 0 (IntKind.wrap .i64 ((m : Int) - IntKind.wrap .i64 (((0 : Nat) : Int) - ((0 : Nat) : Int)))) _
  refine appZ_row (Row.nil w w.heap.size 3 1) (m := m) (by rw [e0, i64_id (by omega) (by omega)]) (by omega) (by intro v hv; simp only [List.mem_singleton] at hv; subst hv; rfl) rfl (by omega) (by omega) (Nat.le_refl _) ?_
  intro A' c' w2 r2 f2
  refine gd_mk rfl (gd_mk (decide_eq_true (by show ((0 : Nat) : Int) ≤ (c' : Int); omega)) ⟨f2.mono (fun _ _ h => by simp [blkOf] at h), _, c', rfl, ?_⟩)
  have hsl : slA A' c' 0 1 = A' := by
    unfold slA
    split
    · rfl
    · cases A' with
      | none => rfl
      | some a => simp [Addr.add]
  show Row w2 w.heap.size 3 1 (slA A' c' 0 1) 0 c' []
  rw [hsl]
  refine ⟨rfl, Nat.zero_le _, ?_⟩
  rcases r2.at_ with ⟨h1, h2, h3⟩ | ⟨b, cs, h1, h2, h3, h4, h5⟩
  · exact .inl ⟨h1, rfl, h3⟩
  · exact .inr ⟨b, cs, h1, h2, h3, h4, by simp⟩
/-- Concat of rows of ints that stay as they are -/
theorem concat_calls (A : Option Addr) (n c : Nat) (vs : List Value) (ls : List (List Int)) (w : World) (h : Sl w 1 A n vs) (hn : n = ls.length) (hs : ∀ (i : Nat) (l : List Int), ls[i]? = some l → ∃ (B : Option Addr) (m k : Nat), vs[i]? = some (Value.slice B m k) ∧ Sl w 1 B m (ivs l))
    (hm : ls.flatten.length ≤ 1099511627776) (hn2 : n ≤ 1099511627776) :
    Calls Try.prog 48 #[.slice A n c] w fun e w' => Fr (fun _ => False) w w' ∧ ∃ A' c', e = .returned (.slice A' ls.flatten.length c') ∧ Row w' w.heap.size 3 1 A' ls.flatten.length c' (ivs ls.flatten) := by
  refine (F48.of A n c w (Q := fun v w' => Fr (fun _ => False) w w' ∧ ∃ A' c', v = .slice A' ls.flatten.length c' ∧ Row w' w.heap.size 3 1 A' ls.flatten.length c' (ivs ls.flatten)) ?_).mono (fun e w' ⟨v, he, hf, A', c', hv, h⟩ => ⟨hf, A', c', by rw [he, hv], h⟩)
  have tk : ∀ i l, ls[i]? = some l → (ls.take (i + 1)).flatten = (ls.take i).flatten ++ l := fun i l hi => by rw [List.take_add_one, hi]; simp
  have le : ∀ i, (ls.take i).flatten.length ≤ ls.flatten.length := fun i => by
    have := congrArg (fun x => x.flatten.length) (List.take_append_drop i ls)
    simp only [List.flatten_append, List.length_append] at this
    omega
  refine jnC_mk ?_
  refine loop_rule (fun s u => u = w ∧ ∃ i : Nat, i ≤ n ∧ s = ((A, n, c), (((ls.take i).flatten.length : Nat) : Int), (A, n, c), (n : Int), (i : Int), ()))
    (fun s _ => (n - s.2.2.2.2.1).toNat) ?_ _ _ ⟨rfl, 0, by omega, rfl⟩
  rintro s u C ⟨rfl, i, hi, rfl⟩ hC _
  refine vIf_mk (fun hlt => ?_) (fun hge => ?_)
  · have hlt2 : (i : Int) < n := of_decide_eq_true hlt
    obtain ⟨l, hl⟩ : ∃ l, ls[i]? = some l := ⟨_, List.getElem?_eq_getElem (by omega)⟩
    obtain ⟨B, m, k, hv, hB⟩ := hs i l hl
    obtain ⟨b, o, hA', hc⟩ := h.get (i := i) (by omega) hv
    subst hA'
    have hml : l.length = m := sl_n hB
    have h1 := le (i + 1)
    rw [tk i l hl, List.length_append] at h1
    have e1 : IntKind.wrap .i64 ((((ls.take i).flatten.length : Nat) : Int) + (m : Int)) = (((ls.take (i + 1)).flatten.length : Nat) : Int) := by
      rw [i64_id (by omega) (by omega), tk i l hl, List.length_append]; omega
    refine dr_mk (gd_mk (decide_eq_true (Int.natCast_nonneg i)) (gd_mk (decide_eq_true hlt2) ⟨B, m, k, hc, vIf_f (decide_eq_false ?_) (jnC_mk (hC _ _ ⟨rfl, i + 1, by omega, ?_⟩ ?_))⟩))
    · show ¬ (IntKind.wrap .i64 ((((ls.take i).flatten.length : Nat) : Int) + (m : Int)) < 0)
      rw [e1]; omega
    · show ((_, n, c), IntKind.wrap .i64 ((((ls.take i).flatten.length : Nat) : Int) + (m : Int)), (_, n, c), (n : Int), IntKind.wrap .i64 ((i : Int) + 1), ()) = _
      rw [e1, i64_id (by omega) (by omega)]; rfl
    · show ((n : Int) - IntKind.wrap .i64 ((i : Int) + 1)).toNat < ((n : Int) - i).toNat
      rw [i64_id (by omega) (by omega)]; omega
  · have hge2 : ¬ ((i : Int) < n) := of_decide_eq_false hge
    have hin : i = ls.length := by omega
    subst hin
    show Calls Try.prog 58 #[.slice none 0 0, .int .i64 (((ls.take ls.length).flatten.length : Nat) : Int)] u _
    rw [List.take_length]
    refine (grow_calls _ u hm).mono ?_
    rintro e w1 ⟨f1, R, rc, rfl, r1⟩
    refine ⟨R, 0, rc, rfl, jnC_mk ?_⟩
    refine loop_rule (fun s x => Fr (fun _ => False) u x ∧ ∃ (i : Nat) (R : Option Addr) (rc : Nat), i ≤ n ∧ s = ((R, (ls.take i).flatten.length, rc), (A, n, c), (n : Int), (i : Int), ()) ∧ Row x u.heap.size 3 1 R (ls.take i).flatten.length rc (ivs (ls.take i).flatten))
      (fun s _ => (n - s.2.2.2.1).toNat) ?_ _ _ ⟨f1, 0, R, rc, by omega, rfl, r1⟩
    rintro s x C2 ⟨hf, i, R, rc, hi, rfl, hr⟩ hC2 _
    have hRb : ∀ k, k < u.heap.size → blkOf R = some k → False := fun k hk hb => by have := (hr.blt hb).1; omega
    refine vIf_mk (fun hlt => ?_) (fun hge => ?_)
    · have hlt2 : (i : Int) < n := of_decide_eq_true hlt
      obtain ⟨l, hl⟩ : ∃ l, ls[i]? = some l := ⟨_, List.getElem?_eq_getElem (by omega)⟩
      obtain ⟨B, m, k, hv, hB⟩ := hs i l hl
      obtain ⟨b, o, hA', hc⟩ := (hf.sl h (fun _ _ _ h => h)).get (i := i) (by omega) hv
      subst hA'
      have hml : l.length = m := sl_n hB
      have h1 := le (i + 1)
      rw [tk i l hl, List.length_append] at h1
      refine dr_mk (gd_mk (decide_eq_true (Int.natCast_nonneg i)) (gd_mk (decide_eq_true hlt2) ⟨B, m, k, hc, ?_⟩))
      refine app_row hr (hf.sl hB (fun _ _ _ h => h)).src (ivs_one l) rfl (by show ((ls.take i).flatten.length + m) * 8 ≤ _; omega) (by show (ls.take i).flatten.length + m ≤ _; omega) hf.size ?_
      intro R' rc' w4 r4 f4
      have e2 : (ls.take i).flatten.length + m = (ls.take (i + 1)).flatten.length := by rw [tk i l hl, List.length_append, hml]
      refine jnC_mk (hC2 _ _ ⟨hf.trans f4 (fun _ _ h => h) (fun k hk h => hRb k hk h), i + 1, R', rc', by omega, ?_, ?_⟩ ?_)
      · show ((R', (ls.take i).flatten.length + m, rc'), (_, n, c), (n : Int), IntKind.wrap .i64 ((i : Int) + 1), ()) = _
        rw [i64_id (by omega) (by omega), e2]; rfl
      · rw [← e2, tk i l hl, ivs_app]
        exact r4
      · show ((n : Int) - IntKind.wrap .i64 ((i : Int) + 1)).toNat < ((n : Int) - i).toNat
        rw [i64_id (by omega) (by omega)]; omega
    · have hge2 : ¬ ((i : Int) < n) := of_decide_eq_false hge
      have hin : i = ls.length := by omega
      subst hin
      rw [List.take_length] at hr ⊢
      exact ⟨hf, R, rc, rfl, hr⟩
/-! ### the sort -/
theorem sort_nil (c : Nat) (w : World) : Calls Try.prog 49 #[.slice none 0 c] w fun e w' => e = .returned (.tuple #[]) ∧ w' = w :=
  Any.slices_Sort_int_none Try.sortI none c w
open Go.Sort in
theorem sort_int (B : Nat) (e : TypeId) (b c : Nat) (l : List Int) (n : Nat) (w : World) (h : Row w B e 1 (some ⟨b, 0, none⟩) n c (ivs l)) (hn : n < 4611686018427387904) :
    Calls Try.prog 49 #[.slice (some ⟨b, 0, none⟩) n c] w fun e' w' => e' = .returned (.tuple #[]) ∧ Fr (fun k => k = b) w w' ∧ ∃ r, Row w' B e 1 (some ⟨b, 0, none⟩) n c (ivs r) ∧ r.Perm l ∧ r.Pairwise (· ≤ ·) := by
  have hrl := sl_n h.sl
  have hlen := h.len
  rcases h.at_ with ⟨h', _⟩ | ⟨b', cs, hA, hB, hh, hs, ht⟩
  · cases h'
  injection hA with hA
  injection hA with hA
  subst hA
  have hH : Holds (Value.int .i64) w b 0 l.toArray := by
    intro j hj
    have hj2 : j < l.length := by simpa using hj
    have e1 : l.toArray[j]! = l[j]'hj2 := by
      rw [getElem!_pos l.toArray j hj]; simp
    rw [e1]
    constructor
    · exact cellsAt_take hh ht j _ (ivs_at (at_lt hj2))
    · simp [World.frozen?, hh]
  have hcon := Any.slices_Sort_int Try.sortI b 0 c l w hH (heap_lt hh) (by omega)
  rw [hrl] at hcon
  refine Calls.mono hcon ?_
  rintro e' w' ⟨rfl, q, os, rfl⟩
  generalize hd : l.mergeSort (fun x y => decide (x ≤ y)) = d
  have hperm : d.Perm l := by rw [← hd]; exact List.mergeSort_perm _ _
  have hsrt : d.Pairwise (· ≤ ·) := by
    have h1 := List.pairwise_mergeSort (le := fun x y : Int => decide (x ≤ y)) (fun a b c h1 h2 => by simp at *; omega) (fun a b => by simp; omega) l
    rw [hd] at h1
    exact h1.imp (fun h => of_decide_eq_true h)
  have hdl : d.length = n := by rw [hperm.length_eq, hrl]
  have hle := h.le
  have heap : ∀ k, k < w.heap.size → (grow (putRow (Value.int .i64) (Go.Sort.ahead w q) b 0 d.toArray) os).heap[k]? = if k = b then some (.cells (putCells (Value.int .i64) 0 d.toArray cs) e) else w.heap[k]? := by
    intro k hk
    show ((putRow (Value.int .i64) (Go.Sort.ahead w q) b 0 d.toArray).heap ++ os)[k]? = _
    have hsz : k < (putRow (Value.int .i64) (Go.Sort.ahead w q) b 0 d.toArray).heap.size := by
      show k < ((Go.Sort.ahead w q).heap.modify b _).size
      rw [Array.size_modify]; exact hk
    rw [Array.getElem?_append_left hsz]
    show ((Go.Sort.ahead w q).heap.modify b (onCells (putCells (Value.int .i64) 0 d.toArray)))[k]? = _
    rw [Array.getElem?_modify]
    by_cases hkb : k = b
    · subst hkb
      rw [if_pos rfl, if_pos rfl]
      show Option.map _ w.heap[k]? = _
      rw [hh]; rfl
    · rw [if_neg (fun h => hkb h.symm), if_neg hkb]; rfl
  refine ⟨rfl, ⟨rfl, rfl, rfl, ?_, fun k hk hn' => ?_⟩, d, ⟨?_, hle, .inr ⟨b, putCells (Value.int .i64) 0 d.toArray cs, rfl, hB, ?_, ?_, ?_⟩⟩, hperm, hsrt⟩
  · show w.heap.size ≤ ((putRow (Value.int .i64) (Go.Sort.ahead w q) b 0 d.toArray).heap ++ os).size
    have : (putRow (Value.int .i64) (Go.Sort.ahead w q) b 0 d.toArray).heap.size = w.heap.size := by
      show ((Go.Sort.ahead w q).heap.modify b _).size = _
      rw [Array.size_modify]; rfl
    rw [Array.size_append]; omega
  · rw [heap k hk, if_neg hn']
  · rw [ivs_len, hdl]; omega
  · rw [heap b (heap_lt hh), if_pos rfl]
  · simp [putCells, hs]
  · apply List.ext_getElem?
    intro j
    have hcsz : n ≤ cs.size := by rw [hs]; omega
    by_cases hj : j < n
    · rw [List.getElem?_take, if_pos (by omega), Array.getElem?_toList]
      unfold putCells
      rw [Array.getElem?_mapIdx, Array.getElem?_eq_getElem (show j < cs.size by omega), Option.map_some, if_pos ⟨Nat.zero_le _, by simp; omega⟩]
      rw [Nat.sub_zero, getElem!_pos d.toArray j (by simp; omega), ivs_at (at_lt (by omega))]
      simp
    · rw [List.getElem?_take, if_neg (by omega), List.getElem?_eq_none (by rw [ivs_len, hdl]; omega)]
/-! ### writing into a row of ints -/
theorem row_put {w : World} {B : Nat} {e : TypeId} {sz : Nat} {A : Option Addr} {n c : Nat} {vs us : List Value} {o' : Nat} {K : World → Prop} (hr : Row w B e sz A n c vs) (hn : n ≠ 0) (hfit : o' + us.length ≤ n * sz) (h1 : ∀ v ∈ us, v.oneCell' = true)
    (hK : ∀ w', Row w' B e sz A n c (splice vs o' us) → Fr (fun k => blkOf A = some k) w w' → K w') : dr A fun b o => st w b (o + o') us K := by
  rcases hr.at_ with ⟨_, h0, _⟩ | ⟨b, cs, rfl, hB, hh, hs, ht⟩
  · exact absurd h0 hn
  · have hle := hr.le
    have hl := hr.len
    have hmul : n * sz ≤ c * sz := Nat.mul_le_mul_right _ hle
    show st w b (0 + o') us K
    rw [Nat.zero_add]
    have hfit2 : o' + us.length ≤ cs.toList.length := by simp; omega
    refine ⟨⟨cs, e, 0, 0, hh, by simpa using hfit2, .inl (Nat.zero_le _)⟩, h1, hK _ ⟨by rw [splice_length (by omega)]; exact hl, hle, .inr ⟨b, _, rfl, hB, stB_heap hh, ?_, ?_⟩⟩ (Fr.st (fun _ => rfl))⟩
    · simp only [List.size_toArray]; rw [splice_length hfit2]; simpa using hs
    · apply List.ext_getElem?
      intro j
      simp only [List.getElem?_take]
      by_cases hj : j < n * sz
      · rw [if_pos hj, splice_get hfit2, splice_get (by omega), ← ht]
        simp only [List.getElem?_take]
        by_cases h2 : j < o'
        · rw [if_pos h2, if_pos h2, if_pos hj]
        · rw [if_neg h2, if_neg h2]
          split
          · rfl
          · first | rfl | rw [if_pos hj]
      · rw [if_neg hj, List.getElem?_eq_none (by rw [splice_length (by omega)]; omega)]
theorem row_cut {w : World} {B : Nat} {e : TypeId} {sz : Nat} {A : Option Addr} {n c k : Nat} {vs : List Value} (hr : Row w B e sz A n c vs) (hk : k ≤ n) : Row w B e sz A k c (vs.take (k * sz)) := by
  have hl := hr.len
  have hle := hr.le
  have hmul : k * sz ≤ n * sz := Nat.mul_le_mul_right _ hk
  refine ⟨by rw [List.length_take]; omega, by omega, ?_⟩
  rcases hr.at_ with ⟨h1, h2, h3⟩ | ⟨b, cs, h1, h2, h3, h4, h5⟩
  · exact .inl ⟨h1, by omega, h3⟩
  · refine .inr ⟨b, cs, h1, h2, h3, h4, ?_⟩
    rw [← h5, List.take_take, Nat.min_eq_left hmul]
theorem ivs_set {P : List Int} {k : Nat} {x : Int} (hk : k < P.length) : ivs (P.set k x) = splice (ivs P) (k * 1) [.int .i64 x] := by
  have hfit : k * 1 + [Value.int .i64 x].length ≤ (ivs P).length := by rw [ivs_len]; simp; omega
  apply List.ext_getElem?
  intro t
  rw [splice_get hfit]
  simp only [Nat.mul_one, List.length_singleton, ivs, List.map_set]
  by_cases h1 : t < k
  · rw [if_pos h1, List.getElem?_set_ne (by omega)]
  · rw [if_neg h1]
    by_cases h2 : t < k + 1
    · have : t = k := by omega
      subst this
      rw [if_pos h2, List.getElem?_set_self (by simpa using hk)]
      simp
    · rw [if_neg h2, List.getElem?_set_ne (by omega)]
/-- the tail of a row is cleared -/
theorem row_clear {w : World} {B : Nat} {e : TypeId} {b n c k : Nat} {P : List Int} {K : World → Prop} (hr : Row w B e 1 (some ⟨b, 0, none⟩) n c (ivs P)) (hk : k < n)
    (hK : ∀ w', Row w' B e 1 (some ⟨b, 0, none⟩) k c (ivs (P.take k)) → Fr (fun j => j = b) w w' → K w') : dr (slA (some (⟨b, 0, none⟩ : Addr)) c k 1) fun b o => st w b o (zeros (n - k) [Value.int .i64 0]) K := by
  have hle := hr.le
  have hPl := sl_n hr.sl
  have hsk : slA (some (⟨b, 0, none⟩ : Addr)) c k 1 = some ⟨b, 0 + k * 1, none⟩ := by
    unfold slA
    rw [if_neg (by omega), Option.map_some, add_none]
  rw [hsk]
  refine row_put (A := some ⟨b, 0, none⟩) (o' := k * 1) hr (by omega) (by rw [zeros_length]; simp; omega) (fun v hv => ?_) (fun u2 hr2 f2 => hK u2 ?_ (f2.mono (fun j _ hj => by simpa [blkOf] using hj.symm)))
  · simp only [zeros, List.mem_flatten, List.mem_replicate] at hv
    obtain ⟨l, ⟨_, rfl⟩, hv⟩ := hv
    simp at hv; subst hv; rfl
  · have hcut := row_cut hr2 (k := k) (by omega)
    have e : (splice (ivs P) (k * 1) (zeros (n - k) [Value.int .i64 0])).take (k * 1) = ivs (P.take k) := by
      unfold splice
      rw [List.append_assoc, List.take_append_of_le_length (by rw [List.length_take, ivs_len]; omega), List.take_take, Nat.min_self, Nat.mul_one, ivs_take]
    rw [e] at hcut
    exact hcut
theorem slA_zero (b c : Nat) : slA (some (⟨b, 0, none⟩ : Addr)) c 0 1 = some ⟨b, 0, none⟩ := by
  unfold slA
  split
  · rfl
  · simp [Addr.add]
end Go.Proofs.Ytnablplljilahaa
