/- MY OWN ENGINE, part 14: copies inside a row, appends in place and anew, what lies apart. -/
import Derived.Test.YtfhimpkpfelilaaDoorG13
import Derived.Lib.Overlaps
namespace Go.GV
open Go Go.RowKit
set_option linter.unusedSimpArgs false
set_option linter.unusedVariables false
theorem slN (m l sz : Nat) : slA none m l sz = none := by unfold slA; split <;> rfl
theorem slS {b m l sz : Nat} (h : l < m) : slA (some (⟨b, 0, none⟩ : Addr)) m l sz = some ⟨b, l * sz, none⟩ := by
  unfold slA
  rw [if_neg (by omega), Option.map_some, add_none, Nat.zero_add]
theorem sl0 (b m sz : Nat) : slA (some (⟨b, 0, none⟩ : Addr)) m 0 sz = some ⟨b, 0, none⟩ := by
  unfold slA
  split
  · rfl
  · rw [Option.map_some, add_none, Nat.zero_mul]
theorem sl_blk {b m l sz : Nat} : blkOf (slA (some (⟨b, 0, none⟩ : Addr)) m l sz) = some b := by
  unfold slA
  split
  · rfl
  · rw [Option.map_some, add_none]; rfl
theorem splice_nil (c : List Value) (o : Nat) : splice c o [] = c := by simp [splice]
theorem Row.sl0 {w : World} {B : Nat} {e : TypeId} {sz : Nat} {A : Option Addr} {n c : Nat} {vs : List Value} (h : Row w B e sz A n c vs) (m : Nat) : slA A m 0 sz = A := by
  rcases h.at_ with ⟨rfl, _, _⟩ | ⟨b, _, rfl, _⟩
  · exact slN _ _ _
  · exact GV.sl0 _ _ _
theorem Row.tailS {w : World} {B : Nat} {e : TypeId} {sz : Nat} {A : Option Addr} {n c k : Nat} {vs : List Value} (h : Row w B e sz A n c vs) (hk : k ≤ n) : Sl w sz (slA A c k sz) (n - k) (vs.drop (k * sz)) := by
  have hl := h.len
  have hle := h.le
  refine ⟨by rw [List.length_drop, hl, Nat.sub_mul], fun h0 => ?_⟩
  rcases h.at_ with ⟨_, h1, _⟩ | ⟨b, cs, rfl, _, hh, _, ht⟩
  · omega
  · refine ⟨b, k * sz, slS (by omega), fun j v hj => ?_⟩
    rw [List.getElem?_drop] at hj
    have := cellsAt_take hh ht (k * sz + j) v hj
    rwa [Nat.zero_add] at this
theorem Sl.headS {w : World} {sz : Nat} {A : Option Addr} {n k : Nat} {vs : List Value} (h : Sl w sz A n vs) (hk : k ≤ n) : Sl w sz A k (vs.take (k * sz)) := by
  have hl := h.1
  have hm : k * sz ≤ n * sz := Nat.mul_le_mul_right _ hk
  refine ⟨by rw [List.length_take, hl, Nat.min_eq_left hm], fun h0 => ?_⟩
  obtain ⟨b, o, hA, hc⟩ := h.2 (by omega)
  refine ⟨b, o, hA, fun j v hj => hc j v ?_⟩
  rw [List.getElem?_take] at hj
  split at hj
  · exact hj
  · cases hj
theorem row_cutG {w : World} {B : Nat} {e : TypeId} {sz : Nat} {A : Option Addr} {n c k : Nat} {vs : List Value} (hr : Row w B e sz A n c vs) (hk : k ≤ n) : Row w B e sz A k c (vs.take (k * sz)) := by
  have hl := hr.len
  have hle := hr.le
  have hm : k * sz ≤ n * sz := Nat.mul_le_mul_right _ hk
  refine ⟨by rw [List.length_take, hl, Nat.min_eq_left hm], by omega, ?_⟩
  rcases hr.at_ with ⟨h1, h2, h3⟩ | ⟨b, cs, hA, hB, hh, hs, ht⟩
  · exact .inl ⟨h1, by omega, h3⟩
  · exact .inr ⟨b, cs, hA, hB, hh, hs, by rw [← ht, List.take_take, Nat.min_eq_left hm]⟩
/-- the row with some of what lies behind it -/
theorem row_ext {w : World} {B : Nat} {e : TypeId} {sz : Nat} {A : Option Addr} {n c k : Nat} {vs : List Value} (hr : Row w B e sz A n c vs) (hk : n + k ≤ c) : ∃ us, us.length = k * sz ∧ Row w B e sz A (n + k) c (vs ++ us) := by
  have hl := hr.len
  rcases hr.at_ with ⟨h1, h2, h3⟩ | ⟨b, cs, hA, hB, hh, hs, ht⟩
  · have : k = 0 := by omega
    subst this
    exact ⟨[], by simp, by rw [List.append_nil]; exact hr⟩
  · have hm : (n + k) * sz ≤ c * sz := Nat.mul_le_mul_right _ hk
    have hcl : cs.toList.length = c * sz := by simpa using hs
    rw [Nat.add_mul] at hm
    refine ⟨(cs.toList.drop (n * sz)).take (k * sz), by rw [List.length_take, List.length_drop, hcl]; omega, ?_, hk, .inr ⟨b, cs, hA, hB, hh, hs, ?_⟩⟩
    · rw [List.length_append, List.length_take, List.length_drop, hcl, hl, Nat.add_mul]; omega
    · rw [Nat.add_mul, ← ht, List.take_add]
theorem cpy_row {w : World} {B : Nat} {e : TypeId} {sz : Nat} {A : Option Addr} {n c m k : Nat} {vs us : List Value} {x : Value} {K : Nat → World → Prop} (hr : Row w B e sz A n c vs) (hx : srcOf w sz x m us) (hul : us.length = m * sz) (hk : k ≤ n) (h1 : ∀ v ∈ us.take (min m (n - k) * sz), v.oneCell' = true)
    (hK : ∀ w', Row w' B e sz A n c (splice vs (k * sz) (us.take (min m (n - k) * sz))) → Fr (fun j => blkOf A = some j) w w' → K (min m (n - k)) w') : cpy w sz (slA A c k sz) (n - k) x K := by
  refine ⟨m, us, hx, fun h0 => ?_, fun h0 => ?_⟩
  · have := hK w (by rw [h0, Nat.zero_mul, List.take_zero, splice_nil]; exact hr) (Fr.refl _ _)
    rw [h0] at this
    exact this
  · have hle := hr.le
    have hkn : k < n := by omega
    have hm1 : min m (n - k) * sz ≤ m * sz := Nat.mul_le_mul_right _ (Nat.min_le_left _ _)
    have hm2 : min m (n - k) * sz ≤ (n - k) * sz := Nat.mul_le_mul_right _ (Nat.min_le_right _ _)
    have hm3 : k * sz ≤ n * sz := Nat.mul_le_mul_right _ hk
    rw [Nat.sub_mul] at hm2
    have hlt : (us.take (min m (n - k) * sz)).length = min m (n - k) * sz := by rw [List.length_take, hul, Nat.min_eq_left hm1]
    have h := row_putG (o' := k * sz) (us := us.take (min m (n - k) * sz)) (K := fun w' => K (min m (n - k)) w') hr (by omega) (by rw [hlt]; omega) h1 hK
    rcases hr.at_ with ⟨_, h2, _⟩ | ⟨b, cs, rfl, _⟩
    · omega
    · rw [slS (by omega)]
      have h : st w b (0 + k * sz) _ _ := h
      rw [Nat.zero_add] at h
      exact h
/-- appended in place -/
theorem app_in {w : World} {B : Nat} {e : TypeId} {sz bytes : Nat} {z : List Value} {A : Option Addr} {n c : Nat} {x : Value} {old us : List Value} {m : Nat} {K : Option Addr → Nat → Nat → World → Prop}
    (hr : Row w B e sz A n c old) (hx : srcOf w sz x m us) (hul : us.length = m * sz) (h1 : ∀ v ∈ us, v.oneCell' = true) (hb : (n + m) * bytes ≤ 140737488355328) (hm : n + m ≤ 9223372036854775807) (hle : n + m ≤ c)
    (hK : ∀ w', Row w' B e sz A (n + m) c (old ++ us) → Fr (fun k => blkOf A = some k) w w' → K A (n + m) c w') : app w sz bytes z e A n c x K := by
  refine ⟨m, us, hx, h1, hb, hm, fun _ => ⟨fun h0 => ?_, fun h0 => ?_⟩, fun hlt => absurd hlt (by omega)⟩
  · subst h0
    have : us = [] := List.length_eq_zero_iff.1 (by simpa using hul)
    subst this
    exact hK w (by rw [List.append_nil]; exact hr) (Fr.refl _ _)
  · rcases hr.at_ with ⟨rfl, rfl, rfl⟩ | ⟨b, cs, rfl, hBb, hh, hs, ht⟩
    · omega
    · have hfit : n * sz + us.length ≤ cs.size := by rw [hs, hul, ← Nat.add_mul]; exact Nat.mul_le_mul_right _ hle
      show st w b (0 + n * sz) us _
      rw [Nat.zero_add]
      refine ⟨⟨cs, e, 0, 0, hh, hfit, .inl (Nat.zero_le _)⟩, h1, ?_⟩
      refine hK _ ⟨by rw [List.length_append, hr.len, hul, Nat.add_mul], hle, .inr ⟨b, _, rfl, hBb, stB_heap hh, ?_, ?_⟩⟩ (Fr.st (fun _ => rfl))
      · simp only [List.size_toArray]; rw [splice_length (by simpa using hfit)]; simpa using hs
      · have := splice_take (vs := us) ht hr.len
        rw [hul, ← Nat.add_mul] at this
        simpa using this
/-- zeros appended, where there is no room -/
theorem appZ_new {w : World} {B : Nat} {e : TypeId} {sz bytes : Nat} {z : List Value} {A : Option Addr} {n c : Nat} {x : Int} {old : List Value} {m : Nat} {K : Option Addr → Nat → Nat → World → Prop}
    (hs : Sl w sz A n old) (hx : IntKind.wrap .i64 x = (m : Int)) (h48 : (m : Int) * bytes ≤ 281474976710656) (h1 : ∀ v ∈ z, v.oneCell' = true) (hz : z.length = sz) (hb : (n + m) * bytes ≤ 140737488355328) (hm : n + m ≤ 9223372036854775807) (hlt : c < n + m) (hB : B ≤ w.heap.size)
    (hK : ∀ b c' w', w.heap.size ≤ b → Row w' B e sz (some ⟨b, 0, none⟩) (n + m) c' (old ++ zeros m z) → Fr (fun _ => False) w w' → K (some ⟨b, 0, none⟩) (n + m) c' w') : appZ w sz bytes z e A n c x K := by
  have hul : (zeros m z).length = m * sz := by rw [zeros_length, hz]
  have hol := hs.1
  unfold appZ
  rw [hx, Int.toNat_natCast]
  refine ⟨Int.natCast_nonneg m, h48, h1, hb, hm, fun hle => absurd hle (by omega), fun _ => ⟨old, hs.src, fun cap hc1 hc2 => ?_⟩⟩
  refine hK _ _ _ (by show w.heap.size ≤ w.drew.heap.size; exact Nat.le_refl _) ⟨by rw [List.length_append, hol, hul, Nat.add_mul], hc1, .inr ⟨_, _, rfl, hB, heap_alloc_at _ _, ?_, ?_⟩⟩ ((Fr.drew _ w).trans1 (Fr.alloc _ _ _))
  · simp only [List.size_toArray, List.length_append, zeros_length, hol, hz, ← Nat.add_mul]
    congr 1; omega
  · simp only [List.append_assoc]
    rw [← List.append_assoc, List.take_append_of_le_length (by rw [List.length_append, hol, hul, ← Nat.add_mul]; exact Nat.le_refl _), List.take_of_length_le (by rw [List.length_append, hol, hul, ← Nat.add_mul]; exact Nat.le_refl _)]
/-- what lies in two blocks does not overlap -/
theorem overlaps_ext {P : Program} {f : FuncId} {fn : Func} {w : World} {tS tR e e1 e2 : TypeId} {size : Nat} {b1 o1 n1 c1 b2 o2 n2 c2 : Nat} {cs1 cs2 : Array Value} {K : Value → World → Prop}
    (hf : P.funcs[f]? = some fn) (hb : fn.body.isNone = true) (hn : Extern.findNext fn = none) (he : Extern.find fn = some (Extern.SlicesOverlaps.overlaps #[tS, tS] #[tR]))
    (ht : P.underlying tS = some (.slice e)) (hz0 : size ≠ 0) (hz : szOf P e = size)
    (h1 : w.heap[b1]? = some (.cells cs1 e1 (0, 0))) (h2 : w.heap[b2]? = some (.cells cs2 e2 (0, 0))) (hne : b1 ≠ b2) (h0 : cs2.size ≠ 0) (hK : K (.bool false) w) :
    extC P f #[.slice (some ⟨b1, o1, none⟩) n1 c1, .slice (some ⟨b2, o2, none⟩) n2 c2] w K := by
  refine ⟨fn, _, _, w, hf, hb, hn, he, ?_, hK⟩
  exact Lib.run_overlaps_apart w tS tR e ht size (fun w => szOf_run hz0 hz) ⟨b1, o1, none⟩ ⟨b2, o2, none⟩ n1 c1 n2 c2 hne e1 e2 cs1.size cs2.size (by simp [World.shape?, h1]) (by simp [World.shape?, h2]) h0 (by simp [World.frozen?, h1]) (by simp [World.frozen?, h1])
end Go.GV
namespace Go.GV
/-- elements that lie as so many cells each -/
structure EncO (β : Type) (enc : β → List Value) (sz : Nat) : Prop where
  len : ∀ x, (enc x).length = sz
  one : ∀ x, ∀ v ∈ enc x, v.oneCell' = true
section
variable {β : Type} {enc : β → List Value} {sz : Nat}
theorem EncO.fl (h : EncO β enc sz) (l : List β) : (flt enc l).length = l.length * sz := flt_len (fun x _ => h.len x)
theorem EncO.fo (h : EncO β enc sz) (l : List β) : ∀ v ∈ flt enc l, v.oneCell' = true := flt_oneCell (fun x _ => h.one x)
theorem EncO.ft (h : EncO β enc sz) (l : List β) {k : Nat} (hk : k ≤ l.length) : (flt enc l).take (k * sz) = flt enc (l.take k) := flt_take (fun x _ => h.len x) hk
theorem EncO.fd (h : EncO β enc sz) (l : List β) {k : Nat} (hk : k ≤ l.length) : (flt enc l).drop (k * sz) = flt enc (l.drop k) := flt_drop (fun x _ => h.len x) hk
end
theorem splice_at {a z b : List Value} {o : Nat} (ha : a.length = o) : splice (a ++ z) o b = a ++ b ++ z.drop b.length := by
  subst ha
  unfold splice
  rw [List.take_left, ← List.drop_drop, List.drop_left]
theorem zeros_one {n : Nat} {z : List Value} (h : ∀ v ∈ z, v.oneCell' = true) : ∀ v ∈ zeros n z, v.oneCell' = true := by
  intro v hv
  simp only [zeros, List.mem_flatten, List.mem_replicate] at hv
  obtain ⟨l, ⟨_, rfl⟩, hv⟩ := hv
  exact h v hv
end Go.GV
