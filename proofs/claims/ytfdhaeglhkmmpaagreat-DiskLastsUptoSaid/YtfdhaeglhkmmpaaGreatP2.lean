import Derived.Lib.Overlaps
import Derived.Test.YtfdhaeglhkmmpaaGreatProg
import Derived.Lib.Bytealg
import Derived.Test.YtfdhaeglhkmmpaaGreatP1
/- MY OWN ENGINE, part 14: copies inside a row, appends in place and anew, what lies apart. -/
namespace Go.GV
open Go Go.RowKit
set_option linter.unusedSimpArgs false
set_option linter.unusedVariables false
theorem slN (m l sz : Nat) : slA none m l sz = none := by unfold slA; split <;> rfl
theorem slS {b m l sz : Nat} (h : l < m) : slA (some (⟨b, 0, none⟩ : Addr)) m l sz = some ⟨b, l * sz, none⟩ := by
  unfold slA
  rw [if_neg (by omega), Option.map_some, add_none, Nat.zero_add]
theorem sl0 (b m sz : Nat) : slA (some (⟨b, 0, none⟩ : Addr)) m 0 sz = some ⟨b, 0, none⟩ := by
  unfold slA
  split
  · rfl
  · rw [Option.map_some, add_none, Nat.zero_mul]
theorem sl_blk {b m l sz : Nat} : blkOf (slA (some (⟨b, 0, none⟩ : Addr)) m l sz) = some b := by
  unfold slA
  split
  · rfl
  · rw [Option.map_some, add_none]; rfl
theorem splice_nil (c : List Value) (o : Nat) : splice c o [] = c := by simp [splice]
theorem Row.sl0 {w : World} {B : Nat} {e : TypeId} {sz : Nat} {A : Option Addr} {n c : Nat} {vs : List Value} (h : Row w B e sz A n c vs) (m : Nat) : slA A m 0 sz = A := by
  rcases h.at_ with ⟨rfl, _, _⟩ | ⟨b, _, rfl, _⟩
  · exact slN _ _ _
  · exact GV.sl0 _ _ _
theorem Row.tailS {w : World} {B : Nat} {e : TypeId} {sz : Nat} {A : Option Addr} {n c k : Nat} {vs : List Value} (h : Row w B e sz A n c vs) (hk : k ≤ n) : Sl w sz (slA A c k sz) (n - k) (vs.drop (k * sz)) := by
  have hl := h.len
  have hle := h.le
  refine ⟨by rw [List.length_drop, hl, Nat.sub_mul], fun h0 => ?_⟩
  rcases h.at_ with ⟨_, h1, _⟩ | ⟨b, cs, rfl, _, hh, _, ht⟩
  · omega
  · refine ⟨b, k * sz, slS (by omega), fun j v hj => ?_⟩
    rw [List.getElem?_drop] at hj
    have := cellsAt_take hh ht (k * sz + j) v hj
    rwa [Nat.zero_add] at this
theorem Sl.headS {w : World} {sz : Nat} {A : Option Addr} {n k : Nat} {vs : List Value} (h : Sl w sz A n vs) (hk : k ≤ n) : Sl w sz A k (vs.take (k * sz)) := by
  have hl := h.1
  have hm : k * sz ≤ n * sz := Nat.mul_le_mul_right _ hk
  refine ⟨by rw [List.length_take, hl, Nat.min_eq_left hm], fun h0 => ?_⟩
  obtain ⟨b, o, hA, hc⟩ := h.2 (by omega)
  refine ⟨b, o, hA, fun j v hj => hc j v ?_⟩
  rw [List.getElem?_take] at hj
  split at hj
  · exact hj
  · cases hj
theorem row_cutG {w : World} {B : Nat} {e : TypeId} {sz : Nat} {A : Option Addr} {n c k : Nat} {vs : List Value} (hr : Row w B e sz A n c vs) (hk : k ≤ n) : Row w B e sz A k c (vs.take (k * sz)) := by
  have hl := hr.len
  have hle := hr.le
  have hm : k * sz ≤ n * sz := Nat.mul_le_mul_right _ hk
  refine ⟨by rw [List.length_take, hl, Nat.min_eq_left hm], by omega, ?_⟩
  rcases hr.at_ with ⟨h1, h2, h3⟩ | ⟨b, cs, hA, hB, hh, hs, ht⟩
  · exact .inl ⟨h1, by omega, h3⟩
  · exact .inr ⟨b, cs, hA, hB, hh, hs, by rw [← ht, List.take_take, Nat.min_eq_left hm]⟩
/-- the row with some of what lies behind it -/
theorem row_ext {w : World} {B : Nat} {e : TypeId} {sz : Nat} {A : Option Addr} {n c k : Nat} {vs : List Value} (hr : Row w B e sz A n c vs) (hk : n + k ≤ c) : ∃ us, us.length = k * sz ∧ Row w B e sz A (n + k) c (vs ++ us) := by
  have hl := hr.len
  rcases hr.at_ with ⟨h1, h2, h3⟩ | ⟨b, cs, hA, hB, hh, hs, ht⟩
  · have : k = 0 := by omega
    subst this
    exact ⟨[], by simp, by rw [List.append_nil]; exact hr⟩
  · have hm : (n + k) * sz ≤ c * sz := Nat.mul_le_mul_right _ hk
    have hcl : cs.toList.length = c * sz := by simpa using hs
    rw [Nat.add_mul] at hm
    refine ⟨(cs.toList.drop (n * sz)).take (k * sz), by rw [List.length_take, List.length_drop, hcl]; omega, ?_, hk, .inr ⟨b, cs, hA, hB, hh, hs, ?_⟩⟩
    · rw [List.length_append, List.length_take, List.length_drop, hcl, hl, Nat.add_mul]; omega
    · rw [Nat.add_mul, ← ht, List.take_add]
theorem cpy_row {w : World} {B : Nat} {e : TypeId} {sz : Nat} {A : Option Addr} {n c m k : Nat} {vs us : List Value} {x : Value} {K : Nat → World → Prop} (hr : Row w B e sz A n c vs) (hx : srcOf w sz x m us) (hul : us.length = m * sz) (hk : k ≤ n) (h1 : ∀ v ∈ us.take (min m (n - k) * sz), v.oneCell' = true)
    (hK : ∀ w', Row w' B e sz A n c (splice vs (k * sz) (us.take (min m (n - k) * sz))) → Fr (fun j => blkOf A = some j) w w' → K (min m (n - k)) w') : cpy w sz (slA A c k sz) (n - k) x K := by
  refine ⟨m, us, hx, fun h0 => ?_, fun h0 => ?_⟩
  · have := hK w (by rw [h0, Nat.zero_mul, List.take_zero, splice_nil]; exact hr) (Fr.refl _ _)
    rw [h0] at this
    exact this
  · have hle := hr.le
    have hkn : k < n := by omega
    have hm1 : min m (n - k) * sz ≤ m * sz := Nat.mul_le_mul_right _ (Nat.min_le_left _ _)
    have hm2 : min m (n - k) * sz ≤ (n - k) * sz := Nat.mul_le_mul_right _ (Nat.min_le_right _ _)
    have hm3 : k * sz ≤ n * sz := Nat.mul_le_mul_right _ hk
    rw [Nat.sub_mul] at hm2
    have hlt : (us.take (min m (n - k) * sz)).length = min m (n - k) * sz := by rw [List.length_take, hul, Nat.min_eq_left hm1]
    have h := row_putG (o' := k * sz) (us := us.take (min m (n - k) * sz)) (K := fun w' => K (min m (n - k)) w') hr (by omega) (by rw [hlt]; omega) h1 hK
    rcases hr.at_ with ⟨_, h2, _⟩ | ⟨b, cs, rfl, _⟩
    · omega
    · rw [slS (by omega)]
      have h : st w b (0 + k * sz) _ _ := h
      rw [Nat.zero_add] at h
      exact h
/-- appended in place -/
theorem app_in {w : World} {B : Nat} {e : TypeId} {sz bytes : Nat} {z : List Value} {A : Option Addr} {n c : Nat} {x : Value} {old us : List Value} {m : Nat} {K : Option Addr → Nat → Nat → World → Prop}
    (hr : Row w B e sz A n c old) (hx : srcOf w sz x m us) (hul : us.length = m * sz) (h1 : ∀ v ∈ us, v.oneCell' = true) (hb : (n + m) * bytes ≤ 140737488355328) (hm : n + m ≤ 9223372036854775807) (hle : n + m ≤ c)
    (hK : ∀ w', Row w' B e sz A (n + m) c (old ++ us) → Fr (fun k => blkOf A = some k) w w' → K A (n + m) c w') : app w sz bytes z e A n c x K := by
  refine ⟨m, us, hx, h1, hb, hm, fun _ => ⟨fun h0 => ?_, fun h0 => ?_⟩, fun hlt => absurd hlt (by omega)⟩
  · subst h0
    have : us = [] := List.length_eq_zero_iff.1 (by simpa using hul)
    subst this
    exact hK w (by rw [List.append_nil]; exact hr) (Fr.refl _ _)
  · rcases hr.at_ with ⟨rfl, rfl, rfl⟩ | ⟨b, cs, rfl, hBb, hh, hs, ht⟩
    · omega
    · have hfit : n * sz + us.length ≤ cs.size := by rw [hs, hul, ← Nat.add_mul]; exact Nat.mul_le_mul_right _ hle
      show st w b (0 + n * sz) us _
      rw [Nat.zero_add]
      refine ⟨⟨cs, e, 0, 0, hh, hfit, .inl (Nat.zero_le _)⟩, h1, ?_⟩
      refine hK _ ⟨by rw [List.length_append, hr.len, hul, Nat.add_mul], hle, .inr ⟨b, _, rfl, hBb, stB_heap hh, ?_, ?_⟩⟩ (Fr.st (fun _ => rfl))
      · simp only [List.size_toArray]; rw [splice_length (by simpa using hfit)]; simpa using hs
      · have := splice_take (vs := us) ht hr.len
        rw [hul, ← Nat.add_mul] at this
        simpa using this
/-- zeros appended, where there is no room -/
theorem appZ_new {w : World} {B : Nat} {e : TypeId} {sz bytes : Nat} {z : List Value} {A : Option Addr} {n c : Nat} {x : Int} {old : List Value} {m : Nat} {K : Option Addr → Nat → Nat → World → Prop}
    (hs : Sl w sz A n old) (hx : IntKind.wrap .i64 x = (m : Int)) (h48 : (m : Int) * bytes ≤ 281474976710656) (h1 : ∀ v ∈ z, v.oneCell' = true) (hz : z.length = sz) (hb : (n + m) * bytes ≤ 140737488355328) (hm : n + m ≤ 9223372036854775807) (hlt : c < n + m) (hB : B ≤ w.heap.size)
    (hK : ∀ b c' w', w.heap.size ≤ b → Row w' B e sz (some ⟨b, 0, none⟩) (n + m) c' (old ++ zeros m z) → Fr (fun _ => False) w w' → K (some ⟨b, 0, none⟩) (n + m) c' w') : appZ w sz bytes z e A n c x K := by
  have hul : (zeros m z).length = m * sz := by rw [zeros_length, hz]
  have hol := hs.1
  unfold appZ
  rw [hx, Int.toNat_natCast]
  refine ⟨Int.natCast_nonneg m, h48, h1, hb, hm, fun hle => absurd hle (by omega), fun _ => ⟨old, hs.src, fun cap hc1 hc2 => ?_⟩⟩
  refine hK _ _ _ (by show w.heap.size ≤ w.drew.heap.size; exact Nat.le_refl _) ⟨by rw [List.length_append, hol, hul, Nat.add_mul], hc1, .inr ⟨_, _, rfl, hB, heap_alloc_at _ _, ?_, ?_⟩⟩ ((Fr.drew _ w).trans1 (Fr.alloc _ _ _))
  · simp only [List.size_toArray, List.length_append, zeros_length, hol, hz, ← Nat.add_mul]
    congr 1; omega
  · simp only [List.append_assoc]
    rw [← List.append_assoc, List.take_append_of_le_length (by rw [List.length_append, hol, hul, ← Nat.add_mul]; exact Nat.le_refl _), List.take_of_length_le (by rw [List.length_append, hol, hul, ← Nat.add_mul]; exact Nat.le_refl _)]
/-- what lies in two blocks does not overlap -/
theorem overlaps_ext {P : Program} {f : FuncId} {fn : Func} {w : World} {tS tR e e1 e2 : TypeId} {size : Nat} {b1 o1 n1 c1 b2 o2 n2 c2 : Nat} {cs1 cs2 : Array Value} {K : Value → World → Prop}
    (hf : P.funcs[f]? = some fn) (hb : fn.body.isNone = true) (hn : Extern.findNext fn = none) (he : Extern.find fn = some (Extern.SlicesOverlaps.overlaps #[tS, tS] #[tR]))
    (ht : P.underlying tS = some (.slice e)) (hz0 : size ≠ 0) (hz : szOf P e = size)
    (h1 : w.heap[b1]? = some (.cells cs1 e1 (0, 0))) (h2 : w.heap[b2]? = some (.cells cs2 e2 (0, 0))) (hne : b1 ≠ b2) (h0 : cs2.size ≠ 0) (hK : K (.bool false) w) :
    extC P f #[.slice (some ⟨b1, o1, none⟩) n1 c1, .slice (some ⟨b2, o2, none⟩) n2 c2] w K := by
  refine ⟨fn, _, _, w, hf, hb, hn, he, ?_, hK⟩
  exact Lib.run_overlaps_apart w tS tR e ht size (fun w => szOf_run hz0 hz) ⟨b1, o1, none⟩ ⟨b2, o2, none⟩ n1 c1 n2 c2 hne e1 e2 cs1.size cs2.size (by simp [World.shape?, h1]) (by simp [World.shape?, h2]) h0 (by simp [World.frozen?, h1]) (by simp [World.frozen?, h1])
end Go.GV
namespace Go.GV
/-- elements that lie as so many cells each -/
structure EncO (β : Type) (enc : β → List Value) (sz : Nat) : Prop where
  len : ∀ x, (enc x).length = sz
  one : ∀ x, ∀ v ∈ enc x, v.oneCell' = true
section
variable {β : Type} {enc : β → List Value} {sz : Nat}
theorem EncO.fl (h : EncO β enc sz) (l : List β) : (flt enc l).length = l.length * sz := flt_len (fun x _ => h.len x)
theorem EncO.fo (h : EncO β enc sz) (l : List β) : ∀ v ∈ flt enc l, v.oneCell' = true := flt_oneCell (fun x _ => h.one x)
theorem EncO.ft (h : EncO β enc sz) (l : List β) {k : Nat} (hk : k ≤ l.length) : (flt enc l).take (k * sz) = flt enc (l.take k) := flt_take (fun x _ => h.len x) hk
theorem EncO.fd (h : EncO β enc sz) (l : List β) {k : Nat} (hk : k ≤ l.length) : (flt enc l).drop (k * sz) = flt enc (l.drop k) := flt_drop (fun x _ => h.len x) hk
end
theorem splice_at {a z b : List Value} {o : Nat} (ha : a.length = o) : splice (a ++ z) o b = a ++ b ++ z.drop b.length := by
  subst ha
  unfold splice
  rw [List.take_left, ← List.drop_drop, List.drop_left]
theorem zeros_one {n : Nat} {z : List Value} (h : ∀ v ∈ z, v.oneCell' = true) : ∀ v ∈ zeros n z, v.oneCell' = true := by
  intro v hv
  simp only [zeros, List.mem_flatten, List.mem_replicate] at hv
  obtain ⟨l, ⟨_, rfl⟩, hv⟩ := hv
  exact h v hv
end Go.GV
/- PRINTED BY MY OWN gen.py out of the translation: each function as a proposition. -/
namespace Go.Proofs.YtfdhaeglhkmmpaaGreat
open Go.GV
set_option linter.unusedVariables false
set_option maxRecDepth 100000
theorem noCount : NoCount Tryz.prog := noCount_of (by kernel_rfl)
theorem mixed : Tryz.prog.follows .mixedOrders = true := by kernel_rfl
def Z82 : List Value := [Value.int .i64 0, Value.string (⟨#[]⟩ : ByteArray), Value.string (⟨#[]⟩ : ByteArray), Value.int .i64 0]
end Go.Proofs.YtfdhaeglhkmmpaaGreat
/- PRINTED BY MY OWN gen.py out of the translation: each function as a proposition. -/
namespace Go.Proofs.YtfdhaeglhkmmpaaGreat
open Go.GV
set_option linter.unusedVariables false
set_option maxRecDepth 100000
/-! ### function 3: stillage/stillagelaw12.DiskLasts -/
def F3.k15c (Q : Value → World → Prop) (C12 : ((Option Addr × Nat × Nat) × (Option Addr × Nat × Nat) × Option Addr × Int × Unit) → World → Prop) (x1 : (Option Addr × Nat × Nat)) (x2 : (Option Addr × Nat × Nat)) (x7 : Option Addr) (x9 : Int) (x71 : Bool) (w : World) : Prop :=
  vIf x71
  (dr x2.1 fun b42 o43 =>
    gd (decide (0 ≤ x9)) <|
    gd (decide (x9 < ((x2.2.1 : Nat) : Int))) <|
    ldA 5 w b42 (o43 + (x9).toNat * 5) fun a44 =>
    Calls Tryz.prog 8 #[Value.pointer x7, ofL a44] w fun e46 w45 =>
    ∃ i47 : Int, e46 = .returned (Value.int .i64 i47) ∧ (
      jnC C12 ((x1.1, x1.2.1, x1.2.2), (x2.1, x2.2.1, x2.2.2), x7, ((IntKind.wrap .i64 (x9 + 1))), ()) w45))
  (jnC C12 ((x1.1, x1.2.1, x1.2.2), (x2.1, x2.2.1, x2.2.2), x7, ((IntKind.wrap .i64 (x9 + 1))), ()) w)
def F3.k15 (Q : Value → World → Prop) (C12 : ((Option Addr × Nat × Nat) × (Option Addr × Nat × Nat) × Option Addr × Int × Unit) → World → Prop) : ((Option Addr × Nat × Nat) × (Option Addr × Nat × Nat) × Option Addr × Int × Bool × Unit) → World → Prop := fun s w => ∀ _ : Nat → Value, F3.k15c Q C12 s.1 s.2.1 s.2.2.1 s.2.2.2.1 s.2.2.2.2.1 w
def F3.b12c (Q : Value → World → Prop) (C12 : ((Option Addr × Nat × Nat) × (Option Addr × Nat × Nat) × Option Addr × Int × Unit) → World → Prop) (x1 : (Option Addr × Nat × Nat)) (x2 : (Option Addr × Nat × Nat)) (x7 : Option Addr) (x9 : Int) (w : World) : Prop :=
  vIf (decide (x9 < ((x2.2.1 : Nat) : Int)))
  (dr x2.1 fun b36 o37 =>
    gd (decide (0 ≤ x9)) <|
    gd (decide (x9 < ((x2.2.1 : Nat) : Int))) <|
    ldS w b36 ((o37 + (x9).toNat * 5) + 1) fun s38 =>
    vIf (!(s38.toList == (⟨#[105, 116]⟩ : ByteArray).toList))
    (dr x2.1 fun b39 o40 =>
      gd (decide (0 ≤ x9)) <|
      gd (decide (x9 < ((x2.2.1 : Nat) : Int))) <|
      ldS w b39 ((o40 + (x9).toNat * 5) + 2) fun s41 =>
      jnC (F3.k15 Q C12) ((x1.1, x1.2.1, x1.2.2), (x2.1, x2.2.1, x2.2.2), x7, (x9), (!(s41.toList == (⟨#[105, 116]⟩ : ByteArray).toList)), ()) w)
    (jnC (F3.k15 Q C12) ((x1.1, x1.2.1, x1.2.2), (x2.1, x2.2.1, x2.2.2), x7, (x9), false, ()) w))
  (nw w ([Value.int .u8 1] ++ ([Value.int .u8 1] ++ ([Value.int .u8 1] ++ []))) 5 fun b48 w49 =>
    Calls Tryz.prog 9 #[Value.pointer x7, Value.slice (some ⟨b48, 0, none⟩) 3 3] w49 fun e51 w50 =>
    e51 = .returned (Value.tuple #[]) ∧ (
      Calls Tryz.prog 15 #[Value.pointer x7, Value.string (⟨#[105, 116]⟩ : ByteArray)] w50 fun e53 w52 =>
      ∃ i54 : Int, ∃ i55 : Int, e53 = .returned (Value.tuple #[Value.int .i64 i54, Value.int .i64 i55]) ∧ (
        Calls Tryz.prog 16 #[Value.pointer x7, Value.string (⟨#[105, 116]⟩ : ByteArray), Value.int .i64 0, Value.int .i64 ((x1.2.1 : Nat) : Int)] w52 fun e57 w56 =>
        ∃ (A58 : Option Addr) (n59 c60 : Nat), ∃ i61 : Int, e57 = .returned (Value.tuple #[Value.slice A58 n59 c60, Value.int .i64 i61]) ∧ (
          vIf (i55 == 0)
          (vIf (i61 == 0)
            (vIf (i54 == ((x1.2.1 : Nat) : Int))
              (Calls Tryz.prog 17 #[Value.slice A58 n59 c60, Value.slice x1.1 x1.2.1 x1.2.2] w56 fun e63 w62 =>
                ∃ t64 : Bool, e63 = .returned (Value.bool t64) ∧ (
                  vIf t64
                  (Calls Tryz.prog 14 #[] w62 fun e66 w65 =>
                    ∃ t67 : Bool, e66 = .returned (Value.bool t67) ∧ (
                      Q (Value.bool t67) w65))
                  (Q (Value.bool false) w62)))
              (Q (Value.bool false) w56))
            (Q (Value.bool false) w56))
          (Q (Value.bool false) w56)))))
def F3.b12 (Q : Value → World → Prop) : ((Option Addr × Nat × Nat) × (Option Addr × Nat × Nat) × Option Addr × Int × Unit) → World → (((Option Addr × Nat × Nat) × (Option Addr × Nat × Nat) × Option Addr × Int × Unit) → World → Prop) → Prop := fun s w C12 => ∀ _ : Nat → Value, F3.b12c Q C12 s.1 s.2.1 s.2.2.1 s.2.2.2.1 w
def F3.l12 (Q : Value → World → Prop) : ((Option Addr × Nat × Nat) × (Option Addr × Nat × Nat) × Option Addr × Int × Unit) → World → Prop := fun s w => ∃ n, loopC (F3.b12 Q) n s w
def F3.k11c (Q : Value → World → Prop) (x1 : (Option Addr × Nat × Nat)) (x2 : (Option Addr × Nat × Nat)) (x7 : Option Addr) (w : World) : Prop :=
  jnC (F3.l12 Q) ((x1.1, x1.2.1, x1.2.2), (x2.1, x2.2.1, x2.2.2), x7, (0), ()) w
def F3.k11 (Q : Value → World → Prop) : ((Option Addr × Nat × Nat) × (Option Addr × Nat × Nat) × Option Addr × Unit) → World → Prop := fun s w => ∀ _ : Nat → Value, F3.k11c Q s.1 s.2.1 s.2.2.1 w
def F3.b5c (Q : Value → World → Prop) (C5 : ((Option Addr × Nat × Nat) × (Option Addr × Nat × Nat) × (Option Addr × Nat × Nat) × Option Addr × Int × Unit) → World → Prop) (x0 : (Option Addr × Nat × Nat)) (x1 : (Option Addr × Nat × Nat)) (x2 : (Option Addr × Nat × Nat)) (x7 : Option Addr) (x8 : Int) (w : World) : Prop :=
  vIf (decide (x8 < ((x0.2.1 : Nat) : Int)))
  (dr x0.1 fun b4 o5 =>
    gd (decide (0 ≤ x8)) <|
    gd (decide (x8 < ((x0.2.1 : Nat) : Int))) <|
    ldA 5 w b4 (o5 + (x8).toNat * 5) fun a6 =>
    Calls Tryz.prog 8 #[Value.pointer x7, ofL a6] w fun e8 w7 =>
    ∃ i9 : Int, e8 = .returned (Value.int .i64 i9) ∧ (
      jnC C5 ((x0.1, x0.2.1, x0.2.2), (x1.1, x1.2.1, x1.2.2), (x2.1, x2.2.1, x2.2.2), x7, ((IntKind.wrap .i64 (x8 + 1))), ()) w7))
  (Calls Tryz.prog 9 #[Value.pointer x7, Value.slice none 0 0] w fun e11 w10 =>
    e11 = .returned (Value.tuple #[]) ∧ (
      Calls Tryz.prog 10 #[Value.pointer x7, Value.string (⟨#[105, 116]⟩ : ByteArray)] w10 fun e13 w12 =>
      ∃ i14 : Int, e13 = .returned (Value.int .i64 i14) ∧ (
        vIf (i14 != 0)
        (Calls Tryz.prog 14 #[] w12 fun e16 w15 =>
          ∃ t17 : Bool, e16 = .returned (Value.bool t17) ∧ (
            Q (Value.bool t17) w15))
        (Calls Tryz.prog 11 #[Value.pointer x7, Value.string (⟨#[105, 116]⟩ : ByteArray), Value.slice x1.1 x1.2.1 x1.2.2] w12 fun e19 w18 =>
          ∃ i20 : Int, e19 = .returned (Value.int .i64 i20) ∧ (
            vIf (i20 != 0)
            (Calls Tryz.prog 14 #[] w18 fun e22 w21 =>
              ∃ t23 : Bool, e22 = .returned (Value.bool t23) ∧ (
                Q (Value.bool t23) w21))
            (Calls Tryz.prog 12 #[Value.pointer x7, Value.string (⟨#[105, 116]⟩ : ByteArray)] w18 fun e25 w24 =>
              ∃ i26 : Int, e25 = .returned (Value.int .i64 i26) ∧ (
                vIf (i26 != 0)
                (Calls Tryz.prog 14 #[] w24 fun e28 w27 =>
                  ∃ t29 : Bool, e28 = .returned (Value.bool t29) ∧ (
                    Q (Value.bool t29) w27))
                (Calls Tryz.prog 13 #[Value.pointer x7] w24 fun e31 w30 =>
                  ∃ i32 : Int, e31 = .returned (Value.int .i64 i32) ∧ (
                    vIf (i32 != 0)
                    (Calls Tryz.prog 14 #[] w30 fun e34 w33 =>
                      ∃ t35 : Bool, e34 = .returned (Value.bool t35) ∧ (
                        Q (Value.bool t35) w33))
                    (jnC (F3.k11 Q) ((x1.1, x1.2.1, x1.2.2), (x2.1, x2.2.1, x2.2.2), x7, ()) w30))))))))))
def F3.b5 (Q : Value → World → Prop) : ((Option Addr × Nat × Nat) × (Option Addr × Nat × Nat) × (Option Addr × Nat × Nat) × Option Addr × Int × Unit) → World → (((Option Addr × Nat × Nat) × (Option Addr × Nat × Nat) × (Option Addr × Nat × Nat) × Option Addr × Int × Unit) → World → Prop) → Prop := fun s w C5 => ∀ _ : Nat → Value, F3.b5c Q C5 s.1 s.2.1 s.2.2.1 s.2.2.2.1 s.2.2.2.2.1 w
def F3.l5 (Q : Value → World → Prop) : ((Option Addr × Nat × Nat) × (Option Addr × Nat × Nat) × (Option Addr × Nat × Nat) × Option Addr × Int × Unit) → World → Prop := fun s w => ∃ n, loopC (F3.b5 Q) n s w
def F3.vc (x0A : Option Addr) (x0n x0c : Nat) (x1A : Option Addr) (x1n x1c : Nat) (x2A : Option Addr) (x2n x2c : Nat) (w : World) (Q : Value → World → Prop) : Prop :=
  Calls Tryz.prog 7 #[ofL ([Value.int .i64 1048576] ++ ([Value.int .i64 100] ++ []))] w fun e2 w1 =>
  ∃ p3 : Option Addr, e2 = .returned (Value.pointer p3) ∧ (
    vIf p3.isNone
    (Q (Value.bool false) w1)
    (jnC (F3.l5 Q) ((x0A, x0n, x0c), (x1A, x1n, x1c), (x2A, x2n, x2c), p3, (0), ()) w1))
def F3.an : Ann := ⟨[(5, [(0, .kSl), (1, .kSl), (2, .kSl), (7, .kP), (8, .kI .i64)]), (12, [(1, .kSl), (2, .kSl), (7, .kP), (9, .kI .i64)])], [(11, [(1, .kSl), (2, .kSl), (7, .kP)]), (15, [(1, .kSl), (2, .kSl), (7, .kP), (9, .kI .i64), (71, .kB)])]⟩
theorem F3.of (x0A : Option Addr) (x0n x0c : Nat) (x1A : Option Addr) (x1n x1c : Nat) (x2A : Option Addr) (x2n x2c : Nat) (w : World) {Q : Value → World → Prop} (h : F3.vc x0A x0n x0c x1A x1n x1c x2A x2n x2c w Q) : Calls Tryz.prog 3 #[Value.slice x0A x0n x0c, Value.slice x1A x1n x1c, Value.slice x2A x2n x2c] w (fun e w' => ∃ v, e = .returned v ∧ Q v w') := vcFn_of (A := F3.an) noCount mixed h (by kernel_rfl)
/-! ### function 7: stillage/disk.New -/
def F7.vc (x0 : List Value) (w : World) (Q : Value → World → Prop) : Prop :=
  nw w x0 27 fun b1 w2 =>
  ldA 2 w2 b1 0 fun a3 =>
  mmk w2 fun m4 w5 =>
  gd (a3.length == 2) <|
  nw w5 (a3 ++ ([Value.slice none 0 0, Value.slice none 0 0] ++ ([Value.map (some m4)] ++ ([Value.int .i64 0] ++ ([Value.bool false] ++ ([Value.bool false] ++ ([Value.int .i64 0] ++ ([Value.int .i64 0] ++ [])))))))) 66 fun b6 w7 =>
  Q (Value.pointer (some ⟨b6, 0, none⟩)) w7
def F7.an : Ann := ⟨[], []⟩
theorem F7.of (x0 : List Value) (w : World) {Q : Value → World → Prop} (h : F7.vc x0 w Q) : Calls Tryz.prog 7 #[ofL x0] w (fun e w' => ∃ v, e = .returned v ∧ Q v w') := vcFn_of (A := F7.an) noCount mixed h (by kernel_rfl)
/-! ### function 8: stillage/stillagelaw12.Do -/
def F8.vc (x0 : Option Addr) (x1 : List Value) (w : World) (Q : Value → World → Prop) : Prop :=
  nw w x1 31 fun b1 w2 =>
  ldI .i64 w2 b1 0 fun i3 =>
  vIf (i3 == 1)
  (ldS w2 b1 (0 + 1) fun s4 =>
    Calls Tryz.prog 10 #[Value.pointer x0, Value.string s4] w2 fun e6 w5 =>
    ∃ i7 : Int, e6 = .returned (Value.int .i64 i7) ∧ (
      Q (Value.int .i64 i7) w5))
  (vIf (i3 == 2)
    (ldS w2 b1 (0 + 1) fun s8 =>
      ldSl w2 b1 (0 + 3) fun A9 n10 c11 =>
      Calls Tryz.prog 11 #[Value.pointer x0, Value.string s8, Value.slice A9 n10 c11] w2 fun e13 w12 =>
      ∃ i14 : Int, e13 = .returned (Value.int .i64 i14) ∧ (
        Q (Value.int .i64 i14) w12))
    (vIf (i3 == 3)
      (ldS w2 b1 (0 + 1) fun s15 =>
        ldI .i64 w2 b1 (0 + 4) fun i16 =>
        Calls Tryz.prog 27 #[Value.pointer x0, Value.string s15, Value.int .i64 i16] w2 fun e18 w17 =>
        ∃ i19 : Int, e18 = .returned (Value.int .i64 i19) ∧ (
          Q (Value.int .i64 i19) w17))
      (vIf (i3 == 4)
        (ldS w2 b1 (0 + 1) fun s20 =>
          Calls Tryz.prog 12 #[Value.pointer x0, Value.string s20] w2 fun e22 w21 =>
          ∃ i23 : Int, e22 = .returned (Value.int .i64 i23) ∧ (
            Q (Value.int .i64 i23) w21))
        (vIf (i3 == 5)
          (ldS w2 b1 (0 + 1) fun s24 =>
            ldS w2 b1 (0 + 2) fun s25 =>
            Calls Tryz.prog 28 #[Value.pointer x0, Value.string s24, Value.string s25] w2 fun e27 w26 =>
            ∃ i28 : Int, e27 = .returned (Value.int .i64 i28) ∧ (
              Q (Value.int .i64 i28) w26))
          (vIf (i3 == 6)
            (ldS w2 b1 (0 + 1) fun s29 =>
              Calls Tryz.prog 29 #[Value.pointer x0, Value.string s29] w2 fun e31 w30 =>
              ∃ i32 : Int, e31 = .returned (Value.int .i64 i32) ∧ (
                Q (Value.int .i64 i32) w30))
            (vIf (i3 == 7)
              (Calls Tryz.prog 13 #[Value.pointer x0] w2 fun e34 w33 =>
                ∃ i35 : Int, e34 = .returned (Value.int .i64 i35) ∧ (
                  Q (Value.int .i64 i35) w33))
              (vIf (i3 == 8)
                (ldI .i64 w2 b1 (0 + 4) fun i36 =>
                  Calls Tryz.prog 30 #[Value.pointer x0, Value.int .i64 i36] w2 fun e38 w37 =>
                  e38 = .returned (Value.tuple #[]) ∧ (
                    Q (Value.int .i64 0) w37))
                (vIf (i3 == 9)
                  (ldSl w2 b1 (0 + 3) fun A39 n40 c41 =>
                    Calls Tryz.prog 9 #[Value.pointer x0, Value.slice A39 n40 c41] w2 fun e43 w42 =>
                    e43 = .returned (Value.tuple #[]) ∧ (
                      Q (Value.int .i64 0) w42))
                  (Q (Value.int .i64 0) w2)))))))))
def F8.an : Ann := ⟨[], []⟩
theorem F8.of (x0 : Option Addr) (x1 : List Value) (w : World) {Q : Value → World → Prop} (h : F8.vc x0 x1 w Q) : Calls Tryz.prog 8 #[Value.pointer x0, ofL x1] w (fun e w' => ∃ v, e = .returned v ∧ Q v w') := vcFn_of (A := F8.an) noCount mixed h (by kernel_rfl)
/-! ### function 9: (*stillage/disk.Disk).Crash -/
def F9.b6c (Q : Value → World → Prop) (C6 : (Option Addr × (Option Addr × Nat × Nat) × Int × (Option Addr × Nat × Nat) × (Option Addr × Nat × Nat) × Int × Int × Unit) → World → Prop) (x0 : Option Addr) (x1 : (Option Addr × Nat × Nat)) (x4 : Int) (x5 : (Option Addr × Nat × Nat)) (x24 : (Option Addr × Nat × Nat)) (x25 : Int) (x26 : Int) (w : World) : Prop :=
  vIf (decide (x26 < x25))
  (dr x24.1 fun b12 o13 =>
    gd (decide (0 ≤ x26)) <|
    gd (decide (x26 < ((x24.2.1 : Nat) : Int))) <|
    ldI .i64 w b12 (o13 + (x26).toNat * 1) fun i14 =>
    dr x0 fun b15 o16 =>
    ldM w.drew b15 (o16 + 4) fun m17 =>
    dr x0 fun b18 o19 =>
    ldM w.drew b18 (o19 + 4) fun m20 =>
    drM m20 fun r23 =>
    mlk w.drew r23 .i64 i14 fun q21 =>
    lvA [Value.slice none 0 0, Value.slice none 0 0] q21 fun a22 =>
    kp w.drew b15 (o16 + 4) 1 w.drew <|
    Calls Tryz.prog 32 #[ofL a22, Value.slice x1.1 x1.2.1 x1.2.2] w.drew fun e25 w24 =>
    ∃ a26 : List Value, ∃ (A27 : Option Addr) (n28 c29 : Nat), e25 = .returned (Value.tuple #[ofL a26, Value.slice A27 n28 c29]) ∧ (
      kp w.drew b15 (o16 + 4) 1 w24 <|
      drM m17 fun r31 =>
      mup w24 r31 .i64 i14 (ofL a26) fun w30 =>
      jnC C6 (x0, (A27, n28, c29), (x4), (x5.1, x5.2.1, x5.2.2), (x24.1, x24.2.1, x24.2.2), (x25), ((IntKind.wrap .i64 (x26 + 1))), ()) w30))
  (dr x0 fun b32 o33 =>
    ldA 2 w b32 (o33 + 2) fun a34 =>
    Calls Tryz.prog 33 #[ofL a34, Value.int .i64 x4] w fun e36 w35 =>
    ∃ a37 : List Value, e36 = .returned (ofL a37) ∧ (
      dr x0 fun b38 o39 =>
      gd (a37.length == 2) <|
      st w35 b38 (o39 + 2) a37 fun w40 =>
      Calls Tryz.prog 34 #[Value.pointer x0, Value.slice x5.1 x5.2.1 x5.2.2] w40 fun e42 w41 =>
      e42 = .returned (Value.tuple #[]) ∧ (
        dr x0 fun b43 o44 =>
        st w41 b43 (o44 + 6) [Value.bool false] fun w45 =>
        dr x0 fun b46 o47 =>
        st w45 b46 (o47 + 7) [Value.bool false] fun w48 =>
        Q (Value.tuple #[]) w48)))
def F9.b6 (Q : Value → World → Prop) : (Option Addr × (Option Addr × Nat × Nat) × Int × (Option Addr × Nat × Nat) × (Option Addr × Nat × Nat) × Int × Int × Unit) → World → ((Option Addr × (Option Addr × Nat × Nat) × Int × (Option Addr × Nat × Nat) × (Option Addr × Nat × Nat) × Int × Int × Unit) → World → Prop) → Prop := fun s w C6 => ∀ _ : Nat → Value, F9.b6c Q C6 s.1 s.2.1 s.2.2.1 s.2.2.2.1 s.2.2.2.2.1 s.2.2.2.2.2.1 s.2.2.2.2.2.2.1 w
def F9.l6 (Q : Value → World → Prop) : (Option Addr × (Option Addr × Nat × Nat) × Int × (Option Addr × Nat × Nat) × (Option Addr × Nat × Nat) × Int × Int × Unit) → World → Prop := fun s w => ∃ n, loopC (F9.b6 Q) n s w
def F9.k4c (Q : Value → World → Prop) (x0 : Option Addr) (x1 : (Option Addr × Nat × Nat)) (x4 : Int) (w : World) : Prop :=
  dr x0 fun b4 o5 =>
  ldA 2 w b4 (o5 + 2) fun a6 =>
  Calls Tryz.prog 31 #[ofL a6] w fun e8 w7 =>
  ∃ (A9 : Option Addr) (n10 c11 : Nat), e8 = .returned (Value.slice A9 n10 c11) ∧ (
    jnC (F9.l6 Q) (x0, (x1.1, x1.2.1, x1.2.2), (x4), (A9, n10, c11), (A9, n10, c11), (((n10 : Nat) : Int)), (0), ()) w7)
def F9.k4 (Q : Value → World → Prop) : (Option Addr × (Option Addr × Nat × Nat) × Int × Unit) → World → Prop := fun s w => ∀ _ : Nat → Value, F9.k4c Q s.1 s.2.1 s.2.2.1 w
def F9.vc (x0 : Option Addr) (x1A : Option Addr) (x1n x1c : Nat) (w : World) (Q : Value → World → Prop) : Prop :=
  vIf x0.isNone
  (Q (Value.tuple #[]) w)
  (vIf (decide (((x1n : Nat) : Int) > 0))
    (dr x1A fun b1 o2 =>
      gd (decide ((0 : Int) < ((x1n : Nat) : Int))) <|
      ldI .u8 w.drew b1 o2 fun i3 =>
      gd (decide ((1 : Int) ≤ ((x1n : Nat) : Int))) <|
      jnC (F9.k4 Q) (x0, ((slA x1A x1c 1 1), (x1n - 1), (x1c - 1)), ((IntKind.wrap .i64 i3)), ()) w.drew)
    (jnC (F9.k4 Q) (x0, (x1A, x1n, x1c), (0), ()) w))
def F9.an : Ann := ⟨[(6, [(0, .kP), (1, .kSl), (4, .kI .i64), (5, .kSl), (24, .kSl), (25, .kI .i64), (26, .kI .i64)])], [(4, [(0, .kP), (1, .kSl), (4, .kI .i64)])]⟩
theorem F9.of (x0 : Option Addr) (x1A : Option Addr) (x1n x1c : Nat) (w : World) {Q : Value → World → Prop} (h : F9.vc x0 x1A x1n x1c w Q) : Calls Tryz.prog 9 #[Value.pointer x0, Value.slice x1A x1n x1c] w (fun e w' => ∃ v, e = .returned v ∧ Q v w') := vcFn_of (A := F9.an) noCount mixed h (by kernel_rfl)
/-! ### function 10: (*stillage/disk.Disk).Create -/
def F10.vc (x0 : Option Addr) (x1 : ByteArray) (w : World) (Q : Value → World → Prop) : Prop :=
  nw w [Value.pointer x0] 24 fun b1 w2 =>
  nw w2 [Value.string x1] 9 fun b3 w4 =>
  ldP w4 b1 0 fun p5 =>
  Calls Tryz.prog 35 #[Value.pointer p5, Value.func (.func 36) #[] #[Value.pointer (some ⟨b1, 0, none⟩), Value.pointer (some ⟨b3, 0, none⟩)]] w4 fun e7 w6 =>
  ∃ i8 : Int, e7 = .returned (Value.int .i64 i8) ∧ (
    Q (Value.int .i64 i8) w6)
def F10.an : Ann := ⟨[], []⟩
theorem F10.of (x0 : Option Addr) (x1 : ByteArray) (w : World) {Q : Value → World → Prop} (h : F10.vc x0 x1 w Q) : Calls Tryz.prog 10 #[Value.pointer x0, Value.string x1] w (fun e w' => ∃ v, e = .returned v ∧ Q v w') := vcFn_of (A := F10.an) noCount mixed h (by kernel_rfl)
/-! ### function 11: (*stillage/disk.Disk).Append -/
def F11.vc (x0 : Option Addr) (x1 : ByteArray) (x2A : Option Addr) (x2n x2c : Nat) (w : World) (Q : Value → World → Prop) : Prop :=
  nw w [Value.pointer x0] 24 fun b1 w2 =>
  nw w2 [Value.string x1] 9 fun b3 w4 =>
  nw w4 [Value.slice x2A x2n x2c] 23 fun b5 w6 =>
  ldP w6 b1 0 fun p7 =>
  Calls Tryz.prog 35 #[Value.pointer p7, Value.func (.func 38) #[] #[Value.pointer (some ⟨b1, 0, none⟩), Value.pointer (some ⟨b3, 0, none⟩), Value.pointer (some ⟨b5, 0, none⟩)]] w6 fun e9 w8 =>
  ∃ i10 : Int, e9 = .returned (Value.int .i64 i10) ∧ (
    Q (Value.int .i64 i10) w8)
def F11.an : Ann := ⟨[], []⟩
theorem F11.of (x0 : Option Addr) (x1 : ByteArray) (x2A : Option Addr) (x2n x2c : Nat) (w : World) {Q : Value → World → Prop} (h : F11.vc x0 x1 x2A x2n x2c w Q) : Calls Tryz.prog 11 #[Value.pointer x0, Value.string x1, Value.slice x2A x2n x2c] w (fun e w' => ∃ v, e = .returned v ∧ Q v w') := vcFn_of (A := F11.an) noCount mixed h (by kernel_rfl)
/-! ### function 12: (*stillage/disk.Disk).Sync -/
def F12.vc (x0 : Option Addr) (x1 : ByteArray) (w : World) (Q : Value → World → Prop) : Prop :=
  nw w [Value.pointer x0] 24 fun b1 w2 =>
  nw w2 [Value.string x1] 9 fun b3 w4 =>
  ldP w4 b1 0 fun p5 =>
  Calls Tryz.prog 35 #[Value.pointer p5, Value.func (.func 42) #[] #[Value.pointer (some ⟨b1, 0, none⟩), Value.pointer (some ⟨b3, 0, none⟩)]] w4 fun e7 w6 =>
  ∃ i8 : Int, e7 = .returned (Value.int .i64 i8) ∧ (
    Q (Value.int .i64 i8) w6)
def F12.an : Ann := ⟨[], []⟩
theorem F12.of (x0 : Option Addr) (x1 : ByteArray) (w : World) {Q : Value → World → Prop} (h : F12.vc x0 x1 w Q) : Calls Tryz.prog 12 #[Value.pointer x0, Value.string x1] w (fun e w' => ∃ v, e = .returned v ∧ Q v w') := vcFn_of (A := F12.an) noCount mixed h (by kernel_rfl)
/-! ### function 13: (*stillage/disk.Disk).SyncDir -/
def F13.vc (x0 : Option Addr) (w : World) (Q : Value → World → Prop) : Prop :=
  nw w [Value.pointer x0] 24 fun b1 w2 =>
  ldP w2 b1 0 fun p3 =>
  Calls Tryz.prog 35 #[Value.pointer p3, Value.func (.func 45) #[] #[Value.pointer (some ⟨b1, 0, none⟩)]] w2 fun e5 w4 =>
  ∃ i6 : Int, e5 = .returned (Value.int .i64 i6) ∧ (
    Q (Value.int .i64 i6) w4)
def F13.an : Ann := ⟨[], []⟩
theorem F13.of (x0 : Option Addr) (w : World) {Q : Value → World → Prop} (h : F13.vc x0 w Q) : Calls Tryz.prog 13 #[Value.pointer x0] w (fun e w' => ∃ v, e = .returned v ∧ Q v w') := vcFn_of (A := F13.an) noCount mixed h (by kernel_rfl)
/-! ### function 14: stillage/stillagelaw12.lives -/
def F14.b6c (Q : Value → World → Prop) (C6 : (Option Addr × (Option Addr × Nat × Nat) × Int × Unit) → World → Prop) (x1 : Option Addr) (x2 : (Option Addr × Nat × Nat)) (x3 : Int) (w : World) : Prop :=
  vIf (decide (x3 < ((x2.2.1 : Nat) : Int)))
  (dr x2.1 fun b27 o28 =>
    gd (decide (0 ≤ x3)) <|
    gd (decide (x3 < ((x2.2.1 : Nat) : Int))) <|
    ldI .i64 w b27 (o28 + (x3).toNat * 1) fun i29 =>
    vIf (i29 != 0)
    (Q (Value.bool false) w)
    (jnC C6 (x1, (x2.1, x2.2.1, x2.2.2), ((IntKind.wrap .i64 (x3 + 1))), ()) w))
  (Calls Tryz.prog 9 #[Value.pointer x1, Value.slice none 0 0] w fun e31 w30 =>
    e31 = .returned (Value.tuple #[]) ∧ (
      Calls Tryz.prog 16 #[Value.pointer x1, Value.string (⟨#[97]⟩ : ByteArray), Value.int .i64 0, Value.int .i64 2] w30 fun e33 w32 =>
      ∃ (A34 : Option Addr) (n35 c36 : Nat), ∃ i37 : Int, e33 = .returned (Value.tuple #[Value.slice A34 n35 c36, Value.int .i64 i37]) ∧ (
        Calls Tryz.prog 15 #[Value.pointer x1, Value.string (⟨#[97]⟩ : ByteArray)] w32 fun e39 w38 =>
        ∃ i40 : Int, ∃ i41 : Int, e39 = .returned (Value.tuple #[Value.int .i64 i40, Value.int .i64 i41]) ∧ (
          vIf (i37 == 0)
          (b2s w38 A34 n35 fun s42 =>
            vIf (s42.toList == (⟨#[120, 121]⟩ : ByteArray).toList)
            (vIf (i41 == 0)
              (vIf (i40 == 2)
                (Calls Tryz.prog 22 #[Value.pointer x1] w38 fun e44 w43 =>
                  ∃ i45 : Int, e44 = .returned (Value.int .i64 i45) ∧ (
                    Q (Value.bool (i45 == 5)) w43))
                (Q (Value.bool false) w38))
              (Q (Value.bool false) w38))
            (Q (Value.bool false) w38))
          (Q (Value.bool false) w38)))))
def F14.b6 (Q : Value → World → Prop) : (Option Addr × (Option Addr × Nat × Nat) × Int × Unit) → World → ((Option Addr × (Option Addr × Nat × Nat) × Int × Unit) → World → Prop) → Prop := fun s w C6 => ∀ _ : Nat → Value, F14.b6c Q C6 s.1 s.2.1 s.2.2.1 w
def F14.l6 (Q : Value → World → Prop) : (Option Addr × (Option Addr × Nat × Nat) × Int × Unit) → World → Prop := fun s w => ∃ n, loopC (F14.b6 Q) n s w
def F14.vc  (w : World) (Q : Value → World → Prop) : Prop :=
  Calls Tryz.prog 7 #[ofL ([Value.int .i64 100] ++ ([Value.int .i64 4] ++ []))] w fun e2 w1 =>
  ∃ p3 : Option Addr, e2 = .returned (Value.pointer p3) ∧ (
    vIf p3.isNone
    (Q (Value.bool false) w1)
    (Calls Tryz.prog 10 #[Value.pointer p3, Value.string (⟨#[97]⟩ : ByteArray)] w1 fun e5 w4 =>
      ∃ i6 : Int, e5 = .returned (Value.int .i64 i6) ∧ (
        nw w4 ([Value.int .u8 120] ++ ([Value.int .u8 121] ++ [])) 5 fun b7 w8 =>
        mkS w8 b7 fun w9 =>
        Calls Tryz.prog 11 #[Value.pointer p3, Value.string (⟨#[97]⟩ : ByteArray), Value.slice (some ⟨b7, 0, none⟩) 2 2] w9 fun e11 w10 =>
        ∃ i12 : Int, e11 = .returned (Value.int .i64 i12) ∧ (
          Calls Tryz.prog 12 #[Value.pointer p3, Value.string (⟨#[97]⟩ : ByteArray)] w10 fun e14 w13 =>
          ∃ i15 : Int, e14 = .returned (Value.int .i64 i15) ∧ (
            Calls Tryz.prog 13 #[Value.pointer p3] w13 fun e17 w16 =>
            ∃ i18 : Int, e17 = .returned (Value.int .i64 i18) ∧ (
              nw w16 ([Value.int .u8 122] ++ []) 5 fun b19 w20 =>
              mkS w20 b19 fun w21 =>
              Calls Tryz.prog 11 #[Value.pointer p3, Value.string (⟨#[97]⟩ : ByteArray), Value.slice (some ⟨b19, 0, none⟩) 1 1] w21 fun e23 w22 =>
              ∃ i24 : Int, e23 = .returned (Value.int .i64 i24) ∧ (
                nw w22 ([Value.int .i64 i6] ++ ([Value.int .i64 i12] ++ ([Value.int .i64 i15] ++ ([Value.int .i64 i18] ++ ([Value.int .i64 i24] ++ []))))) 28 fun b25 w26 =>
                jnC (F14.l6 Q) (p3, ((some ⟨b25, 0, none⟩), 5, 5), (0), ()) w26)))))))
def F14.an : Ann := ⟨[(6, [(1, .kP), (2, .kSl), (3, .kI .i64)])], []⟩
theorem F14.of  (w : World) {Q : Value → World → Prop} (h : F14.vc  w Q) : Calls Tryz.prog 14 #[] w (fun e w' => ∃ v, e = .returned v ∧ Q v w') := vcFn_of (A := F14.an) noCount mixed h (by kernel_rfl)
/-! ### function 15: (*stillage/disk.Disk).Size -/
def F15.vc (x0 : Option Addr) (x1 : ByteArray) (w : World) (Q : Value → World → Prop) : Prop :=
  Calls Tryz.prog 47 #[Value.pointer x0, Value.string x1] w fun e2 w1 =>
  ∃ (A3 : Option Addr) (n4 c5 : Nat), ∃ i6 : Int, e2 = .returned (Value.tuple #[Value.slice A3 n4 c5, Value.int .i64 i6]) ∧ (
    Q (Value.tuple #[Value.int .i64 ((n4 : Nat) : Int), Value.int .i64 i6]) w1)
def F15.an : Ann := ⟨[], []⟩
theorem F15.of (x0 : Option Addr) (x1 : ByteArray) (w : World) {Q : Value → World → Prop} (h : F15.vc x0 x1 w Q) : Calls Tryz.prog 15 #[Value.pointer x0, Value.string x1] w (fun e w' => ∃ v, e = .returned v ∧ Q v w') := vcFn_of (A := F15.an) noCount mixed h (by kernel_rfl)
/-! ### function 16: (*stillage/disk.Disk).Read -/
def F16.k6c (Q : Value → World → Prop) (x2 : Int) (x3 : Int) (x10 : (Option Addr × Nat × Nat)) (w : World) : Prop :=
  gd (decide (0 ≤ (IntKind.wrap .i64 (x2 + x3)))) <|
  gd (decide ((IntKind.wrap .i64 (x2 + x3)) ≤ ((x10.2.2 : Nat) : Int))) <|
  gd (decide (0 ≤ (IntKind.wrap .i64 (x2 + x3)))) <|
  gd (decide ((IntKind.wrap .i64 (x2 + x3)) ≤ ((((IntKind.wrap .i64 (x2 + x3))).toNat : Nat) : Int))) <|
  gd (decide (0 ≤ x2)) <|
  gd (decide (x2 ≤ ((((IntKind.wrap .i64 (x2 + x3))).toNat : Nat) : Int))) <|
  Q (Value.tuple #[Value.slice (slA x10.1 ((IntKind.wrap .i64 (x2 + x3))).toNat (x2).toNat 1) (((IntKind.wrap .i64 (x2 + x3))).toNat - (x2).toNat) (((IntKind.wrap .i64 (x2 + x3))).toNat - (x2).toNat), Value.int .i64 0]) w
def F16.k6 (Q : Value → World → Prop) : (Int × Int × (Option Addr × Nat × Nat) × Unit) → World → Prop := fun s w => ∀ _ : Nat → Value, F16.k6c Q s.1 s.2.1 s.2.2.1 w
def F16.vc (x0 : Option Addr) (x1 : ByteArray) (x2 : Int) (x3 : Int) (w : World) (Q : Value → World → Prop) : Prop :=
  Calls Tryz.prog 47 #[Value.pointer x0, Value.string x1] w fun e2 w1 =>
  ∃ (A3 : Option Addr) (n4 c5 : Nat), ∃ i6 : Int, e2 = .returned (Value.tuple #[Value.slice A3 n4 c5, Value.int .i64 i6]) ∧ (
    vIf (i6 != 0)
    (Q (Value.tuple #[Value.slice none 0 0, Value.int .i64 i6]) w1)
    (vIf (decide (x2 < 0))
      (Q (Value.tuple #[Value.slice none 0 0, Value.int .i64 20]) w1)
      (vIf (decide (x3 < 0))
        (Q (Value.tuple #[Value.slice none 0 0, Value.int .i64 20]) w1)
        (vIf (decide (x2 > ((n4 : Nat) : Int)))
          (Q (Value.tuple #[Value.slice none 0 0, Value.int .i64 20]) w1)
          (vIf (decide (x3 > (IntKind.wrap .i64 (((n4 : Nat) : Int) - x2))))
            (Q (Value.tuple #[Value.slice none 0 0, Value.int .i64 20]) w1)
            (jnC (F16.k6 Q) ((x2), (x3), (A3, n4, c5), ()) w1))))))
def F16.an : Ann := ⟨[], [(6, [(2, .kI .i64), (3, .kI .i64), (10, .kSl)])]⟩
theorem F16.of (x0 : Option Addr) (x1 : ByteArray) (x2 : Int) (x3 : Int) (w : World) {Q : Value → World → Prop} (h : F16.vc x0 x1 x2 x3 w Q) : Calls Tryz.prog 16 #[Value.pointer x0, Value.string x1, Value.int .i64 x2, Value.int .i64 x3] w (fun e w' => ∃ v, e = .returned v ∧ Q v w') := vcFn_of (A := F16.an) noCount mixed h (by kernel_rfl)
/-! ### function 17: stillage/stillageref01.Same -/
def F17.b4c (Q : Value → World → Prop) (C4 : ((Option Addr × Nat × Nat) × (Option Addr × Nat × Nat) × Int × Unit) → World → Prop) (x0 : (Option Addr × Nat × Nat)) (x1 : (Option Addr × Nat × Nat)) (x5 : Int) (w : World) : Prop :=
  vIf (decide (x5 < ((x0.2.1 : Nat) : Int)))
  (dr x0.1 fun b1 o2 =>
    gd (decide (0 ≤ x5)) <|
    gd (decide (x5 < ((x0.2.1 : Nat) : Int))) <|
    ldI .u8 w.drew b1 (o2 + (x5).toNat * 1) fun i3 =>
    dr x1.1 fun b4 o5 =>
    gd (decide (0 ≤ x5)) <|
    gd (decide (x5 < ((x1.2.1 : Nat) : Int))) <|
    ldI .u8 w.drew b4 (o5 + (x5).toNat * 1) fun i6 =>
    vIf (i3 != i6)
    (Q (Value.bool false) w.drew)
    (jnC C4 ((x0.1, x0.2.1, x0.2.2), (x1.1, x1.2.1, x1.2.2), ((IntKind.wrap .i64 (x5 + 1))), ()) w.drew))
  (Q (Value.bool true) w)
def F17.b4 (Q : Value → World → Prop) : ((Option Addr × Nat × Nat) × (Option Addr × Nat × Nat) × Int × Unit) → World → (((Option Addr × Nat × Nat) × (Option Addr × Nat × Nat) × Int × Unit) → World → Prop) → Prop := fun s w C4 => ∀ _ : Nat → Value, F17.b4c Q C4 s.1 s.2.1 s.2.2.1 w
def F17.l4 (Q : Value → World → Prop) : ((Option Addr × Nat × Nat) × (Option Addr × Nat × Nat) × Int × Unit) → World → Prop := fun s w => ∃ n, loopC (F17.b4 Q) n s w
def F17.vc (x0A : Option Addr) (x0n x0c : Nat) (x1A : Option Addr) (x1n x1c : Nat) (w : World) (Q : Value → World → Prop) : Prop :=
  vIf (((x0n : Nat) : Int) != ((x1n : Nat) : Int))
  (Q (Value.bool false) w)
  (jnC (F17.l4 Q) ((x0A, x0n, x0c), (x1A, x1n, x1c), (0), ()) w)
def F17.an : Ann := ⟨[(4, [(0, .kSl), (1, .kSl), (5, .kI .i64)])], []⟩
theorem F17.of (x0A : Option Addr) (x0n x0c : Nat) (x1A : Option Addr) (x1n x1c : Nat) (w : World) {Q : Value → World → Prop} (h : F17.vc x0A x0n x0c x1A x1n x1c w Q) : Calls Tryz.prog 17 #[Value.slice x0A x0n x0c, Value.slice x1A x1n x1c] w (fun e w' => ∃ v, e = .returned v ∧ Q v w') := vcFn_of (A := F17.an) noCount mixed h (by kernel_rfl)
/-! ### function 22: (*stillage/disk.Disk).Calls -/
def F22.vc (x0 : Option Addr) (w : World) (Q : Value → World → Prop) : Prop :=
  vIf x0.isNone
  (Q (Value.int .i64 0) w)
  (dr x0 fun b1 o2 =>
    ldI .i64 w b1 (o2 + 9) fun i3 =>
    Q (Value.int .i64 i3) w)
def F22.an : Ann := ⟨[], []⟩
theorem F22.of (x0 : Option Addr) (w : World) {Q : Value → World → Prop} (h : F22.vc x0 w Q) : Calls Tryz.prog 22 #[Value.pointer x0] w (fun e w' => ∃ v, e = .returned v ∧ Q v w') := vcFn_of (A := F22.an) noCount mixed h (by kernel_rfl)
end Go.Proofs.YtfdhaeglhkmmpaaGreat
/- PRINTED BY MY OWN gen.py out of the translation: each function as a proposition. -/
namespace Go.Proofs.YtfdhaeglhkmmpaaGreat
open Go.GV
set_option linter.unusedVariables false
set_option maxRecDepth 100000
/-! ### function 27: (*stillage/disk.Disk).Cut -/
def F27.vc (x0 : Option Addr) (x1 : ByteArray) (x2 : Int) (w : World) (Q : Value → World → Prop) : Prop :=
  nw w [Value.pointer x0] 24 fun b1 w2 =>
  nw w2 [Value.string x1] 9 fun b3 w4 =>
  nw w4 [Value.int .i64 x2] 3 fun b5 w6 =>
  ldP w6 b1 0 fun p7 =>
  Calls Tryz.prog 35 #[Value.pointer p7, Value.func (.func 64) #[] #[Value.pointer (some ⟨b1, 0, none⟩), Value.pointer (some ⟨b3, 0, none⟩), Value.pointer (some ⟨b5, 0, none⟩)]] w6 fun e9 w8 =>
  ∃ i10 : Int, e9 = .returned (Value.int .i64 i10) ∧ (
    Q (Value.int .i64 i10) w8)
def F27.an : Ann := ⟨[], []⟩
theorem F27.of (x0 : Option Addr) (x1 : ByteArray) (x2 : Int) (w : World) {Q : Value → World → Prop} (h : F27.vc x0 x1 x2 w Q) : Calls Tryz.prog 27 #[Value.pointer x0, Value.string x1, Value.int .i64 x2] w (fun e w' => ∃ v, e = .returned v ∧ Q v w') := vcFn_of (A := F27.an) noCount mixed h (by kernel_rfl)
/-! ### function 28: (*stillage/disk.Disk).Rename -/
def F28.vc (x0 : Option Addr) (x1 : ByteArray) (x2 : ByteArray) (w : World) (Q : Value → World → Prop) : Prop :=
  nw w [Value.pointer x0] 24 fun b1 w2 =>
  nw w2 [Value.string x1] 9 fun b3 w4 =>
  nw w4 [Value.string x2] 9 fun b5 w6 =>
  ldP w6 b1 0 fun p7 =>
  Calls Tryz.prog 35 #[Value.pointer p7, Value.func (.func 67) #[] #[Value.pointer (some ⟨b1, 0, none⟩), Value.pointer (some ⟨b3, 0, none⟩), Value.pointer (some ⟨b5, 0, none⟩)]] w6 fun e9 w8 =>
  ∃ i10 : Int, e9 = .returned (Value.int .i64 i10) ∧ (
    Q (Value.int .i64 i10) w8)
def F28.an : Ann := ⟨[], []⟩
theorem F28.of (x0 : Option Addr) (x1 : ByteArray) (x2 : ByteArray) (w : World) {Q : Value → World → Prop} (h : F28.vc x0 x1 x2 w Q) : Calls Tryz.prog 28 #[Value.pointer x0, Value.string x1, Value.string x2] w (fun e w' => ∃ v, e = .returned v ∧ Q v w') := vcFn_of (A := F28.an) noCount mixed h (by kernel_rfl)
/-! ### function 29: (*stillage/disk.Disk).Remove -/
def F29.vc (x0 : Option Addr) (x1 : ByteArray) (w : World) (Q : Value → World → Prop) : Prop :=
  nw w [Value.pointer x0] 24 fun b1 w2 =>
  nw w2 [Value.string x1] 9 fun b3 w4 =>
  ldP w4 b1 0 fun p5 =>
  Calls Tryz.prog 35 #[Value.pointer p5, Value.func (.func 68) #[] #[Value.pointer (some ⟨b1, 0, none⟩), Value.pointer (some ⟨b3, 0, none⟩)]] w4 fun e7 w6 =>
  ∃ i8 : Int, e7 = .returned (Value.int .i64 i8) ∧ (
    Q (Value.int .i64 i8) w6)
def F29.an : Ann := ⟨[], []⟩
theorem F29.of (x0 : Option Addr) (x1 : ByteArray) (w : World) {Q : Value → World → Prop} (h : F29.vc x0 x1 w Q) : Calls Tryz.prog 29 #[Value.pointer x0, Value.string x1] w (fun e w' => ∃ v, e = .returned v ∧ Q v w') := vcFn_of (A := F29.an) noCount mixed h (by kernel_rfl)
/-! ### function 30: (*stillage/disk.Disk).Fuse -/
def F30.vc (x0 : Option Addr) (x1 : Int) (w : World) (Q : Value → World → Prop) : Prop :=
  vIf (!x0.isNone)
  (dr x0 fun b1 o2 =>
    st w b1 (o2 + 7) [Value.bool (decide (x1 ≥ 0))] fun w3 =>
    dr x0 fun b4 o5 =>
    st w3 b4 (o5 + 8) [Value.int .i64 x1] fun w6 =>
    Q (Value.tuple #[]) w6)
  (Q (Value.tuple #[]) w)
def F30.an : Ann := ⟨[], []⟩
theorem F30.of (x0 : Option Addr) (x1 : Int) (w : World) {Q : Value → World → Prop} (h : F30.vc x0 x1 w Q) : Calls Tryz.prog 30 #[Value.pointer x0, Value.int .i64 x1] w (fun e w' => ∃ v, e = .returned v ∧ Q v w') := vcFn_of (A := F30.an) noCount mixed h (by kernel_rfl)
/-! ### function 31: stillage/folder.Ids -/
def F31.b6c (Q : Value → World → Prop) (C3 : ((Nat × Nat) × (Option Addr × Nat × Nat) × Int × Int × Unit) → World → Prop) (C6 : ((Nat × Nat) × (Option Addr × Nat × Nat) × Int × Int × (Option Addr × Nat × Nat) × Int × Int × Unit) → World → Prop) (x1 : (Nat × Nat)) (x3 : (Option Addr × Nat × Nat)) (x10 : Int) (x11 : Int) (x16 : (Option Addr × Nat × Nat)) (x17 : Int) (x18 : Int) (w : World) : Prop :=
  vIf (decide (x18 < x17))
  (dr x16.1 fun b12 o13 =>
    gd (decide (0 ≤ x18)) <|
    gd (decide (x18 < ((x16.2.1 : Nat) : Int))) <|
    ldA 2 w b12 (o13 + (x18).toNat * 2) fun a14 =>
    nw w [Value.string (⟨#[]⟩ : ByteArray), Value.int .i64 0] 94 fun b15 w16 =>
    gd (a14.length == 2) <|
    st w16 b15 0 a14 fun w17 =>
    ldI .i64 w17 b15 (0 + 1) fun i18 =>
    nw w17 ([Value.int .i64 i18] ++ []) 3 fun b19 w20 =>
    app w20 1 8 [Value.int .i64 0] 3 x3.1 x3.2.1 x3.2.2 (Value.slice (some ⟨b19, 0, none⟩) 1 1) fun A21 n22 c23 w24 =>
    jnC C6 ((x1.1, x1.2), (A21, n22, c23), (x10), (x11), (x16.1, x16.2.1, x16.2.2), (x17), ((IntKind.wrap .i64 (x18 + 1))), ()) w24)
  (jnC C3 ((x1.1, x1.2), (x3.1, x3.2.1, x3.2.2), (x10), ((IntKind.wrap .i64 (x11 + 1))), ()) w)
def F31.b6 (Q : Value → World → Prop) (C3 : ((Nat × Nat) × (Option Addr × Nat × Nat) × Int × Int × Unit) → World → Prop) : ((Nat × Nat) × (Option Addr × Nat × Nat) × Int × Int × (Option Addr × Nat × Nat) × Int × Int × Unit) → World → (((Nat × Nat) × (Option Addr × Nat × Nat) × Int × Int × (Option Addr × Nat × Nat) × Int × Int × Unit) → World → Prop) → Prop := fun s w C6 => ∀ _ : Nat → Value, F31.b6c Q C3 C6 s.1 s.2.1 s.2.2.1 s.2.2.2.1 s.2.2.2.2.1 s.2.2.2.2.2.1 s.2.2.2.2.2.2.1 w
def F31.l6 (Q : Value → World → Prop) (C3 : ((Nat × Nat) × (Option Addr × Nat × Nat) × Int × Int × Unit) → World → Prop) : ((Nat × Nat) × (Option Addr × Nat × Nat) × Int × Int × (Option Addr × Nat × Nat) × Int × Int × Unit) → World → Prop := fun s w => ∃ n, loopC (F31.b6 Q C3) n s w
def F31.b3c (Q : Value → World → Prop) (C3 : ((Nat × Nat) × (Option Addr × Nat × Nat) × Int × Int × Unit) → World → Prop) (x1 : (Nat × Nat)) (x3 : (Option Addr × Nat × Nat)) (x10 : Int) (x11 : Int) (w : World) : Prop :=
  vIf (decide (x11 < x10))
  (ldA 2 w x1.1 x1.2 fun a6 =>
    Calls Tryz.prog 69 #[ofL a6, Value.int .i64 x11] w fun e8 w7 =>
    ∃ (A9 : Option Addr) (n10 c11 : Nat), e8 = .returned (Value.slice A9 n10 c11) ∧ (
      jnC (F31.l6 Q C3) ((x1.1, x1.2), (x3.1, x3.2.1, x3.2.2), (x10), (x11), (A9, n10, c11), (((n10 : Nat) : Int)), (0), ()) w7))
  (Calls Tryz.prog 70 #[Value.slice x3.1 x3.2.1 x3.2.2] w fun e26 w25 =>
    e26 = .returned (Value.tuple #[]) ∧ (
      Calls Tryz.prog 71 #[Value.slice x3.1 x3.2.1 x3.2.2] w25 fun e28 w27 =>
      ∃ (A29 : Option Addr) (n30 c31 : Nat), e28 = .returned (Value.slice A29 n30 c31) ∧ (
        Q (Value.slice A29 n30 c31) w27)))
def F31.b3 (Q : Value → World → Prop) : ((Nat × Nat) × (Option Addr × Nat × Nat) × Int × Int × Unit) → World → (((Nat × Nat) × (Option Addr × Nat × Nat) × Int × Int × Unit) → World → Prop) → Prop := fun s w C3 => ∀ _ : Nat → Value, F31.b3c Q C3 s.1 s.2.1 s.2.2.1 s.2.2.2.1 w
def F31.l3 (Q : Value → World → Prop) : ((Nat × Nat) × (Option Addr × Nat × Nat) × Int × Int × Unit) → World → Prop := fun s w => ∃ n, loopC (F31.b3 Q) n s w
def F31.vc (x0 : List Value) (w : World) (Q : Value → World → Prop) : Prop :=
  nw w x0 64 fun b1 w2 =>
  ldSl w2 b1 (0 + 1) fun A3 n4 c5 =>
  jnC (F31.l3 Q) ((b1, 0), (none, 0, 0), ((IntKind.wrap .i64 (((n4 : Nat) : Int) + 1))), (0), ()) w2
def F31.an : Ann := ⟨[(3, [(1, .kL), (3, .kSl), (10, .kI .i64), (11, .kI .i64)]), (6, [(1, .kL), (3, .kSl), (10, .kI .i64), (11, .kI .i64), (16, .kSl), (17, .kI .i64), (18, .kI .i64)])], []⟩
theorem F31.of (x0 : List Value) (w : World) {Q : Value → World → Prop} (h : F31.vc x0 w Q) : Calls Tryz.prog 31 #[ofL x0] w (fun e w' => ∃ v, e = .returned v ∧ Q v w') := vcFn_of (A := F31.an) noCount mixed h (by kernel_rfl)
/-! ### function 32: stillage/inode.Crash -/
def F32.vc (x0 : List Value) (x1A : Option Addr) (x1n x1c : Nat) (w : World) (Q : Value → World → Prop) : Prop :=
  nw w x0 74 fun b1 w2 =>
  nw w2 [Value.slice none 0 0, Value.slice none 0 0] 74 fun b3 w4 =>
  ldSl w4 b1 (0 + 1) fun A5 n6 c7 =>
  ldSl w4.drew b1 0 fun A8 n9 c10 =>
  ldSl w4.drew b1 (0 + 1) fun A11 n12 c13 =>
  gd (decide (0 ≤ (if ((n6 : Nat) : Int) < ((x1n : Nat) : Int) then ((n6 : Nat) : Int) else ((x1n : Nat) : Int)))) <|
  gd (decide ((if ((n6 : Nat) : Int) < ((x1n : Nat) : Int) then ((n6 : Nat) : Int) else ((x1n : Nat) : Int)) ≤ ((x1c : Nat) : Int))) <|
  gd (decide (0 ≤ (if ((n6 : Nat) : Int) < ((x1n : Nat) : Int) then ((n6 : Nat) : Int) else ((x1n : Nat) : Int)))) <|
  gd (decide ((if ((n6 : Nat) : Int) < ((x1n : Nat) : Int) then ((n6 : Nat) : Int) else ((x1n : Nat) : Int)) ≤ ((x1n : Nat) : Int))) <|
  Calls Tryz.prog 72 #[Value.slice A8 n9 c10, Value.slice A11 n12 c13, Value.slice (slA x1A x1c 0 1) ((if ((n6 : Nat) : Int) < ((x1n : Nat) : Int) then ((n6 : Nat) : Int) else ((x1n : Nat) : Int))).toNat x1c] w4.drew fun e15 w14 =>
  ∃ (A16 : Option Addr) (n17 c18 : Nat), e15 = .returned (Value.slice A16 n17 c18) ∧ (
    Calls Tryz.prog 73 #[Value.slice (slA x1A x1c ((if ((n6 : Nat) : Int) < ((x1n : Nat) : Int) then ((n6 : Nat) : Int) else ((x1n : Nat) : Int))).toNat 1) (x1n - ((if ((n6 : Nat) : Int) < ((x1n : Nat) : Int) then ((n6 : Nat) : Int) else ((x1n : Nat) : Int))).toNat) (x1c - ((if ((n6 : Nat) : Int) < ((x1n : Nat) : Int) then ((n6 : Nat) : Int) else ((x1n : Nat) : Int))).toNat)] w14 fun e20 w19 =>
    ∃ (A21 : Option Addr) (n22 c23 : Nat), e20 = .returned (Value.slice A21 n22 c23) ∧ (
      gd (([Value.slice A16 n17 c18] ++ ([Value.slice none 0 0] ++ [])).length == 2) <|
      st w19 b3 0 ([Value.slice A16 n17 c18] ++ ([Value.slice none 0 0] ++ [])) fun w24 =>
      ldA 2 w24 b3 0 fun a25 =>
      Q (Value.tuple #[ofL a25, Value.slice A21 n22 c23]) w24))
def F32.an : Ann := ⟨[], []⟩
theorem F32.of (x0 : List Value) (x1A : Option Addr) (x1n x1c : Nat) (w : World) {Q : Value → World → Prop} (h : F32.vc x0 x1A x1n x1c w Q) : Calls Tryz.prog 32 #[ofL x0, Value.slice x1A x1n x1c] w (fun e w' => ∃ v, e = .returned v ∧ Q v w') := vcFn_of (A := F32.an) noCount mixed h (by kernel_rfl)
/-! ### function 33: stillage/folder.Crash -/
def F33.vc (x0 : List Value) (x1 : Int) (w : World) (Q : Value → World → Prop) : Prop :=
  nw w x0 64 fun b1 w2 =>
  nw w2 [Value.slice none 0 0, Value.slice none 0 0] 64 fun b3 w4 =>
  ldA 2 w4 b1 0 fun a5 =>
  Calls Tryz.prog 69 #[ofL a5, Value.int .i64 x1] w4 fun e7 w6 =>
  ∃ (A8 : Option Addr) (n9 c10 : Nat), e7 = .returned (Value.slice A8 n9 c10) ∧ (
    gd (([Value.slice A8 n9 c10] ++ ([Value.slice none 0 0] ++ [])).length == 2) <|
    st w6 b3 0 ([Value.slice A8 n9 c10] ++ ([Value.slice none 0 0] ++ [])) fun w11 =>
    ldA 2 w11 b3 0 fun a12 =>
    Q (ofL a12) w11)
def F33.an : Ann := ⟨[], []⟩
theorem F33.of (x0 : List Value) (x1 : Int) (w : World) {Q : Value → World → Prop} (h : F33.vc x0 x1 w Q) : Calls Tryz.prog 33 #[ofL x0, Value.int .i64 x1] w (fun e w' => ∃ v, e = .returned v ∧ Q v w') := vcFn_of (A := F33.an) noCount mixed h (by kernel_rfl)
/-! ### function 34: (*stillage/disk.Disk).keep -/
def F34.k8c (Q : Value → World → Prop) (C3 : (Option Addr × (Option Addr × Nat × Nat) × Int × (Option Addr × Nat × Nat) × Int × Int × Unit) → World → Prop) (x0 : Option Addr) (x4 : (Option Addr × Nat × Nat)) (x5 : Int) (x7 : Int) (x13 : (Option Addr × Nat × Nat)) (x14 : Int) (x15 : Int) (x44 : Bool) (w : World) : Prop :=
  vIf x44
  (dr x0 fun b15 o16 =>
    ldM w b15 (o16 + 4) fun m17 =>
    drM m17 fun r19 =>
    mdl w r19 .i64 x7 fun w18 =>
    jnC C3 (x0, (x4.1, x4.2.1, x4.2.2), (x5), (x13.1, x13.2.1, x13.2.2), (x14), ((IntKind.wrap .i64 (x15 + 1))), ()) w18)
  (jnC C3 (x0, (x4.1, x4.2.1, x4.2.2), (x5), (x13.1, x13.2.1, x13.2.2), (x14), ((IntKind.wrap .i64 (x15 + 1))), ()) w)
def F34.k8 (Q : Value → World → Prop) (C3 : (Option Addr × (Option Addr × Nat × Nat) × Int × (Option Addr × Nat × Nat) × Int × Int × Unit) → World → Prop) : (Option Addr × (Option Addr × Nat × Nat) × Int × Int × (Option Addr × Nat × Nat) × Int × Int × Bool × Unit) → World → Prop := fun s w => ∀ _ : Nat → Value, F34.k8c Q C3 s.1 s.2.1 s.2.2.1 s.2.2.2.1 s.2.2.2.2.1 s.2.2.2.2.2.1 s.2.2.2.2.2.2.1 s.2.2.2.2.2.2.2.1 w
def F34.k7c (Q : Value → World → Prop) (C3 : (Option Addr × (Option Addr × Nat × Nat) × Int × (Option Addr × Nat × Nat) × Int × Int × Unit) → World → Prop) (x0 : Option Addr) (x4 : (Option Addr × Nat × Nat)) (x5 : Int) (x7 : Int) (x13 : (Option Addr × Nat × Nat)) (x14 : Int) (x15 : Int) (w : World) : Prop :=
  vIf (x5 == ((x4.2.1 : Nat) : Int))
  (jnC (F34.k8 Q C3) (x0, (x4.1, x4.2.1, x4.2.2), (x5), (x7), (x13.1, x13.2.1, x13.2.2), (x14), (x15), true, ()) w)
  (dr x4.1 fun b20 o21 =>
    gd (decide (0 ≤ x5)) <|
    gd (decide (x5 < ((x4.2.1 : Nat) : Int))) <|
    ldI .i64 w b20 (o21 + (x5).toNat * 1) fun i22 =>
    jnC (F34.k8 Q C3) (x0, (x4.1, x4.2.1, x4.2.2), (x5), (x7), (x13.1, x13.2.1, x13.2.2), (x14), (x15), (i22 != x7), ()) w)
def F34.k7 (Q : Value → World → Prop) (C3 : (Option Addr × (Option Addr × Nat × Nat) × Int × (Option Addr × Nat × Nat) × Int × Int × Unit) → World → Prop) : (Option Addr × (Option Addr × Nat × Nat) × Int × Int × (Option Addr × Nat × Nat) × Int × Int × Unit) → World → Prop := fun s w => ∀ _ : Nat → Value, F34.k7c Q C3 s.1 s.2.1 s.2.2.1 s.2.2.2.1 s.2.2.2.2.1 s.2.2.2.2.2.1 s.2.2.2.2.2.2.1 w
def F34.b5c (Q : Value → World → Prop) (C3 : (Option Addr × (Option Addr × Nat × Nat) × Int × (Option Addr × Nat × Nat) × Int × Int × Unit) → World → Prop) (C5 : (Option Addr × (Option Addr × Nat × Nat) × Int × Int × (Option Addr × Nat × Nat) × Int × Int × Unit) → World → Prop) (x0 : Option Addr) (x4 : (Option Addr × Nat × Nat)) (x5 : Int) (x7 : Int) (x13 : (Option Addr × Nat × Nat)) (x14 : Int) (x15 : Int) (w : World) : Prop :=
  vIf (decide (x5 < ((x4.2.1 : Nat) : Int)))
  (dr x4.1 fun b12 o13 =>
    gd (decide (0 ≤ x5)) <|
    gd (decide (x5 < ((x4.2.1 : Nat) : Int))) <|
    ldI .i64 w b12 (o13 + (x5).toNat * 1) fun i14 =>
    vIf (decide (i14 < x7))
    (jnC C5 (x0, (x4.1, x4.2.1, x4.2.2), ((IntKind.wrap .i64 (x5 + 1))), (x7), (x13.1, x13.2.1, x13.2.2), (x14), (x15), ()) w)
    (jnC (F34.k7 Q C3) (x0, (x4.1, x4.2.1, x4.2.2), (x5), (x7), (x13.1, x13.2.1, x13.2.2), (x14), (x15), ()) w))
  (jnC (F34.k7 Q C3) (x0, (x4.1, x4.2.1, x4.2.2), (x5), (x7), (x13.1, x13.2.1, x13.2.2), (x14), (x15), ()) w)
def F34.b5 (Q : Value → World → Prop) (C3 : (Option Addr × (Option Addr × Nat × Nat) × Int × (Option Addr × Nat × Nat) × Int × Int × Unit) → World → Prop) : (Option Addr × (Option Addr × Nat × Nat) × Int × Int × (Option Addr × Nat × Nat) × Int × Int × Unit) → World → ((Option Addr × (Option Addr × Nat × Nat) × Int × Int × (Option Addr × Nat × Nat) × Int × Int × Unit) → World → Prop) → Prop := fun s w C5 => ∀ _ : Nat → Value, F34.b5c Q C3 C5 s.1 s.2.1 s.2.2.1 s.2.2.2.1 s.2.2.2.2.1 s.2.2.2.2.2.1 s.2.2.2.2.2.2.1 w
def F34.l5 (Q : Value → World → Prop) (C3 : (Option Addr × (Option Addr × Nat × Nat) × Int × (Option Addr × Nat × Nat) × Int × Int × Unit) → World → Prop) : (Option Addr × (Option Addr × Nat × Nat) × Int × Int × (Option Addr × Nat × Nat) × Int × Int × Unit) → World → Prop := fun s w => ∃ n, loopC (F34.b5 Q C3) n s w
def F34.b3c (Q : Value → World → Prop) (C3 : (Option Addr × (Option Addr × Nat × Nat) × Int × (Option Addr × Nat × Nat) × Int × Int × Unit) → World → Prop) (x0 : Option Addr) (x4 : (Option Addr × Nat × Nat)) (x5 : Int) (x13 : (Option Addr × Nat × Nat)) (x14 : Int) (x15 : Int) (w : World) : Prop :=
  vIf (decide (x15 < x14))
  (dr x13.1 fun b9 o10 =>
    gd (decide (0 ≤ x15)) <|
    gd (decide (x15 < ((x13.2.1 : Nat) : Int))) <|
    ldI .i64 w b9 (o10 + (x15).toNat * 1) fun i11 =>
    jnC (F34.l5 Q C3) (x0, (x4.1, x4.2.1, x4.2.2), (x5), (i11), (x13.1, x13.2.1, x13.2.2), (x14), (x15), ()) w)
  (Q (Value.tuple #[]) w)
def F34.b3 (Q : Value → World → Prop) : (Option Addr × (Option Addr × Nat × Nat) × Int × (Option Addr × Nat × Nat) × Int × Int × Unit) → World → ((Option Addr × (Option Addr × Nat × Nat) × Int × (Option Addr × Nat × Nat) × Int × Int × Unit) → World → Prop) → Prop := fun s w C3 => ∀ _ : Nat → Value, F34.b3c Q C3 s.1 s.2.1 s.2.2.1 s.2.2.2.1 s.2.2.2.2.1 s.2.2.2.2.2.1 w
def F34.l3 (Q : Value → World → Prop) : (Option Addr × (Option Addr × Nat × Nat) × Int × (Option Addr × Nat × Nat) × Int × Int × Unit) → World → Prop := fun s w => ∃ n, loopC (F34.b3 Q) n s w
def F34.vc (x0 : Option Addr) (x1A : Option Addr) (x1n x1c : Nat) (w : World) (Q : Value → World → Prop) : Prop :=
  dr x0 fun b1 o2 =>
  ldA 2 w b1 (o2 + 2) fun a3 =>
  Calls Tryz.prog 31 #[ofL a3] w fun e5 w4 =>
  ∃ (A6 : Option Addr) (n7 c8 : Nat), e5 = .returned (Value.slice A6 n7 c8) ∧ (
    jnC (F34.l3 Q) (x0, (A6, n7, c8), (0), (x1A, x1n, x1c), (((x1n : Nat) : Int)), (0), ()) w4)
def F34.an : Ann := ⟨[(3, [(0, .kP), (4, .kSl), (5, .kI .i64), (13, .kSl), (14, .kI .i64), (15, .kI .i64)]), (5, [(0, .kP), (4, .kSl), (5, .kI .i64), (7, .kI .i64), (13, .kSl), (14, .kI .i64), (15, .kI .i64)])], [(7, [(0, .kP), (4, .kSl), (5, .kI .i64), (7, .kI .i64), (13, .kSl), (14, .kI .i64), (15, .kI .i64)]), (8, [(0, .kP), (4, .kSl), (5, .kI .i64), (7, .kI .i64), (13, .kSl), (14, .kI .i64), (15, .kI .i64), (44, .kB)])]⟩
theorem F34.of (x0 : Option Addr) (x1A : Option Addr) (x1n x1c : Nat) (w : World) {Q : Value → World → Prop} (h : F34.vc x0 x1A x1n x1c w Q) : Calls Tryz.prog 34 #[Value.pointer x0, Value.slice x1A x1n x1c] w (fun e w' => ∃ v, e = .returned v ∧ Q v w') := vcFn_of (A := F34.an) noCount mixed h (by kernel_rfl)
/-! ### function 35: (*stillage/disk.Disk).power -/
def F35a.k6c (Q : Value → World → Prop) (x0 : Option Addr) (x1 : ((Nat × Nat) × (Nat × Nat) ×  Unit)) (w : World) : Prop :=
  dr x0 fun b7 o8 =>
  ldI .i64 w b7 (o8 + 8) fun i9 =>
  dr x0 fun b10 o11 =>
  st w b10 (o11 + 8) [Value.int .i64 (IntKind.wrap .i64 (i9 - 1))] fun w12 =>
  dr x0 fun b13 o14 =>
  ldI .i64 w12 b13 (o14 + 9) fun i15 =>
  dr x0 fun b16 o17 =>
  st w12 b16 (o17 + 9) [Value.int .i64 (IntKind.wrap .i64 (i15 + 1))] fun w18 =>
  Calls Tryz.prog 36 #[Value.pointer (some ⟨x1.1.1, x1.1.2, none⟩), Value.pointer (some ⟨x1.2.1.1, x1.2.1.2, none⟩)] w18 fun e20 w19 =>
  ∃ i21 : Int, e20 = .returned (Value.int .i64 i21) ∧ (
    Q (Value.int .i64 i21) w19)
def F35a.k6 (Q : Value → World → Prop) : (Option Addr × ((Nat × Nat) × (Nat × Nat) ×  Unit) × Unit) → World → Prop := fun s w => ∀ _ : Nat → Value, F35a.k6c Q s.1 s.2.1 w
def F35a.k4c (Q : Value → World → Prop) (x0 : Option Addr) (x1 : ((Nat × Nat) × (Nat × Nat) ×  Unit)) (x8 : Bool) (w : World) : Prop :=
  vIf x8
  (dr x0 fun b4 o5 =>
    st w b4 (o5 + 6) [Value.bool true] fun w6 =>
    Q (Value.int .i64 11) w6)
  (jnC (F35a.k6 Q) (x0, ((x1.1.1, x1.1.2), (x1.2.1.1, x1.2.1.2), ()), ()) w)
def F35a.k4 (Q : Value → World → Prop) : (Option Addr × ((Nat × Nat) × (Nat × Nat) ×  Unit) × Bool × Unit) → World → Prop := fun s w => ∀ _ : Nat → Value, F35a.k4c Q s.1 s.2.1 s.2.2.1 w
def F35a.vc (x0 : Option Addr) (x1 : (Nat × Nat) × (Nat × Nat) × Unit) (w : World) (Q : Value → World → Prop) : Prop :=
  vIf x0.isNone
  (Q (Value.int .i64 1) w)
  (dr x0 fun b1 o2 =>
    ldB w b1 (o2 + 6) fun t3 =>
    vIf t3
    (jnC (F35a.k4 Q) (x0, ((x1.1.1, x1.1.2), (x1.2.1.1, x1.2.1.2), ()), true, ()) w)
    (dr x0 fun b22 o23 =>
      ldB w b22 (o23 + 7) fun t24 =>
      vIf t24
      (dr x0 fun b25 o26 =>
        ldI .i64 w b25 (o26 + 8) fun i27 =>
        jnC (F35a.k4 Q) (x0, ((x1.1.1, x1.1.2), (x1.2.1.1, x1.2.1.2), ()), (decide (i27 ≤ 0)), ()) w)
      (jnC (F35a.k4 Q) (x0, ((x1.1.1, x1.1.2), (x1.2.1.1, x1.2.1.2), ()), false, ()) w)))
def F35a.an : Ann := ⟨[], [(4, [(0, .kP), (1, .kH 36 2), (8, .kB)]), (6, [(0, .kP), (1, .kH 36 2)])]⟩
theorem F35a.of (x0 : Option Addr) (x1 : (Nat × Nat) × (Nat × Nat) × Unit) (w : World) {Q : Value → World → Prop} (h : F35a.vc x0 x1 w Q) : Calls Tryz.prog 35 #[Value.pointer x0, Value.func (.func 36) #[] #[Value.pointer (some ⟨x1.1.1, x1.1.2, none⟩), Value.pointer (some ⟨x1.2.1.1, x1.2.1.2, none⟩)]] w (fun e w' => ∃ v, e = .returned v ∧ Q v w') := vcFn_of (A := F35a.an) noCount mixed h (by kernel_rfl)
/-! ### function 35: (*stillage/disk.Disk).power -/
def F35b.k6c (Q : Value → World → Prop) (x0 : Option Addr) (x1 : ((Nat × Nat) × (Nat × Nat) × (Nat × Nat) ×  Unit)) (w : World) : Prop :=
  dr x0 fun b7 o8 =>
  ldI .i64 w b7 (o8 + 8) fun i9 =>
  dr x0 fun b10 o11 =>
  st w b10 (o11 + 8) [Value.int .i64 (IntKind.wrap .i64 (i9 - 1))] fun w12 =>
  dr x0 fun b13 o14 =>
  ldI .i64 w12 b13 (o14 + 9) fun i15 =>
  dr x0 fun b16 o17 =>
  st w12 b16 (o17 + 9) [Value.int .i64 (IntKind.wrap .i64 (i15 + 1))] fun w18 =>
  Calls Tryz.prog 38 #[Value.pointer (some ⟨x1.1.1, x1.1.2, none⟩), Value.pointer (some ⟨x1.2.1.1, x1.2.1.2, none⟩), Value.pointer (some ⟨x1.2.2.1.1, x1.2.2.1.2, none⟩)] w18 fun e20 w19 =>
  ∃ i21 : Int, e20 = .returned (Value.int .i64 i21) ∧ (
    Q (Value.int .i64 i21) w19)
def F35b.k6 (Q : Value → World → Prop) : (Option Addr × ((Nat × Nat) × (Nat × Nat) × (Nat × Nat) ×  Unit) × Unit) → World → Prop := fun s w => ∀ _ : Nat → Value, F35b.k6c Q s.1 s.2.1 w
def F35b.k4c (Q : Value → World → Prop) (x0 : Option Addr) (x1 : ((Nat × Nat) × (Nat × Nat) × (Nat × Nat) ×  Unit)) (x8 : Bool) (w : World) : Prop :=
  vIf x8
  (dr x0 fun b4 o5 =>
    st w b4 (o5 + 6) [Value.bool true] fun w6 =>
    Q (Value.int .i64 11) w6)
  (jnC (F35b.k6 Q) (x0, ((x1.1.1, x1.1.2), (x1.2.1.1, x1.2.1.2), (x1.2.2.1.1, x1.2.2.1.2), ()), ()) w)
def F35b.k4 (Q : Value → World → Prop) : (Option Addr × ((Nat × Nat) × (Nat × Nat) × (Nat × Nat) ×  Unit) × Bool × Unit) → World → Prop := fun s w => ∀ _ : Nat → Value, F35b.k4c Q s.1 s.2.1 s.2.2.1 w
def F35b.vc (x0 : Option Addr) (x1 : (Nat × Nat) × (Nat × Nat) × (Nat × Nat) × Unit) (w : World) (Q : Value → World → Prop) : Prop :=
  vIf x0.isNone
  (Q (Value.int .i64 1) w)
  (dr x0 fun b1 o2 =>
    ldB w b1 (o2 + 6) fun t3 =>
    vIf t3
    (jnC (F35b.k4 Q) (x0, ((x1.1.1, x1.1.2), (x1.2.1.1, x1.2.1.2), (x1.2.2.1.1, x1.2.2.1.2), ()), true, ()) w)
    (dr x0 fun b22 o23 =>
      ldB w b22 (o23 + 7) fun t24 =>
      vIf t24
      (dr x0 fun b25 o26 =>
        ldI .i64 w b25 (o26 + 8) fun i27 =>
        jnC (F35b.k4 Q) (x0, ((x1.1.1, x1.1.2), (x1.2.1.1, x1.2.1.2), (x1.2.2.1.1, x1.2.2.1.2), ()), (decide (i27 ≤ 0)), ()) w)
      (jnC (F35b.k4 Q) (x0, ((x1.1.1, x1.1.2), (x1.2.1.1, x1.2.1.2), (x1.2.2.1.1, x1.2.2.1.2), ()), false, ()) w)))
def F35b.an : Ann := ⟨[], [(4, [(0, .kP), (1, .kH 38 3), (8, .kB)]), (6, [(0, .kP), (1, .kH 38 3)])]⟩
theorem F35b.of (x0 : Option Addr) (x1 : (Nat × Nat) × (Nat × Nat) × (Nat × Nat) × Unit) (w : World) {Q : Value → World → Prop} (h : F35b.vc x0 x1 w Q) : Calls Tryz.prog 35 #[Value.pointer x0, Value.func (.func 38) #[] #[Value.pointer (some ⟨x1.1.1, x1.1.2, none⟩), Value.pointer (some ⟨x1.2.1.1, x1.2.1.2, none⟩), Value.pointer (some ⟨x1.2.2.1.1, x1.2.2.1.2, none⟩)]] w (fun e w' => ∃ v, e = .returned v ∧ Q v w') := vcFn_of (A := F35b.an) noCount mixed h (by kernel_rfl)
/-! ### function 35: (*stillage/disk.Disk).power -/
def F35c.k6c (Q : Value → World → Prop) (x0 : Option Addr) (x1 : ((Nat × Nat) × (Nat × Nat) × (Nat × Nat) ×  Unit)) (w : World) : Prop :=
  dr x0 fun b7 o8 =>
  ldI .i64 w b7 (o8 + 8) fun i9 =>
  dr x0 fun b10 o11 =>
  st w b10 (o11 + 8) [Value.int .i64 (IntKind.wrap .i64 (i9 - 1))] fun w12 =>
  dr x0 fun b13 o14 =>
  ldI .i64 w12 b13 (o14 + 9) fun i15 =>
  dr x0 fun b16 o17 =>
  st w12 b16 (o17 + 9) [Value.int .i64 (IntKind.wrap .i64 (i15 + 1))] fun w18 =>
  Calls Tryz.prog 64 #[Value.pointer (some ⟨x1.1.1, x1.1.2, none⟩), Value.pointer (some ⟨x1.2.1.1, x1.2.1.2, none⟩), Value.pointer (some ⟨x1.2.2.1.1, x1.2.2.1.2, none⟩)] w18 fun e20 w19 =>
  ∃ i21 : Int, e20 = .returned (Value.int .i64 i21) ∧ (
    Q (Value.int .i64 i21) w19)
def F35c.k6 (Q : Value → World → Prop) : (Option Addr × ((Nat × Nat) × (Nat × Nat) × (Nat × Nat) ×  Unit) × Unit) → World → Prop := fun s w => ∀ _ : Nat → Value, F35c.k6c Q s.1 s.2.1 w
def F35c.k4c (Q : Value → World → Prop) (x0 : Option Addr) (x1 : ((Nat × Nat) × (Nat × Nat) × (Nat × Nat) ×  Unit)) (x8 : Bool) (w : World) : Prop :=
  vIf x8
  (dr x0 fun b4 o5 =>
    st w b4 (o5 + 6) [Value.bool true] fun w6 =>
    Q (Value.int .i64 11) w6)
  (jnC (F35c.k6 Q) (x0, ((x1.1.1, x1.1.2), (x1.2.1.1, x1.2.1.2), (x1.2.2.1.1, x1.2.2.1.2), ()), ()) w)
def F35c.k4 (Q : Value → World → Prop) : (Option Addr × ((Nat × Nat) × (Nat × Nat) × (Nat × Nat) ×  Unit) × Bool × Unit) → World → Prop := fun s w => ∀ _ : Nat → Value, F35c.k4c Q s.1 s.2.1 s.2.2.1 w
def F35c.vc (x0 : Option Addr) (x1 : (Nat × Nat) × (Nat × Nat) × (Nat × Nat) × Unit) (w : World) (Q : Value → World → Prop) : Prop :=
  vIf x0.isNone
  (Q (Value.int .i64 1) w)
  (dr x0 fun b1 o2 =>
    ldB w b1 (o2 + 6) fun t3 =>
    vIf t3
    (jnC (F35c.k4 Q) (x0, ((x1.1.1, x1.1.2), (x1.2.1.1, x1.2.1.2), (x1.2.2.1.1, x1.2.2.1.2), ()), true, ()) w)
    (dr x0 fun b22 o23 =>
      ldB w b22 (o23 + 7) fun t24 =>
      vIf t24
      (dr x0 fun b25 o26 =>
        ldI .i64 w b25 (o26 + 8) fun i27 =>
        jnC (F35c.k4 Q) (x0, ((x1.1.1, x1.1.2), (x1.2.1.1, x1.2.1.2), (x1.2.2.1.1, x1.2.2.1.2), ()), (decide (i27 ≤ 0)), ()) w)
      (jnC (F35c.k4 Q) (x0, ((x1.1.1, x1.1.2), (x1.2.1.1, x1.2.1.2), (x1.2.2.1.1, x1.2.2.1.2), ()), false, ()) w)))
def F35c.an : Ann := ⟨[], [(4, [(0, .kP), (1, .kH 64 3), (8, .kB)]), (6, [(0, .kP), (1, .kH 64 3)])]⟩
theorem F35c.of (x0 : Option Addr) (x1 : (Nat × Nat) × (Nat × Nat) × (Nat × Nat) × Unit) (w : World) {Q : Value → World → Prop} (h : F35c.vc x0 x1 w Q) : Calls Tryz.prog 35 #[Value.pointer x0, Value.func (.func 64) #[] #[Value.pointer (some ⟨x1.1.1, x1.1.2, none⟩), Value.pointer (some ⟨x1.2.1.1, x1.2.1.2, none⟩), Value.pointer (some ⟨x1.2.2.1.1, x1.2.2.1.2, none⟩)]] w (fun e w' => ∃ v, e = .returned v ∧ Q v w') := vcFn_of (A := F35c.an) noCount mixed h (by kernel_rfl)
/-! ### function 35: (*stillage/disk.Disk).power -/
def F35d.k6c (Q : Value → World → Prop) (x0 : Option Addr) (x1 : ((Nat × Nat) × (Nat × Nat) ×  Unit)) (w : World) : Prop :=
  dr x0 fun b7 o8 =>
  ldI .i64 w b7 (o8 + 8) fun i9 =>
  dr x0 fun b10 o11 =>
  st w b10 (o11 + 8) [Value.int .i64 (IntKind.wrap .i64 (i9 - 1))] fun w12 =>
  dr x0 fun b13 o14 =>
  ldI .i64 w12 b13 (o14 + 9) fun i15 =>
  dr x0 fun b16 o17 =>
  st w12 b16 (o17 + 9) [Value.int .i64 (IntKind.wrap .i64 (i15 + 1))] fun w18 =>
  Calls Tryz.prog 42 #[Value.pointer (some ⟨x1.1.1, x1.1.2, none⟩), Value.pointer (some ⟨x1.2.1.1, x1.2.1.2, none⟩)] w18 fun e20 w19 =>
  ∃ i21 : Int, e20 = .returned (Value.int .i64 i21) ∧ (
    Q (Value.int .i64 i21) w19)
def F35d.k6 (Q : Value → World → Prop) : (Option Addr × ((Nat × Nat) × (Nat × Nat) ×  Unit) × Unit) → World → Prop := fun s w => ∀ _ : Nat → Value, F35d.k6c Q s.1 s.2.1 w
def F35d.k4c (Q : Value → World → Prop) (x0 : Option Addr) (x1 : ((Nat × Nat) × (Nat × Nat) ×  Unit)) (x8 : Bool) (w : World) : Prop :=
  vIf x8
  (dr x0 fun b4 o5 =>
    st w b4 (o5 + 6) [Value.bool true] fun w6 =>
    Q (Value.int .i64 11) w6)
  (jnC (F35d.k6 Q) (x0, ((x1.1.1, x1.1.2), (x1.2.1.1, x1.2.1.2), ()), ()) w)
def F35d.k4 (Q : Value → World → Prop) : (Option Addr × ((Nat × Nat) × (Nat × Nat) ×  Unit) × Bool × Unit) → World → Prop := fun s w => ∀ _ : Nat → Value, F35d.k4c Q s.1 s.2.1 s.2.2.1 w
def F35d.vc (x0 : Option Addr) (x1 : (Nat × Nat) × (Nat × Nat) × Unit) (w : World) (Q : Value → World → Prop) : Prop :=
  vIf x0.isNone
  (Q (Value.int .i64 1) w)
  (dr x0 fun b1 o2 =>
    ldB w b1 (o2 + 6) fun t3 =>
    vIf t3
    (jnC (F35d.k4 Q) (x0, ((x1.1.1, x1.1.2), (x1.2.1.1, x1.2.1.2), ()), true, ()) w)
    (dr x0 fun b22 o23 =>
      ldB w b22 (o23 + 7) fun t24 =>
      vIf t24
      (dr x0 fun b25 o26 =>
        ldI .i64 w b25 (o26 + 8) fun i27 =>
        jnC (F35d.k4 Q) (x0, ((x1.1.1, x1.1.2), (x1.2.1.1, x1.2.1.2), ()), (decide (i27 ≤ 0)), ()) w)
      (jnC (F35d.k4 Q) (x0, ((x1.1.1, x1.1.2), (x1.2.1.1, x1.2.1.2), ()), false, ()) w)))
def F35d.an : Ann := ⟨[], [(4, [(0, .kP), (1, .kH 42 2), (8, .kB)]), (6, [(0, .kP), (1, .kH 42 2)])]⟩
theorem F35d.of (x0 : Option Addr) (x1 : (Nat × Nat) × (Nat × Nat) × Unit) (w : World) {Q : Value → World → Prop} (h : F35d.vc x0 x1 w Q) : Calls Tryz.prog 35 #[Value.pointer x0, Value.func (.func 42) #[] #[Value.pointer (some ⟨x1.1.1, x1.1.2, none⟩), Value.pointer (some ⟨x1.2.1.1, x1.2.1.2, none⟩)]] w (fun e w' => ∃ v, e = .returned v ∧ Q v w') := vcFn_of (A := F35d.an) noCount mixed h (by kernel_rfl)
/-! ### function 35: (*stillage/disk.Disk).power -/
def F35e.k6c (Q : Value → World → Prop) (x0 : Option Addr) (x1 : ((Nat × Nat) × (Nat × Nat) × (Nat × Nat) ×  Unit)) (w : World) : Prop :=
  dr x0 fun b7 o8 =>
  ldI .i64 w b7 (o8 + 8) fun i9 =>
  dr x0 fun b10 o11 =>
  st w b10 (o11 + 8) [Value.int .i64 (IntKind.wrap .i64 (i9 - 1))] fun w12 =>
  dr x0 fun b13 o14 =>
  ldI .i64 w12 b13 (o14 + 9) fun i15 =>
  dr x0 fun b16 o17 =>
  st w12 b16 (o17 + 9) [Value.int .i64 (IntKind.wrap .i64 (i15 + 1))] fun w18 =>
  Calls Tryz.prog 67 #[Value.pointer (some ⟨x1.1.1, x1.1.2, none⟩), Value.pointer (some ⟨x1.2.1.1, x1.2.1.2, none⟩), Value.pointer (some ⟨x1.2.2.1.1, x1.2.2.1.2, none⟩)] w18 fun e20 w19 =>
  ∃ i21 : Int, e20 = .returned (Value.int .i64 i21) ∧ (
    Q (Value.int .i64 i21) w19)
def F35e.k6 (Q : Value → World → Prop) : (Option Addr × ((Nat × Nat) × (Nat × Nat) × (Nat × Nat) ×  Unit) × Unit) → World → Prop := fun s w => ∀ _ : Nat → Value, F35e.k6c Q s.1 s.2.1 w
def F35e.k4c (Q : Value → World → Prop) (x0 : Option Addr) (x1 : ((Nat × Nat) × (Nat × Nat) × (Nat × Nat) ×  Unit)) (x8 : Bool) (w : World) : Prop :=
  vIf x8
  (dr x0 fun b4 o5 =>
    st w b4 (o5 + 6) [Value.bool true] fun w6 =>
    Q (Value.int .i64 11) w6)
  (jnC (F35e.k6 Q) (x0, ((x1.1.1, x1.1.2), (x1.2.1.1, x1.2.1.2), (x1.2.2.1.1, x1.2.2.1.2), ()), ()) w)
def F35e.k4 (Q : Value → World → Prop) : (Option Addr × ((Nat × Nat) × (Nat × Nat) × (Nat × Nat) ×  Unit) × Bool × Unit) → World → Prop := fun s w => ∀ _ : Nat → Value, F35e.k4c Q s.1 s.2.1 s.2.2.1 w
def F35e.vc (x0 : Option Addr) (x1 : (Nat × Nat) × (Nat × Nat) × (Nat × Nat) × Unit) (w : World) (Q : Value → World → Prop) : Prop :=
  vIf x0.isNone
  (Q (Value.int .i64 1) w)
  (dr x0 fun b1 o2 =>
    ldB w b1 (o2 + 6) fun t3 =>
    vIf t3
    (jnC (F35e.k4 Q) (x0, ((x1.1.1, x1.1.2), (x1.2.1.1, x1.2.1.2), (x1.2.2.1.1, x1.2.2.1.2), ()), true, ()) w)
    (dr x0 fun b22 o23 =>
      ldB w b22 (o23 + 7) fun t24 =>
      vIf t24
      (dr x0 fun b25 o26 =>
        ldI .i64 w b25 (o26 + 8) fun i27 =>
        jnC (F35e.k4 Q) (x0, ((x1.1.1, x1.1.2), (x1.2.1.1, x1.2.1.2), (x1.2.2.1.1, x1.2.2.1.2), ()), (decide (i27 ≤ 0)), ()) w)
      (jnC (F35e.k4 Q) (x0, ((x1.1.1, x1.1.2), (x1.2.1.1, x1.2.1.2), (x1.2.2.1.1, x1.2.2.1.2), ()), false, ()) w)))
def F35e.an : Ann := ⟨[], [(4, [(0, .kP), (1, .kH 67 3), (8, .kB)]), (6, [(0, .kP), (1, .kH 67 3)])]⟩
theorem F35e.of (x0 : Option Addr) (x1 : (Nat × Nat) × (Nat × Nat) × (Nat × Nat) × Unit) (w : World) {Q : Value → World → Prop} (h : F35e.vc x0 x1 w Q) : Calls Tryz.prog 35 #[Value.pointer x0, Value.func (.func 67) #[] #[Value.pointer (some ⟨x1.1.1, x1.1.2, none⟩), Value.pointer (some ⟨x1.2.1.1, x1.2.1.2, none⟩), Value.pointer (some ⟨x1.2.2.1.1, x1.2.2.1.2, none⟩)]] w (fun e w' => ∃ v, e = .returned v ∧ Q v w') := vcFn_of (A := F35e.an) noCount mixed h (by kernel_rfl)
/-! ### function 35: (*stillage/disk.Disk).power -/
def F35f.k6c (Q : Value → World → Prop) (x0 : Option Addr) (x1 : ((Nat × Nat) × (Nat × Nat) ×  Unit)) (w : World) : Prop :=
  dr x0 fun b7 o8 =>
  ldI .i64 w b7 (o8 + 8) fun i9 =>
  dr x0 fun b10 o11 =>
  st w b10 (o11 + 8) [Value.int .i64 (IntKind.wrap .i64 (i9 - 1))] fun w12 =>
  dr x0 fun b13 o14 =>
  ldI .i64 w12 b13 (o14 + 9) fun i15 =>
  dr x0 fun b16 o17 =>
  st w12 b16 (o17 + 9) [Value.int .i64 (IntKind.wrap .i64 (i15 + 1))] fun w18 =>
  Calls Tryz.prog 68 #[Value.pointer (some ⟨x1.1.1, x1.1.2, none⟩), Value.pointer (some ⟨x1.2.1.1, x1.2.1.2, none⟩)] w18 fun e20 w19 =>
  ∃ i21 : Int, e20 = .returned (Value.int .i64 i21) ∧ (
    Q (Value.int .i64 i21) w19)
def F35f.k6 (Q : Value → World → Prop) : (Option Addr × ((Nat × Nat) × (Nat × Nat) ×  Unit) × Unit) → World → Prop := fun s w => ∀ _ : Nat → Value, F35f.k6c Q s.1 s.2.1 w
def F35f.k4c (Q : Value → World → Prop) (x0 : Option Addr) (x1 : ((Nat × Nat) × (Nat × Nat) ×  Unit)) (x8 : Bool) (w : World) : Prop :=
  vIf x8
  (dr x0 fun b4 o5 =>
    st w b4 (o5 + 6) [Value.bool true] fun w6 =>
    Q (Value.int .i64 11) w6)
  (jnC (F35f.k6 Q) (x0, ((x1.1.1, x1.1.2), (x1.2.1.1, x1.2.1.2), ()), ()) w)
def F35f.k4 (Q : Value → World → Prop) : (Option Addr × ((Nat × Nat) × (Nat × Nat) ×  Unit) × Bool × Unit) → World → Prop := fun s w => ∀ _ : Nat → Value, F35f.k4c Q s.1 s.2.1 s.2.2.1 w
def F35f.vc (x0 : Option Addr) (x1 : (Nat × Nat) × (Nat × Nat) × Unit) (w : World) (Q : Value → World → Prop) : Prop :=
  vIf x0.isNone
  (Q (Value.int .i64 1) w)
  (dr x0 fun b1 o2 =>
    ldB w b1 (o2 + 6) fun t3 =>
    vIf t3
    (jnC (F35f.k4 Q) (x0, ((x1.1.1, x1.1.2), (x1.2.1.1, x1.2.1.2), ()), true, ()) w)
    (dr x0 fun b22 o23 =>
      ldB w b22 (o23 + 7) fun t24 =>
      vIf t24
      (dr x0 fun b25 o26 =>
        ldI .i64 w b25 (o26 + 8) fun i27 =>
        jnC (F35f.k4 Q) (x0, ((x1.1.1, x1.1.2), (x1.2.1.1, x1.2.1.2), ()), (decide (i27 ≤ 0)), ()) w)
      (jnC (F35f.k4 Q) (x0, ((x1.1.1, x1.1.2), (x1.2.1.1, x1.2.1.2), ()), false, ()) w)))
def F35f.an : Ann := ⟨[], [(4, [(0, .kP), (1, .kH 68 2), (8, .kB)]), (6, [(0, .kP), (1, .kH 68 2)])]⟩
theorem F35f.of (x0 : Option Addr) (x1 : (Nat × Nat) × (Nat × Nat) × Unit) (w : World) {Q : Value → World → Prop} (h : F35f.vc x0 x1 w Q) : Calls Tryz.prog 35 #[Value.pointer x0, Value.func (.func 68) #[] #[Value.pointer (some ⟨x1.1.1, x1.1.2, none⟩), Value.pointer (some ⟨x1.2.1.1, x1.2.1.2, none⟩)]] w (fun e w' => ∃ v, e = .returned v ∧ Q v w') := vcFn_of (A := F35f.an) noCount mixed h (by kernel_rfl)
/-! ### function 35: (*stillage/disk.Disk).power -/
def F35g.k6c (Q : Value → World → Prop) (x0 : Option Addr) (x1 : (Nat × Nat)) (w : World) : Prop :=
  dr x0 fun b7 o8 =>
  ldI .i64 w b7 (o8 + 8) fun i9 =>
  dr x0 fun b10 o11 =>
  st w b10 (o11 + 8) [Value.int .i64 (IntKind.wrap .i64 (i9 - 1))] fun w12 =>
  dr x0 fun b13 o14 =>
  ldI .i64 w12 b13 (o14 + 9) fun i15 =>
  dr x0 fun b16 o17 =>
  st w12 b16 (o17 + 9) [Value.int .i64 (IntKind.wrap .i64 (i15 + 1))] fun w18 =>
  Calls Tryz.prog 45 #[Value.pointer (some ⟨x1.1, x1.2, none⟩)] w18 fun e20 w19 =>
  ∃ i21 : Int, e20 = .returned (Value.int .i64 i21) ∧ (
    Q (Value.int .i64 i21) w19)
def F35g.k6 (Q : Value → World → Prop) : (Option Addr × (Nat × Nat) × Unit) → World → Prop := fun s w => ∀ _ : Nat → Value, F35g.k6c Q s.1 s.2.1 w
def F35g.k4c (Q : Value → World → Prop) (x0 : Option Addr) (x1 : (Nat × Nat)) (x8 : Bool) (w : World) : Prop :=
  vIf x8
  (dr x0 fun b4 o5 =>
    st w b4 (o5 + 6) [Value.bool true] fun w6 =>
    Q (Value.int .i64 11) w6)
  (jnC (F35g.k6 Q) (x0, (x1.1, x1.2), ()) w)
def F35g.k4 (Q : Value → World → Prop) : (Option Addr × (Nat × Nat) × Bool × Unit) → World → Prop := fun s w => ∀ _ : Nat → Value, F35g.k4c Q s.1 s.2.1 s.2.2.1 w
def F35g.vc (x0 : Option Addr) (x1 : Nat × Nat) (w : World) (Q : Value → World → Prop) : Prop :=
  vIf x0.isNone
  (Q (Value.int .i64 1) w)
  (dr x0 fun b1 o2 =>
    ldB w b1 (o2 + 6) fun t3 =>
    vIf t3
    (jnC (F35g.k4 Q) (x0, (x1.1, x1.2), true, ()) w)
    (dr x0 fun b22 o23 =>
      ldB w b22 (o23 + 7) fun t24 =>
      vIf t24
      (dr x0 fun b25 o26 =>
        ldI .i64 w b25 (o26 + 8) fun i27 =>
        jnC (F35g.k4 Q) (x0, (x1.1, x1.2), (decide (i27 ≤ 0)), ()) w)
      (jnC (F35g.k4 Q) (x0, (x1.1, x1.2), false, ()) w)))
def F35g.an : Ann := ⟨[], [(4, [(0, .kP), (1, .kG 45), (8, .kB)]), (6, [(0, .kP), (1, .kG 45)])]⟩
theorem F35g.of (x0 : Option Addr) (x1 : Nat × Nat) (w : World) {Q : Value → World → Prop} (h : F35g.vc x0 x1 w Q) : Calls Tryz.prog 35 #[Value.pointer x0, Value.func (.func 45) #[] #[Value.pointer (some ⟨x1.1, x1.2, none⟩)]] w (fun e w' => ∃ v, e = .returned v ∧ Q v w') := vcFn_of (A := F35g.an) noCount mixed h (by kernel_rfl)
/-! ### function 36: (*stillage/disk.Disk).Create$1 -/
def F36.vc (x0 : Nat × Nat) (x1 : Nat × Nat) (w : World) (Q : Value → World → Prop) : Prop :=
  ldP w.drew x0.1 x0.2 fun p1 =>
  dr p1 fun b2 o3 =>
  ldA 2 w.drew b2 (o3 + 2) fun a4 =>
  ldP w.drew x0.1 x0.2 fun p5 =>
  dr p5 fun b6 o7 =>
  ldI .i64 w.drew b6 (o7 + 1) fun i8 =>
  Calls Tryz.prog 31 #[ofL a4] w.drew fun e10 w9 =>
  ∃ (A11 : Option Addr) (n12 c13 : Nat), e10 = .returned (Value.slice A11 n12 c13) ∧ (
    kp w.drew b6 (o7 + 1) 1 w9 <|
    kp w.drew x0.1 x0.2 1 w9 <|
    vIf (decide (((n12 : Nat) : Int) ≥ i8))
    (Q (Value.int .i64 8) w9)
    (ldP w9.drew x0.1 x0.2 fun p14 =>
      ldS w9.drew x1.1 x1.2 fun s15 =>
      ldP w9.drew x0.1 x0.2 fun p16 =>
      dr p16 fun b17 o18 =>
      ldI .i64 w9.drew b17 (o18 + 5) fun i19 =>
      Calls Tryz.prog 37 #[Value.pointer p14, ofL ([Value.int .i64 1] ++ ([Value.string s15] ++ ([Value.string (⟨#[]⟩ : ByteArray)] ++ ([Value.int .i64 (IntKind.wrap .i64 (i19 + 1))] ++ []))))] w9.drew fun e21 w20 =>
      ∃ i22 : Int, e21 = .returned (Value.int .i64 i22) ∧ (
        vIf (i22 == 0)
        (ldP w20 x0.1 x0.2 fun p23 =>
          dr p23 fun b24 o25 =>
          ldI .i64 w20 b24 (o25 + 5) fun i26 =>
          dr p23 fun b27 o28 =>
          st w20 b27 (o28 + 5) [Value.int .i64 (IntKind.wrap .i64 (i26 + 1))] fun w29 =>
          ldP w29.drew x0.1 x0.2 fun p30 =>
          dr p30 fun b31 o32 =>
          ldM w29.drew b31 (o32 + 4) fun m33 =>
          ldP w29.drew x0.1 x0.2 fun p34 =>
          dr p34 fun b35 o36 =>
          ldI .i64 w29.drew b35 (o36 + 5) fun i37 =>
          drM m33 fun r39 =>
          mup w29.drew r39 .i64 i37 (ofL ([Value.slice none 0 0] ++ ([Value.slice none 0 0] ++ []))) fun w38 =>
          Q (Value.int .i64 i22) w38)
        (Q (Value.int .i64 i22) w20))))
def F36.an : Ann := ⟨[], []⟩
theorem F36.of (x0 : Nat × Nat) (x1 : Nat × Nat) (w : World) {Q : Value → World → Prop} (h : F36.vc x0 x1 w Q) : Calls Tryz.prog 36 #[Value.pointer (some ⟨x0.1, x0.2, none⟩), Value.pointer (some ⟨x1.1, x1.2, none⟩)] w (fun e w' => ∃ v, e = .returned v ∧ Q v w') := vcFn_of (A := F36.an) noCount mixed h (by kernel_rfl)
/-! ### function 37: (*stillage/disk.Disk).change -/
def F37.vc (x0 : Option Addr) (x1 : List Value) (w : World) (Q : Value → World → Prop) : Prop :=
  nw w x1 82 fun b1 w2 =>
  dr x0 fun b3 o4 =>
  ldA 2 w2 b3 (o4 + 2) fun a5 =>
  Calls Tryz.prog 31 #[ofL a5] w2 fun e7 w6 =>
  ∃ (A8 : Option Addr) (n9 c10 : Nat), e7 = .returned (Value.slice A8 n9 c10) ∧ (
    dr x0 fun b11 o12 =>
    ldA 2 w6.drew b11 (o12 + 2) fun a13 =>
    ldA 4 w6.drew b1 0 fun a14 =>
    (Calls Tryz.prog 74 #[ofL a13, ofL a14] w6.drew fun e16 w15 =>
      ∃ a17 : List Value, ∃ i18 : Int, e16 = .returned (Value.tuple #[ofL a17, Value.int .i64 i18]) ∧ (
        nw w15 [Value.slice none 0 0, Value.slice none 0 0] 64 fun b19 w20 =>
        kp w6.drew b1 0 4 w20 <|
        kp w6.drew b11 (o12 + 2) 2 w20 <|
        gd (a17.length == 2) <|
        st w20 b19 0 a17 fun w21 =>
        ldA 2 w21 b19 0 fun a22 =>
        dr x0 fun b23 o24 =>
        gd (a22.length == 2) <|
        st w21 b23 (o24 + 2) a22 fun w25 =>
        Calls Tryz.prog 34 #[Value.pointer x0, Value.slice A8 n9 c10] w25 fun e27 w26 =>
        e27 = .returned (Value.tuple #[]) ∧ (
          Q (Value.int .i64 i18) w26))) ∧
    (nw w6.drew [Value.slice none 0 0, Value.slice none 0 0] 64 fun b28 w29 =>
      kp w6.drew b1 0 4 w29 <|
      kp w6.drew b11 (o12 + 2) 2 w29 <|
      Calls Tryz.prog 74 #[ofL a13, ofL a14] w29 fun e31 w30 =>
      ∃ a32 : List Value, ∃ i33 : Int, e31 = .returned (Value.tuple #[ofL a32, Value.int .i64 i33]) ∧ (
        gd (a32.length == 2) <|
        st w30 b28 0 a32 fun w34 =>
        ldA 2 w34 b28 0 fun a35 =>
        dr x0 fun b36 o37 =>
        gd (a35.length == 2) <|
        st w34 b36 (o37 + 2) a35 fun w38 =>
        Calls Tryz.prog 34 #[Value.pointer x0, Value.slice A8 n9 c10] w38 fun e40 w39 =>
        e40 = .returned (Value.tuple #[]) ∧ (
          Q (Value.int .i64 i33) w39))))
def F37.an : Ann := ⟨[], []⟩
theorem F37.of (x0 : Option Addr) (x1 : List Value) (w : World) {Q : Value → World → Prop} (h : F37.vc x0 x1 w Q) : Calls Tryz.prog 37 #[Value.pointer x0, ofL x1] w (fun e w' => ∃ v, e = .returned v ∧ Q v w') := vcFn_of (A := F37.an) noCount mixed h (by kernel_rfl)
/-! ### function 38: (*stillage/disk.Disk).Append$1 -/
def F38.vc (x0 : Nat × Nat) (x1 : Nat × Nat) (x2 : Nat × Nat) (w : World) (Q : Value → World → Prop) : Prop :=
  ldP w x0.1 x0.2 fun p1 =>
  ldS w x1.1 x1.2 fun s2 =>
  Calls Tryz.prog 39 #[Value.pointer p1, Value.string s2, Value.func (.func 40) #[] #[Value.pointer (some ⟨x2.1, x2.2, none⟩)]] w fun e4 w3 =>
  ∃ i5 : Int, e4 = .returned (Value.int .i64 i5) ∧ (
    Q (Value.int .i64 i5) w3)
def F38.an : Ann := ⟨[], []⟩
theorem F38.of (x0 : Nat × Nat) (x1 : Nat × Nat) (x2 : Nat × Nat) (w : World) {Q : Value → World → Prop} (h : F38.vc x0 x1 x2 w Q) : Calls Tryz.prog 38 #[Value.pointer (some ⟨x0.1, x0.2, none⟩), Value.pointer (some ⟨x1.1, x1.2, none⟩), Value.pointer (some ⟨x2.1, x2.2, none⟩)] w (fun e w' => ∃ v, e = .returned v ∧ Q v w') := vcFn_of (A := F38.an) noCount mixed h (by kernel_rfl)
/-! ### function 39: (*stillage/disk.Disk).file -/
def F39a.k10c (Q : Value → World → Prop) (x0 : Option Addr) (x7 : Int) (x9 : (Nat × Nat)) (x58 : Bool) (w : World) : Prop :=
  vIf x58
  (dr x0 fun b45 o46 =>
    ldM w.drew b45 (o46 + 4) fun m47 =>
    ldA 2 w.drew x9.1 x9.2 fun a48 =>
    drM m47 fun r50 =>
    mup w.drew r50 .i64 x7 (ofL a48) fun w49 =>
    Q (Value.int .i64 9) w49)
  (Q (Value.int .i64 0) w)
def F39a.k10 (Q : Value → World → Prop) : (Option Addr × Int × (Nat × Nat) × Bool × Unit) → World → Prop := fun s w => ∀ _ : Nat → Value, F39a.k10c Q s.1 s.2.1 s.2.2.1 s.2.2.2.1 w
def F39a.vc (x0 : Option Addr) (x1 : ByteArray) (x2 : Nat × Nat) (w : World) (Q : Value → World → Prop) : Prop :=
  dr x0 fun b1 o2 =>
  ldA 2 w b1 (o2 + 2) fun a3 =>
  Calls Tryz.prog 52 #[ofL a3, Value.string x1] w fun e5 w4 =>
  ∃ i6 : Int, ∃ t7 : Bool, e5 = .returned (Value.tuple #[Value.int .i64 i6, Value.bool t7]) ∧ (
    vIf (!t7)
    (Q (Value.int .i64 6) w4)
    (dr x0 fun b8 o9 =>
      ldM w4 b8 (o9 + 4) fun m10 =>
      drM m10 fun r13 =>
      mlk w4 r13 .i64 i6 fun q11 =>
      lvA [Value.slice none 0 0, Value.slice none 0 0] q11 fun a12 =>
      nw w4 [Value.slice none 0 0, Value.slice none 0 0] 74 fun b14 w15 =>
      gd (a12.length == 2) <|
      st w15 b14 0 a12 fun w16 =>
      ldA 2 w16 b14 0 fun a17 =>
      Calls Tryz.prog 40 #[ofL a17, Value.pointer (some ⟨x2.1, x2.2, none⟩)] w16 fun e19 w18 =>
      ∃ a20 : List Value, ∃ i21 : Int, e19 = .returned (Value.tuple #[ofL a20, Value.int .i64 i21]) ∧ (
        nw w18 [Value.slice none 0 0, Value.slice none 0 0] 74 fun b22 w23 =>
        gd (a20.length == 2) <|
        st w23 b22 0 a20 fun w24 =>
        vIf (i21 != 0)
        (Q (Value.int .i64 i21) w24)
        (dr x0 fun b25 o26 =>
          ldM w24.drew b25 (o26 + 4) fun m27 =>
          ldA 2 w24.drew b22 0 fun a28 =>
          drM m27 fun r30 =>
          mup w24.drew r30 .i64 i6 (ofL a28) fun w29 =>
          ldA 2 w29.drew b22 0 fun a31 =>
          ldA 2 w29.drew b14 0 fun a32 =>
          Calls Tryz.prog 75 #[ofL a31] w29.drew fun e34 w33 =>
          ∃ i35 : Int, e34 = .returned (Value.int .i64 i35) ∧ (
            kp w29.drew b14 0 2 w33 <|
            Calls Tryz.prog 75 #[ofL a32] w33 fun e37 w36 =>
            ∃ i38 : Int, e37 = .returned (Value.int .i64 i38) ∧ (
              vIf (decide (i35 > i38))
              (dr x0 fun b39 o40 =>
                ldI .i64 w36 b39 o40 fun i41 =>
                Calls Tryz.prog 48 #[Value.pointer x0] w36 fun e43 w42 =>
                ∃ i44 : Int, e43 = .returned (Value.int .i64 i44) ∧ (
                  kp w36 b39 o40 1 w42 <|
                  jnC (F39a.k10 Q) (x0, (i6), (b14, 0), (decide (i44 > i41)), ()) w42))
              (jnC (F39a.k10 Q) (x0, (i6), (b14, 0), false, ()) w36)))))))
def F39a.an : Ann := ⟨[], [(10, [(0, .kP), (7, .kI .i64), (9, .kL), (58, .kB)])]⟩
theorem F39a.of (x0 : Option Addr) (x1 : ByteArray) (x2 : Nat × Nat) (w : World) {Q : Value → World → Prop} (h : F39a.vc x0 x1 x2 w Q) : Calls Tryz.prog 39 #[Value.pointer x0, Value.string x1, Value.func (.func 40) #[] #[Value.pointer (some ⟨x2.1, x2.2, none⟩)]] w (fun e w' => ∃ v, e = .returned v ∧ Q v w') := vcFn_of (A := F39a.an) noCount mixed h (by kernel_rfl)
end Go.Proofs.YtfdhaeglhkmmpaaGreat
/- PRINTED BY MY OWN gen.py out of the translation: each function as a proposition. -/
namespace Go.Proofs.YtfdhaeglhkmmpaaGreat
open Go.GV
set_option linter.unusedVariables false
set_option maxRecDepth 100000
/-! ### function 39: (*stillage/disk.Disk).file -/
def F39b.k10c (Q : Value → World → Prop) (x0 : Option Addr) (x7 : Int) (x9 : (Nat × Nat)) (x58 : Bool) (w : World) : Prop :=
  vIf x58
  (dr x0 fun b45 o46 =>
    ldM w.drew b45 (o46 + 4) fun m47 =>
    ldA 2 w.drew x9.1 x9.2 fun a48 =>
    drM m47 fun r50 =>
    mup w.drew r50 .i64 x7 (ofL a48) fun w49 =>
    Q (Value.int .i64 9) w49)
  (Q (Value.int .i64 0) w)
def F39b.k10 (Q : Value → World → Prop) : (Option Addr × Int × (Nat × Nat) × Bool × Unit) → World → Prop := fun s w => ∀ _ : Nat → Value, F39b.k10c Q s.1 s.2.1 s.2.2.1 s.2.2.2.1 w
def F39b.vc (x0 : Option Addr) (x1 : ByteArray) (x2 : Nat × Nat) (w : World) (Q : Value → World → Prop) : Prop :=
  dr x0 fun b1 o2 =>
  ldA 2 w b1 (o2 + 2) fun a3 =>
  Calls Tryz.prog 52 #[ofL a3, Value.string x1] w fun e5 w4 =>
  ∃ i6 : Int, ∃ t7 : Bool, e5 = .returned (Value.tuple #[Value.int .i64 i6, Value.bool t7]) ∧ (
    vIf (!t7)
    (Q (Value.int .i64 6) w4)
    (dr x0 fun b8 o9 =>
      ldM w4 b8 (o9 + 4) fun m10 =>
      drM m10 fun r13 =>
      mlk w4 r13 .i64 i6 fun q11 =>
      lvA [Value.slice none 0 0, Value.slice none 0 0] q11 fun a12 =>
      nw w4 [Value.slice none 0 0, Value.slice none 0 0] 74 fun b14 w15 =>
      gd (a12.length == 2) <|
      st w15 b14 0 a12 fun w16 =>
      ldA 2 w16 b14 0 fun a17 =>
      Calls Tryz.prog 65 #[ofL a17, Value.pointer (some ⟨x2.1, x2.2, none⟩)] w16 fun e19 w18 =>
      ∃ a20 : List Value, ∃ i21 : Int, e19 = .returned (Value.tuple #[ofL a20, Value.int .i64 i21]) ∧ (
        nw w18 [Value.slice none 0 0, Value.slice none 0 0] 74 fun b22 w23 =>
        gd (a20.length == 2) <|
        st w23 b22 0 a20 fun w24 =>
        vIf (i21 != 0)
        (Q (Value.int .i64 i21) w24)
        (dr x0 fun b25 o26 =>
          ldM w24.drew b25 (o26 + 4) fun m27 =>
          ldA 2 w24.drew b22 0 fun a28 =>
          drM m27 fun r30 =>
          mup w24.drew r30 .i64 i6 (ofL a28) fun w29 =>
          ldA 2 w29.drew b22 0 fun a31 =>
          ldA 2 w29.drew b14 0 fun a32 =>
          Calls Tryz.prog 75 #[ofL a31] w29.drew fun e34 w33 =>
          ∃ i35 : Int, e34 = .returned (Value.int .i64 i35) ∧ (
            kp w29.drew b14 0 2 w33 <|
            Calls Tryz.prog 75 #[ofL a32] w33 fun e37 w36 =>
            ∃ i38 : Int, e37 = .returned (Value.int .i64 i38) ∧ (
              vIf (decide (i35 > i38))
              (dr x0 fun b39 o40 =>
                ldI .i64 w36 b39 o40 fun i41 =>
                Calls Tryz.prog 48 #[Value.pointer x0] w36 fun e43 w42 =>
                ∃ i44 : Int, e43 = .returned (Value.int .i64 i44) ∧ (
                  kp w36 b39 o40 1 w42 <|
                  jnC (F39b.k10 Q) (x0, (i6), (b14, 0), (decide (i44 > i41)), ()) w42))
              (jnC (F39b.k10 Q) (x0, (i6), (b14, 0), false, ()) w36)))))))
def F39b.an : Ann := ⟨[], [(10, [(0, .kP), (7, .kI .i64), (9, .kL), (58, .kB)])]⟩
theorem F39b.of (x0 : Option Addr) (x1 : ByteArray) (x2 : Nat × Nat) (w : World) {Q : Value → World → Prop} (h : F39b.vc x0 x1 x2 w Q) : Calls Tryz.prog 39 #[Value.pointer x0, Value.string x1, Value.func (.func 65) #[] #[Value.pointer (some ⟨x2.1, x2.2, none⟩)]] w (fun e w' => ∃ v, e = .returned v ∧ Q v w') := vcFn_of (A := F39b.an) noCount mixed h (by kernel_rfl)
/-! ### function 39: (*stillage/disk.Disk).file -/
def F39c.k10c (Q : Value → World → Prop) (x0 : Option Addr) (x7 : Int) (x9 : (Nat × Nat)) (x58 : Bool) (w : World) : Prop :=
  vIf x58
  (dr x0 fun b45 o46 =>
    ldM w.drew b45 (o46 + 4) fun m47 =>
    ldA 2 w.drew x9.1 x9.2 fun a48 =>
    drM m47 fun r50 =>
    mup w.drew r50 .i64 x7 (ofL a48) fun w49 =>
    Q (Value.int .i64 9) w49)
  (Q (Value.int .i64 0) w)
def F39c.k10 (Q : Value → World → Prop) : (Option Addr × Int × (Nat × Nat) × Bool × Unit) → World → Prop := fun s w => ∀ _ : Nat → Value, F39c.k10c Q s.1 s.2.1 s.2.2.1 s.2.2.2.1 w
def F39c.vc (x0 : Option Addr) (x1 : ByteArray) (w : World) (Q : Value → World → Prop) : Prop :=
  dr x0 fun b1 o2 =>
  ldA 2 w b1 (o2 + 2) fun a3 =>
  Calls Tryz.prog 52 #[ofL a3, Value.string x1] w fun e5 w4 =>
  ∃ i6 : Int, ∃ t7 : Bool, e5 = .returned (Value.tuple #[Value.int .i64 i6, Value.bool t7]) ∧ (
    vIf (!t7)
    (Q (Value.int .i64 6) w4)
    (dr x0 fun b8 o9 =>
      ldM w4 b8 (o9 + 4) fun m10 =>
      drM m10 fun r13 =>
      mlk w4 r13 .i64 i6 fun q11 =>
      lvA [Value.slice none 0 0, Value.slice none 0 0] q11 fun a12 =>
      nw w4 [Value.slice none 0 0, Value.slice none 0 0] 74 fun b14 w15 =>
      gd (a12.length == 2) <|
      st w15 b14 0 a12 fun w16 =>
      ldA 2 w16 b14 0 fun a17 =>
      Calls Tryz.prog 43 #[ofL a17] w16 fun e19 w18 =>
      ∃ a20 : List Value, ∃ i21 : Int, e19 = .returned (Value.tuple #[ofL a20, Value.int .i64 i21]) ∧ (
        nw w18 [Value.slice none 0 0, Value.slice none 0 0] 74 fun b22 w23 =>
        gd (a20.length == 2) <|
        st w23 b22 0 a20 fun w24 =>
        vIf (i21 != 0)
        (Q (Value.int .i64 i21) w24)
        (dr x0 fun b25 o26 =>
          ldM w24.drew b25 (o26 + 4) fun m27 =>
          ldA 2 w24.drew b22 0 fun a28 =>
          drM m27 fun r30 =>
          mup w24.drew r30 .i64 i6 (ofL a28) fun w29 =>
          ldA 2 w29.drew b22 0 fun a31 =>
          ldA 2 w29.drew b14 0 fun a32 =>
          Calls Tryz.prog 75 #[ofL a31] w29.drew fun e34 w33 =>
          ∃ i35 : Int, e34 = .returned (Value.int .i64 i35) ∧ (
            kp w29.drew b14 0 2 w33 <|
            Calls Tryz.prog 75 #[ofL a32] w33 fun e37 w36 =>
            ∃ i38 : Int, e37 = .returned (Value.int .i64 i38) ∧ (
              vIf (decide (i35 > i38))
              (dr x0 fun b39 o40 =>
                ldI .i64 w36 b39 o40 fun i41 =>
                Calls Tryz.prog 48 #[Value.pointer x0] w36 fun e43 w42 =>
                ∃ i44 : Int, e43 = .returned (Value.int .i64 i44) ∧ (
                  kp w36 b39 o40 1 w42 <|
                  jnC (F39c.k10 Q) (x0, (i6), (b14, 0), (decide (i44 > i41)), ()) w42))
              (jnC (F39c.k10 Q) (x0, (i6), (b14, 0), false, ()) w36)))))))
def F39c.an : Ann := ⟨[], [(10, [(0, .kP), (7, .kI .i64), (9, .kL), (58, .kB)])]⟩
theorem F39c.of (x0 : Option Addr) (x1 : ByteArray) (w : World) {Q : Value → World → Prop} (h : F39c.vc x0 x1 w Q) : Calls Tryz.prog 39 #[Value.pointer x0, Value.string x1, Value.func (.func 43) #[] #[]] w (fun e w' => ∃ v, e = .returned v ∧ Q v w') := vcFn_of (A := F39c.an) noCount mixed h (by kernel_rfl)
/-! ### function 40: (*stillage/disk.Disk).Append$1$1 -/
def F40.vc (x0 : List Value) (x1 : Nat × Nat) (w : World) (Q : Value → World → Prop) : Prop :=
  nw w x0 74 fun b1 w2 =>
  nw w2 [Value.slice none 0 0, Value.slice none 0 0] 74 fun b3 w4 =>
  ldA 2 w4 b1 0 fun a5 =>
  ldSl w4 x1.1 x1.2 fun A6 n7 c8 =>
  Calls Tryz.prog 41 #[ofL a5, Value.slice A6 n7 c8] w4 fun e10 w9 =>
  ∃ a11 : List Value, ∃ i12 : Int, e10 = .returned (Value.tuple #[ofL a11, Value.int .i64 i12]) ∧ (
    gd (a11.length == 2) <|
    st w9 b3 0 a11 fun w13 =>
    ldA 2 w13 b3 0 fun a14 =>
    Q (Value.tuple #[ofL a14, Value.int .i64 i12]) w13)
def F40.an : Ann := ⟨[], []⟩
theorem F40.of (x0 : List Value) (x1 : Nat × Nat) (w : World) {Q : Value → World → Prop} (h : F40.vc x0 x1 w Q) : Calls Tryz.prog 40 #[ofL x0, Value.pointer (some ⟨x1.1, x1.2, none⟩)] w (fun e w' => ∃ v, e = .returned v ∧ Q v w') := vcFn_of (A := F40.an) noCount mixed h (by kernel_rfl)
/-! ### function 41: stillage/inode.Append -/
def F41.vc (x0 : List Value) (x1A : Option Addr) (x1n x1c : Nat) (w : World) (Q : Value → World → Prop) : Prop :=
  nw w x0 74 fun b1 w2 =>
  nw w2 [Value.slice none 0 0, Value.slice none 0 0] 74 fun b3 w4 =>
  ldA 2 w4 b1 0 fun a5 =>
  Calls Tryz.prog 51 #[ofL a5] w4 fun e7 w6 =>
  ∃ (A8 : Option Addr) (n9 c10 : Nat), e7 = .returned (Value.slice A8 n9 c10) ∧ (
    vIf (decide (((x1n : Nat) : Int) > (IntKind.wrap .i64 (1048576 - ((n9 : Nat) : Int)))))
    (ldA 2 w6 b1 0 fun a11 =>
      gd (a11.length == 2) <|
      st w6 b3 0 a11 fun w12 =>
      ldA 2 w12 b3 0 fun a13 =>
      Q (Value.tuple #[ofL a13, Value.int .i64 18]) w12)
    (vIf (((x1n : Nat) : Int) == 0)
      (ldA 2 w6 b1 0 fun a14 =>
        gd (a14.length == 2) <|
        st w6 b3 0 a14 fun w15 =>
        ldA 2 w15 b3 0 fun a16 =>
        Q (Value.tuple #[ofL a16, Value.int .i64 0]) w15)
      (ldA 2 w6.drew b1 0 fun a17 =>
        Calls Tryz.prog 73 #[Value.slice x1A x1n x1c] w6.drew fun e19 w18 =>
        ∃ (A20 : Option Addr) (n21 c22 : Nat), e19 = .returned (Value.slice A20 n21 c22) ∧ (
          kp w6.drew b1 0 2 w18 <|
          gd (([Value.bool false] ++ ([Value.int .i64 ((n9 : Nat) : Int)] ++ ([Value.slice A20 n21 c22] ++ []))).length == 3) <|
          nw w18 (([Value.bool false] ++ ([Value.int .i64 ((n9 : Nat) : Int)] ++ ([Value.slice A20 n21 c22] ++ []))) ++ []) 124 fun b23 w24 =>
          kp w6.drew b1 0 2 w24 <|
          Calls Tryz.prog 76 #[ofL a17, Value.slice (some ⟨b23, 0, none⟩) 1 1] w24 fun e26 w25 =>
          ∃ a27 : List Value, e26 = .returned (ofL a27) ∧ (
            gd (a27.length == 2) <|
            st w25 b3 0 a27 fun w28 =>
            ldA 2 w28 b3 0 fun a29 =>
            Q (Value.tuple #[ofL a29, Value.int .i64 0]) w28)))))
def F41.an : Ann := ⟨[], []⟩
theorem F41.of (x0 : List Value) (x1A : Option Addr) (x1n x1c : Nat) (w : World) {Q : Value → World → Prop} (h : F41.vc x0 x1A x1n x1c w Q) : Calls Tryz.prog 41 #[ofL x0, Value.slice x1A x1n x1c] w (fun e w' => ∃ v, e = .returned v ∧ Q v w') := vcFn_of (A := F41.an) noCount mixed h (by kernel_rfl)
/-! ### function 42: (*stillage/disk.Disk).Sync$1 -/
def F42.vc (x0 : Nat × Nat) (x1 : Nat × Nat) (w : World) (Q : Value → World → Prop) : Prop :=
  ldP w x0.1 x0.2 fun p1 =>
  ldS w x1.1 x1.2 fun s2 =>
  Calls Tryz.prog 39 #[Value.pointer p1, Value.string s2, Value.func (.func 43) #[] #[]] w fun e4 w3 =>
  ∃ i5 : Int, e4 = .returned (Value.int .i64 i5) ∧ (
    Q (Value.int .i64 i5) w3)
def F42.an : Ann := ⟨[], []⟩
theorem F42.of (x0 : Nat × Nat) (x1 : Nat × Nat) (w : World) {Q : Value → World → Prop} (h : F42.vc x0 x1 w Q) : Calls Tryz.prog 42 #[Value.pointer (some ⟨x0.1, x0.2, none⟩), Value.pointer (some ⟨x1.1, x1.2, none⟩)] w (fun e w' => ∃ v, e = .returned v ∧ Q v w') := vcFn_of (A := F42.an) noCount mixed h (by kernel_rfl)
/-! ### function 43: (*stillage/disk.Disk).Sync$1$1 -/
def F43.vc (x0 : List Value) (w : World) (Q : Value → World → Prop) : Prop :=
  nw w x0 74 fun b1 w2 =>
  nw w2 [Value.slice none 0 0, Value.slice none 0 0] 74 fun b3 w4 =>
  ldA 2 w4 b1 0 fun a5 =>
  Calls Tryz.prog 44 #[ofL a5] w4 fun e7 w6 =>
  ∃ a8 : List Value, e7 = .returned (ofL a8) ∧ (
    gd (a8.length == 2) <|
    st w6 b3 0 a8 fun w9 =>
    ldA 2 w9 b3 0 fun a10 =>
    Q (Value.tuple #[ofL a10, Value.int .i64 0]) w9)
def F43.an : Ann := ⟨[], []⟩
theorem F43.of (x0 : List Value) (w : World) {Q : Value → World → Prop} (h : F43.vc x0 w Q) : Calls Tryz.prog 43 #[ofL x0] w (fun e w' => ∃ v, e = .returned v ∧ Q v w') := vcFn_of (A := F43.an) noCount mixed h (by kernel_rfl)
/-! ### function 44: stillage/inode.Sync -/
def F44.vc (x0 : List Value) (w : World) (Q : Value → World → Prop) : Prop :=
  nw w x0 74 fun b1 w2 =>
  nw w2 [Value.slice none 0 0, Value.slice none 0 0] 74 fun b3 w4 =>
  ldA 2 w4 b1 0 fun a5 =>
  Calls Tryz.prog 51 #[ofL a5] w4 fun e7 w6 =>
  ∃ (A8 : Option Addr) (n9 c10 : Nat), e7 = .returned (Value.slice A8 n9 c10) ∧ (
    gd (([Value.slice A8 n9 c10] ++ ([Value.slice none 0 0] ++ [])).length == 2) <|
    st w6 b3 0 ([Value.slice A8 n9 c10] ++ ([Value.slice none 0 0] ++ [])) fun w11 =>
    ldA 2 w11 b3 0 fun a12 =>
    Q (ofL a12) w11)
def F44.an : Ann := ⟨[], []⟩
theorem F44.of (x0 : List Value) (w : World) {Q : Value → World → Prop} (h : F44.vc x0 w Q) : Calls Tryz.prog 44 #[ofL x0] w (fun e w' => ∃ v, e = .returned v ∧ Q v w') := vcFn_of (A := F44.an) noCount mixed h (by kernel_rfl)
/-! ### function 45: (*stillage/disk.Disk).SyncDir$1 -/
def F45.vc (x0 : Nat × Nat) (w : World) (Q : Value → World → Prop) : Prop :=
  ldP w x0.1 x0.2 fun p1 =>
  dr p1 fun b2 o3 =>
  ldA 2 w b2 (o3 + 2) fun a4 =>
  Calls Tryz.prog 31 #[ofL a4] w fun e6 w5 =>
  ∃ (A7 : Option Addr) (n8 c9 : Nat), e6 = .returned (Value.slice A7 n8 c9) ∧ (
    ldP w5.drew x0.1 x0.2 fun p10 =>
    ldP w5.drew x0.1 x0.2 fun p11 =>
    dr p11 fun b12 o13 =>
    ldA 2 w5.drew b12 (o13 + 2) fun a14 =>
    Calls Tryz.prog 46 #[ofL a14] w5.drew fun e16 w15 =>
    ∃ a17 : List Value, e16 = .returned (ofL a17) ∧ (
      kp w5.drew x0.1 x0.2 1 w15 <|
      dr p10 fun b18 o19 =>
      gd (a17.length == 2) <|
      st w15 b18 (o19 + 2) a17 fun w20 =>
      ldP w20 x0.1 x0.2 fun p21 =>
      Calls Tryz.prog 34 #[Value.pointer p21, Value.slice A7 n8 c9] w20 fun e23 w22 =>
      e23 = .returned (Value.tuple #[]) ∧ (
        Q (Value.int .i64 0) w22)))
def F45.an : Ann := ⟨[], []⟩
theorem F45.of (x0 : Nat × Nat) (w : World) {Q : Value → World → Prop} (h : F45.vc x0 w Q) : Calls Tryz.prog 45 #[Value.pointer (some ⟨x0.1, x0.2, none⟩)] w (fun e w' => ∃ v, e = .returned v ∧ Q v w') := vcFn_of (A := F45.an) noCount mixed h (by kernel_rfl)
/-! ### function 46: stillage/folder.Sync -/
def F46.vc (x0 : List Value) (w : World) (Q : Value → World → Prop) : Prop :=
  nw w x0 64 fun b1 w2 =>
  nw w2 [Value.slice none 0 0, Value.slice none 0 0] 64 fun b3 w4 =>
  ldA 2 w4 b1 0 fun a5 =>
  Calls Tryz.prog 50 #[ofL a5] w4 fun e7 w6 =>
  ∃ (A8 : Option Addr) (n9 c10 : Nat), e7 = .returned (Value.slice A8 n9 c10) ∧ (
    gd (([Value.slice A8 n9 c10] ++ ([Value.slice none 0 0] ++ [])).length == 2) <|
    st w6 b3 0 ([Value.slice A8 n9 c10] ++ ([Value.slice none 0 0] ++ [])) fun w11 =>
    ldA 2 w11 b3 0 fun a12 =>
    Q (ofL a12) w11)
def F46.an : Ann := ⟨[], []⟩
theorem F46.of (x0 : List Value) (w : World) {Q : Value → World → Prop} (h : F46.vc x0 w Q) : Calls Tryz.prog 46 #[ofL x0] w (fun e w' => ∃ v, e = .returned v ∧ Q v w') := vcFn_of (A := F46.an) noCount mixed h (by kernel_rfl)
/-! ### function 47: (*stillage/disk.Disk).look -/
def F47.vc (x0 : Option Addr) (x1 : ByteArray) (w : World) (Q : Value → World → Prop) : Prop :=
  vIf x0.isNone
  (Q (Value.tuple #[Value.slice none 0 0, Value.int .i64 1]) w)
  (dr x0 fun b1 o2 =>
    ldB w b1 (o2 + 6) fun t3 =>
    vIf t3
    (Q (Value.tuple #[Value.slice none 0 0, Value.int .i64 11]) w)
    (dr x0 fun b4 o5 =>
      ldA 2 w b4 (o5 + 2) fun a6 =>
      Calls Tryz.prog 52 #[ofL a6, Value.string x1] w fun e8 w7 =>
      ∃ i9 : Int, ∃ t10 : Bool, e8 = .returned (Value.tuple #[Value.int .i64 i9, Value.bool t10]) ∧ (
        vIf (!t10)
        (Q (Value.tuple #[Value.slice none 0 0, Value.int .i64 6]) w7)
        (dr x0 fun b11 o12 =>
          ldM w7 b11 (o12 + 4) fun m13 =>
          drM m13 fun r16 =>
          mlk w7 r16 .i64 i9 fun q14 =>
          lvA [Value.slice none 0 0, Value.slice none 0 0] q14 fun a15 =>
          Calls Tryz.prog 51 #[ofL a15] w7 fun e18 w17 =>
          ∃ (A19 : Option Addr) (n20 c21 : Nat), e18 = .returned (Value.slice A19 n20 c21) ∧ (
            Q (Value.tuple #[Value.slice A19 n20 c21, Value.int .i64 0]) w17)))))
def F47.an : Ann := ⟨[], []⟩
theorem F47.of (x0 : Option Addr) (x1 : ByteArray) (w : World) {Q : Value → World → Prop} (h : F47.vc x0 x1 w Q) : Calls Tryz.prog 47 #[Value.pointer x0, Value.string x1] w (fun e w' => ∃ v, e = .returned v ∧ Q v w') := vcFn_of (A := F47.an) noCount mixed h (by kernel_rfl)
/-! ### function 48: (*stillage/disk.Disk).taken -/
def F48.b3c (Q : Value → World → Prop) (C3 : (Option Addr × Int × (Option Addr × Nat × Nat) × Int × Int × Unit) → World → Prop) (x0 : Option Addr) (x3 : Int) (x10 : (Option Addr × Nat × Nat)) (x11 : Int) (x12 : Int) (w : World) : Prop :=
  vIf (decide (x12 < x11))
  (dr x10.1 fun b9 o10 =>
    gd (decide (0 ≤ x12)) <|
    gd (decide (x12 < ((x10.2.1 : Nat) : Int))) <|
    ldI .i64 w b9 (o10 + (x12).toNat * 1) fun i11 =>
    dr x0 fun b12 o13 =>
    ldM w b12 (o13 + 4) fun m14 =>
    drM m14 fun r17 =>
    mlk w r17 .i64 i11 fun q15 =>
    lvA [Value.slice none 0 0, Value.slice none 0 0] q15 fun a16 =>
    Calls Tryz.prog 75 #[ofL a16] w fun e19 w18 =>
    ∃ i20 : Int, e19 = .returned (Value.int .i64 i20) ∧ (
      jnC C3 (x0, ((IntKind.wrap .i64 (x3 + i20))), (x10.1, x10.2.1, x10.2.2), (x11), ((IntKind.wrap .i64 (x12 + 1))), ()) w18))
  (Q (Value.int .i64 x3) w)
def F48.b3 (Q : Value → World → Prop) : (Option Addr × Int × (Option Addr × Nat × Nat) × Int × Int × Unit) → World → ((Option Addr × Int × (Option Addr × Nat × Nat) × Int × Int × Unit) → World → Prop) → Prop := fun s w C3 => ∀ _ : Nat → Value, F48.b3c Q C3 s.1 s.2.1 s.2.2.1 s.2.2.2.1 s.2.2.2.2.1 w
def F48.l3 (Q : Value → World → Prop) : (Option Addr × Int × (Option Addr × Nat × Nat) × Int × Int × Unit) → World → Prop := fun s w => ∃ n, loopC (F48.b3 Q) n s w
def F48.vc (x0 : Option Addr) (w : World) (Q : Value → World → Prop) : Prop :=
  dr x0 fun b1 o2 =>
  ldA 2 w b1 (o2 + 2) fun a3 =>
  Calls Tryz.prog 31 #[ofL a3] w fun e5 w4 =>
  ∃ (A6 : Option Addr) (n7 c8 : Nat), e5 = .returned (Value.slice A6 n7 c8) ∧ (
    jnC (F48.l3 Q) (x0, (0), (A6, n7, c8), (((n7 : Nat) : Int)), (0), ()) w4)
def F48.an : Ann := ⟨[(3, [(0, .kP), (3, .kI .i64), (10, .kSl), (11, .kI .i64), (12, .kI .i64)])], []⟩
theorem F48.of (x0 : Option Addr) (w : World) {Q : Value → World → Prop} (h : F48.vc x0 w Q) : Calls Tryz.prog 48 #[Value.pointer x0] w (fun e w' => ∃ v, e = .returned v ∧ Q v w') := vcFn_of (A := F48.an) noCount mixed h (by kernel_rfl)
/-! ### function 50: stillage/folder.Now -/
def F50.vc (x0 : List Value) (w : World) (Q : Value → World → Prop) : Prop :=
  nw w x0 64 fun b1 w2 =>
  ldA 2 w2 b1 0 fun a3 =>
  ldSl w2 b1 (0 + 1) fun A4 n5 c6 =>
  Calls Tryz.prog 69 #[ofL a3, Value.int .i64 ((n5 : Nat) : Int)] w2 fun e8 w7 =>
  ∃ (A9 : Option Addr) (n10 c11 : Nat), e8 = .returned (Value.slice A9 n10 c11) ∧ (
    Q (Value.slice A9 n10 c11) w7)
def F50.an : Ann := ⟨[], []⟩
theorem F50.of (x0 : List Value) (w : World) {Q : Value → World → Prop} (h : F50.vc x0 w Q) : Calls Tryz.prog 50 #[ofL x0] w (fun e w' => ∃ v, e = .returned v ∧ Q v w') := vcFn_of (A := F50.an) noCount mixed h (by kernel_rfl)
/-! ### function 51: stillage/inode.Now -/
def F51.vc (x0 : List Value) (w : World) (Q : Value → World → Prop) : Prop :=
  nw w x0 74 fun b1 w2 =>
  ldSl w2 b1 0 fun A3 n4 c5 =>
  ldSl w2 b1 (0 + 1) fun A6 n7 c8 =>
  Calls Tryz.prog 77 #[Value.slice A3 n4 c5, Value.slice A6 n7 c8] w2 fun e10 w9 =>
  ∃ (A11 : Option Addr) (n12 c13 : Nat), e10 = .returned (Value.slice A11 n12 c13) ∧ (
    Q (Value.slice A11 n12 c13) w9)
def F51.an : Ann := ⟨[], []⟩
theorem F51.of (x0 : List Value) (w : World) {Q : Value → World → Prop} (h : F51.vc x0 w Q) : Calls Tryz.prog 51 #[ofL x0] w (fun e w' => ∃ v, e = .returned v ∧ Q v w') := vcFn_of (A := F51.an) noCount mixed h (by kernel_rfl)
/-! ### function 52: stillage/folder.Find -/
def F52.vc (x0 : List Value) (x1 : ByteArray) (w : World) (Q : Value → World → Prop) : Prop :=
  nw w x0 64 fun b1 w2 =>
  ldA 2 w2 b1 0 fun a3 =>
  Calls Tryz.prog 50 #[ofL a3] w2 fun e5 w4 =>
  ∃ (A6 : Option Addr) (n7 c8 : Nat), e5 = .returned (Value.slice A6 n7 c8) ∧ (
    Calls Tryz.prog 78 #[Value.slice A6 n7 c8, Value.string x1, Value.func (.func 79) #[] #[]] w4 fun e10 w9 =>
    ∃ i11 : Int, ∃ t12 : Bool, e10 = .returned (Value.tuple #[Value.int .i64 i11, Value.bool t12]) ∧ (
      vIf (!t12)
      (Q (Value.tuple #[Value.int .i64 0, Value.bool false]) w9)
      (dr A6 fun b13 o14 =>
        gd (decide (0 ≤ i11)) <|
        gd (decide (i11 < ((n7 : Nat) : Int))) <|
        ldI .i64 w9 b13 ((o14 + (i11).toNat * 2) + 1) fun i15 =>
        Q (Value.tuple #[Value.int .i64 i15, Value.bool true]) w9)))
def F52.an : Ann := ⟨[], []⟩
theorem F52.of (x0 : List Value) (x1 : ByteArray) (w : World) {Q : Value → World → Prop} (h : F52.vc x0 x1 w Q) : Calls Tryz.prog 52 #[ofL x0, Value.string x1] w (fun e w' => ∃ v, e = .returned v ∧ Q v w') := vcFn_of (A := F52.an) noCount mixed h (by kernel_rfl)
/-! ### function 53: stillage/name.Disk -/
def F53.b4c (Q : Value → World → Prop) (C4 : (ByteArray × Int × Int × Unit) → World → Prop) (x0 : ByteArray) (x13 : Int) (x14 : Int) (w : World) : Prop :=
  vIf (decide (x14 < x13))
  (gd (decide (0 ≤ x14)) <|
    gd (decide (x14 < (x0.size : Int))) <|
    vIf (decide ((byteAt x0 (x14).toNat) < 33))
    (Q (Value.bool false) w)
    (vIf (decide ((byteAt x0 (x14).toNat) > 126))
      (Q (Value.bool false) w)
      (vIf ((byteAt x0 (x14).toNat) == 47)
        (Q (Value.bool false) w)
        (jnC C4 (x0, (x13), ((IntKind.wrap .i64 (x14 + 1))), ()) w))))
  (Q (Value.bool true) w)
def F53.b4 (Q : Value → World → Prop) : (ByteArray × Int × Int × Unit) → World → ((ByteArray × Int × Int × Unit) → World → Prop) → Prop := fun s w C4 => ∀ _ : Nat → Value, F53.b4c Q C4 s.1 s.2.1 s.2.2.1 w
def F53.l4 (Q : Value → World → Prop) : (ByteArray × Int × Int × Unit) → World → Prop := fun s w => ∃ n, loopC (F53.b4 Q) n s w
def F53.k3c (Q : Value → World → Prop) (x0 : ByteArray) (w : World) : Prop :=
  jnC (F53.l4 Q) (x0, ((x0.size : Int)), (0), ()) w
def F53.k3 (Q : Value → World → Prop) : (ByteArray × Unit) → World → Prop := fun s w => ∀ _ : Nat → Value, F53.k3c Q s.1 w
def F53.vc (x0 : ByteArray) (w : World) (Q : Value → World → Prop) : Prop :=
  vIf (x0.toList == (⟨#[]⟩ : ByteArray).toList)
  (Q (Value.bool false) w)
  (vIf (decide ((x0.size : Int) > 32))
    (Q (Value.bool false) w)
    (jnC (F53.k3 Q) (x0, ()) w))
def F53.an : Ann := ⟨[(4, [(0, .kS), (13, .kI .i64), (14, .kI .i64)])], [(3, [(0, .kS)])]⟩
theorem F53.of (x0 : ByteArray) (w : World) {Q : Value → World → Prop} (h : F53.vc x0 w Q) : Calls Tryz.prog 53 #[Value.string x0] w (fun e w' => ∃ v, e = .returned v ∧ Q v w') := vcFn_of (A := F53.an) noCount mixed h (by kernel_rfl)
/-! ### function 64: (*stillage/disk.Disk).Cut$1 -/
def F64.vc (x0 : Nat × Nat) (x1 : Nat × Nat) (x2 : Nat × Nat) (w : World) (Q : Value → World → Prop) : Prop :=
  ldP w x0.1 x0.2 fun p1 =>
  ldS w x1.1 x1.2 fun s2 =>
  Calls Tryz.prog 39 #[Value.pointer p1, Value.string s2, Value.func (.func 65) #[] #[Value.pointer (some ⟨x2.1, x2.2, none⟩)]] w fun e4 w3 =>
  ∃ i5 : Int, e4 = .returned (Value.int .i64 i5) ∧ (
    Q (Value.int .i64 i5) w3)
def F64.an : Ann := ⟨[], []⟩
theorem F64.of (x0 : Nat × Nat) (x1 : Nat × Nat) (x2 : Nat × Nat) (w : World) {Q : Value → World → Prop} (h : F64.vc x0 x1 x2 w Q) : Calls Tryz.prog 64 #[Value.pointer (some ⟨x0.1, x0.2, none⟩), Value.pointer (some ⟨x1.1, x1.2, none⟩), Value.pointer (some ⟨x2.1, x2.2, none⟩)] w (fun e w' => ∃ v, e = .returned v ∧ Q v w') := vcFn_of (A := F64.an) noCount mixed h (by kernel_rfl)
/-! ### function 65: (*stillage/disk.Disk).Cut$1$1 -/
def F65.vc (x0 : List Value) (x1 : Nat × Nat) (w : World) (Q : Value → World → Prop) : Prop :=
  nw w x0 74 fun b1 w2 =>
  nw w2 [Value.slice none 0 0, Value.slice none 0 0] 74 fun b3 w4 =>
  ldA 2 w4 b1 0 fun a5 =>
  ldI .i64 w4 x1.1 x1.2 fun i6 =>
  Calls Tryz.prog 66 #[ofL a5, Value.int .i64 i6] w4 fun e8 w7 =>
  ∃ a9 : List Value, ∃ i10 : Int, e8 = .returned (Value.tuple #[ofL a9, Value.int .i64 i10]) ∧ (
    gd (a9.length == 2) <|
    st w7 b3 0 a9 fun w11 =>
    ldA 2 w11 b3 0 fun a12 =>
    Q (Value.tuple #[ofL a12, Value.int .i64 i10]) w11)
def F65.an : Ann := ⟨[], []⟩
theorem F65.of (x0 : List Value) (x1 : Nat × Nat) (w : World) {Q : Value → World → Prop} (h : F65.vc x0 x1 w Q) : Calls Tryz.prog 65 #[ofL x0, Value.pointer (some ⟨x1.1, x1.2, none⟩)] w (fun e w' => ∃ v, e = .returned v ∧ Q v w') := vcFn_of (A := F65.an) noCount mixed h (by kernel_rfl)
/-! ### function 66: stillage/inode.Cut -/
def F66.k3c (Q : Value → World → Prop) (x1 : Int) (x2 : (Nat × Nat)) (x4 : (Nat × Nat)) (w : World) : Prop :=
  ldA 2 w x2.1 x2.2 fun a8 =>
  gd (([Value.bool true] ++ ([Value.int .i64 x1] ++ ([Value.slice none 0 0] ++ []))).length == 3) <|
  nw w (([Value.bool true] ++ ([Value.int .i64 x1] ++ ([Value.slice none 0 0] ++ []))) ++ []) 124 fun b9 w10 =>
  Calls Tryz.prog 76 #[ofL a8, Value.slice (some ⟨b9, 0, none⟩) 1 1] w10 fun e12 w11 =>
  ∃ a13 : List Value, e12 = .returned (ofL a13) ∧ (
    gd (a13.length == 2) <|
    st w11 x4.1 x4.2 a13 fun w14 =>
    ldA 2 w14 x4.1 x4.2 fun a15 =>
    Q (Value.tuple #[ofL a15, Value.int .i64 0]) w14)
def F66.k3 (Q : Value → World → Prop) : (Int × (Nat × Nat) × (Nat × Nat) × Unit) → World → Prop := fun s w => ∀ _ : Nat → Value, F66.k3c Q s.1 s.2.1 s.2.2.1 w
def F66.k2c (Q : Value → World → Prop) (x1 : Int) (x2 : (Nat × Nat)) (x4 : (Nat × Nat)) (x14 : Bool) (w : World) : Prop :=
  vIf x14
  (ldA 2 w x2.1 x2.2 fun a5 =>
    gd (a5.length == 2) <|
    st w x4.1 x4.2 a5 fun w6 =>
    ldA 2 w6 x4.1 x4.2 fun a7 =>
    Q (Value.tuple #[ofL a7, Value.int .i64 20]) w6)
  (jnC (F66.k3 Q) ((x1), (x2.1, x2.2), (x4.1, x4.2), ()) w)
def F66.k2 (Q : Value → World → Prop) : (Int × (Nat × Nat) × (Nat × Nat) × Bool × Unit) → World → Prop := fun s w => ∀ _ : Nat → Value, F66.k2c Q s.1 s.2.1 s.2.2.1 s.2.2.2.1 w
def F66.vc (x0 : List Value) (x1 : Int) (w : World) (Q : Value → World → Prop) : Prop :=
  nw w x0 74 fun b1 w2 =>
  nw w2 [Value.slice none 0 0, Value.slice none 0 0] 74 fun b3 w4 =>
  vIf (decide (x1 < 0))
  (jnC (F66.k2 Q) ((x1), (b1, 0), (b3, 0), true, ()) w4)
  (ldA 2 w4 b1 0 fun a16 =>
    Calls Tryz.prog 51 #[ofL a16] w4 fun e18 w17 =>
    ∃ (A19 : Option Addr) (n20 c21 : Nat), e18 = .returned (Value.slice A19 n20 c21) ∧ (
      jnC (F66.k2 Q) ((x1), (b1, 0), (b3, 0), (decide (x1 > ((n20 : Nat) : Int))), ()) w17))
def F66.an : Ann := ⟨[], [(2, [(1, .kI .i64), (2, .kL), (4, .kL), (14, .kB)]), (3, [(1, .kI .i64), (2, .kL), (4, .kL)])]⟩
theorem F66.of (x0 : List Value) (x1 : Int) (w : World) {Q : Value → World → Prop} (h : F66.vc x0 x1 w Q) : Calls Tryz.prog 66 #[ofL x0, Value.int .i64 x1] w (fun e w' => ∃ v, e = .returned v ∧ Q v w') := vcFn_of (A := F66.an) noCount mixed h (by kernel_rfl)
/-! ### function 67: (*stillage/disk.Disk).Rename$1 -/
def F67.vc (x0 : Nat × Nat) (x1 : Nat × Nat) (x2 : Nat × Nat) (w : World) (Q : Value → World → Prop) : Prop :=
  ldP w x0.1 x0.2 fun p1 =>
  ldS w x1.1 x1.2 fun s2 =>
  ldS w x2.1 x2.2 fun s3 =>
  Calls Tryz.prog 37 #[Value.pointer p1, ofL ([Value.int .i64 2] ++ ([Value.string s2] ++ ([Value.string s3] ++ ([Value.int .i64 0] ++ []))))] w fun e5 w4 =>
  ∃ i6 : Int, e5 = .returned (Value.int .i64 i6) ∧ (
    Q (Value.int .i64 i6) w4)
def F67.an : Ann := ⟨[], []⟩
theorem F67.of (x0 : Nat × Nat) (x1 : Nat × Nat) (x2 : Nat × Nat) (w : World) {Q : Value → World → Prop} (h : F67.vc x0 x1 x2 w Q) : Calls Tryz.prog 67 #[Value.pointer (some ⟨x0.1, x0.2, none⟩), Value.pointer (some ⟨x1.1, x1.2, none⟩), Value.pointer (some ⟨x2.1, x2.2, none⟩)] w (fun e w' => ∃ v, e = .returned v ∧ Q v w') := vcFn_of (A := F67.an) noCount mixed h (by kernel_rfl)
/-! ### function 68: (*stillage/disk.Disk).Remove$1 -/
def F68.vc (x0 : Nat × Nat) (x1 : Nat × Nat) (w : World) (Q : Value → World → Prop) : Prop :=
  ldP w x0.1 x0.2 fun p1 =>
  ldS w x1.1 x1.2 fun s2 =>
  Calls Tryz.prog 37 #[Value.pointer p1, ofL ([Value.int .i64 3] ++ ([Value.string s2] ++ ([Value.string (⟨#[]⟩ : ByteArray)] ++ ([Value.int .i64 0] ++ []))))] w fun e4 w3 =>
  ∃ i5 : Int, e4 = .returned (Value.int .i64 i5) ∧ (
    Q (Value.int .i64 i5) w3)
def F68.an : Ann := ⟨[], []⟩
theorem F68.of (x0 : Nat × Nat) (x1 : Nat × Nat) (w : World) {Q : Value → World → Prop} (h : F68.vc x0 x1 w Q) : Calls Tryz.prog 68 #[Value.pointer (some ⟨x0.1, x0.2, none⟩), Value.pointer (some ⟨x1.1, x1.2, none⟩)] w (fun e w' => ∃ v, e = .returned v ∧ Q v w') := vcFn_of (A := F68.an) noCount mixed h (by kernel_rfl)
/-! ### function 69: stillage/folder.behind -/
def F69.b3c (Q : Value → World → Prop) (C3 : ((Option Addr × Nat × Nat) × (Option Addr × Nat × Nat) × Int × Int × Unit) → World → Prop) (x5 : (Option Addr × Nat × Nat)) (x18 : (Option Addr × Nat × Nat)) (x19 : Int) (x20 : Int) (w : World) : Prop :=
  vIf (decide (x20 < x19))
  (dr x18.1 fun b15 o16 =>
    gd (decide (0 ≤ x20)) <|
    gd (decide (x20 < ((x18.2.1 : Nat) : Int))) <|
    ldA 4 w b15 (o16 + (x20).toNat * 4) fun a17 =>
    nw w Z82 82 fun b18 w19 =>
    gd (a17.length == 4) <|
    st w19 b18 0 a17 fun w20 =>
    ldA 4 w20 b18 0 fun a21 =>
    Calls Tryz.prog 90 #[Value.slice x5.1 x5.2.1 x5.2.2, ofL a21] w20 fun e23 w22 =>
    ∃ (A24 : Option Addr) (n25 c26 : Nat), e23 = .returned (Value.slice A24 n25 c26) ∧ (
      jnC C3 ((A24, n25, c26), (x18.1, x18.2.1, x18.2.2), (x19), ((IntKind.wrap .i64 (x20 + 1))), ()) w22))
  (Q (Value.slice x5.1 x5.2.1 x5.2.2) w)
def F69.b3 (Q : Value → World → Prop) : ((Option Addr × Nat × Nat) × (Option Addr × Nat × Nat) × Int × Int × Unit) → World → (((Option Addr × Nat × Nat) × (Option Addr × Nat × Nat) × Int × Int × Unit) → World → Prop) → Prop := fun s w C3 => ∀ _ : Nat → Value, F69.b3c Q C3 s.1 s.2.1 s.2.2.1 s.2.2.2.1 w
def F69.l3 (Q : Value → World → Prop) : ((Option Addr × Nat × Nat) × (Option Addr × Nat × Nat) × Int × Int × Unit) → World → Prop := fun s w => ∃ n, loopC (F69.b3 Q) n s w
def F69.vc (x0 : List Value) (x1 : Int) (w : World) (Q : Value → World → Prop) : Prop :=
  nw w x0 64 fun b1 w2 =>
  ldA 2 w2 b1 0 fun a3 =>
  Calls Tryz.prog 89 #[ofL a3] w2 fun e5 w4 =>
  ∃ (A6 : Option Addr) (n7 c8 : Nat), e5 = .returned (Value.slice A6 n7 c8) ∧ (
    ldSl w4 b1 (0 + 1) fun A9 n10 c11 =>
    ldSl w4 b1 (0 + 1) fun A12 n13 c14 =>
    gd (decide (0 ≤ (if 0 < (if ((n13 : Nat) : Int) < x1 then ((n13 : Nat) : Int) else x1) then (if ((n13 : Nat) : Int) < x1 then ((n13 : Nat) : Int) else x1) else 0))) <|
    gd (decide ((if 0 < (if ((n13 : Nat) : Int) < x1 then ((n13 : Nat) : Int) else x1) then (if ((n13 : Nat) : Int) < x1 then ((n13 : Nat) : Int) else x1) else 0) ≤ ((c11 : Nat) : Int))) <|
    jnC (F69.l3 Q) ((A6, n7, c8), ((slA A9 c11 0 4), ((if 0 < (if ((n13 : Nat) : Int) < x1 then ((n13 : Nat) : Int) else x1) then (if ((n13 : Nat) : Int) < x1 then ((n13 : Nat) : Int) else x1) else 0)).toNat, c11), (((((if 0 < (if ((n13 : Nat) : Int) < x1 then ((n13 : Nat) : Int) else x1) then (if ((n13 : Nat) : Int) < x1 then ((n13 : Nat) : Int) else x1) else 0)).toNat : Nat) : Int)), (0), ()) w4)
def F69.an : Ann := ⟨[(3, [(5, .kSl), (18, .kSl), (19, .kI .i64), (20, .kI .i64)])], []⟩
theorem F69.of (x0 : List Value) (x1 : Int) (w : World) {Q : Value → World → Prop} (h : F69.vc x0 x1 w Q) : Calls Tryz.prog 69 #[ofL x0, Value.int .i64 x1] w (fun e w' => ∃ v, e = .returned v ∧ Q v w') := vcFn_of (A := F69.an) noCount mixed h (by kernel_rfl)
/-! ### function 71: slices.Compact[[]int,int] -/
def F71.k15c (Q : Value → World → Prop) (C4 : ((Option Addr × Nat × Nat) × Int × Unit) → World → Prop) (x0 : (Option Addr × Nat × Nat)) (x3 : Int) (w : World) : Prop :=
  gd (decide (0 ≤ x3)) <|
  gd (decide (x3 ≤ ((x0.2.2 : Nat) : Int))) <|
  Q (Value.slice (slA x0.1 x0.2.2 0 1) (x3).toNat x0.2.2) w
def F71.k15 (Q : Value → World → Prop) (C4 : ((Option Addr × Nat × Nat) × Int × Unit) → World → Prop) : ((Option Addr × Nat × Nat) × Int × Unit) → World → Prop := fun s w => ∀ _ : Nat → Value, F71.k15c Q C4 s.1 s.2.1 w
def F71.b9c (Q : Value → World → Prop) (C4 : ((Option Addr × Nat × Nat) × Int × Unit) → World → Prop) (C9 : ((Option Addr × Nat × Nat) × Int × (Option Addr × Nat × Nat) × Int × Unit) → World → Prop) (x0 : (Option Addr × Nat × Nat)) (x3 : Int) (x4 : (Option Addr × Nat × Nat)) (x5 : Int) (w : World) : Prop :=
  vIf (decide (x5 < ((x4.2.1 : Nat) : Int)))
  (dr x4.1 fun b7 o8 =>
    gd (decide (0 ≤ x5)) <|
    gd (decide (x5 < ((x4.2.1 : Nat) : Int))) <|
    ldI .i64 w.drew b7 (o8 + (x5).toNat * 1) fun i9 =>
    dr x4.1 fun b10 o11 =>
    gd (decide (0 ≤ (IntKind.wrap .i64 (x5 - 1)))) <|
    gd (decide ((IntKind.wrap .i64 (x5 - 1)) < ((x4.2.1 : Nat) : Int))) <|
    ldI .i64 w.drew b10 (o11 + ((IntKind.wrap .i64 (x5 - 1))).toNat * 1) fun i12 =>
    vIf (i9 != i12)
    (dr x4.1 fun b13 o14 =>
      gd (decide (0 ≤ x5)) <|
      gd (decide (x5 < ((x4.2.1 : Nat) : Int))) <|
      ldI .i64 w.drew b13 (o14 + (x5).toNat * 1) fun i15 =>
      dr x0.1 fun b16 o17 =>
      gd (decide (0 ≤ x3)) <|
      gd (decide (x3 < ((x0.2.1 : Nat) : Int))) <|
      st w.drew b16 (o17 + (x3).toNat * 1) [Value.int .i64 i15] fun w18 =>
      jnC C9 ((x0.1, x0.2.1, x0.2.2), ((IntKind.wrap .i64 (x3 + 1))), (x4.1, x4.2.1, x4.2.2), ((IntKind.wrap .i64 (x5 + 1))), ()) w18)
    (jnC C9 ((x0.1, x0.2.1, x0.2.2), (x3), (x4.1, x4.2.1, x4.2.2), ((IntKind.wrap .i64 (x5 + 1))), ()) w.drew))
  (gd (decide (0 ≤ x3)) <|
    gd (decide (x3 ≤ ((x0.2.1 : Nat) : Int))) <|
    vIf ((x0.2.1 - (x3).toNat) == 0)
    (jnC (F71.k15 Q C4) ((x0.1, x0.2.1, x0.2.2), (x3), ()) w)
    (dr (slA x0.1 x0.2.2 (x3).toNat 1) fun b20 o21 =>
      st w b20 o21 (zeros (x0.2.1 - (x3).toNat) [Value.int .i64 0]) fun w19 =>
      jnC (F71.k15 Q C4) ((x0.1, x0.2.1, x0.2.2), (x3), ()) w19))
def F71.b9 (Q : Value → World → Prop) (C4 : ((Option Addr × Nat × Nat) × Int × Unit) → World → Prop) : ((Option Addr × Nat × Nat) × Int × (Option Addr × Nat × Nat) × Int × Unit) → World → (((Option Addr × Nat × Nat) × Int × (Option Addr × Nat × Nat) × Int × Unit) → World → Prop) → Prop := fun s w C9 => ∀ _ : Nat → Value, F71.b9c Q C4 C9 s.1 s.2.1 s.2.2.1 s.2.2.2.1 w
def F71.l9 (Q : Value → World → Prop) (C4 : ((Option Addr × Nat × Nat) × Int × Unit) → World → Prop) : ((Option Addr × Nat × Nat) × Int × (Option Addr × Nat × Nat) × Int × Unit) → World → Prop := fun s w => ∃ n, loopC (F71.b9 Q C4) n s w
def F71.b4c (Q : Value → World → Prop) (C4 : ((Option Addr × Nat × Nat) × Int × Unit) → World → Prop) (x0 : (Option Addr × Nat × Nat)) (x3 : Int) (w : World) : Prop :=
  vIf (decide (x3 < ((x0.2.1 : Nat) : Int)))
  (dr x0.1 fun b1 o2 =>
    gd (decide (0 ≤ x3)) <|
    gd (decide (x3 < ((x0.2.1 : Nat) : Int))) <|
    ldI .i64 w.drew b1 (o2 + (x3).toNat * 1) fun i3 =>
    dr x0.1 fun b4 o5 =>
    gd (decide (0 ≤ (IntKind.wrap .i64 (x3 - 1)))) <|
    gd (decide ((IntKind.wrap .i64 (x3 - 1)) < ((x0.2.1 : Nat) : Int))) <|
    ldI .i64 w.drew b4 (o5 + ((IntKind.wrap .i64 (x3 - 1))).toNat * 1) fun i6 =>
    vIf (i3 == i6)
    (gd (decide (0 ≤ x3)) <|
      gd (decide (x3 ≤ ((x0.2.1 : Nat) : Int))) <|
      jnC (F71.l9 Q C4) ((x0.1, x0.2.1, x0.2.2), (x3), ((slA x0.1 x0.2.2 (x3).toNat 1), (x0.2.1 - (x3).toNat), (x0.2.2 - (x3).toNat)), (1), ()) w.drew)
    (jnC C4 ((x0.1, x0.2.1, x0.2.2), ((IntKind.wrap .i64 (x3 + 1))), ()) w.drew))
  (Q (Value.slice x0.1 x0.2.1 x0.2.2) w)
def F71.b4 (Q : Value → World → Prop) : ((Option Addr × Nat × Nat) × Int × Unit) → World → (((Option Addr × Nat × Nat) × Int × Unit) → World → Prop) → Prop := fun s w C4 => ∀ _ : Nat → Value, F71.b4c Q C4 s.1 s.2.1 w
def F71.l4 (Q : Value → World → Prop) : ((Option Addr × Nat × Nat) × Int × Unit) → World → Prop := fun s w => ∃ n, loopC (F71.b4 Q) n s w
def F71.vc (x0A : Option Addr) (x0n x0c : Nat) (w : World) (Q : Value → World → Prop) : Prop :=
  vIf (decide (((x0n : Nat) : Int) < 2))
  (Q (Value.slice x0A x0n x0c) w)
  (jnC (F71.l4 Q) ((x0A, x0n, x0c), (1), ()) w)
def F71.an : Ann := ⟨[(4, [(0, .kSl), (3, .kI .i64)]), (9, [(0, .kSl), (3, .kI .i64), (4, .kSl), (5, .kI .i64)])], [(15, [(0, .kSl), (3, .kI .i64)])]⟩
theorem F71.of (x0A : Option Addr) (x0n x0c : Nat) (w : World) {Q : Value → World → Prop} (h : F71.vc x0A x0n x0c w Q) : Calls Tryz.prog 71 #[Value.slice x0A x0n x0c] w (fun e w' => ∃ v, e = .returned v ∧ Q v w') := vcFn_of (A := F71.an) noCount mixed h (by kernel_rfl)
end Go.Proofs.YtfdhaeglhkmmpaaGreat
/- PRINTED BY MY OWN gen.py out of the translation: each function as a proposition. -/
namespace Go.Proofs.YtfdhaeglhkmmpaaGreat
open Go.GV
set_option linter.unusedVariables false
set_option maxRecDepth 100000
/-! ### function 72: stillage/writes.Survive -/
def F72.vc (x0A : Option Addr) (x0n x0c : Nat) (x1A : Option Addr) (x1n x1c : Nat) (x2A : Option Addr) (x2n x2c : Nat) (w : World) (Q : Value → World → Prop) : Prop :=
  nw w [Value.slice x2A x2n x2c] 23 fun b1 w2 =>
  Calls Tryz.prog 93 #[Value.slice x0A x0n x0c, Value.slice x1A x1n x1c, Value.func (.func 94) #[] #[Value.pointer (some ⟨b1, 0, none⟩)]] w2 fun e4 w3 =>
  ∃ (A5 : Option Addr) (n6 c7 : Nat), e4 = .returned (Value.slice A5 n6 c7) ∧ (
    Q (Value.slice A5 n6 c7) w3)
def F72.an : Ann := ⟨[], []⟩
theorem F72.of (x0A : Option Addr) (x0n x0c : Nat) (x1A : Option Addr) (x1n x1c : Nat) (x2A : Option Addr) (x2n x2c : Nat) (w : World) {Q : Value → World → Prop} (h : F72.vc x0A x0n x0c x1A x1n x1c x2A x2n x2c w Q) : Calls Tryz.prog 72 #[Value.slice x0A x0n x0c, Value.slice x1A x1n x1c, Value.slice x2A x2n x2c] w (fun e w' => ∃ v, e = .returned v ∧ Q v w') := vcFn_of (A := F72.an) noCount mixed h (by kernel_rfl)
/-! ### function 73: slices.Clone[[]byte,byte] -/
def F73.vc (x0A : Option Addr) (x0n x0c : Nat) (w : World) (Q : Value → World → Prop) : Prop :=
  vIf x0A.isNone
  (Q (Value.slice none 0 0) w)
  (nw w [] 5 fun b1 w2 =>
    app w2 1 1 [Value.int .u8 0] 5 (some ⟨b1, 0, none⟩) 0 0 (Value.slice x0A x0n x0c) fun A3 n4 c5 w6 =>
    Q (Value.slice A3 n4 c5) w6)
def F73.an : Ann := ⟨[], []⟩
theorem F73.of (x0A : Option Addr) (x0n x0c : Nat) (w : World) {Q : Value → World → Prop} (h : F73.vc x0A x0n x0c w Q) : Calls Tryz.prog 73 #[Value.slice x0A x0n x0c] w (fun e w' => ∃ v, e = .returned v ∧ Q v w') := vcFn_of (A := F73.an) noCount mixed h (by kernel_rfl)
/-! ### function 74: stillage/folder.Do -/
def F74.vc (x0 : List Value) (x1 : List Value) (w : World) (Q : Value → World → Prop) : Prop :=
  nw w x0 64 fun b1 w2 =>
  nw w2 x1 82 fun b3 w4 =>
  nw w4 [Value.slice none 0 0, Value.slice none 0 0] 64 fun b5 w6 =>
  ldA 2 w6 b1 0 fun a7 =>
  ldA 4 w6 b3 0 fun a8 =>
  Calls Tryz.prog 96 #[ofL a7, ofL a8] w6 fun e10 w9 =>
  ∃ i11 : Int, e10 = .returned (Value.int .i64 i11) ∧ (
    vIf (i11 != 0)
    (ldA 2 w9 b1 0 fun a12 =>
      gd (a12.length == 2) <|
      st w9 b5 0 a12 fun w13 =>
      ldA 2 w13 b5 0 fun a14 =>
      Q (Value.tuple #[ofL a14, Value.int .i64 i11]) w13)
    (ldSl w9.drew b1 0 fun A15 n16 c17 =>
      ldSl w9.drew b1 (0 + 1) fun A18 n19 c20 =>
      ldA 4 w9.drew b3 0 fun a21 =>
      (Calls Tryz.prog 97 #[Value.slice A18 n19 c20] w9.drew fun e23 w22 =>
        ∃ (A24 : Option Addr) (n25 c26 : Nat), e23 = .returned (Value.slice A24 n25 c26) ∧ (
          kp w9.drew b3 0 4 w22 <|
          kp w9.drew b1 0 1 w22 <|
          gd (a21.length == 4) <|
          nw w22 (a21 ++ []) 82 fun b27 w28 =>
          kp w9.drew b1 (0 + 1) 1 w28 <|
          kp w9.drew b1 0 1 w28 <|
          app w28 4 48 Z82 82 A24 n25 c26 (Value.slice (some ⟨b27, 0, none⟩) 1 1) fun A29 n30 c31 w32 =>
          kp w9.drew b1 0 1 w32 <|
          gd (([Value.slice A15 n16 c17] ++ ([Value.slice A29 n30 c31] ++ [])).length == 2) <|
          st w32 b5 0 ([Value.slice A15 n16 c17] ++ ([Value.slice A29 n30 c31] ++ [])) fun w33 =>
          ldA 2 w33 b5 0 fun a34 =>
          Q (Value.tuple #[ofL a34, Value.int .i64 0]) w33)) ∧
      (gd (a21.length == 4) <|
        nw w9.drew (a21 ++ []) 82 fun b35 w36 =>
        kp w9.drew b1 (0 + 1) 1 w36 <|
        kp w9.drew b1 0 1 w36 <|
        Calls Tryz.prog 97 #[Value.slice A18 n19 c20] w36 fun e38 w37 =>
        ∃ (A39 : Option Addr) (n40 c41 : Nat), e38 = .returned (Value.slice A39 n40 c41) ∧ (
          kp w9.drew b3 0 4 w37 <|
          kp w9.drew b1 0 1 w37 <|
          app w37 4 48 Z82 82 A39 n40 c41 (Value.slice (some ⟨b35, 0, none⟩) 1 1) fun A42 n43 c44 w45 =>
          kp w9.drew b1 0 1 w45 <|
          gd (([Value.slice A15 n16 c17] ++ ([Value.slice A42 n43 c44] ++ [])).length == 2) <|
          st w45 b5 0 ([Value.slice A15 n16 c17] ++ ([Value.slice A42 n43 c44] ++ [])) fun w46 =>
          ldA 2 w46 b5 0 fun a47 =>
          Q (Value.tuple #[ofL a47, Value.int .i64 0]) w46))))
def F74.an : Ann := ⟨[], []⟩
theorem F74.of (x0 : List Value) (x1 : List Value) (w : World) {Q : Value → World → Prop} (h : F74.vc x0 x1 w Q) : Calls Tryz.prog 74 #[ofL x0, ofL x1] w (fun e w' => ∃ v, e = .returned v ∧ Q v w') := vcFn_of (A := F74.an) noCount mixed h (by kernel_rfl)
/-! ### function 75: stillage/inode.Room -/
def F75.vc (x0 : List Value) (w : World) (Q : Value → World → Prop) : Prop :=
  nw w x0 74 fun b1 w2 =>
  ldSl w2 b1 0 fun A3 n4 c5 =>
  ldSl w2 b1 (0 + 1) fun A6 n7 c8 =>
  Calls Tryz.prog 98 #[Value.int .i64 ((n4 : Nat) : Int), Value.slice A6 n7 c8] w2 fun e10 w9 =>
  ∃ i11 : Int, e10 = .returned (Value.int .i64 i11) ∧ (
    Q (Value.int .i64 i11) w9)
def F75.an : Ann := ⟨[], []⟩
theorem F75.of (x0 : List Value) (w : World) {Q : Value → World → Prop} (h : F75.vc x0 w Q) : Calls Tryz.prog 75 #[ofL x0] w (fun e w' => ∃ v, e = .returned v ∧ Q v w') := vcFn_of (A := F75.an) noCount mixed h (by kernel_rfl)
/-! ### function 76: stillage/inode.with -/
def F76.vc (x0 : List Value) (x1A : Option Addr) (x1n x1c : Nat) (w : World) (Q : Value → World → Prop) : Prop :=
  nw w x0 74 fun b1 w2 =>
  nw w2 [Value.slice none 0 0, Value.slice none 0 0] 74 fun b3 w4 =>
  ldSl w4.drew b1 0 fun A5 n6 c7 =>
  ldSl w4.drew b1 (0 + 1) fun A8 n9 c10 =>
  nw w4.drew ([Value.slice A8 n9 c10] ++ ([Value.slice x1A x1n x1c] ++ [])) 72 fun b11 w12 =>
  kp w4.drew b1 0 1 w12 <|
  Calls Tryz.prog 99 #[Value.slice (some ⟨b11, 0, none⟩) 2 2] w12 fun e14 w13 =>
  ∃ (A15 : Option Addr) (n16 c17 : Nat), e14 = .returned (Value.slice A15 n16 c17) ∧ (
    kp w4.drew b1 0 1 w13 <|
    gd (([Value.slice A5 n6 c7] ++ ([Value.slice A15 n16 c17] ++ [])).length == 2) <|
    st w13 b3 0 ([Value.slice A5 n6 c7] ++ ([Value.slice A15 n16 c17] ++ [])) fun w18 =>
    ldA 2 w18 b3 0 fun a19 =>
    Q (ofL a19) w18)
def F76.an : Ann := ⟨[], []⟩
theorem F76.of (x0 : List Value) (x1A : Option Addr) (x1n x1c : Nat) (w : World) {Q : Value → World → Prop} (h : F76.vc x0 x1A x1n x1c w Q) : Calls Tryz.prog 76 #[ofL x0, Value.slice x1A x1n x1c] w (fun e w' => ∃ v, e = .returned v ∧ Q v w') := vcFn_of (A := F76.an) noCount mixed h (by kernel_rfl)
/-! ### function 77: stillage/writes.All -/
def F77.vc (x0A : Option Addr) (x0n x0c : Nat) (x1A : Option Addr) (x1n x1c : Nat) (w : World) (Q : Value → World → Prop) : Prop :=
  Calls Tryz.prog 93 #[Value.slice x0A x0n x0c, Value.slice x1A x1n x1c, Value.func (.func 100) #[] #[]] w fun e2 w1 =>
  ∃ (A3 : Option Addr) (n4 c5 : Nat), e2 = .returned (Value.slice A3 n4 c5) ∧ (
    Q (Value.slice A3 n4 c5) w1)
def F77.an : Ann := ⟨[], []⟩
theorem F77.of (x0A : Option Addr) (x0n x0c : Nat) (x1A : Option Addr) (x1n x1c : Nat) (w : World) {Q : Value → World → Prop} (h : F77.vc x0A x0n x0c x1A x1n x1c w Q) : Calls Tryz.prog 77 #[Value.slice x0A x0n x0c, Value.slice x1A x1n x1c] w (fun e w' => ∃ v, e = .returned v ∧ Q v w') := vcFn_of (A := F77.an) noCount mixed h (by kernel_rfl)
/-! ### function 78: slices.BinarySearchFunc[[]stillage/api.Named,stillage/api.Named,string] -/
def F78s.b3c (Q : Value → World → Prop) (C3 : ((Option Addr × Nat × Nat) × ByteArray × Unit × Int × Int × Int × Unit) → World → Prop) (x0 : (Option Addr × Nat × Nat)) (x1 : ByteArray) (x2 : Unit) (x8 : Int) (x9 : Int) (x10 : Int) (w : World) : Prop :=
  vIf (decide (x9 < x10))
  (dr x0.1 fun b1 o2 =>
    gd (decide (0 ≤ (IntKind.wrap .i64 (Int.fdiv (IntKind.wrap .u64 (IntKind.wrap .i64 (x9 + x10))) (2 ^ 1))))) <|
    gd (decide ((IntKind.wrap .i64 (Int.fdiv (IntKind.wrap .u64 (IntKind.wrap .i64 (x9 + x10))) (2 ^ 1))) < ((x0.2.1 : Nat) : Int))) <|
    ldA 2 w b1 (o2 + ((IntKind.wrap .i64 (Int.fdiv (IntKind.wrap .u64 (IntKind.wrap .i64 (x9 + x10))) (2 ^ 1)))).toNat * 2) fun a3 =>
    Calls Tryz.prog 79 #[ofL a3, Value.string x1] w fun e5 w4 =>
    ∃ i6 : Int, e5 = .returned (Value.int .i64 i6) ∧ (
      vIf (decide (i6 < 0))
      (jnC C3 ((x0.1, x0.2.1, x0.2.2), x1, (), (x8), ((IntKind.wrap .i64 ((IntKind.wrap .i64 (Int.fdiv (IntKind.wrap .u64 (IntKind.wrap .i64 (x9 + x10))) (2 ^ 1))) + 1))), (x10), ()) w4)
      (jnC C3 ((x0.1, x0.2.1, x0.2.2), x1, (), (x8), (x9), ((IntKind.wrap .i64 (Int.fdiv (IntKind.wrap .u64 (IntKind.wrap .i64 (x9 + x10))) (2 ^ 1)))), ()) w4)))
  (vIf (decide (x9 < x8))
    (dr x0.1 fun b7 o8 =>
      gd (decide (0 ≤ x9)) <|
      gd (decide (x9 < ((x0.2.1 : Nat) : Int))) <|
      ldA 2 w b7 (o8 + (x9).toNat * 2) fun a9 =>
      Calls Tryz.prog 79 #[ofL a9, Value.string x1] w fun e11 w10 =>
      ∃ i12 : Int, e11 = .returned (Value.int .i64 i12) ∧ (
        Q (Value.tuple #[Value.int .i64 x9, Value.bool (i12 == 0)]) w10))
    (Q (Value.tuple #[Value.int .i64 x9, Value.bool false]) w))
def F78s.b3 (Q : Value → World → Prop) : ((Option Addr × Nat × Nat) × ByteArray × Unit × Int × Int × Int × Unit) → World → (((Option Addr × Nat × Nat) × ByteArray × Unit × Int × Int × Int × Unit) → World → Prop) → Prop := fun s w C3 => ∀ _ : Nat → Value, F78s.b3c Q C3 s.1 s.2.1 s.2.2.1 s.2.2.2.1 s.2.2.2.2.1 s.2.2.2.2.2.1 w
def F78s.l3 (Q : Value → World → Prop) : ((Option Addr × Nat × Nat) × ByteArray × Unit × Int × Int × Int × Unit) → World → Prop := fun s w => ∃ n, loopC (F78s.b3 Q) n s w
def F78s.vc (x0A : Option Addr) (x0n x0c : Nat) (x1 : ByteArray) (w : World) (Q : Value → World → Prop) : Prop :=
  jnC (F78s.l3 Q) ((x0A, x0n, x0c), x1, (), (((x0n : Nat) : Int)), (0), (((x0n : Nat) : Int)), ()) w
def F78s.an : Ann := ⟨[(3, [(0, .kSl), (1, .kS), (2, .kF 79), (8, .kI .i64), (9, .kI .i64), (10, .kI .i64)])], []⟩
theorem F78s.of (x0A : Option Addr) (x0n x0c : Nat) (x1 : ByteArray) (w : World) {Q : Value → World → Prop} (h : F78s.vc x0A x0n x0c x1 w Q) : Calls Tryz.prog 78 #[Value.slice x0A x0n x0c, Value.string x1, Value.func (.func 79) #[] #[]] w (fun e w' => ∃ v, e = .returned v ∧ Q v w') := vcFn_of (A := F78s.an) noCount mixed h (by kernel_rfl)
/-! ### function 79: stillage/folder.byName -/
def F79.vc (x0 : List Value) (x1 : ByteArray) (w : World) (Q : Value → World → Prop) : Prop :=
  nw w x0 94 fun b1 w2 =>
  ldS w2 b1 0 fun s3 =>
  Calls Tryz.prog 101 #[Value.string s3, Value.string x1] w2 fun e5 w4 =>
  ∃ i6 : Int, e5 = .returned (Value.int .i64 i6) ∧ (
    Q (Value.int .i64 i6) w4)
def F79.an : Ann := ⟨[], []⟩
theorem F79.of (x0 : List Value) (x1 : ByteArray) (w : World) {Q : Value → World → Prop} (h : F79.vc x0 x1 w Q) : Calls Tryz.prog 79 #[ofL x0, Value.string x1] w (fun e w' => ∃ v, e = .returned v ∧ Q v w') := vcFn_of (A := F79.an) noCount mixed h (by kernel_rfl)
/-! ### function 89: stillage/folder.lasts -/
def F89.vc (x0 : List Value) (w : World) (Q : Value → World → Prop) : Prop :=
  nw w x0 64 fun b1 w2 =>
  ldSl w2 b1 0 fun A3 n4 c5 =>
  Calls Tryz.prog 112 #[Value.slice A3 n4 c5] w2 fun e7 w6 =>
  ∃ (A8 : Option Addr) (n9 c10 : Nat), e7 = .returned (Value.slice A8 n9 c10) ∧ (
    Calls Tryz.prog 113 #[Value.slice A8 n9 c10, Value.func (.func 114) #[] #[]] w6 fun e12 w11 =>
    e12 = .returned (Value.tuple #[]) ∧ (
      Calls Tryz.prog 115 #[Value.slice A8 n9 c10, Value.func (.func 116) #[] #[]] w11 fun e14 w13 =>
      ∃ (A15 : Option Addr) (n16 c17 : Nat), e14 = .returned (Value.slice A15 n16 c17) ∧ (
        Q (Value.slice A15 n16 c17) w13)))
def F89.an : Ann := ⟨[], []⟩
theorem F89.of (x0 : List Value) (w : World) {Q : Value → World → Prop} (h : F89.vc x0 w Q) : Calls Tryz.prog 89 #[ofL x0] w (fun e w' => ∃ v, e = .returned v ∧ Q v w') := vcFn_of (A := F89.an) noCount mixed h (by kernel_rfl)
/-! ### function 90: stillage/folder.step -/
def F90.vc (x0A : Option Addr) (x0n x0c : Nat) (x1 : List Value) (w : World) (Q : Value → World → Prop) : Prop :=
  nw w x1 82 fun b1 w2 =>
  ldI .i64 w2 b1 0 fun i3 =>
  vIf (i3 == 1)
  (ldS w2 b1 (0 + 1) fun s4 =>
    ldI .i64 w2 b1 (0 + 3) fun i5 =>
    Calls Tryz.prog 117 #[Value.slice x0A x0n x0c, Value.string s4, Value.int .i64 i5] w2 fun e7 w6 =>
    ∃ (A8 : Option Addr) (n9 c10 : Nat), e7 = .returned (Value.slice A8 n9 c10) ∧ (
      Q (Value.slice A8 n9 c10) w6))
  (vIf (i3 == 3)
    (ldS w2 b1 (0 + 1) fun s11 =>
      Calls Tryz.prog 118 #[Value.slice x0A x0n x0c, Value.string s11] w2 fun e13 w12 =>
      ∃ (A14 : Option Addr) (n15 c16 : Nat), ∃ i17 : Int, ∃ t18 : Bool, e13 = .returned (Value.tuple #[Value.slice A14 n15 c16, Value.int .i64 i17, Value.bool t18]) ∧ (
        Q (Value.slice A14 n15 c16) w12))
    (vIf (i3 == 2)
      (ldS w2 b1 (0 + 1) fun s19 =>
        Calls Tryz.prog 118 #[Value.slice x0A x0n x0c, Value.string s19] w2 fun e21 w20 =>
        ∃ (A22 : Option Addr) (n23 c24 : Nat), ∃ i25 : Int, ∃ t26 : Bool, e21 = .returned (Value.tuple #[Value.slice A22 n23 c24, Value.int .i64 i25, Value.bool t26]) ∧ (
          vIf t26
          (ldS w20 b1 (0 + 2) fun s27 =>
            Calls Tryz.prog 117 #[Value.slice A22 n23 c24, Value.string s27, Value.int .i64 i25] w20 fun e29 w28 =>
            ∃ (A30 : Option Addr) (n31 c32 : Nat), e29 = .returned (Value.slice A30 n31 c32) ∧ (
              Q (Value.slice A30 n31 c32) w28))
          (Q (Value.slice x0A x0n x0c) w20)))
      (Q (Value.slice x0A x0n x0c) w2)))
def F90.an : Ann := ⟨[], []⟩
theorem F90.of (x0A : Option Addr) (x0n x0c : Nat) (x1 : List Value) (w : World) {Q : Value → World → Prop} (h : F90.vc x0A x0n x0c x1 w Q) : Calls Tryz.prog 90 #[Value.slice x0A x0n x0c, ofL x1] w (fun e w' => ∃ v, e = .returned v ∧ Q v w') := vcFn_of (A := F90.an) noCount mixed h (by kernel_rfl)
/-! ### function 93: stillage/writes.through -/
def F93a.b3c (Q : Value → World → Prop) (C3 : (Unit × (Option Addr × Nat × Nat) × (Option Addr × Nat × Nat) × Int × Int × Unit) → World → Prop) (x2 : Unit) (x7 : (Option Addr × Nat × Nat)) (x14 : (Option Addr × Nat × Nat)) (x15 : Int) (x16 : Int) (w : World) : Prop :=
  vIf (decide (x16 < x15))
  (dr x14.1 fun b6 o7 =>
    gd (decide (0 ≤ x16)) <|
    gd (decide (x16 < ((x14.2.1 : Nat) : Int))) <|
    ldA 3 w b6 (o7 + (x16).toNat * 3) fun a8 =>
    nw w [Value.bool false, Value.int .i64 0, Value.slice none 0 0] 124 fun b9 w10 =>
    gd (a8.length == 3) <|
    st w10 b9 0 a8 fun w11 =>
    ldA 3 w11 b9 0 fun a12 =>
    Calls Tryz.prog 100 #[Value.int .i64 x16, ofL a12] w11 fun e14 w13 =>
    ∃ a15 : List Value, ∃ t16 : Bool, e14 = .returned (Value.tuple #[ofL a15, Value.bool t16]) ∧ (
      nw w13 [Value.bool false, Value.int .i64 0, Value.slice none 0 0] 124 fun b17 w18 =>
      gd (a15.length == 3) <|
      st w18 b17 0 a15 fun w19 =>
      vIf t16
      (ldA 3 w19 b17 0 fun a20 =>
        Calls Tryz.prog 130 #[Value.slice x7.1 x7.2.1 x7.2.2, ofL a20] w19 fun e22 w21 =>
        ∃ (A23 : Option Addr) (n24 c25 : Nat), e22 = .returned (Value.slice A23 n24 c25) ∧ (
          jnC C3 ((), (A23, n24, c25), (x14.1, x14.2.1, x14.2.2), (x15), ((IntKind.wrap .i64 (x16 + 1))), ()) w21))
      (jnC C3 ((), (x7.1, x7.2.1, x7.2.2), (x14.1, x14.2.1, x14.2.2), (x15), ((IntKind.wrap .i64 (x16 + 1))), ()) w19)))
  (Q (Value.slice x7.1 x7.2.1 x7.2.2) w)
def F93a.b3 (Q : Value → World → Prop) : (Unit × (Option Addr × Nat × Nat) × (Option Addr × Nat × Nat) × Int × Int × Unit) → World → ((Unit × (Option Addr × Nat × Nat) × (Option Addr × Nat × Nat) × Int × Int × Unit) → World → Prop) → Prop := fun s w C3 => ∀ _ : Nat → Value, F93a.b3c Q C3 s.1 s.2.1 s.2.2.1 s.2.2.2.1 s.2.2.2.2.1 w
def F93a.l3 (Q : Value → World → Prop) : (Unit × (Option Addr × Nat × Nat) × (Option Addr × Nat × Nat) × Int × Int × Unit) → World → Prop := fun s w => ∃ n, loopC (F93a.b3 Q) n s w
def F93a.vc (x0A : Option Addr) (x0n x0c : Nat) (x1A : Option Addr) (x1n x1c : Nat) (w : World) (Q : Value → World → Prop) : Prop :=
  Calls Tryz.prog 73 #[Value.slice x0A x0n x0c] w fun e2 w1 =>
  ∃ (A3 : Option Addr) (n4 c5 : Nat), e2 = .returned (Value.slice A3 n4 c5) ∧ (
    jnC (F93a.l3 Q) ((), (A3, n4, c5), (x1A, x1n, x1c), (((x1n : Nat) : Int)), (0), ()) w1)
def F93a.an : Ann := ⟨[(3, [(2, .kF 100), (7, .kSl), (14, .kSl), (15, .kI .i64), (16, .kI .i64)])], []⟩
theorem F93a.of (x0A : Option Addr) (x0n x0c : Nat) (x1A : Option Addr) (x1n x1c : Nat) (w : World) {Q : Value → World → Prop} (h : F93a.vc x0A x0n x0c x1A x1n x1c w Q) : Calls Tryz.prog 93 #[Value.slice x0A x0n x0c, Value.slice x1A x1n x1c, Value.func (.func 100) #[] #[]] w (fun e w' => ∃ v, e = .returned v ∧ Q v w') := vcFn_of (A := F93a.an) noCount mixed h (by kernel_rfl)
/-! ### function 93: stillage/writes.through -/
def F93b.b3c (Q : Value → World → Prop) (C3 : ((Nat × Nat) × (Option Addr × Nat × Nat) × (Option Addr × Nat × Nat) × Int × Int × Unit) → World → Prop) (x2 : (Nat × Nat)) (x7 : (Option Addr × Nat × Nat)) (x14 : (Option Addr × Nat × Nat)) (x15 : Int) (x16 : Int) (w : World) : Prop :=
  vIf (decide (x16 < x15))
  (dr x14.1 fun b6 o7 =>
    gd (decide (0 ≤ x16)) <|
    gd (decide (x16 < ((x14.2.1 : Nat) : Int))) <|
    ldA 3 w b6 (o7 + (x16).toNat * 3) fun a8 =>
    nw w [Value.bool false, Value.int .i64 0, Value.slice none 0 0] 124 fun b9 w10 =>
    gd (a8.length == 3) <|
    st w10 b9 0 a8 fun w11 =>
    ldA 3 w11 b9 0 fun a12 =>
    Calls Tryz.prog 94 #[Value.int .i64 x16, ofL a12, Value.pointer (some ⟨x2.1, x2.2, none⟩)] w11 fun e14 w13 =>
    ∃ a15 : List Value, ∃ t16 : Bool, e14 = .returned (Value.tuple #[ofL a15, Value.bool t16]) ∧ (
      nw w13 [Value.bool false, Value.int .i64 0, Value.slice none 0 0] 124 fun b17 w18 =>
      gd (a15.length == 3) <|
      st w18 b17 0 a15 fun w19 =>
      vIf t16
      (ldA 3 w19 b17 0 fun a20 =>
        Calls Tryz.prog 130 #[Value.slice x7.1 x7.2.1 x7.2.2, ofL a20] w19 fun e22 w21 =>
        ∃ (A23 : Option Addr) (n24 c25 : Nat), e22 = .returned (Value.slice A23 n24 c25) ∧ (
          jnC C3 ((x2.1, x2.2), (A23, n24, c25), (x14.1, x14.2.1, x14.2.2), (x15), ((IntKind.wrap .i64 (x16 + 1))), ()) w21))
      (jnC C3 ((x2.1, x2.2), (x7.1, x7.2.1, x7.2.2), (x14.1, x14.2.1, x14.2.2), (x15), ((IntKind.wrap .i64 (x16 + 1))), ()) w19)))
  (Q (Value.slice x7.1 x7.2.1 x7.2.2) w)
def F93b.b3 (Q : Value → World → Prop) : ((Nat × Nat) × (Option Addr × Nat × Nat) × (Option Addr × Nat × Nat) × Int × Int × Unit) → World → (((Nat × Nat) × (Option Addr × Nat × Nat) × (Option Addr × Nat × Nat) × Int × Int × Unit) → World → Prop) → Prop := fun s w C3 => ∀ _ : Nat → Value, F93b.b3c Q C3 s.1 s.2.1 s.2.2.1 s.2.2.2.1 s.2.2.2.2.1 w
def F93b.l3 (Q : Value → World → Prop) : ((Nat × Nat) × (Option Addr × Nat × Nat) × (Option Addr × Nat × Nat) × Int × Int × Unit) → World → Prop := fun s w => ∃ n, loopC (F93b.b3 Q) n s w
def F93b.vc (x0A : Option Addr) (x0n x0c : Nat) (x1A : Option Addr) (x1n x1c : Nat) (x2 : Nat × Nat) (w : World) (Q : Value → World → Prop) : Prop :=
  Calls Tryz.prog 73 #[Value.slice x0A x0n x0c] w fun e2 w1 =>
  ∃ (A3 : Option Addr) (n4 c5 : Nat), e2 = .returned (Value.slice A3 n4 c5) ∧ (
    jnC (F93b.l3 Q) ((x2.1, x2.2), (A3, n4, c5), (x1A, x1n, x1c), (((x1n : Nat) : Int)), (0), ()) w1)
def F93b.an : Ann := ⟨[(3, [(2, .kG 94), (7, .kSl), (14, .kSl), (15, .kI .i64), (16, .kI .i64)])], []⟩
theorem F93b.of (x0A : Option Addr) (x0n x0c : Nat) (x1A : Option Addr) (x1n x1c : Nat) (x2 : Nat × Nat) (w : World) {Q : Value → World → Prop} (h : F93b.vc x0A x0n x0c x1A x1n x1c x2 w Q) : Calls Tryz.prog 93 #[Value.slice x0A x0n x0c, Value.slice x1A x1n x1c, Value.func (.func 94) #[] #[Value.pointer (some ⟨x2.1, x2.2, none⟩)]] w (fun e w' => ∃ v, e = .returned v ∧ Q v w') := vcFn_of (A := F93b.an) noCount mixed h (by kernel_rfl)
/-! ### function 94: stillage/writes.Survive$1 -/
def F94.k6c (Q : Value → World → Prop) (x4 : (Nat × Nat)) (x5 : (Nat × Nat)) (w : World) : Prop :=
  ldA 3 w x4.1 x4.2 fun a24 =>
  gd (a24.length == 3) <|
  st w x5.1 x5.2 a24 fun w25 =>
  ldA 3 w25 x5.1 x5.2 fun a26 =>
  Q (Value.tuple #[ofL a26, Value.bool true]) w25
def F94.k6 (Q : Value → World → Prop) : ((Nat × Nat) × (Nat × Nat) × Unit) → World → Prop := fun s w => ∀ _ : Nat → Value, F94.k6c Q s.1 s.2.1 w
def F94.k5c (Q : Value → World → Prop) (x4 : (Nat × Nat)) (x5 : (Nat × Nat)) (x7 : Int) (x38 : Bool) (w : World) : Prop :=
  vIf x38
  (ldSl w x4.1 (x4.2 + 2) fun A20 n21 c22 =>
    gd (decide (0 ≤ x7)) <|
    gd (decide (x7 ≤ ((c22 : Nat) : Int))) <|
    st w x4.1 (x4.2 + 2) [Value.slice (slA A20 c22 0 1) (x7).toNat c22] fun w23 =>
    jnC (F94.k6 Q) ((x4.1, x4.2), (x5.1, x5.2), ()) w23)
  (jnC (F94.k6 Q) ((x4.1, x4.2), (x5.1, x5.2), ()) w)
def F94.k5 (Q : Value → World → Prop) : ((Nat × Nat) × (Nat × Nat) × Int × Bool × Unit) → World → Prop := fun s w => ∀ _ : Nat → Value, F94.k5c Q s.1 s.2.1 s.2.2.1 s.2.2.2.1 w
def F94.k3c (Q : Value → World → Prop) (x0 : Int) (x2 : (Nat × Nat)) (x4 : (Nat × Nat)) (x5 : (Nat × Nat)) (w : World) : Prop :=
  ldSl w x2.1 x2.2 fun A11 n12 c13 =>
  dr A11 fun b14 o15 =>
  gd (decide (0 ≤ x0)) <|
  gd (decide (x0 < ((n12 : Nat) : Int))) <|
  ldI .u8 w b14 (o15 + (x0).toNat * 1) fun i16 =>
  vIf (decide ((IntKind.wrap .i64 i16) < 255))
  (ldSl w x4.1 (x4.2 + 2) fun A17 n18 c19 =>
    jnC (F94.k5 Q) ((x4.1, x4.2), (x5.1, x5.2), ((IntKind.wrap .i64 i16)), (decide ((IntKind.wrap .i64 i16) < ((n18 : Nat) : Int))), ()) w)
  (jnC (F94.k5 Q) ((x4.1, x4.2), (x5.1, x5.2), ((IntKind.wrap .i64 i16)), false, ()) w)
def F94.k3 (Q : Value → World → Prop) : (Int × (Nat × Nat) × (Nat × Nat) × (Nat × Nat) × Unit) → World → Prop := fun s w => ∀ _ : Nat → Value, F94.k3c Q s.1 s.2.1 s.2.2.1 s.2.2.2.1 w
def F94.k2c (Q : Value → World → Prop) (x0 : Int) (x2 : (Nat × Nat)) (x4 : (Nat × Nat)) (x5 : (Nat × Nat)) (x23 : Bool) (w : World) : Prop :=
  vIf x23
  (ldA 3 w x4.1 x4.2 fun a8 =>
    gd (a8.length == 3) <|
    st w x5.1 x5.2 a8 fun w9 =>
    ldA 3 w9 x5.1 x5.2 fun a10 =>
    Q (Value.tuple #[ofL a10, Value.bool false]) w9)
  (jnC (F94.k3 Q) ((x0), (x2.1, x2.2), (x4.1, x4.2), (x5.1, x5.2), ()) w)
def F94.k2 (Q : Value → World → Prop) : (Int × (Nat × Nat) × (Nat × Nat) × (Nat × Nat) × Bool × Unit) → World → Prop := fun s w => ∀ _ : Nat → Value, F94.k2c Q s.1 s.2.1 s.2.2.1 s.2.2.2.1 s.2.2.2.2.1 w
def F94.vc (x0 : Int) (x1 : List Value) (x2 : Nat × Nat) (w : World) (Q : Value → World → Prop) : Prop :=
  nw w x1 124 fun b1 w2 =>
  nw w2 [Value.bool false, Value.int .i64 0, Value.slice none 0 0] 124 fun b3 w4 =>
  ldSl w4 x2.1 x2.2 fun A5 n6 c7 =>
  vIf (decide (x0 ≥ ((n6 : Nat) : Int)))
  (jnC (F94.k2 Q) ((x0), (x2.1, x2.2), (b1, 0), (b3, 0), true, ()) w4)
  (ldSl w4 x2.1 x2.2 fun A27 n28 c29 =>
    dr A27 fun b30 o31 =>
    gd (decide (0 ≤ x0)) <|
    gd (decide (x0 < ((n28 : Nat) : Int))) <|
    ldI .u8 w4 b30 (o31 + (x0).toNat * 1) fun i32 =>
    vIf (i32 == 0)
    (jnC (F94.k2 Q) ((x0), (x2.1, x2.2), (b1, 0), (b3, 0), true, ()) w4)
    (ldA 3 w4 b1 0 fun a33 =>
      Calls Tryz.prog 95 #[ofL a33] w4 fun e35 w34 =>
      ∃ t36 : Bool, e35 = .returned (Value.bool t36) ∧ (
        jnC (F94.k2 Q) ((x0), (x2.1, x2.2), (b1, 0), (b3, 0), (!t36), ()) w34)))
def F94.an : Ann := ⟨[], [(2, [(0, .kI .i64), (2, .kL), (4, .kL), (5, .kL), (23, .kB)]), (3, [(0, .kI .i64), (2, .kL), (4, .kL), (5, .kL)]), (5, [(4, .kL), (5, .kL), (7, .kI .i64), (38, .kB)]), (6, [(4, .kL), (5, .kL)])]⟩
theorem F94.of (x0 : Int) (x1 : List Value) (x2 : Nat × Nat) (w : World) {Q : Value → World → Prop} (h : F94.vc x0 x1 x2 w Q) : Calls Tryz.prog 94 #[Value.int .i64 x0, ofL x1, Value.pointer (some ⟨x2.1, x2.2, none⟩)] w (fun e w' => ∃ v, e = .returned v ∧ Q v w') := vcFn_of (A := F94.an) noCount mixed h (by kernel_rfl)
/-! ### function 95: stillage/writes.Right -/
def F95.vc (x0 : List Value) (w : World) (Q : Value → World → Prop) : Prop :=
  nw w x0 124 fun b1 w2 =>
  ldI .i64 w2 b1 (0 + 1) fun i3 =>
  vIf (decide (i3 ≥ 0))
  (ldI .i64 w2 b1 (0 + 1) fun i4 =>
    ldSl w2 b1 (0 + 2) fun A5 n6 c7 =>
    Q (Value.bool (decide (i4 ≤ (IntKind.wrap .i64 (1048576 - ((n6 : Nat) : Int)))))) w2)
  (Q (Value.bool false) w2)
def F95.an : Ann := ⟨[], []⟩
theorem F95.of (x0 : List Value) (w : World) {Q : Value → World → Prop} (h : F95.vc x0 w Q) : Calls Tryz.prog 95 #[ofL x0] w (fun e w' => ∃ v, e = .returned v ∧ Q v w') := vcFn_of (A := F95.an) noCount mixed h (by kernel_rfl)
/-! ### function 96: stillage/folder.wrong -/
def F96.k13c (Q : Value → World → Prop) (x6 : Bool) (w : World) : Prop :=
  vIf (!x6)
  (Q (Value.int .i64 6) w)
  (Q (Value.int .i64 0) w)
def F96.k13 (Q : Value → World → Prop) : (Bool × Unit) → World → Prop := fun s w => ∀ _ : Nat → Value, F96.k13c Q s.1 w
def F96.vc (x0 : List Value) (x1 : List Value) (w : World) (Q : Value → World → Prop) : Prop :=
  nw w x0 64 fun b1 w2 =>
  nw w2 x1 82 fun b3 w4 =>
  ldA 2 w4 b1 0 fun a5 =>
  ldS w4 b3 (0 + 1) fun s6 =>
  Calls Tryz.prog 52 #[ofL a5, Value.string s6] w4 fun e8 w7 =>
  ∃ i9 : Int, ∃ t10 : Bool, e8 = .returned (Value.tuple #[Value.int .i64 i9, Value.bool t10]) ∧ (
    ldI .i64 w7 b3 0 fun i11 =>
    vIf (i11 == 1)
    (ldS w7 b3 (0 + 1) fun s12 =>
      Calls Tryz.prog 53 #[Value.string s12] w7 fun e14 w13 =>
      ∃ t15 : Bool, e14 = .returned (Value.bool t15) ∧ (
        vIf (!t15)
        (Q (Value.int .i64 12) w13)
        (vIf t10
          (Q (Value.int .i64 7) w13)
          (Q (Value.int .i64 0) w13))))
    (vIf (i11 == 2)
      (vIf t10
        (ldS w7 b3 (0 + 2) fun s16 =>
          Calls Tryz.prog 53 #[Value.string s16] w7 fun e18 w17 =>
          ∃ t19 : Bool, e18 = .returned (Value.bool t19) ∧ (
            vIf (!t19)
            (Q (Value.int .i64 12) w17)
            (jnC (F96.k13 Q) (t10, ()) w17)))
        (jnC (F96.k13 Q) (t10, ()) w7))
      (vIf (i11 == 3)
        (jnC (F96.k13 Q) (t10, ()) w7)
        (Q (Value.int .i64 2) w7))))
def F96.an : Ann := ⟨[], [(13, [(6, .kB)])]⟩
theorem F96.of (x0 : List Value) (x1 : List Value) (w : World) {Q : Value → World → Prop} (h : F96.vc x0 x1 w Q) : Calls Tryz.prog 96 #[ofL x0, ofL x1] w (fun e w' => ∃ v, e = .returned v ∧ Q v w') := vcFn_of (A := F96.an) noCount mixed h (by kernel_rfl)
/-! ### function 97: slices.Clone[[]stillage/api.Change,stillage/api.Change] -/
def F97.vc (x0A : Option Addr) (x0n x0c : Nat) (w : World) (Q : Value → World → Prop) : Prop :=
  vIf x0A.isNone
  (Q (Value.slice none 0 0) w)
  (nw w [] 82 fun b1 w2 =>
    app w2 4 48 Z82 82 (some ⟨b1, 0, none⟩) 0 0 (Value.slice x0A x0n x0c) fun A3 n4 c5 w6 =>
    Q (Value.slice A3 n4 c5) w6)
def F97.an : Ann := ⟨[], []⟩
theorem F97.of (x0A : Option Addr) (x0n x0c : Nat) (w : World) {Q : Value → World → Prop} (h : F97.vc x0A x0n x0c w Q) : Calls Tryz.prog 97 #[Value.slice x0A x0n x0c] w (fun e w' => ∃ v, e = .returned v ∧ Q v w') := vcFn_of (A := F97.an) noCount mixed h (by kernel_rfl)
/-! ### function 98: stillage/writes.Peak -/
def F98.k5c (Q : Value → World → Prop) (C2 : (Int × (Option Addr × Nat × Nat) × Int × Int × Unit) → World → Prop) (x0 : Int) (x6 : (Nat × Nat)) (x7 : (Option Addr × Nat × Nat)) (x8 : Int) (x9 : Int) (x25 : Bool) (w : World) : Prop :=
  vIf x25
  (ldI .i64 w x6.1 (x6.2 + 1) fun i15 =>
    ldSl w x6.1 (x6.2 + 2) fun A16 n17 c18 =>
    jnC C2 (((if x0 < (IntKind.wrap .i64 (i15 + ((n17 : Nat) : Int))) then (IntKind.wrap .i64 (i15 + ((n17 : Nat) : Int))) else x0)), (x7.1, x7.2.1, x7.2.2), (x8), ((IntKind.wrap .i64 (x9 + 1))), ()) w)
  (jnC C2 ((x0), (x7.1, x7.2.1, x7.2.2), (x8), ((IntKind.wrap .i64 (x9 + 1))), ()) w)
def F98.k5 (Q : Value → World → Prop) (C2 : (Int × (Option Addr × Nat × Nat) × Int × Int × Unit) → World → Prop) : (Int × (Nat × Nat) × (Option Addr × Nat × Nat) × Int × Int × Bool × Unit) → World → Prop := fun s w => ∀ _ : Nat → Value, F98.k5c Q C2 s.1 s.2.1 s.2.2.1 s.2.2.2.1 s.2.2.2.2.1 s.2.2.2.2.2.1 w
def F98.b2c (Q : Value → World → Prop) (C2 : (Int × (Option Addr × Nat × Nat) × Int × Int × Unit) → World → Prop) (x0 : Int) (x7 : (Option Addr × Nat × Nat)) (x8 : Int) (x9 : Int) (w : World) : Prop :=
  vIf (decide (x9 < x8))
  (dr x7.1 fun b1 o2 =>
    gd (decide (0 ≤ x9)) <|
    gd (decide (x9 < ((x7.2.1 : Nat) : Int))) <|
    ldA 3 w b1 (o2 + (x9).toNat * 3) fun a3 =>
    nw w [Value.bool false, Value.int .i64 0, Value.slice none 0 0] 124 fun b4 w5 =>
    gd (a3.length == 3) <|
    st w5 b4 0 a3 fun w6 =>
    ldA 3 w6 b4 0 fun a7 =>
    Calls Tryz.prog 95 #[ofL a7] w6 fun e9 w8 =>
    ∃ t10 : Bool, e9 = .returned (Value.bool t10) ∧ (
      vIf t10
      (ldB w8 b4 0 fun t11 =>
        vIf (!t11)
        (ldSl w8 b4 (0 + 2) fun A12 n13 c14 =>
          jnC (F98.k5 Q C2) ((x0), (b4, 0), (x7.1, x7.2.1, x7.2.2), (x8), (x9), (decide (((n13 : Nat) : Int) > 0)), ()) w8)
        (jnC (F98.k5 Q C2) ((x0), (b4, 0), (x7.1, x7.2.1, x7.2.2), (x8), (x9), false, ()) w8))
      (jnC (F98.k5 Q C2) ((x0), (b4, 0), (x7.1, x7.2.1, x7.2.2), (x8), (x9), false, ()) w8)))
  (Q (Value.int .i64 x0) w)
def F98.b2 (Q : Value → World → Prop) : (Int × (Option Addr × Nat × Nat) × Int × Int × Unit) → World → ((Int × (Option Addr × Nat × Nat) × Int × Int × Unit) → World → Prop) → Prop := fun s w C2 => ∀ _ : Nat → Value, F98.b2c Q C2 s.1 s.2.1 s.2.2.1 s.2.2.2.1 w
def F98.l2 (Q : Value → World → Prop) : (Int × (Option Addr × Nat × Nat) × Int × Int × Unit) → World → Prop := fun s w => ∃ n, loopC (F98.b2 Q) n s w
def F98.vc (x0 : Int) (x1A : Option Addr) (x1n x1c : Nat) (w : World) (Q : Value → World → Prop) : Prop :=
  jnC (F98.l2 Q) ((x0), (x1A, x1n, x1c), (((x1n : Nat) : Int)), (0), ()) w
def F98.an : Ann := ⟨[(2, [(0, .kI .i64), (7, .kSl), (8, .kI .i64), (9, .kI .i64)])], [(5, [(0, .kI .i64), (6, .kL), (7, .kSl), (8, .kI .i64), (9, .kI .i64), (25, .kB)])]⟩
theorem F98.of (x0 : Int) (x1A : Option Addr) (x1n x1c : Nat) (w : World) {Q : Value → World → Prop} (h : F98.vc x0 x1A x1n x1c w Q) : Calls Tryz.prog 98 #[Value.int .i64 x0, Value.slice x1A x1n x1c] w (fun e w' => ∃ v, e = .returned v ∧ Q v w') := vcFn_of (A := F98.an) noCount mixed h (by kernel_rfl)
end Go.Proofs.YtfdhaeglhkmmpaaGreat
/- PRINTED BY MY OWN gen.py out of the translation: each function as a proposition. -/
namespace Go.Proofs.YtfdhaeglhkmmpaaGreat
open Go.GV
set_option linter.unusedVariables false
set_option maxRecDepth 100000
/-! ### function 99: slices.Concat[[]stillage/api.Write,stillage/api.Write] -/
def F99.b11c (Q : Value → World → Prop) (C11 : ((Option Addr × Nat × Nat) × (Option Addr × Nat × Nat) × Int × Int × Unit) → World → Prop) (x6 : (Option Addr × Nat × Nat)) (x25 : (Option Addr × Nat × Nat)) (x26 : Int) (x27 : Int) (w : World) : Prop :=
  vIf (decide (x27 < x26))
  (dr x25.1 fun b11 o12 =>
    gd (decide (0 ≤ x27)) <|
    gd (decide (x27 < ((x25.2.1 : Nat) : Int))) <|
    ldSl w b11 (o12 + (x27).toNat * 1) fun A13 n14 c15 =>
    app w 3 40 [Value.bool false, Value.int .i64 0, Value.slice none 0 0] 124 x6.1 x6.2.1 x6.2.2 (Value.slice A13 n14 c15) fun A16 n17 c18 w19 =>
    jnC C11 ((A16, n17, c18), (x25.1, x25.2.1, x25.2.2), (x26), ((IntKind.wrap .i64 (x27 + 1))), ()) w19)
  (Q (Value.slice x6.1 x6.2.1 x6.2.2) w)
def F99.b11 (Q : Value → World → Prop) : ((Option Addr × Nat × Nat) × (Option Addr × Nat × Nat) × Int × Int × Unit) → World → (((Option Addr × Nat × Nat) × (Option Addr × Nat × Nat) × Int × Int × Unit) → World → Prop) → Prop := fun s w C11 => ∀ _ : Nat → Value, F99.b11c Q C11 s.1 s.2.1 s.2.2.1 s.2.2.2.1 w
def F99.l11 (Q : Value → World → Prop) : ((Option Addr × Nat × Nat) × (Option Addr × Nat × Nat) × Int × Int × Unit) → World → Prop := fun s w => ∃ n, loopC (F99.b11 Q) n s w
def F99.b3c (Q : Value → World → Prop) (C3 : ((Option Addr × Nat × Nat) × Int × (Option Addr × Nat × Nat) × Int × Int × Unit) → World → Prop) (x0 : (Option Addr × Nat × Nat)) (x3 : Int) (x9 : (Option Addr × Nat × Nat)) (x10 : Int) (x11 : Int) (w : World) : Prop :=
  vIf (decide (x11 < x10))
  (dr x9.1 fun b1 o2 =>
    gd (decide (0 ≤ x11)) <|
    gd (decide (x11 < ((x9.2.1 : Nat) : Int))) <|
    ldSl w b1 (o2 + (x11).toNat * 1) fun A3 n4 c5 =>
    vIf (decide ((IntKind.wrap .i64 (x3 + ((n4 : Nat) : Int))) < 0))
    (False)
    (jnC C3 ((x0.1, x0.2.1, x0.2.2), ((IntKind.wrap .i64 (x3 + ((n4 : Nat) : Int)))), (x9.1, x9.2.1, x9.2.2), (x10), ((IntKind.wrap .i64 (x11 + 1))), ()) w))
  (Calls Tryz.prog 131 #[Value.slice none 0 0, Value.int .i64 x3] w fun e7 w6 =>
    ∃ (A8 : Option Addr) (n9 c10 : Nat), e7 = .returned (Value.slice A8 n9 c10) ∧ (
      jnC (F99.l11 Q) ((A8, n9, c10), (x0.1, x0.2.1, x0.2.2), (((x0.2.1 : Nat) : Int)), (0), ()) w6))
def F99.b3 (Q : Value → World → Prop) : ((Option Addr × Nat × Nat) × Int × (Option Addr × Nat × Nat) × Int × Int × Unit) → World → (((Option Addr × Nat × Nat) × Int × (Option Addr × Nat × Nat) × Int × Int × Unit) → World → Prop) → Prop := fun s w C3 => ∀ _ : Nat → Value, F99.b3c Q C3 s.1 s.2.1 s.2.2.1 s.2.2.2.1 s.2.2.2.2.1 w
def F99.l3 (Q : Value → World → Prop) : ((Option Addr × Nat × Nat) × Int × (Option Addr × Nat × Nat) × Int × Int × Unit) → World → Prop := fun s w => ∃ n, loopC (F99.b3 Q) n s w
def F99.vc (x0A : Option Addr) (x0n x0c : Nat) (w : World) (Q : Value → World → Prop) : Prop :=
  jnC (F99.l3 Q) ((x0A, x0n, x0c), (0), (x0A, x0n, x0c), (((x0n : Nat) : Int)), (0), ()) w
def F99.an : Ann := ⟨[(3, [(0, .kSl), (3, .kI .i64), (9, .kSl), (10, .kI .i64), (11, .kI .i64)]), (11, [(6, .kSl), (25, .kSl), (26, .kI .i64), (27, .kI .i64)])], []⟩
theorem F99.of (x0A : Option Addr) (x0n x0c : Nat) (w : World) {Q : Value → World → Prop} (h : F99.vc x0A x0n x0c w Q) : Calls Tryz.prog 99 #[Value.slice x0A x0n x0c] w (fun e w' => ∃ v, e = .returned v ∧ Q v w') := vcFn_of (A := F99.an) noCount mixed h (by kernel_rfl)
/-! ### function 100: stillage/writes.All$1 -/
def F100.vc (x0 : Int) (x1 : List Value) (w : World) (Q : Value → World → Prop) : Prop :=
  nw w x1 124 fun b1 w2 =>
  nw w2 [Value.bool false, Value.int .i64 0, Value.slice none 0 0] 124 fun b3 w4 =>
  ldA 3 w4 b1 0 fun a5 =>
  gd (a5.length == 3) <|
  st w4 b3 0 a5 fun w6 =>
  ldA 3 w6 b3 0 fun a7 =>
  Q (Value.tuple #[ofL a7, Value.bool true]) w6
def F100.an : Ann := ⟨[], []⟩
theorem F100.of (x0 : Int) (x1 : List Value) (w : World) {Q : Value → World → Prop} (h : F100.vc x0 x1 w Q) : Calls Tryz.prog 100 #[Value.int .i64 x0, ofL x1] w (fun e w' => ∃ v, e = .returned v ∧ Q v w') := vcFn_of (A := F100.an) noCount mixed h (by kernel_rfl)
/-! ### function 101: strings.Compare -/
def F101.vc (x0 : ByteArray) (x1 : ByteArray) (w : World) (Q : Value → World → Prop) : Prop :=
  Calls Tryz.prog 132 #[Value.string x0, Value.string x1] w fun e2 w1 =>
  ∃ i3 : Int, e2 = .returned (Value.int .i64 i3) ∧ (
    Q (Value.int .i64 i3) w1)
def F101.an : Ann := ⟨[], []⟩
theorem F101.of (x0 : ByteArray) (x1 : ByteArray) (w : World) {Q : Value → World → Prop} (h : F101.vc x0 x1 w Q) : Calls Tryz.prog 101 #[Value.string x0, Value.string x1] w (fun e w' => ∃ v, e = .returned v ∧ Q v w') := vcFn_of (A := F101.an) noCount mixed h (by kernel_rfl)
/-! ### function 112: slices.Clone[[]stillage/api.Named,stillage/api.Named] -/
def F112.vc (x0A : Option Addr) (x0n x0c : Nat) (w : World) (Q : Value → World → Prop) : Prop :=
  vIf x0A.isNone
  (Q (Value.slice none 0 0) w)
  (nw w [] 94 fun b1 w2 =>
    app w2 2 24 [Value.string (⟨#[]⟩ : ByteArray), Value.int .i64 0] 94 (some ⟨b1, 0, none⟩) 0 0 (Value.slice x0A x0n x0c) fun A3 n4 c5 w6 =>
    Q (Value.slice A3 n4 c5) w6)
def F112.an : Ann := ⟨[], []⟩
theorem F112.of (x0A : Option Addr) (x0n x0c : Nat) (w : World) {Q : Value → World → Prop} (h : F112.vc x0A x0n x0c w Q) : Calls Tryz.prog 112 #[Value.slice x0A x0n x0c] w (fun e w' => ∃ v, e = .returned v ∧ Q v w') := vcFn_of (A := F112.an) noCount mixed h (by kernel_rfl)
/-! ### function 113: slices.SortStableFunc[[]stillage/api.Named,stillage/api.Named] -/
def F113s.vc (x0A : Option Addr) (x0n x0c : Nat) (w : World) (Q : Value → World → Prop) : Prop :=
  Calls Tryz.prog 136 #[Value.slice x0A x0n x0c, Value.int .i64 ((x0n : Nat) : Int), Value.func (.func 114) #[] #[]] w fun e2 w1 =>
  e2 = .returned (Value.tuple #[]) ∧ (
    Q (Value.tuple #[]) w1)
def F113s.an : Ann := ⟨[], []⟩
theorem F113s.of (x0A : Option Addr) (x0n x0c : Nat) (w : World) {Q : Value → World → Prop} (h : F113s.vc x0A x0n x0c w Q) : Calls Tryz.prog 113 #[Value.slice x0A x0n x0c, Value.func (.func 114) #[] #[]] w (fun e w' => ∃ v, e = .returned v ∧ Q v w') := vcFn_of (A := F113s.an) noCount mixed h (by kernel_rfl)
/-! ### function 114: stillage/folder.lasts$1 -/
def F114.vc (x0 : List Value) (x1 : List Value) (w : World) (Q : Value → World → Prop) : Prop :=
  nw w x0 94 fun b1 w2 =>
  nw w2 x1 94 fun b3 w4 =>
  ldS w4 b1 0 fun s5 =>
  ldS w4 b3 0 fun s6 =>
  Calls Tryz.prog 101 #[Value.string s5, Value.string s6] w4 fun e8 w7 =>
  ∃ i9 : Int, e8 = .returned (Value.int .i64 i9) ∧ (
    Q (Value.int .i64 i9) w7)
def F114.an : Ann := ⟨[], []⟩
theorem F114.of (x0 : List Value) (x1 : List Value) (w : World) {Q : Value → World → Prop} (h : F114.vc x0 x1 w Q) : Calls Tryz.prog 114 #[ofL x0, ofL x1] w (fun e w' => ∃ v, e = .returned v ∧ Q v w') := vcFn_of (A := F114.an) noCount mixed h (by kernel_rfl)
/-! ### function 115: slices.CompactFunc[[]stillage/api.Named,stillage/api.Named] -/
def F115s.k15c (Q : Value → World → Prop) (C4 : ((Option Addr × Nat × Nat) × Unit × Int × Unit) → World → Prop) (x0 : (Option Addr × Nat × Nat)) (x5 : Int) (w : World) : Prop :=
  gd (decide (0 ≤ x5)) <|
  gd (decide (x5 ≤ ((x0.2.2 : Nat) : Int))) <|
  Q (Value.slice (slA x0.1 x0.2.2 0 2) (x5).toNat x0.2.2) w
def F115s.k15 (Q : Value → World → Prop) (C4 : ((Option Addr × Nat × Nat) × Unit × Int × Unit) → World → Prop) : ((Option Addr × Nat × Nat) × Int × Unit) → World → Prop := fun s w => ∀ _ : Nat → Value, F115s.k15c Q C4 s.1 s.2.1 w
def F115s.b9c (Q : Value → World → Prop) (C4 : ((Option Addr × Nat × Nat) × Unit × Int × Unit) → World → Prop) (C9 : ((Option Addr × Nat × Nat) × Unit × Int × (Option Addr × Nat × Nat) × Int × Unit) → World → Prop) (x0 : (Option Addr × Nat × Nat)) (x1 : Unit) (x5 : Int) (x6 : (Option Addr × Nat × Nat)) (x7 : Int) (w : World) : Prop :=
  vIf (decide (x7 < ((x6.2.1 : Nat) : Int)))
  (dr x6.1 fun b10 o11 =>
    gd (decide (0 ≤ x7)) <|
    gd (decide (x7 < ((x6.2.1 : Nat) : Int))) <|
    ldA 2 w.drew b10 (o11 + (x7).toNat * 2) fun a12 =>
    dr x6.1 fun b13 o14 =>
    gd (decide (0 ≤ (IntKind.wrap .i64 (x7 - 1)))) <|
    gd (decide ((IntKind.wrap .i64 (x7 - 1)) < ((x6.2.1 : Nat) : Int))) <|
    ldA 2 w.drew b13 (o14 + ((IntKind.wrap .i64 (x7 - 1))).toNat * 2) fun a15 =>
    Calls Tryz.prog 116 #[ofL a12, ofL a15] w.drew fun e17 w16 =>
    ∃ t18 : Bool, e17 = .returned (Value.bool t18) ∧ (
      vIf (!t18)
      (dr x6.1 fun b19 o20 =>
        gd (decide (0 ≤ x7)) <|
        gd (decide (x7 < ((x6.2.1 : Nat) : Int))) <|
        ldA 2 w16 b19 (o20 + (x7).toNat * 2) fun a21 =>
        dr x0.1 fun b22 o23 =>
        gd (decide (0 ≤ x5)) <|
        gd (decide (x5 < ((x0.2.1 : Nat) : Int))) <|
        gd (a21.length == 2) <|
        st w16 b22 (o23 + (x5).toNat * 2) a21 fun w24 =>
        jnC C9 ((x0.1, x0.2.1, x0.2.2), (), ((IntKind.wrap .i64 (x5 + 1))), (x6.1, x6.2.1, x6.2.2), ((IntKind.wrap .i64 (x7 + 1))), ()) w24)
      (jnC C9 ((x0.1, x0.2.1, x0.2.2), (), (x5), (x6.1, x6.2.1, x6.2.2), ((IntKind.wrap .i64 (x7 + 1))), ()) w16)))
  (gd (decide (0 ≤ x5)) <|
    gd (decide (x5 ≤ ((x0.2.1 : Nat) : Int))) <|
    vIf ((x0.2.1 - (x5).toNat) == 0)
    (jnC (F115s.k15 Q C4) ((x0.1, x0.2.1, x0.2.2), (x5), ()) w)
    (dr (slA x0.1 x0.2.2 (x5).toNat 2) fun b26 o27 =>
      st w b26 o27 (zeros (x0.2.1 - (x5).toNat) [Value.string (⟨#[]⟩ : ByteArray), Value.int .i64 0]) fun w25 =>
      jnC (F115s.k15 Q C4) ((x0.1, x0.2.1, x0.2.2), (x5), ()) w25))
def F115s.b9 (Q : Value → World → Prop) (C4 : ((Option Addr × Nat × Nat) × Unit × Int × Unit) → World → Prop) : ((Option Addr × Nat × Nat) × Unit × Int × (Option Addr × Nat × Nat) × Int × Unit) → World → (((Option Addr × Nat × Nat) × Unit × Int × (Option Addr × Nat × Nat) × Int × Unit) → World → Prop) → Prop := fun s w C9 => ∀ _ : Nat → Value, F115s.b9c Q C4 C9 s.1 s.2.1 s.2.2.1 s.2.2.2.1 s.2.2.2.2.1 w
def F115s.l9 (Q : Value → World → Prop) (C4 : ((Option Addr × Nat × Nat) × Unit × Int × Unit) → World → Prop) : ((Option Addr × Nat × Nat) × Unit × Int × (Option Addr × Nat × Nat) × Int × Unit) → World → Prop := fun s w => ∃ n, loopC (F115s.b9 Q C4) n s w
def F115s.b4c (Q : Value → World → Prop) (C4 : ((Option Addr × Nat × Nat) × Unit × Int × Unit) → World → Prop) (x0 : (Option Addr × Nat × Nat)) (x1 : Unit) (x5 : Int) (w : World) : Prop :=
  vIf (decide (x5 < ((x0.2.1 : Nat) : Int)))
  (dr x0.1 fun b1 o2 =>
    gd (decide (0 ≤ x5)) <|
    gd (decide (x5 < ((x0.2.1 : Nat) : Int))) <|
    ldA 2 w.drew b1 (o2 + (x5).toNat * 2) fun a3 =>
    dr x0.1 fun b4 o5 =>
    gd (decide (0 ≤ (IntKind.wrap .i64 (x5 - 1)))) <|
    gd (decide ((IntKind.wrap .i64 (x5 - 1)) < ((x0.2.1 : Nat) : Int))) <|
    ldA 2 w.drew b4 (o5 + ((IntKind.wrap .i64 (x5 - 1))).toNat * 2) fun a6 =>
    Calls Tryz.prog 116 #[ofL a3, ofL a6] w.drew fun e8 w7 =>
    ∃ t9 : Bool, e8 = .returned (Value.bool t9) ∧ (
      vIf t9
      (gd (decide (0 ≤ x5)) <|
        gd (decide (x5 ≤ ((x0.2.1 : Nat) : Int))) <|
        jnC (F115s.l9 Q C4) ((x0.1, x0.2.1, x0.2.2), (), (x5), ((slA x0.1 x0.2.2 (x5).toNat 2), (x0.2.1 - (x5).toNat), (x0.2.2 - (x5).toNat)), (1), ()) w7)
      (jnC C4 ((x0.1, x0.2.1, x0.2.2), (), ((IntKind.wrap .i64 (x5 + 1))), ()) w7)))
  (Q (Value.slice x0.1 x0.2.1 x0.2.2) w)
def F115s.b4 (Q : Value → World → Prop) : ((Option Addr × Nat × Nat) × Unit × Int × Unit) → World → (((Option Addr × Nat × Nat) × Unit × Int × Unit) → World → Prop) → Prop := fun s w C4 => ∀ _ : Nat → Value, F115s.b4c Q C4 s.1 s.2.1 s.2.2.1 w
def F115s.l4 (Q : Value → World → Prop) : ((Option Addr × Nat × Nat) × Unit × Int × Unit) → World → Prop := fun s w => ∃ n, loopC (F115s.b4 Q) n s w
def F115s.vc (x0A : Option Addr) (x0n x0c : Nat) (w : World) (Q : Value → World → Prop) : Prop :=
  vIf (decide (((x0n : Nat) : Int) < 2))
  (Q (Value.slice x0A x0n x0c) w)
  (jnC (F115s.l4 Q) ((x0A, x0n, x0c), (), (1), ()) w)
def F115s.an : Ann := ⟨[(4, [(0, .kSl), (1, .kF 116), (5, .kI .i64)]), (9, [(0, .kSl), (1, .kF 116), (5, .kI .i64), (6, .kSl), (7, .kI .i64)])], [(15, [(0, .kSl), (5, .kI .i64)])]⟩
theorem F115s.of (x0A : Option Addr) (x0n x0c : Nat) (w : World) {Q : Value → World → Prop} (h : F115s.vc x0A x0n x0c w Q) : Calls Tryz.prog 115 #[Value.slice x0A x0n x0c, Value.func (.func 116) #[] #[]] w (fun e w' => ∃ v, e = .returned v ∧ Q v w') := vcFn_of (A := F115s.an) noCount mixed h (by kernel_rfl)
/-! ### function 116: stillage/folder.lasts$2 -/
def F116.vc (x0 : List Value) (x1 : List Value) (w : World) (Q : Value → World → Prop) : Prop :=
  nw w x0 94 fun b1 w2 =>
  nw w2 x1 94 fun b3 w4 =>
  ldS w4 b1 0 fun s5 =>
  ldS w4 b3 0 fun s6 =>
  Q (Value.bool (s5.toList == s6.toList)) w4
def F116.an : Ann := ⟨[], []⟩
theorem F116.of (x0 : List Value) (x1 : List Value) (w : World) {Q : Value → World → Prop} (h : F116.vc x0 x1 w Q) : Calls Tryz.prog 116 #[ofL x0, ofL x1] w (fun e w' => ∃ v, e = .returned v ∧ Q v w') := vcFn_of (A := F116.an) noCount mixed h (by kernel_rfl)
/-! ### function 117: stillage/folder.set -/
def F117.vc (x0A : Option Addr) (x0n x0c : Nat) (x1 : ByteArray) (x2 : Int) (w : World) (Q : Value → World → Prop) : Prop :=
  Calls Tryz.prog 78 #[Value.slice x0A x0n x0c, Value.string x1, Value.func (.func 79) #[] #[]] w fun e2 w1 =>
  ∃ i3 : Int, ∃ t4 : Bool, e2 = .returned (Value.tuple #[Value.int .i64 i3, Value.bool t4]) ∧ (
    vIf t4
    (dr x0A fun b5 o6 =>
      gd (decide (0 ≤ i3)) <|
      gd (decide (i3 < ((x0n : Nat) : Int))) <|
      st w1 b5 ((o6 + (i3).toNat * 2) + 1) [Value.int .i64 x2] fun w7 =>
      Q (Value.slice x0A x0n x0c) w7)
    (gd (([Value.string x1] ++ ([Value.int .i64 x2] ++ [])).length == 2) <|
      nw w1 (([Value.string x1] ++ ([Value.int .i64 x2] ++ [])) ++ []) 94 fun b8 w9 =>
      Calls Tryz.prog 137 #[Value.slice x0A x0n x0c, Value.int .i64 i3, Value.slice (some ⟨b8, 0, none⟩) 1 1] w9 fun e11 w10 =>
      ∃ (A12 : Option Addr) (n13 c14 : Nat), e11 = .returned (Value.slice A12 n13 c14) ∧ (
        Q (Value.slice A12 n13 c14) w10)))
def F117.an : Ann := ⟨[], []⟩
theorem F117.of (x0A : Option Addr) (x0n x0c : Nat) (x1 : ByteArray) (x2 : Int) (w : World) {Q : Value → World → Prop} (h : F117.vc x0A x0n x0c x1 x2 w Q) : Calls Tryz.prog 117 #[Value.slice x0A x0n x0c, Value.string x1, Value.int .i64 x2] w (fun e w' => ∃ v, e = .returned v ∧ Q v w') := vcFn_of (A := F117.an) noCount mixed h (by kernel_rfl)
/-! ### function 118: stillage/folder.cut -/
def F118.vc (x0A : Option Addr) (x0n x0c : Nat) (x1 : ByteArray) (w : World) (Q : Value → World → Prop) : Prop :=
  Calls Tryz.prog 78 #[Value.slice x0A x0n x0c, Value.string x1, Value.func (.func 79) #[] #[]] w fun e2 w1 =>
  ∃ i3 : Int, ∃ t4 : Bool, e2 = .returned (Value.tuple #[Value.int .i64 i3, Value.bool t4]) ∧ (
    vIf (!t4)
    (Q (Value.tuple #[Value.slice x0A x0n x0c, Value.int .i64 0, Value.bool false]) w1)
    (dr x0A fun b5 o6 =>
      gd (decide (0 ≤ i3)) <|
      gd (decide (i3 < ((x0n : Nat) : Int))) <|
      ldI .i64 w1 b5 ((o6 + (i3).toNat * 2) + 1) fun i7 =>
      Calls Tryz.prog 138 #[Value.slice x0A x0n x0c, Value.int .i64 i3, Value.int .i64 (IntKind.wrap .i64 (i3 + 1))] w1 fun e9 w8 =>
      ∃ (A10 : Option Addr) (n11 c12 : Nat), e9 = .returned (Value.slice A10 n11 c12) ∧ (
        Q (Value.tuple #[Value.slice A10 n11 c12, Value.int .i64 i7, Value.bool true]) w8)))
def F118.an : Ann := ⟨[], []⟩
theorem F118.of (x0A : Option Addr) (x0n x0c : Nat) (x1 : ByteArray) (w : World) {Q : Value → World → Prop} (h : F118.vc x0A x0n x0c x1 w Q) : Calls Tryz.prog 118 #[Value.slice x0A x0n x0c, Value.string x1] w (fun e w' => ∃ v, e = .returned v ∧ Q v w') := vcFn_of (A := F118.an) noCount mixed h (by kernel_rfl)
end Go.Proofs.YtfdhaeglhkmmpaaGreat
/- PRINTED BY MY OWN gen.py out of the translation: each function as a proposition. -/
namespace Go.Proofs.YtfdhaeglhkmmpaaGreat
open Go.GV
set_option linter.unusedVariables false
set_option maxRecDepth 100000
/-! ### function 130: stillage/writes.Apply -/
def F130.k5c (Q : Value → World → Prop) (x0 : (Option Addr × Nat × Nat)) (x3 : (Nat × Nat)) (w : World) : Prop :=
  ldI .i64 w x3.1 (x3.2 + 1) fun i19 =>
  ldSl w x3.1 (x3.2 + 2) fun A20 n21 c22 =>
  gd (decide (0 ≤ (if ((x0.2.1 : Nat) : Int) < (IntKind.wrap .i64 (i19 + ((n21 : Nat) : Int))) then (IntKind.wrap .i64 (i19 + ((n21 : Nat) : Int))) else ((x0.2.1 : Nat) : Int)))) <|
  gd (decide ((if ((x0.2.1 : Nat) : Int) < (IntKind.wrap .i64 (i19 + ((n21 : Nat) : Int))) then (IntKind.wrap .i64 (i19 + ((n21 : Nat) : Int))) else ((x0.2.1 : Nat) : Int)) ≤ (if ((x0.2.1 : Nat) : Int) < (IntKind.wrap .i64 (i19 + ((n21 : Nat) : Int))) then (IntKind.wrap .i64 (i19 + ((n21 : Nat) : Int))) else ((x0.2.1 : Nat) : Int)))) <|
  gd (decide ((if ((x0.2.1 : Nat) : Int) < (IntKind.wrap .i64 (i19 + ((n21 : Nat) : Int))) then (IntKind.wrap .i64 (i19 + ((n21 : Nat) : Int))) else ((x0.2.1 : Nat) : Int)) * 1 ≤ 281474976710656 ∧ (if ((x0.2.1 : Nat) : Int) < (IntKind.wrap .i64 (i19 + ((n21 : Nat) : Int))) then (IntKind.wrap .i64 (i19 + ((n21 : Nat) : Int))) else ((x0.2.1 : Nat) : Int)) ≤ 9223372036854775807)) <|
  nw w (zeros ((if ((x0.2.1 : Nat) : Int) < (IntKind.wrap .i64 (i19 + ((n21 : Nat) : Int))) then (IntKind.wrap .i64 (i19 + ((n21 : Nat) : Int))) else ((x0.2.1 : Nat) : Int))).toNat [Value.int .u8 0]) 5 fun b23 w24 =>
  cpy w24 1 (some ⟨b23, 0, none⟩) (((if ((x0.2.1 : Nat) : Int) < (IntKind.wrap .i64 (i19 + ((n21 : Nat) : Int))) then (IntKind.wrap .i64 (i19 + ((n21 : Nat) : Int))) else ((x0.2.1 : Nat) : Int))).toNat) (Value.slice x0.1 x0.2.1 x0.2.2) fun n25 w26 =>
  ldI .i64 w26.drew x3.1 (x3.2 + 1) fun i27 =>
  gd (decide (0 ≤ i27)) <|
  gd (decide (i27 ≤ ((((if ((x0.2.1 : Nat) : Int) < (IntKind.wrap .i64 (i19 + ((n21 : Nat) : Int))) then (IntKind.wrap .i64 (i19 + ((n21 : Nat) : Int))) else ((x0.2.1 : Nat) : Int))).toNat : Nat) : Int))) <|
  ldSl w26.drew x3.1 (x3.2 + 2) fun A28 n29 c30 =>
  cpy w26.drew 1 (slA (some ⟨b23, 0, none⟩) ((if ((x0.2.1 : Nat) : Int) < (IntKind.wrap .i64 (i19 + ((n21 : Nat) : Int))) then (IntKind.wrap .i64 (i19 + ((n21 : Nat) : Int))) else ((x0.2.1 : Nat) : Int))).toNat (i27).toNat 1) (((if ((x0.2.1 : Nat) : Int) < (IntKind.wrap .i64 (i19 + ((n21 : Nat) : Int))) then (IntKind.wrap .i64 (i19 + ((n21 : Nat) : Int))) else ((x0.2.1 : Nat) : Int))).toNat - (i27).toNat) (Value.slice A28 n29 c30) fun n31 w32 =>
  Q (Value.slice (some ⟨b23, 0, none⟩) ((if ((x0.2.1 : Nat) : Int) < (IntKind.wrap .i64 (i19 + ((n21 : Nat) : Int))) then (IntKind.wrap .i64 (i19 + ((n21 : Nat) : Int))) else ((x0.2.1 : Nat) : Int))).toNat ((if ((x0.2.1 : Nat) : Int) < (IntKind.wrap .i64 (i19 + ((n21 : Nat) : Int))) then (IntKind.wrap .i64 (i19 + ((n21 : Nat) : Int))) else ((x0.2.1 : Nat) : Int))).toNat) w32
def F130.k5 (Q : Value → World → Prop) : ((Option Addr × Nat × Nat) × (Nat × Nat) × Unit) → World → Prop := fun s w => ∀ _ : Nat → Value, F130.k5c Q s.1 s.2.1 w
def F130.k2c (Q : Value → World → Prop) (x0 : (Option Addr × Nat × Nat)) (x3 : (Nat × Nat)) (x6 : Bool) (w : World) : Prop :=
  vIf x6
  (Calls Tryz.prog 73 #[Value.slice x0.1 x0.2.1 x0.2.2] w fun e8 w7 =>
    ∃ (A9 : Option Addr) (n10 c11 : Nat), e8 = .returned (Value.slice A9 n10 c11) ∧ (
      Q (Value.slice A9 n10 c11) w7))
  (ldB w x3.1 x3.2 fun t12 =>
    vIf t12
    (ldI .i64 w x3.1 (x3.2 + 1) fun i13 =>
      gd (decide (0 ≤ (if ((x0.2.1 : Nat) : Int) < i13 then ((x0.2.1 : Nat) : Int) else i13))) <|
      gd (decide ((if ((x0.2.1 : Nat) : Int) < i13 then ((x0.2.1 : Nat) : Int) else i13) ≤ ((x0.2.2 : Nat) : Int))) <|
      Calls Tryz.prog 73 #[Value.slice (slA x0.1 x0.2.2 0 1) ((if ((x0.2.1 : Nat) : Int) < i13 then ((x0.2.1 : Nat) : Int) else i13)).toNat x0.2.2] w fun e15 w14 =>
      ∃ (A16 : Option Addr) (n17 c18 : Nat), e15 = .returned (Value.slice A16 n17 c18) ∧ (
        Q (Value.slice A16 n17 c18) w14))
    (jnC (F130.k5 Q) ((x0.1, x0.2.1, x0.2.2), (x3.1, x3.2), ()) w))
def F130.k2 (Q : Value → World → Prop) : ((Option Addr × Nat × Nat) × (Nat × Nat) × Bool × Unit) → World → Prop := fun s w => ∀ _ : Nat → Value, F130.k2c Q s.1 s.2.1 s.2.2.1 w
def F130.vc (x0A : Option Addr) (x0n x0c : Nat) (x1 : List Value) (w : World) (Q : Value → World → Prop) : Prop :=
  nw w x1 124 fun b1 w2 =>
  ldA 3 w2 b1 0 fun a3 =>
  Calls Tryz.prog 95 #[ofL a3] w2 fun e5 w4 =>
  ∃ t6 : Bool, e5 = .returned (Value.bool t6) ∧ (
    vIf (!t6)
    (jnC (F130.k2 Q) ((x0A, x0n, x0c), (b1, 0), true, ()) w4)
    (ldB w4 b1 0 fun t33 =>
      vIf (!t33)
      (ldSl w4 b1 (0 + 2) fun A34 n35 c36 =>
        jnC (F130.k2 Q) ((x0A, x0n, x0c), (b1, 0), (((n35 : Nat) : Int) == 0), ()) w4)
      (jnC (F130.k2 Q) ((x0A, x0n, x0c), (b1, 0), false, ()) w4)))
def F130.an : Ann := ⟨[], [(2, [(0, .kSl), (3, .kL), (6, .kB)]), (5, [(0, .kSl), (3, .kL)])]⟩
theorem F130.of (x0A : Option Addr) (x0n x0c : Nat) (x1 : List Value) (w : World) {Q : Value → World → Prop} (h : F130.vc x0A x0n x0c x1 w Q) : Calls Tryz.prog 130 #[Value.slice x0A x0n x0c, ofL x1] w (fun e w' => ∃ v, e = .returned v ∧ Q v w') := vcFn_of (A := F130.an) noCount mixed h (by kernel_rfl)
/-! ### function 131: slices.Grow[[]stillage/api.Write,stillage/api.Write] -/
def F131.k3c (Q : Value → World → Prop) (x0 : (Option Addr × Nat × Nat)) (x1 : Int) (w : World) : Prop :=
  vIf (decide ((IntKind.wrap .i64 (x1 - (IntKind.wrap .i64 (((x0.2.2 : Nat) : Int) - ((x0.2.1 : Nat) : Int))))) > 0))
  (gd (decide (0 ≤ ((x0.2.2 : Nat) : Int))) <|
    gd (decide (((x0.2.2 : Nat) : Int) ≤ ((x0.2.2 : Nat) : Int))) <|
    appZ w 3 40 [Value.bool false, Value.int .i64 0, Value.slice none 0 0] 124 (slA x0.1 x0.2.2 0 3) ((((x0.2.2 : Nat) : Int)).toNat) x0.2.2 (IntKind.wrap .i64 (x1 - (IntKind.wrap .i64 (((x0.2.2 : Nat) : Int) - ((x0.2.1 : Nat) : Int))))) fun A1 n2 c3 w4 =>
    gd (decide (0 ≤ ((x0.2.1 : Nat) : Int))) <|
    gd (decide (((x0.2.1 : Nat) : Int) ≤ ((c3 : Nat) : Int))) <|
    Q (Value.slice (slA A1 c3 0 3) (((x0.2.1 : Nat) : Int)).toNat c3) w4)
  (Q (Value.slice x0.1 x0.2.1 x0.2.2) w)
def F131.k3 (Q : Value → World → Prop) : ((Option Addr × Nat × Nat) × Int × Unit) → World → Prop := fun s w => ∀ _ : Nat → Value, F131.k3c Q s.1 s.2.1 w
def F131.vc (x0A : Option Addr) (x0n x0c : Nat) (x1 : Int) (w : World) (Q : Value → World → Prop) : Prop :=
  vIf (decide (x1 < 0))
  (False)
  (jnC (F131.k3 Q) ((x0A, x0n, x0c), (x1), ()) w)
def F131.an : Ann := ⟨[], [(3, [(0, .kSl), (1, .kI .i64)])]⟩
theorem F131.of (x0A : Option Addr) (x0n x0c : Nat) (x1 : Int) (w : World) {Q : Value → World → Prop} (h : F131.vc x0A x0n x0c x1 w Q) : Calls Tryz.prog 131 #[Value.slice x0A x0n x0c, Value.int .i64 x1] w (fun e w' => ∃ v, e = .returned v ∧ Q v w') := vcFn_of (A := F131.an) noCount mixed h (by kernel_rfl)
/-! ### function 132: internal/bytealg.CompareString -/
def F132.vc (x0 : ByteArray) (x1 : ByteArray) (w : World) (Q : Value → World → Prop) : Prop :=
  extC Tryz.prog 145 #[Value.string x0, Value.string x1] w fun v3 w1 =>
  ∃ i4 : Int, v3 = Value.int .i64 i4 ∧ (
    Q (Value.int .i64 i4) w1)
def F132.an : Ann := ⟨[], []⟩
theorem F132.of (x0 : ByteArray) (x1 : ByteArray) (w : World) {Q : Value → World → Prop} (h : F132.vc x0 x1 w Q) : Calls Tryz.prog 132 #[Value.string x0, Value.string x1] w (fun e w' => ∃ v, e = .returned v ∧ Q v w') := vcFn_of (A := F132.an) noCount mixed h (by kernel_rfl)
/-! ### function 136: slices.stableCmpFunc[stillage/api.Named] -/
def F136s.b9c (Q : Value → World → Prop) (C7 : ((Option Addr × Nat × Nat) × Int × Unit × Int × Unit) → World → Prop) (C9 : ((Option Addr × Nat × Nat) × Int × Unit × Int × Int × Int × Unit) → World → Prop) (x0 : (Option Addr × Nat × Nat)) (x1 : Int) (x2 : Unit) (x6 : Int) (x7 : Int) (x8 : Int) (w : World) : Prop :=
  vIf (decide (x8 ≤ x1))
  (Calls Tryz.prog 147 #[Value.slice x0.1 x0.2.1 x0.2.2, Value.int .i64 x7, Value.int .i64 (IntKind.wrap .i64 (x7 + x6)), Value.int .i64 x8, Value.func (.func 114) #[] #[]] w fun e6 w5 =>
    e6 = .returned (Value.tuple #[]) ∧ (
      jnC C9 ((x0.1, x0.2.1, x0.2.2), (x1), (), (x6), (x8), ((IntKind.wrap .i64 (x8 + (IntKind.wrap .i64 (2 * x6))))), ()) w5))
  (vIf (decide ((IntKind.wrap .i64 (x7 + x6)) < x1))
    (Calls Tryz.prog 147 #[Value.slice x0.1 x0.2.1 x0.2.2, Value.int .i64 x7, Value.int .i64 (IntKind.wrap .i64 (x7 + x6)), Value.int .i64 x1, Value.func (.func 114) #[] #[]] w fun e8 w7 =>
      e8 = .returned (Value.tuple #[]) ∧ (
        jnC C7 ((x0.1, x0.2.1, x0.2.2), (x1), (), ((IntKind.wrap .i64 (x6 * 2))), ()) w7))
    (jnC C7 ((x0.1, x0.2.1, x0.2.2), (x1), (), ((IntKind.wrap .i64 (x6 * 2))), ()) w))
def F136s.b9 (Q : Value → World → Prop) (C7 : ((Option Addr × Nat × Nat) × Int × Unit × Int × Unit) → World → Prop) : ((Option Addr × Nat × Nat) × Int × Unit × Int × Int × Int × Unit) → World → (((Option Addr × Nat × Nat) × Int × Unit × Int × Int × Int × Unit) → World → Prop) → Prop := fun s w C9 => ∀ _ : Nat → Value, F136s.b9c Q C7 C9 s.1 s.2.1 s.2.2.1 s.2.2.2.1 s.2.2.2.2.1 s.2.2.2.2.2.1 w
def F136s.l9 (Q : Value → World → Prop) (C7 : ((Option Addr × Nat × Nat) × Int × Unit × Int × Unit) → World → Prop) : ((Option Addr × Nat × Nat) × Int × Unit × Int × Int × Int × Unit) → World → Prop := fun s w => ∃ n, loopC (F136s.b9 Q C7) n s w
def F136s.b7c (Q : Value → World → Prop) (C7 : ((Option Addr × Nat × Nat) × Int × Unit × Int × Unit) → World → Prop) (x0 : (Option Addr × Nat × Nat)) (x1 : Int) (x2 : Unit) (x6 : Int) (w : World) : Prop :=
  vIf (decide (x6 < x1))
  (jnC (F136s.l9 Q C7) ((x0.1, x0.2.1, x0.2.2), (x1), (), (x6), (0), ((IntKind.wrap .i64 (2 * x6))), ()) w)
  (Q (Value.tuple #[]) w)
def F136s.b7 (Q : Value → World → Prop) : ((Option Addr × Nat × Nat) × Int × Unit × Int × Unit) → World → (((Option Addr × Nat × Nat) × Int × Unit × Int × Unit) → World → Prop) → Prop := fun s w C7 => ∀ _ : Nat → Value, F136s.b7c Q C7 s.1 s.2.1 s.2.2.1 s.2.2.2.1 w
def F136s.l7 (Q : Value → World → Prop) : ((Option Addr × Nat × Nat) × Int × Unit × Int × Unit) → World → Prop := fun s w => ∃ n, loopC (F136s.b7 Q) n s w
def F136s.b2c (Q : Value → World → Prop) (C2 : ((Option Addr × Nat × Nat) × Int × Unit × Int × Int × Int × Unit) → World → Prop) (x0 : (Option Addr × Nat × Nat)) (x1 : Int) (x2 : Unit) (x6 : Int) (x7 : Int) (x8 : Int) (w : World) : Prop :=
  vIf (decide (x8 ≤ x1))
  (Calls Tryz.prog 146 #[Value.slice x0.1 x0.2.1 x0.2.2, Value.int .i64 x7, Value.int .i64 x8, Value.func (.func 114) #[] #[]] w fun e2 w1 =>
    e2 = .returned (Value.tuple #[]) ∧ (
      jnC C2 ((x0.1, x0.2.1, x0.2.2), (x1), (), (x6), (x8), ((IntKind.wrap .i64 (x8 + x6))), ()) w1))
  (Calls Tryz.prog 146 #[Value.slice x0.1 x0.2.1 x0.2.2, Value.int .i64 x7, Value.int .i64 x1, Value.func (.func 114) #[] #[]] w fun e4 w3 =>
    e4 = .returned (Value.tuple #[]) ∧ (
      jnC (F136s.l7 Q) ((x0.1, x0.2.1, x0.2.2), (x1), (), (x6), ()) w3))
def F136s.b2 (Q : Value → World → Prop) : ((Option Addr × Nat × Nat) × Int × Unit × Int × Int × Int × Unit) → World → (((Option Addr × Nat × Nat) × Int × Unit × Int × Int × Int × Unit) → World → Prop) → Prop := fun s w C2 => ∀ _ : Nat → Value, F136s.b2c Q C2 s.1 s.2.1 s.2.2.1 s.2.2.2.1 s.2.2.2.2.1 s.2.2.2.2.2.1 w
def F136s.l2 (Q : Value → World → Prop) : ((Option Addr × Nat × Nat) × Int × Unit × Int × Int × Int × Unit) → World → Prop := fun s w => ∃ n, loopC (F136s.b2 Q) n s w
def F136s.vc (x0A : Option Addr) (x0n x0c : Nat) (x1 : Int) (w : World) (Q : Value → World → Prop) : Prop :=
  jnC (F136s.l2 Q) ((x0A, x0n, x0c), (x1), (), (20), (0), (20), ()) w
def F136s.an : Ann := ⟨[(2, [(0, .kSl), (1, .kI .i64), (2, .kF 114), (6, .kI .i64), (7, .kI .i64), (8, .kI .i64)]), (7, [(0, .kSl), (1, .kI .i64), (2, .kF 114), (6, .kI .i64)]), (9, [(0, .kSl), (1, .kI .i64), (2, .kF 114), (6, .kI .i64), (7, .kI .i64), (8, .kI .i64)])], []⟩
theorem F136s.of (x0A : Option Addr) (x0n x0c : Nat) (x1 : Int) (w : World) {Q : Value → World → Prop} (h : F136s.vc x0A x0n x0c x1 w Q) : Calls Tryz.prog 136 #[Value.slice x0A x0n x0c, Value.int .i64 x1, Value.func (.func 114) #[] #[]] w (fun e w' => ∃ v, e = .returned v ∧ Q v w') := vcFn_of (A := F136s.an) noCount mixed h (by kernel_rfl)
/-! ### function 137: slices.Insert[[]stillage/api.Named,stillage/api.Named] -/
def F137.vc (x0A : Option Addr) (x0n x0c : Nat) (x1 : Int) (x2A : Option Addr) (x2n x2c : Nat) (w : World) (Q : Value → World → Prop) : Prop :=
  gd (decide (0 ≤ x1)) <|
  gd (decide (x1 ≤ ((x0n : Nat) : Int))) <|
  vIf (((x2n : Nat) : Int) == 0)
  (Q (Value.slice x0A x0n x0c) w)
  (vIf (x1 == ((x0n : Nat) : Int))
    (app w 2 24 [Value.string (⟨#[]⟩ : ByteArray), Value.int .i64 0] 94 x0A x0n x0c (Value.slice x2A x2n x2c) fun A1 n2 c3 w4 =>
      Q (Value.slice A1 n2 c3) w4)
    (vIf (decide ((IntKind.wrap .i64 (((x0n : Nat) : Int) + ((x2n : Nat) : Int))) > ((x0c : Nat) : Int)))
      (gd (decide (0 ≤ x1)) <|
        gd (decide (x1 ≤ ((x0c : Nat) : Int))) <|
        appZ w 2 24 [Value.string (⟨#[]⟩ : ByteArray), Value.int .i64 0] 94 (slA x0A x0c 0 2) ((x1).toNat) x0c (IntKind.wrap .i64 ((IntKind.wrap .i64 (((x0n : Nat) : Int) + ((x2n : Nat) : Int))) - x1)) fun A5 n6 c7 w8 =>
        gd (decide (0 ≤ x1)) <|
        gd (decide (x1 ≤ ((n6 : Nat) : Int))) <|
        cpy w8 2 (slA A5 c7 (x1).toNat 2) (n6 - (x1).toNat) (Value.slice x2A x2n x2c) fun n9 w10 =>
        gd (decide (0 ≤ (IntKind.wrap .i64 (x1 + ((x2n : Nat) : Int))))) <|
        gd (decide ((IntKind.wrap .i64 (x1 + ((x2n : Nat) : Int))) ≤ ((n6 : Nat) : Int))) <|
        gd (decide (0 ≤ x1)) <|
        gd (decide (x1 ≤ ((x0n : Nat) : Int))) <|
        cpy w10.drew 2 (slA A5 c7 ((IntKind.wrap .i64 (x1 + ((x2n : Nat) : Int)))).toNat 2) (n6 - ((IntKind.wrap .i64 (x1 + ((x2n : Nat) : Int)))).toNat) (Value.slice (slA x0A x0c (x1).toNat 2) (x0n - (x1).toNat) (x0c - (x1).toNat)) fun n11 w12 =>
        Q (Value.slice A5 n6 c7) w12)
      (gd (decide (0 ≤ (IntKind.wrap .i64 (((x0n : Nat) : Int) + ((x2n : Nat) : Int))))) <|
        gd (decide ((IntKind.wrap .i64 (((x0n : Nat) : Int) + ((x2n : Nat) : Int))) ≤ ((x0c : Nat) : Int))) <|
        gd (decide (0 ≤ (IntKind.wrap .i64 (x1 + ((x2n : Nat) : Int))))) <|
        gd (decide ((IntKind.wrap .i64 (x1 + ((x2n : Nat) : Int))) ≤ ((((IntKind.wrap .i64 (((x0n : Nat) : Int) + ((x2n : Nat) : Int)))).toNat : Nat) : Int))) <|
        extC Tryz.prog 148 #[Value.slice x2A x2n x2c, Value.slice (slA (slA x0A x0c 0 2) x0c ((IntKind.wrap .i64 (x1 + ((x2n : Nat) : Int)))).toNat 2) (((IntKind.wrap .i64 (((x0n : Nat) : Int) + ((x2n : Nat) : Int)))).toNat - ((IntKind.wrap .i64 (x1 + ((x2n : Nat) : Int)))).toNat) (x0c - ((IntKind.wrap .i64 (x1 + ((x2n : Nat) : Int)))).toNat)] w fun v15 w13 =>
        ∃ t16 : Bool, v15 = Value.bool t16 ∧ (
          vIf (!t16)
          (gd (decide (0 ≤ (IntKind.wrap .i64 (x1 + ((x2n : Nat) : Int))))) <|
            gd (decide ((IntKind.wrap .i64 (x1 + ((x2n : Nat) : Int))) ≤ ((((IntKind.wrap .i64 (((x0n : Nat) : Int) + ((x2n : Nat) : Int)))).toNat : Nat) : Int))) <|
            gd (decide (0 ≤ x1)) <|
            gd (decide (x1 ≤ ((((IntKind.wrap .i64 (((x0n : Nat) : Int) + ((x2n : Nat) : Int)))).toNat : Nat) : Int))) <|
            cpy w13.drew 2 (slA (slA x0A x0c 0 2) x0c ((IntKind.wrap .i64 (x1 + ((x2n : Nat) : Int)))).toNat 2) (((IntKind.wrap .i64 (((x0n : Nat) : Int) + ((x2n : Nat) : Int)))).toNat - ((IntKind.wrap .i64 (x1 + ((x2n : Nat) : Int)))).toNat) (Value.slice (slA (slA x0A x0c 0 2) x0c (x1).toNat 2) (((IntKind.wrap .i64 (((x0n : Nat) : Int) + ((x2n : Nat) : Int)))).toNat - (x1).toNat) (x0c - (x1).toNat)) fun n17 w18 =>
            gd (decide (0 ≤ x1)) <|
            gd (decide (x1 ≤ ((((IntKind.wrap .i64 (((x0n : Nat) : Int) + ((x2n : Nat) : Int)))).toNat : Nat) : Int))) <|
            cpy w18 2 (slA (slA x0A x0c 0 2) x0c (x1).toNat 2) (((IntKind.wrap .i64 (((x0n : Nat) : Int) + ((x2n : Nat) : Int)))).toNat - (x1).toNat) (Value.slice x2A x2n x2c) fun n19 w20 =>
            Q (Value.slice (slA x0A x0c 0 2) ((IntKind.wrap .i64 (((x0n : Nat) : Int) + ((x2n : Nat) : Int)))).toNat x0c) w20)
          (gd (decide (0 ≤ ((x0n : Nat) : Int))) <|
            gd (decide (((x0n : Nat) : Int) ≤ ((((IntKind.wrap .i64 (((x0n : Nat) : Int) + ((x2n : Nat) : Int)))).toNat : Nat) : Int))) <|
            cpy w13 2 (slA (slA x0A x0c 0 2) x0c (((x0n : Nat) : Int)).toNat 2) (((IntKind.wrap .i64 (((x0n : Nat) : Int) + ((x2n : Nat) : Int)))).toNat - (((x0n : Nat) : Int)).toNat) (Value.slice x2A x2n x2c) fun n21 w22 =>
            gd (decide (0 ≤ x1)) <|
            gd (decide (x1 ≤ ((((IntKind.wrap .i64 (((x0n : Nat) : Int) + ((x2n : Nat) : Int)))).toNat : Nat) : Int))) <|
            Calls Tryz.prog 149 #[Value.slice (slA (slA x0A x0c 0 2) x0c (x1).toNat 2) (((IntKind.wrap .i64 (((x0n : Nat) : Int) + ((x2n : Nat) : Int)))).toNat - (x1).toNat) (x0c - (x1).toNat), Value.int .i64 ((x2n : Nat) : Int)] w22 fun e24 w23 =>
            e24 = .returned (Value.tuple #[]) ∧ (
              Q (Value.slice (slA x0A x0c 0 2) ((IntKind.wrap .i64 (((x0n : Nat) : Int) + ((x2n : Nat) : Int)))).toNat x0c) w23))))))
def F137.an : Ann := ⟨[], []⟩
theorem F137.of (x0A : Option Addr) (x0n x0c : Nat) (x1 : Int) (x2A : Option Addr) (x2n x2c : Nat) (w : World) {Q : Value → World → Prop} (h : F137.vc x0A x0n x0c x1 x2A x2n x2c w Q) : Calls Tryz.prog 137 #[Value.slice x0A x0n x0c, Value.int .i64 x1, Value.slice x2A x2n x2c] w (fun e w' => ∃ v, e = .returned v ∧ Q v w') := vcFn_of (A := F137.an) noCount mixed h (by kernel_rfl)
/-! ### function 138: slices.Delete[[]stillage/api.Named,stillage/api.Named] -/
def F138.vc (x0A : Option Addr) (x0n x0c : Nat) (x1 : Int) (x2 : Int) (w : World) (Q : Value → World → Prop) : Prop :=
  gd (decide (0 ≤ ((x0n : Nat) : Int))) <|
  gd (decide (((x0n : Nat) : Int) ≤ ((x0c : Nat) : Int))) <|
  gd (decide (0 ≤ x2)) <|
  gd (decide (x2 ≤ (((((x0n : Nat) : Int)).toNat : Nat) : Int))) <|
  gd (decide (0 ≤ x1)) <|
  gd (decide (x1 ≤ (((x2).toNat : Nat) : Int))) <|
  vIf (x1 == x2)
  (Q (Value.slice x0A x0n x0c) w)
  (gd (decide (0 ≤ x1)) <|
    gd (decide (x1 ≤ ((x0c : Nat) : Int))) <|
    gd (decide (0 ≤ x2)) <|
    gd (decide (x2 ≤ ((x0n : Nat) : Int))) <|
    app w.drew 2 24 [Value.string (⟨#[]⟩ : ByteArray), Value.int .i64 0] 94 (slA x0A x0c 0 2) ((x1).toNat) x0c (Value.slice (slA x0A x0c (x2).toNat 2) (x0n - (x2).toNat) (x0c - (x2).toNat)) fun A1 n2 c3 w4 =>
    gd (decide (0 ≤ ((x0n : Nat) : Int))) <|
    gd (decide (((x0n : Nat) : Int) ≤ ((c3 : Nat) : Int))) <|
    gd (decide (0 ≤ ((n2 : Nat) : Int))) <|
    gd (decide (((n2 : Nat) : Int) ≤ (((((x0n : Nat) : Int)).toNat : Nat) : Int))) <|
    vIf (((((x0n : Nat) : Int)).toNat - (((n2 : Nat) : Int)).toNat) == 0)
    (Q (Value.slice A1 n2 c3) w4)
    (dr (slA A1 c3 (((n2 : Nat) : Int)).toNat 2) fun b6 o7 =>
      st w4 b6 o7 (zeros ((((x0n : Nat) : Int)).toNat - (((n2 : Nat) : Int)).toNat) [Value.string (⟨#[]⟩ : ByteArray), Value.int .i64 0]) fun w5 =>
      Q (Value.slice A1 n2 c3) w5))
def F138.an : Ann := ⟨[], []⟩
theorem F138.of (x0A : Option Addr) (x0n x0c : Nat) (x1 : Int) (x2 : Int) (w : World) {Q : Value → World → Prop} (h : F138.vc x0A x0n x0c x1 x2 w Q) : Calls Tryz.prog 138 #[Value.slice x0A x0n x0c, Value.int .i64 x1, Value.int .i64 x2] w (fun e w' => ∃ v, e = .returned v ∧ Q v w') := vcFn_of (A := F138.an) noCount mixed h (by kernel_rfl)
/-! ### function 146: slices.insertionSortCmpFunc[stillage/api.Named] -/
def F146s.k6c (Q : Value → World → Prop) (C1 : ((Option Addr × Nat × Nat) × Int × Int × Unit × Int × Unit) → World → Prop) (C4 : ((Option Addr × Nat × Nat) × Int × Int × Unit × Int × Int × Unit) → World → Prop) (x0 : (Option Addr × Nat × Nat)) (x1 : Int) (x2 : Int) (x3 : Unit) (x8 : Int) (x9 : Int) (w : World) : Prop :=
  dr x0.1 fun b10 o11 =>
  gd (decide (0 ≤ (IntKind.wrap .i64 (x9 - 1)))) <|
  gd (decide ((IntKind.wrap .i64 (x9 - 1)) < ((x0.2.1 : Nat) : Int))) <|
  ldA 2 w.drew b10 (o11 + ((IntKind.wrap .i64 (x9 - 1))).toNat * 2) fun a12 =>
  dr x0.1 fun b13 o14 =>
  gd (decide (0 ≤ x9)) <|
  gd (decide (x9 < ((x0.2.1 : Nat) : Int))) <|
  ldA 2 w.drew b13 (o14 + (x9).toNat * 2) fun a15 =>
  dr x0.1 fun b16 o17 =>
  gd (decide (0 ≤ x9)) <|
  gd (decide (x9 < ((x0.2.1 : Nat) : Int))) <|
  gd (a12.length == 2) <|
  st w.drew b16 (o17 + (x9).toNat * 2) a12 fun w18 =>
  dr x0.1 fun b19 o20 =>
  gd (decide (0 ≤ (IntKind.wrap .i64 (x9 - 1)))) <|
  gd (decide ((IntKind.wrap .i64 (x9 - 1)) < ((x0.2.1 : Nat) : Int))) <|
  gd (a15.length == 2) <|
  st w18 b19 (o20 + ((IntKind.wrap .i64 (x9 - 1))).toNat * 2) a15 fun w21 =>
  jnC C4 ((x0.1, x0.2.1, x0.2.2), (x1), (x2), (), (x8), ((IntKind.wrap .i64 (x9 - 1))), ()) w21
def F146s.k6 (Q : Value → World → Prop) (C1 : ((Option Addr × Nat × Nat) × Int × Int × Unit × Int × Unit) → World → Prop) (C4 : ((Option Addr × Nat × Nat) × Int × Int × Unit × Int × Int × Unit) → World → Prop) : ((Option Addr × Nat × Nat) × Int × Int × Unit × Int × Int × Unit) → World → Prop := fun s w => ∀ _ : Nat → Value, F146s.k6c Q C1 C4 s.1 s.2.1 s.2.2.1 s.2.2.2.1 s.2.2.2.2.1 s.2.2.2.2.2.1 w
def F146s.b4c (Q : Value → World → Prop) (C1 : ((Option Addr × Nat × Nat) × Int × Int × Unit × Int × Unit) → World → Prop) (C4 : ((Option Addr × Nat × Nat) × Int × Int × Unit × Int × Int × Unit) → World → Prop) (x0 : (Option Addr × Nat × Nat)) (x1 : Int) (x2 : Int) (x3 : Unit) (x8 : Int) (x9 : Int) (w : World) : Prop :=
  vIf (decide (x9 > x1))
  (dr x0.1 fun b1 o2 =>
    gd (decide (0 ≤ x9)) <|
    gd (decide (x9 < ((x0.2.1 : Nat) : Int))) <|
    ldA 2 w.drew b1 (o2 + (x9).toNat * 2) fun a3 =>
    dr x0.1 fun b4 o5 =>
    gd (decide (0 ≤ (IntKind.wrap .i64 (x9 - 1)))) <|
    gd (decide ((IntKind.wrap .i64 (x9 - 1)) < ((x0.2.1 : Nat) : Int))) <|
    ldA 2 w.drew b4 (o5 + ((IntKind.wrap .i64 (x9 - 1))).toNat * 2) fun a6 =>
    Calls Tryz.prog 114 #[ofL a3, ofL a6] w.drew fun e8 w7 =>
    ∃ i9 : Int, e8 = .returned (Value.int .i64 i9) ∧ (
      vIf (decide (i9 < 0))
      (jnC (F146s.k6 Q C1 C4) ((x0.1, x0.2.1, x0.2.2), (x1), (x2), (), (x8), (x9), ()) w7)
      (jnC C1 ((x0.1, x0.2.1, x0.2.2), (x1), (x2), (), ((IntKind.wrap .i64 (x8 + 1))), ()) w7)))
  (jnC C1 ((x0.1, x0.2.1, x0.2.2), (x1), (x2), (), ((IntKind.wrap .i64 (x8 + 1))), ()) w.drew)
def F146s.b4 (Q : Value → World → Prop) (C1 : ((Option Addr × Nat × Nat) × Int × Int × Unit × Int × Unit) → World → Prop) : ((Option Addr × Nat × Nat) × Int × Int × Unit × Int × Int × Unit) → World → (((Option Addr × Nat × Nat) × Int × Int × Unit × Int × Int × Unit) → World → Prop) → Prop := fun s w C4 => ∀ _ : Nat → Value, F146s.b4c Q C1 C4 s.1 s.2.1 s.2.2.1 s.2.2.2.1 s.2.2.2.2.1 s.2.2.2.2.2.1 w
def F146s.l4 (Q : Value → World → Prop) (C1 : ((Option Addr × Nat × Nat) × Int × Int × Unit × Int × Unit) → World → Prop) : ((Option Addr × Nat × Nat) × Int × Int × Unit × Int × Int × Unit) → World → Prop := fun s w => ∃ n, loopC (F146s.b4 Q C1) n s w
def F146s.b1c (Q : Value → World → Prop) (C1 : ((Option Addr × Nat × Nat) × Int × Int × Unit × Int × Unit) → World → Prop) (x0 : (Option Addr × Nat × Nat)) (x1 : Int) (x2 : Int) (x3 : Unit) (x8 : Int) (w : World) : Prop :=
  vIf (decide (x8 < x2))
  (jnC (F146s.l4 Q C1) ((x0.1, x0.2.1, x0.2.2), (x1), (x2), (), (x8), (x8), ()) w)
  (Q (Value.tuple #[]) w)
def F146s.b1 (Q : Value → World → Prop) : ((Option Addr × Nat × Nat) × Int × Int × Unit × Int × Unit) → World → (((Option Addr × Nat × Nat) × Int × Int × Unit × Int × Unit) → World → Prop) → Prop := fun s w C1 => ∀ _ : Nat → Value, F146s.b1c Q C1 s.1 s.2.1 s.2.2.1 s.2.2.2.1 s.2.2.2.2.1 w
def F146s.l1 (Q : Value → World → Prop) : ((Option Addr × Nat × Nat) × Int × Int × Unit × Int × Unit) → World → Prop := fun s w => ∃ n, loopC (F146s.b1 Q) n s w
def F146s.vc (x0A : Option Addr) (x0n x0c : Nat) (x1 : Int) (x2 : Int) (w : World) (Q : Value → World → Prop) : Prop :=
  jnC (F146s.l1 Q) ((x0A, x0n, x0c), (x1), (x2), (), ((IntKind.wrap .i64 (x1 + 1))), ()) w
def F146s.an : Ann := ⟨[(1, [(0, .kSl), (1, .kI .i64), (2, .kI .i64), (3, .kF 114), (8, .kI .i64)]), (4, [(0, .kSl), (1, .kI .i64), (2, .kI .i64), (3, .kF 114), (8, .kI .i64), (9, .kI .i64)])], [(6, [(0, .kSl), (1, .kI .i64), (2, .kI .i64), (3, .kF 114), (8, .kI .i64), (9, .kI .i64)])]⟩
theorem F146s.of (x0A : Option Addr) (x0n x0c : Nat) (x1 : Int) (x2 : Int) (w : World) {Q : Value → World → Prop} (h : F146s.vc x0A x0n x0c x1 x2 w Q) : Calls Tryz.prog 146 #[Value.slice x0A x0n x0c, Value.int .i64 x1, Value.int .i64 x2, Value.func (.func 114) #[] #[]] w (fun e w' => ∃ v, e = .returned v ∧ Q v w') := vcFn_of (A := F146s.an) noCount mixed h (by kernel_rfl)
/-! ### function 147: slices.symMergeCmpFunc[stillage/api.Named] -/
def F147s.b9c (Q : Value → World → Prop) (C9 : ((Option Addr × Nat × Nat) × Int × Int × Unit) → World → Prop) (x0 : (Option Addr × Nat × Nat)) (x10 : Int) (x13 : Int) (w : World) : Prop :=
  vIf (decide (x13 < (IntKind.wrap .i64 (x10 - 1))))
  (dr x0.1 fun b10 o11 =>
    gd (decide (0 ≤ (IntKind.wrap .i64 (x13 + 1)))) <|
    gd (decide ((IntKind.wrap .i64 (x13 + 1)) < ((x0.2.1 : Nat) : Int))) <|
    ldA 2 w.drew b10 (o11 + ((IntKind.wrap .i64 (x13 + 1))).toNat * 2) fun a12 =>
    dr x0.1 fun b13 o14 =>
    gd (decide (0 ≤ x13)) <|
    gd (decide (x13 < ((x0.2.1 : Nat) : Int))) <|
    ldA 2 w.drew b13 (o14 + (x13).toNat * 2) fun a15 =>
    dr x0.1 fun b16 o17 =>
    gd (decide (0 ≤ x13)) <|
    gd (decide (x13 < ((x0.2.1 : Nat) : Int))) <|
    gd (a12.length == 2) <|
    st w.drew b16 (o17 + (x13).toNat * 2) a12 fun w18 =>
    dr x0.1 fun b19 o20 =>
    gd (decide (0 ≤ (IntKind.wrap .i64 (x13 + 1)))) <|
    gd (decide ((IntKind.wrap .i64 (x13 + 1)) < ((x0.2.1 : Nat) : Int))) <|
    gd (a15.length == 2) <|
    st w18 b19 (o20 + ((IntKind.wrap .i64 (x13 + 1))).toNat * 2) a15 fun w21 =>
    jnC C9 ((x0.1, x0.2.1, x0.2.2), (x10), ((IntKind.wrap .i64 (x13 + 1))), ()) w21)
  (Q (Value.tuple #[]) w)
def F147s.b9 (Q : Value → World → Prop) : ((Option Addr × Nat × Nat) × Int × Int × Unit) → World → (((Option Addr × Nat × Nat) × Int × Int × Unit) → World → Prop) → Prop := fun s w C9 => ∀ _ : Nat → Value, F147s.b9c Q C9 s.1 s.2.1 s.2.2.1 w
def F147s.l9 (Q : Value → World → Prop) : ((Option Addr × Nat × Nat) × Int × Int × Unit) → World → Prop := fun s w => ∃ n, loopC (F147s.b9 Q) n s w
def F147s.b3c (Q : Value → World → Prop) (C3 : ((Option Addr × Nat × Nat) × Int × Unit × Int × Int × Unit) → World → Prop) (x0 : (Option Addr × Nat × Nat)) (x1 : Int) (x4 : Unit) (x10 : Int) (x11 : Int) (w : World) : Prop :=
  vIf (decide (x10 < x11))
  (dr x0.1 fun b1 o2 =>
    gd (decide (0 ≤ (IntKind.wrap .i64 (Int.fdiv (IntKind.wrap .u64 (IntKind.wrap .i64 (x10 + x11))) (2 ^ 1))))) <|
    gd (decide ((IntKind.wrap .i64 (Int.fdiv (IntKind.wrap .u64 (IntKind.wrap .i64 (x10 + x11))) (2 ^ 1))) < ((x0.2.1 : Nat) : Int))) <|
    ldA 2 w.drew b1 (o2 + ((IntKind.wrap .i64 (Int.fdiv (IntKind.wrap .u64 (IntKind.wrap .i64 (x10 + x11))) (2 ^ 1)))).toNat * 2) fun a3 =>
    dr x0.1 fun b4 o5 =>
    gd (decide (0 ≤ x1)) <|
    gd (decide (x1 < ((x0.2.1 : Nat) : Int))) <|
    ldA 2 w.drew b4 (o5 + (x1).toNat * 2) fun a6 =>
    Calls Tryz.prog 114 #[ofL a3, ofL a6] w.drew fun e8 w7 =>
    ∃ i9 : Int, e8 = .returned (Value.int .i64 i9) ∧ (
      vIf (decide (i9 < 0))
      (jnC C3 ((x0.1, x0.2.1, x0.2.2), (x1), (), ((IntKind.wrap .i64 ((IntKind.wrap .i64 (Int.fdiv (IntKind.wrap .u64 (IntKind.wrap .i64 (x10 + x11))) (2 ^ 1))) + 1))), (x11), ()) w7)
      (jnC C3 ((x0.1, x0.2.1, x0.2.2), (x1), (), (x10), ((IntKind.wrap .i64 (Int.fdiv (IntKind.wrap .u64 (IntKind.wrap .i64 (x10 + x11))) (2 ^ 1)))), ()) w7)))
  (jnC (F147s.l9 Q) ((x0.1, x0.2.1, x0.2.2), (x10), (x1), ()) w)
def F147s.b3 (Q : Value → World → Prop) : ((Option Addr × Nat × Nat) × Int × Unit × Int × Int × Unit) → World → (((Option Addr × Nat × Nat) × Int × Unit × Int × Int × Unit) → World → Prop) → Prop := fun s w C3 => ∀ _ : Nat → Value, F147s.b3c Q C3 s.1 s.2.1 s.2.2.1 s.2.2.2.1 s.2.2.2.2.1 w
def F147s.l3 (Q : Value → World → Prop) : ((Option Addr × Nat × Nat) × Int × Unit × Int × Int × Unit) → World → Prop := fun s w => ∃ n, loopC (F147s.b3 Q) n s w
def F147s.b21c (Q : Value → World → Prop) (C21 : ((Option Addr × Nat × Nat) × Int × Int × Unit) → World → Prop) (x0 : (Option Addr × Nat × Nat)) (x14 : Int) (x17 : Int) (w : World) : Prop :=
  vIf (decide (x17 > x14))
  (dr x0.1 fun b31 o32 =>
    gd (decide (0 ≤ (IntKind.wrap .i64 (x17 - 1)))) <|
    gd (decide ((IntKind.wrap .i64 (x17 - 1)) < ((x0.2.1 : Nat) : Int))) <|
    ldA 2 w.drew b31 (o32 + ((IntKind.wrap .i64 (x17 - 1))).toNat * 2) fun a33 =>
    dr x0.1 fun b34 o35 =>
    gd (decide (0 ≤ x17)) <|
    gd (decide (x17 < ((x0.2.1 : Nat) : Int))) <|
    ldA 2 w.drew b34 (o35 + (x17).toNat * 2) fun a36 =>
    dr x0.1 fun b37 o38 =>
    gd (decide (0 ≤ x17)) <|
    gd (decide (x17 < ((x0.2.1 : Nat) : Int))) <|
    gd (a33.length == 2) <|
    st w.drew b37 (o38 + (x17).toNat * 2) a33 fun w39 =>
    dr x0.1 fun b40 o41 =>
    gd (decide (0 ≤ (IntKind.wrap .i64 (x17 - 1)))) <|
    gd (decide ((IntKind.wrap .i64 (x17 - 1)) < ((x0.2.1 : Nat) : Int))) <|
    gd (a36.length == 2) <|
    st w39 b40 (o41 + ((IntKind.wrap .i64 (x17 - 1))).toNat * 2) a36 fun w42 =>
    jnC C21 ((x0.1, x0.2.1, x0.2.2), (x14), ((IntKind.wrap .i64 (x17 - 1))), ()) w42)
  (Q (Value.tuple #[]) w)
def F147s.b21 (Q : Value → World → Prop) : ((Option Addr × Nat × Nat) × Int × Int × Unit) → World → (((Option Addr × Nat × Nat) × Int × Int × Unit) → World → Prop) → Prop := fun s w C21 => ∀ _ : Nat → Value, F147s.b21c Q C21 s.1 s.2.1 s.2.2.1 w
def F147s.l21 (Q : Value → World → Prop) : ((Option Addr × Nat × Nat) × Int × Int × Unit) → World → Prop := fun s w => ∃ n, loopC (F147s.b21 Q) n s w
def F147s.b15c (Q : Value → World → Prop) (C15 : ((Option Addr × Nat × Nat) × Int × Unit × Int × Int × Unit) → World → Prop) (x0 : (Option Addr × Nat × Nat)) (x2 : Int) (x4 : Unit) (x14 : Int) (x15 : Int) (w : World) : Prop :=
  vIf (decide (x14 < x15))
  (dr x0.1 fun b22 o23 =>
    gd (decide (0 ≤ x2)) <|
    gd (decide (x2 < ((x0.2.1 : Nat) : Int))) <|
    ldA 2 w.drew b22 (o23 + (x2).toNat * 2) fun a24 =>
    dr x0.1 fun b25 o26 =>
    gd (decide (0 ≤ (IntKind.wrap .i64 (Int.fdiv (IntKind.wrap .u64 (IntKind.wrap .i64 (x14 + x15))) (2 ^ 1))))) <|
    gd (decide ((IntKind.wrap .i64 (Int.fdiv (IntKind.wrap .u64 (IntKind.wrap .i64 (x14 + x15))) (2 ^ 1))) < ((x0.2.1 : Nat) : Int))) <|
    ldA 2 w.drew b25 (o26 + ((IntKind.wrap .i64 (Int.fdiv (IntKind.wrap .u64 (IntKind.wrap .i64 (x14 + x15))) (2 ^ 1)))).toNat * 2) fun a27 =>
    Calls Tryz.prog 114 #[ofL a24, ofL a27] w.drew fun e29 w28 =>
    ∃ i30 : Int, e29 = .returned (Value.int .i64 i30) ∧ (
      vIf (!(decide (i30 < 0)))
      (jnC C15 ((x0.1, x0.2.1, x0.2.2), (x2), (), ((IntKind.wrap .i64 ((IntKind.wrap .i64 (Int.fdiv (IntKind.wrap .u64 (IntKind.wrap .i64 (x14 + x15))) (2 ^ 1))) + 1))), (x15), ()) w28)
      (jnC C15 ((x0.1, x0.2.1, x0.2.2), (x2), (), (x14), ((IntKind.wrap .i64 (Int.fdiv (IntKind.wrap .u64 (IntKind.wrap .i64 (x14 + x15))) (2 ^ 1)))), ()) w28)))
  (jnC (F147s.l21 Q) ((x0.1, x0.2.1, x0.2.2), (x14), (x2), ()) w)
def F147s.b15 (Q : Value → World → Prop) : ((Option Addr × Nat × Nat) × Int × Unit × Int × Int × Unit) → World → (((Option Addr × Nat × Nat) × Int × Unit × Int × Int × Unit) → World → Prop) → Prop := fun s w C15 => ∀ _ : Nat → Value, F147s.b15c Q C15 s.1 s.2.1 s.2.2.1 s.2.2.2.1 s.2.2.2.2.1 w
def F147s.l15 (Q : Value → World → Prop) : ((Option Addr × Nat × Nat) × Int × Unit × Int × Int × Unit) → World → Prop := fun s w => ∃ n, loopC (F147s.b15 Q) n s w
def F147s.k44c (Q : Value → World → Prop) (x0 : (Option Addr × Nat × Nat)) (x3 : Int) (x4 : Unit) (x18 : Int) (x24 : Int) (x213 : Bool) (w : World) : Prop :=
  vIf x213
  (Calls Tryz.prog 147 #[Value.slice x0.1 x0.2.1 x0.2.2, Value.int .i64 x18, Value.int .i64 x24, Value.int .i64 x3, Value.func (.func 114) #[] #[]] w fun e57 w56 =>
    e57 = .returned (Value.tuple #[]) ∧ (
      Q (Value.tuple #[]) w56))
  (Q (Value.tuple #[]) w)
def F147s.k44 (Q : Value → World → Prop) : ((Option Addr × Nat × Nat) × Int × Unit × Int × Int × Bool × Unit) → World → Prop := fun s w => ∀ _ : Nat → Value, F147s.k44c Q s.1 s.2.1 s.2.2.1 s.2.2.2.1 s.2.2.2.2.1 s.2.2.2.2.2.1 w
def F147s.k43c (Q : Value → World → Prop) (x0 : (Option Addr × Nat × Nat)) (x3 : Int) (x4 : Unit) (x18 : Int) (x24 : Int) (w : World) : Prop :=
  vIf (decide (x18 < x24))
  (jnC (F147s.k44 Q) ((x0.1, x0.2.1, x0.2.2), (x3), (), (x18), (x24), (decide (x24 < x3)), ()) w)
  (jnC (F147s.k44 Q) ((x0.1, x0.2.1, x0.2.2), (x3), (), (x18), (x24), false, ()) w)
def F147s.k43 (Q : Value → World → Prop) : ((Option Addr × Nat × Nat) × Int × Unit × Int × Int × Unit) → World → Prop := fun s w => ∀ _ : Nat → Value, F147s.k43c Q s.1 s.2.1 s.2.2.1 s.2.2.2.1 s.2.2.2.2.1 w
def F147s.k42c (Q : Value → World → Prop) (x0 : (Option Addr × Nat × Nat)) (x1 : Int) (x3 : Int) (x4 : Unit) (x18 : Int) (x20 : Int) (x24 : Int) (x199 : Bool) (w : World) : Prop :=
  vIf x199
  (Calls Tryz.prog 147 #[Value.slice x0.1 x0.2.1 x0.2.2, Value.int .i64 x1, Value.int .i64 x20, Value.int .i64 x18, Value.func (.func 114) #[] #[]] w fun e55 w54 =>
    e55 = .returned (Value.tuple #[]) ∧ (
      jnC (F147s.k43 Q) ((x0.1, x0.2.1, x0.2.2), (x3), (), (x18), (x24), ()) w54))
  (jnC (F147s.k43 Q) ((x0.1, x0.2.1, x0.2.2), (x3), (), (x18), (x24), ()) w)
def F147s.k42 (Q : Value → World → Prop) : ((Option Addr × Nat × Nat) × Int × Int × Unit × Int × Int × Int × Bool × Unit) → World → Prop := fun s w => ∀ _ : Nat → Value, F147s.k42c Q s.1 s.2.1 s.2.2.1 s.2.2.2.1 s.2.2.2.2.1 s.2.2.2.2.2.1 s.2.2.2.2.2.2.1 s.2.2.2.2.2.2.2.1 w
def F147s.k41c (Q : Value → World → Prop) (x0 : (Option Addr × Nat × Nat)) (x1 : Int) (x3 : Int) (x4 : Unit) (x18 : Int) (x20 : Int) (x24 : Int) (w : World) : Prop :=
  vIf (decide (x1 < x20))
  (jnC (F147s.k42 Q) ((x0.1, x0.2.1, x0.2.2), (x1), (x3), (), (x18), (x20), (x24), (decide (x20 < x18)), ()) w)
  (jnC (F147s.k42 Q) ((x0.1, x0.2.1, x0.2.2), (x1), (x3), (), (x18), (x20), (x24), false, ()) w)
def F147s.k41 (Q : Value → World → Prop) : ((Option Addr × Nat × Nat) × Int × Int × Unit × Int × Int × Int × Unit) → World → Prop := fun s w => ∀ _ : Nat → Value, F147s.k41c Q s.1 s.2.1 s.2.2.1 s.2.2.2.1 s.2.2.2.2.1 s.2.2.2.2.2.1 s.2.2.2.2.2.2.1 w
def F147s.k40c (Q : Value → World → Prop) (x0 : (Option Addr × Nat × Nat)) (x1 : Int) (x2 : Int) (x3 : Int) (x4 : Unit) (x18 : Int) (x20 : Int) (x24 : Int) (x185 : Bool) (w : World) : Prop :=
  vIf x185
  (Calls Tryz.prog 151 #[Value.slice x0.1 x0.2.1 x0.2.2, Value.int .i64 x20, Value.int .i64 x2, Value.int .i64 x24, Value.func (.func 114) #[] #[]] w fun e53 w52 =>
    e53 = .returned (Value.tuple #[]) ∧ (
      jnC (F147s.k41 Q) ((x0.1, x0.2.1, x0.2.2), (x1), (x3), (), (x18), (x20), (x24), ()) w52))
  (jnC (F147s.k41 Q) ((x0.1, x0.2.1, x0.2.2), (x1), (x3), (), (x18), (x20), (x24), ()) w)
def F147s.k40 (Q : Value → World → Prop) : ((Option Addr × Nat × Nat) × Int × Int × Int × Unit × Int × Int × Int × Bool × Unit) → World → Prop := fun s w => ∀ _ : Nat → Value, F147s.k40c Q s.1 s.2.1 s.2.2.1 s.2.2.2.1 s.2.2.2.2.1 s.2.2.2.2.2.1 s.2.2.2.2.2.2.1 s.2.2.2.2.2.2.2.1 s.2.2.2.2.2.2.2.2.1 w
def F147s.b33c (Q : Value → World → Prop) (C33 : ((Option Addr × Nat × Nat) × Int × Int × Int × Unit × Int × Int × Int × Int × Int × Unit) → World → Prop) (x0 : (Option Addr × Nat × Nat)) (x1 : Int) (x2 : Int) (x3 : Int) (x4 : Unit) (x18 : Int) (x19 : Int) (x20 : Int) (x21 : Int) (x22 : Int) (w : World) : Prop :=
  vIf (decide (x20 < x21))
  (dr x0.1 fun b43 o44 =>
    gd (decide (0 ≤ (IntKind.wrap .i64 (x22 - (IntKind.wrap .i64 (Int.fdiv (IntKind.wrap .u64 (IntKind.wrap .i64 (x20 + x21))) (2 ^ 1))))))) <|
    gd (decide ((IntKind.wrap .i64 (x22 - (IntKind.wrap .i64 (Int.fdiv (IntKind.wrap .u64 (IntKind.wrap .i64 (x20 + x21))) (2 ^ 1))))) < ((x0.2.1 : Nat) : Int))) <|
    ldA 2 w.drew b43 (o44 + ((IntKind.wrap .i64 (x22 - (IntKind.wrap .i64 (Int.fdiv (IntKind.wrap .u64 (IntKind.wrap .i64 (x20 + x21))) (2 ^ 1)))))).toNat * 2) fun a45 =>
    dr x0.1 fun b46 o47 =>
    gd (decide (0 ≤ (IntKind.wrap .i64 (Int.fdiv (IntKind.wrap .u64 (IntKind.wrap .i64 (x20 + x21))) (2 ^ 1))))) <|
    gd (decide ((IntKind.wrap .i64 (Int.fdiv (IntKind.wrap .u64 (IntKind.wrap .i64 (x20 + x21))) (2 ^ 1))) < ((x0.2.1 : Nat) : Int))) <|
    ldA 2 w.drew b46 (o47 + ((IntKind.wrap .i64 (Int.fdiv (IntKind.wrap .u64 (IntKind.wrap .i64 (x20 + x21))) (2 ^ 1)))).toNat * 2) fun a48 =>
    Calls Tryz.prog 114 #[ofL a45, ofL a48] w.drew fun e50 w49 =>
    ∃ i51 : Int, e50 = .returned (Value.int .i64 i51) ∧ (
      vIf (!(decide (i51 < 0)))
      (jnC C33 ((x0.1, x0.2.1, x0.2.2), (x1), (x2), (x3), (), (x18), (x19), ((IntKind.wrap .i64 ((IntKind.wrap .i64 (Int.fdiv (IntKind.wrap .u64 (IntKind.wrap .i64 (x20 + x21))) (2 ^ 1))) + 1))), (x21), (x22), ()) w49)
      (jnC C33 ((x0.1, x0.2.1, x0.2.2), (x1), (x2), (x3), (), (x18), (x19), (x20), ((IntKind.wrap .i64 (Int.fdiv (IntKind.wrap .u64 (IntKind.wrap .i64 (x20 + x21))) (2 ^ 1)))), (x22), ()) w49)))
  (vIf (decide (x20 < x2))
    (jnC (F147s.k40 Q) ((x0.1, x0.2.1, x0.2.2), (x1), (x2), (x3), (), (x18), (x20), ((IntKind.wrap .i64 (x19 - x20))), (decide (x2 < (IntKind.wrap .i64 (x19 - x20)))), ()) w)
    (jnC (F147s.k40 Q) ((x0.1, x0.2.1, x0.2.2), (x1), (x2), (x3), (), (x18), (x20), ((IntKind.wrap .i64 (x19 - x20))), false, ()) w))
def F147s.b33 (Q : Value → World → Prop) : ((Option Addr × Nat × Nat) × Int × Int × Int × Unit × Int × Int × Int × Int × Int × Unit) → World → (((Option Addr × Nat × Nat) × Int × Int × Int × Unit × Int × Int × Int × Int × Int × Unit) → World → Prop) → Prop := fun s w C33 => ∀ _ : Nat → Value, F147s.b33c Q C33 s.1 s.2.1 s.2.2.1 s.2.2.2.1 s.2.2.2.2.1 s.2.2.2.2.2.1 s.2.2.2.2.2.2.1 s.2.2.2.2.2.2.2.1 s.2.2.2.2.2.2.2.2.1 s.2.2.2.2.2.2.2.2.2.1 w
def F147s.l33 (Q : Value → World → Prop) : ((Option Addr × Nat × Nat) × Int × Int × Int × Unit × Int × Int × Int × Int × Int × Unit) → World → Prop := fun s w => ∃ n, loopC (F147s.b33 Q) n s w
def F147s.k32c (Q : Value → World → Prop) (x0 : (Option Addr × Nat × Nat)) (x1 : Int) (x2 : Int) (x3 : Int) (x4 : Unit) (x18 : Int) (x19 : Int) (x20 : Int) (x21 : Int) (w : World) : Prop :=
  jnC (F147s.l33 Q) ((x0.1, x0.2.1, x0.2.2), (x1), (x2), (x3), (), (x18), (x19), (x20), (x21), ((IntKind.wrap .i64 (x19 - 1))), ()) w
def F147s.k32 (Q : Value → World → Prop) : ((Option Addr × Nat × Nat) × Int × Int × Int × Unit × Int × Int × Int × Int × Unit) → World → Prop := fun s w => ∀ _ : Nat → Value, F147s.k32c Q s.1 s.2.1 s.2.2.1 s.2.2.2.1 s.2.2.2.2.1 s.2.2.2.2.2.1 s.2.2.2.2.2.2.1 s.2.2.2.2.2.2.2.1 s.2.2.2.2.2.2.2.2.1 w
def F147s.vc (x0A : Option Addr) (x0n x0c : Nat) (x1 : Int) (x2 : Int) (x3 : Int) (w : World) (Q : Value → World → Prop) : Prop :=
  vIf ((IntKind.wrap .i64 (x2 - x1)) == 1)
  (jnC (F147s.l3 Q) ((x0A, x0n, x0c), (x1), (), (x2), (x3), ()) w)
  (vIf ((IntKind.wrap .i64 (x3 - x2)) == 1)
    (jnC (F147s.l15 Q) ((x0A, x0n, x0c), (x2), (), (x1), (x2), ()) w)
    (vIf (decide (x2 > (IntKind.wrap .i64 (Int.fdiv (IntKind.wrap .u64 (IntKind.wrap .i64 (x1 + x3))) (2 ^ 1)))))
      (jnC (F147s.k32 Q) ((x0A, x0n, x0c), (x1), (x2), (x3), (), ((IntKind.wrap .i64 (Int.fdiv (IntKind.wrap .u64 (IntKind.wrap .i64 (x1 + x3))) (2 ^ 1)))), ((IntKind.wrap .i64 ((IntKind.wrap .i64 (Int.fdiv (IntKind.wrap .u64 (IntKind.wrap .i64 (x1 + x3))) (2 ^ 1))) + x2))), ((IntKind.wrap .i64 ((IntKind.wrap .i64 ((IntKind.wrap .i64 (Int.fdiv (IntKind.wrap .u64 (IntKind.wrap .i64 (x1 + x3))) (2 ^ 1))) + x2)) - x3))), ((IntKind.wrap .i64 (Int.fdiv (IntKind.wrap .u64 (IntKind.wrap .i64 (x1 + x3))) (2 ^ 1)))), ()) w)
      (jnC (F147s.k32 Q) ((x0A, x0n, x0c), (x1), (x2), (x3), (), ((IntKind.wrap .i64 (Int.fdiv (IntKind.wrap .u64 (IntKind.wrap .i64 (x1 + x3))) (2 ^ 1)))), ((IntKind.wrap .i64 ((IntKind.wrap .i64 (Int.fdiv (IntKind.wrap .u64 (IntKind.wrap .i64 (x1 + x3))) (2 ^ 1))) + x2))), (x1), (x2), ()) w)))
def F147s.an : Ann := ⟨[(3, [(0, .kSl), (1, .kI .i64), (4, .kF 114), (10, .kI .i64), (11, .kI .i64)]), (9, [(0, .kSl), (10, .kI .i64), (13, .kI .i64)]), (15, [(0, .kSl), (2, .kI .i64), (4, .kF 114), (14, .kI .i64), (15, .kI .i64)]), (21, [(0, .kSl), (14, .kI .i64), (17, .kI .i64)]), (33, [(0, .kSl), (1, .kI .i64), (2, .kI .i64), (3, .kI .i64), (4, .kF 114), (18, .kI .i64), (19, .kI .i64), (20, .kI .i64), (21, .kI .i64), (22, .kI .i64)])], [(32, [(0, .kSl), (1, .kI .i64), (2, .kI .i64), (3, .kI .i64), (4, .kF 114), (18, .kI .i64), (19, .kI .i64), (20, .kI .i64), (21, .kI .i64)]), (40, [(0, .kSl), (1, .kI .i64), (2, .kI .i64), (3, .kI .i64), (4, .kF 114), (18, .kI .i64), (20, .kI .i64), (24, .kI .i64), (185, .kB)]), (41, [(0, .kSl), (1, .kI .i64), (3, .kI .i64), (4, .kF 114), (18, .kI .i64), (20, .kI .i64), (24, .kI .i64)]), (42, [(0, .kSl), (1, .kI .i64), (3, .kI .i64), (4, .kF 114), (18, .kI .i64), (20, .kI .i64), (24, .kI .i64), (199, .kB)]), (43, [(0, .kSl), (3, .kI .i64), (4, .kF 114), (18, .kI .i64), (24, .kI .i64)]), (44, [(0, .kSl), (3, .kI .i64), (4, .kF 114), (18, .kI .i64), (24, .kI .i64), (213, .kB)])]⟩
theorem F147s.of (x0A : Option Addr) (x0n x0c : Nat) (x1 : Int) (x2 : Int) (x3 : Int) (w : World) {Q : Value → World → Prop} (h : F147s.vc x0A x0n x0c x1 x2 x3 w Q) : Calls Tryz.prog 147 #[Value.slice x0A x0n x0c, Value.int .i64 x1, Value.int .i64 x2, Value.int .i64 x3, Value.func (.func 114) #[] #[]] w (fun e w' => ∃ v, e = .returned v ∧ Q v w') := vcFn_of (A := F147s.an) noCount mixed h (by kernel_rfl)
/-! ### function 151: slices.rotateCmpFunc[stillage/api.Named] -/
def F151s.b2c (Q : Value → World → Prop) (C2 : ((Option Addr × Nat × Nat) × Int × Unit × Int × Int × Unit) → World → Prop) (x0 : (Option Addr × Nat × Nat)) (x2 : Int) (x4 : Unit) (x10 : Int) (x11 : Int) (w : World) : Prop :=
  vIf (x10 != x11)
  (vIf (decide (x10 > x11))
    (Calls Tryz.prog 153 #[Value.slice x0.1 x0.2.1 x0.2.2, Value.int .i64 (IntKind.wrap .i64 (x2 - x10)), Value.int .i64 x2, Value.int .i64 x11, Value.func (.func 114) #[] #[]] w fun e2 w1 =>
      e2 = .returned (Value.tuple #[]) ∧ (
        jnC C2 ((x0.1, x0.2.1, x0.2.2), (x2), (), ((IntKind.wrap .i64 (x10 - x11))), (x11), ()) w1))
    (Calls Tryz.prog 153 #[Value.slice x0.1 x0.2.1 x0.2.2, Value.int .i64 (IntKind.wrap .i64 (x2 - x10)), Value.int .i64 (IntKind.wrap .i64 ((IntKind.wrap .i64 (x2 + x11)) - x10)), Value.int .i64 x10, Value.func (.func 114) #[] #[]] w fun e4 w3 =>
      e4 = .returned (Value.tuple #[]) ∧ (
        jnC C2 ((x0.1, x0.2.1, x0.2.2), (x2), (), (x10), ((IntKind.wrap .i64 (x11 - x10))), ()) w3)))
  (Calls Tryz.prog 153 #[Value.slice x0.1 x0.2.1 x0.2.2, Value.int .i64 (IntKind.wrap .i64 (x2 - x10)), Value.int .i64 x2, Value.int .i64 x10, Value.func (.func 114) #[] #[]] w fun e6 w5 =>
    e6 = .returned (Value.tuple #[]) ∧ (
      Q (Value.tuple #[]) w5))
def F151s.b2 (Q : Value → World → Prop) : ((Option Addr × Nat × Nat) × Int × Unit × Int × Int × Unit) → World → (((Option Addr × Nat × Nat) × Int × Unit × Int × Int × Unit) → World → Prop) → Prop := fun s w C2 => ∀ _ : Nat → Value, F151s.b2c Q C2 s.1 s.2.1 s.2.2.1 s.2.2.2.1 s.2.2.2.2.1 w
def F151s.l2 (Q : Value → World → Prop) : ((Option Addr × Nat × Nat) × Int × Unit × Int × Int × Unit) → World → Prop := fun s w => ∃ n, loopC (F151s.b2 Q) n s w
def F151s.vc (x0A : Option Addr) (x0n x0c : Nat) (x1 : Int) (x2 : Int) (x3 : Int) (w : World) (Q : Value → World → Prop) : Prop :=
  jnC (F151s.l2 Q) ((x0A, x0n, x0c), (x2), (), ((IntKind.wrap .i64 (x2 - x1))), ((IntKind.wrap .i64 (x3 - x2))), ()) w
def F151s.an : Ann := ⟨[(2, [(0, .kSl), (2, .kI .i64), (4, .kF 114), (10, .kI .i64), (11, .kI .i64)])], []⟩
theorem F151s.of (x0A : Option Addr) (x0n x0c : Nat) (x1 : Int) (x2 : Int) (x3 : Int) (w : World) {Q : Value → World → Prop} (h : F151s.vc x0A x0n x0c x1 x2 x3 w Q) : Calls Tryz.prog 151 #[Value.slice x0A x0n x0c, Value.int .i64 x1, Value.int .i64 x2, Value.int .i64 x3, Value.func (.func 114) #[] #[]] w (fun e w' => ∃ v, e = .returned v ∧ Q v w') := vcFn_of (A := F151s.an) noCount mixed h (by kernel_rfl)
/-! ### function 153: slices.swapRangeCmpFunc[stillage/api.Named] -/
def F153s.b1c (Q : Value → World → Prop) (C1 : ((Option Addr × Nat × Nat) × Int × Int × Int × Int × Unit) → World → Prop) (x0 : (Option Addr × Nat × Nat)) (x1 : Int) (x2 : Int) (x3 : Int) (x10 : Int) (w : World) : Prop :=
  vIf (decide (x10 < x3))
  (dr x0.1 fun b1 o2 =>
    gd (decide (0 ≤ (IntKind.wrap .i64 (x2 + x10)))) <|
    gd (decide ((IntKind.wrap .i64 (x2 + x10)) < ((x0.2.1 : Nat) : Int))) <|
    ldA 2 w.drew b1 (o2 + ((IntKind.wrap .i64 (x2 + x10))).toNat * 2) fun a3 =>
    dr x0.1 fun b4 o5 =>
    gd (decide (0 ≤ (IntKind.wrap .i64 (x1 + x10)))) <|
    gd (decide ((IntKind.wrap .i64 (x1 + x10)) < ((x0.2.1 : Nat) : Int))) <|
    ldA 2 w.drew b4 (o5 + ((IntKind.wrap .i64 (x1 + x10))).toNat * 2) fun a6 =>
    dr x0.1 fun b7 o8 =>
    gd (decide (0 ≤ (IntKind.wrap .i64 (x1 + x10)))) <|
    gd (decide ((IntKind.wrap .i64 (x1 + x10)) < ((x0.2.1 : Nat) : Int))) <|
    gd (a3.length == 2) <|
    st w.drew b7 (o8 + ((IntKind.wrap .i64 (x1 + x10))).toNat * 2) a3 fun w9 =>
    dr x0.1 fun b10 o11 =>
    gd (decide (0 ≤ (IntKind.wrap .i64 (x2 + x10)))) <|
    gd (decide ((IntKind.wrap .i64 (x2 + x10)) < ((x0.2.1 : Nat) : Int))) <|
    gd (a6.length == 2) <|
    st w9 b10 (o11 + ((IntKind.wrap .i64 (x2 + x10))).toNat * 2) a6 fun w12 =>
    jnC C1 ((x0.1, x0.2.1, x0.2.2), (x1), (x2), (x3), ((IntKind.wrap .i64 (x10 + 1))), ()) w12)
  (Q (Value.tuple #[]) w)
def F153s.b1 (Q : Value → World → Prop) : ((Option Addr × Nat × Nat) × Int × Int × Int × Int × Unit) → World → (((Option Addr × Nat × Nat) × Int × Int × Int × Int × Unit) → World → Prop) → Prop := fun s w C1 => ∀ _ : Nat → Value, F153s.b1c Q C1 s.1 s.2.1 s.2.2.1 s.2.2.2.1 s.2.2.2.2.1 w
def F153s.l1 (Q : Value → World → Prop) : ((Option Addr × Nat × Nat) × Int × Int × Int × Int × Unit) → World → Prop := fun s w => ∃ n, loopC (F153s.b1 Q) n s w
def F153s.vc (x0A : Option Addr) (x0n x0c : Nat) (x1 : Int) (x2 : Int) (x3 : Int) (w : World) (Q : Value → World → Prop) : Prop :=
  jnC (F153s.l1 Q) ((x0A, x0n, x0c), (x1), (x2), (x3), (0), ()) w
def F153s.an : Ann := ⟨[(1, [(0, .kSl), (1, .kI .i64), (2, .kI .i64), (3, .kI .i64), (10, .kI .i64)])], []⟩
theorem F153s.of (x0A : Option Addr) (x0n x0c : Nat) (x1 : Int) (x2 : Int) (x3 : Int) (w : World) {Q : Value → World → Prop} (h : F153s.vc x0A x0n x0c x1 x2 x3 w Q) : Calls Tryz.prog 153 #[Value.slice x0A x0n x0c, Value.int .i64 x1, Value.int .i64 x2, Value.int .i64 x3, Value.func (.func 114) #[] #[]] w (fun e w' => ∃ v, e = .returned v ∧ Q v w') := vcFn_of (A := F153s.an) noCount mixed h (by kernel_rfl)
end Go.Proofs.YtfdhaeglhkmmpaaGreat
/- the print of chapter 12 -/
/- the order of texts, plainly; strings.Compare -/
namespace Go.Proofs.YtfdhaeglhkmmpaaGreat
open Go.GV Go.RowKit Go.Lib
set_option linter.unusedVariables false
set_option linter.unusedSimpArgs false
/-! ### the order of texts -/
def cmpN (a b : ByteArray) : Int := compareBytes a.data.toList b.data.toList
theorem ba_ext {a b : ByteArray} (h : a.data.toList = b.data.toList) : a = b := by
  obtain ⟨⟨x⟩⟩ := a
  obtain ⟨⟨y⟩⟩ := b
  have h : x = y := h
  rw [h]
theorem neq (a b : ByteArray) : (a.toList == b.toList) = decide (a = b) := by
  rw [toList_data, toList_data, Bool.eq_iff_iff, beq_iff_eq, decide_eq_true_iff]
  exact ⟨ba_ext, fun h => by rw [h]⟩
theorem cmpN_zero (a b : ByteArray) : cmpN a b = 0 ↔ a = b := by
  unfold cmpN
  rw [cmp_zero]
  exact ⟨ba_ext, fun h => by rw [h]⟩
theorem cmpN_self (a : ByteArray) : cmpN a a = 0 := (cmpN_zero a a).2 rfl
theorem cmpN_anti (a b : ByteArray) : cmpN a b = - cmpN b a := cmp_anti _ _
theorem cmpN_trans {a b c : ByteArray} (h1 : cmpN a b < 0) (h2 : cmpN b c < 0) : cmpN a c < 0 := by
  have h := cmp_trans a.data.toList b.data.toList c.data.toList (by unfold cmpN at h1; omega) (by unfold cmpN at h2; omega)
  have h : cmpN a c ≤ 0 := h
  by_cases h0 : cmpN a c = 0
  · have := (cmpN_zero a c).1 h0
    subst this
    have := cmpN_anti a b
    omega
  · omega
theorem strcmp_calls (a b : ByteArray) (w : World) : Calls Tryz.prog 101 #[.string a, .string b] w fun e w' => e = .returned (.int .i64 (cmpN a b)) ∧ w' = w := by
  refine (F101.of a b w (Q := fun v w' => v = .int .i64 (cmpN a b) ∧ w' = w) ?_).mono (fun e w' ⟨v, he, hv, h⟩ => ⟨by rw [he, hv], h⟩)
  refine (F132.of a b w (Q := fun v w' => v = .int .i64 (cmpN a b) ∧ w' = w) ?_).mono ?_
  · exact ⟨_, Extern.BytealgCompare.compare, _, _, Tryz.func145, by kernel_rfl, by kernel_rfl, by kernel_rfl, Lib.run_compareString a b w, cmpN a b, rfl, rfl, rfl⟩
  · rintro e w' ⟨v, rfl, rfl, rfl⟩
    exact ⟨_, rfl, rfl, rfl⟩
end Go.Proofs.YtfdhaeglhkmmpaaGreat
/- stable sorting, plainly: tagged elements, chunks, rotations. No program in sight. -/
namespace Go.Stb
set_option linter.unusedVariables false
variable {α β : Type}
/-! ### lists -/
theorem get_mid {P R : List α} {x : α} {i : Nat} (hi : i = P.length) : (P ++ x :: R)[i]? = some x := by subst hi; simp
theorem set_mid {P R : List α} {x y : α} {i : Nat} (hi : i = P.length) : (P ++ x :: R).set i y = P ++ y :: R := by subst hi; simp
/-! ### the order -/
structure OrdC (cmp : β → β → Int) : Prop where
  anti : ∀ a b, cmp a b = - cmp b a
  trans : ∀ a b c, cmp a b ≤ 0 → cmp b c ≤ 0 → cmp a c ≤ 0
section
variable {cmp : β → β → Int}
/-- ahead of: by the order, else by the tag -/
def lt (cmp : β → β → Int) (x y : β × Nat) : Prop := cmp x.1 y.1 < 0 ∨ (cmp x.1 y.1 = 0 ∧ x.2 < y.2)
def Sorted (cmp : β → β → Int) (l : List (β × Nat)) : Prop := l.Pairwise (lt cmp)
/-- what stood ahead -/
def bef (x y : β × Nat) : Prop := x.2 < y.2
theorem OrdC.lt_le (h : OrdC cmp) {a b c : β} (h1 : cmp a b < 0) (h2 : cmp b c ≤ 0) : cmp a c < 0 := by
  have h3 := h.trans a b c (by omega) h2
  by_cases h0 : cmp a c = 0
  · have h4 := h.anti c a
    have h5 := h.trans b c a h2 (by omega)
    have h6 := h.anti a b
    omega
  · omega
theorem OrdC.le_lt (h : OrdC cmp) {a b c : β} (h1 : cmp a b ≤ 0) (h2 : cmp b c < 0) : cmp a c < 0 := by
  have h3 := h.trans a b c h1 (by omega)
  by_cases h0 : cmp a c = 0
  · have h4 := h.anti c a
    have h5 := h.trans c a b (by omega) h1
    have h6 := h.anti b c
    omega
  · omega
theorem lt_trans (h : OrdC cmp) {x y z : β × Nat} (h1 : lt cmp x y) (h2 : lt cmp y z) : lt cmp x z := by
  rcases h1 with h1 | ⟨h1, h1'⟩ <;> rcases h2 with h2 | ⟨h2, h2'⟩
  · exact .inl (h.lt_le h1 (by omega))
  · exact .inl (h.lt_le h1 (by omega))
  · exact .inl (h.le_lt (by omega) h2)
  · have h3 := h.trans x.1 y.1 z.1 (by omega) (by omega)
    have h4 := h.trans z.1 y.1 x.1 (by have := h.anti z.1 y.1; omega) (by have := h.anti y.1 x.1; omega)
    have h5 := h.anti x.1 z.1
    exact .inr ⟨by omega, by omega⟩
theorem lt_asymm (h : OrdC cmp) {x y : β × Nat} (h1 : lt cmp x y) (h2 : lt cmp y x) : False := by
  have h3 := h.anti x.1 y.1
  rcases h1 with h1 | ⟨h1, h1'⟩ <;> rcases h2 with h2 | ⟨h2, h2'⟩ <;> omega
/-- what the comparison of a later with an earlier one tells -/
theorem bef_yes (h : OrdC cmp) {x y : β × Nat} (hb : bef x y) (hc : cmp y.1 x.1 < 0) : lt cmp y x := .inl hc
theorem bef_no (h : OrdC cmp) {x y : β × Nat} (hb : bef x y) (hc : ¬ cmp y.1 x.1 < 0) : lt cmp x y := by
  have h3 := h.anti x.1 y.1
  have hb : x.2 < y.2 := hb
  by_cases h0 : cmp x.1 y.1 = 0
  · exact .inr ⟨h0, hb⟩
  · exact .inl (by omega)
theorem sorted_get (h : OrdC cmp) {l : List (β × Nat)} (hs : Sorted cmp l) {i j : Nat} {x y : β × Nat} (hi : l[i]? = some x) (hj : l[j]? = some y) (hij : i < j) : lt cmp x y := by
  obtain ⟨h1, rfl⟩ := List.getElem?_eq_some_iff.1 hi
  obtain ⟨h2, rfl⟩ := List.getElem?_eq_some_iff.1 hj
  exact (List.pairwise_iff_getElem.1 hs) i j h1 h2 hij
theorem sorted_app {A B : List (β × Nat)} (hA : Sorted cmp A) (hB : Sorted cmp B) (hAB : ∀ x ∈ A, ∀ y ∈ B, lt cmp x y) : Sorted cmp (A ++ B) := List.pairwise_append.2 ⟨hA, hB, hAB⟩
theorem sorted_of_app {A B : List (β × Nat)} (h : Sorted cmp (A ++ B)) : Sorted cmp A ∧ Sorted cmp B ∧ ∀ x ∈ A, ∀ y ∈ B, lt cmp x y := List.pairwise_append.1 h
/-- sorted rows of the same members are one -/
theorem sorted_unique (h : OrdC cmp) : ∀ {a b : List (β × Nat)}, Sorted cmp a → Sorted cmp b → a.Perm b → a = b
  | [], b, _, _, hp => by rw [List.nil_perm.1 hp]
  | x :: a, [], _, _, hp => by have := hp.length_eq; simp at this
  | x :: a, y :: b, ha, hb, hp => by
    have hca := List.pairwise_cons.1 ha
    have hcb := List.pairwise_cons.1 hb
    have hxy : x = y := by
      rcases List.mem_cons.1 (hp.mem_iff.1 (List.mem_cons_self (a := x) (l := a))) with h1 | h1
      · exact h1
      · rcases List.mem_cons.1 (hp.mem_iff.2 (List.mem_cons_self (a := y) (l := b))) with h2 | h2
        · exact h2.symm
        · exact (lt_asymm h (hcb.1 x h1) (hca.1 y h2)).elim
    subst hxy
    rw [sorted_unique h hca.2 hcb.2 ((List.perm_cons x).1 hp)]
/-! ### the row in its order -/
/-- an element behind all that aren't above it -/
def ins (cmp : β → β → Int) (x : β) : List β → List β
  | [] => [x]
  | y :: r => if cmp x y < 0 then x :: y :: r else y :: ins cmp x r
def stab (cmp : β → β → Int) (l : List β) : List β := l.foldl (fun a x => ins cmp x a) []
theorem stab_snoc (l : List β) (x : β) : stab cmp (l ++ [x]) = ins cmp x (stab cmp l) := by unfold stab; rw [List.foldl_append]; rfl
def insT (cmp : β → β → Int) (x : β × Nat) : List (β × Nat) → List (β × Nat)
  | [] => [x]
  | y :: r => if cmp x.1 y.1 < 0 then x :: y :: r else y :: insT cmp x r
theorem insT_fst (x : β × Nat) : ∀ l : List (β × Nat), (insT cmp x l).map (·.1) = ins cmp x.1 (l.map (·.1))
  | [] => rfl
  | y :: r => by
    unfold insT ins
    rw [List.map_cons]
    show _ = (if cmp x.1 y.1 < 0 then _ else _)
    split
    · rfl
    · rw [List.map_cons, insT_fst x r]
theorem insT_perm (x : β × Nat) : ∀ l : List (β × Nat), (insT cmp x l).Perm (x :: l)
  | [] => List.Perm.refl _
  | y :: r => by
    unfold insT
    split
    · exact List.Perm.refl _
    · exact ((insT_perm x r).cons y).trans (List.Perm.swap x y r)
theorem insT_sorted (h : OrdC cmp) (x : β × Nat) : ∀ l : List (β × Nat), Sorted cmp l → (∀ y ∈ l, bef y x) → Sorted cmp (insT cmp x l)
  | [], _, _ => List.pairwise_singleton _ _
  | y :: r, hs, hb => by
    have hc := List.pairwise_cons.1 hs
    unfold insT
    by_cases h1 : cmp x.1 y.1 < 0
    · rw [if_pos h1]
      refine List.pairwise_cons.2 ⟨fun z hz => ?_, hs⟩
      rcases List.mem_cons.1 hz with rfl | hz
      · exact .inl h1
      · exact lt_trans h (.inl h1) (hc.1 z hz)
    · rw [if_neg h1]
      refine List.pairwise_cons.2 ⟨fun z hz => ?_, insT_sorted h x r hc.2 (fun z hz => hb z (List.mem_cons_of_mem _ hz))⟩
      rcases List.mem_cons.1 ((insT_perm x r).mem_iff.1 hz) with rfl | hz
      · exact bef_no h (hb y (List.mem_cons_self ..)) h1
      · exact hc.1 z hz
/-- the row with its tags -/
def tagL (l : List β) : List (β × Nat) := l.zipIdx
theorem tagL_fst (l : List β) : (tagL l).map (·.1) = l := by simp [tagL]
theorem tagL_snoc (l : List β) (x : β) : tagL (l ++ [x]) = tagL l ++ [(x, l.length)] := by simp [tagL, List.zipIdx_append]
theorem tagL_lt {l : List β} {x : β × Nat} (h : x ∈ tagL l) : x.2 < l.length := by
  have := List.snd_lt_of_mem_zipIdx h
  simpa using this
theorem snoc_ind {P : List β → Prop} (h0 : P []) (h1 : ∀ l x, P l → P (l ++ [x])) (l : List β) : P l := by
  have : ∀ n (l : List β), l.length = n → P l := by
    intro n
    induction n with
    | zero => intro l hl; rw [List.length_eq_zero_iff.1 hl]; exact h0
    | succ n ih =>
      intro l hl
      have hne : l ≠ [] := by intro h; rw [h] at hl; cases hl
      rw [← List.dropLast_concat_getLast hne]
      exact h1 _ _ (ih _ (by simp [hl]))
  exact this _ l rfl
theorem stab_spec (h : OrdC cmp) (l : List β) : ∃ m, Sorted cmp m ∧ m.Perm (tagL l) ∧ m.map (·.1) = stab cmp l := by
  refine snoc_ind (P := fun l => ∃ m, Sorted cmp m ∧ m.Perm (tagL l) ∧ m.map (·.1) = stab cmp l) ⟨[], List.Pairwise.nil, List.Perm.refl _, rfl⟩ (fun l x ⟨m, h1, h2, h3⟩ => ?_) l
  refine ⟨insT cmp (x, l.length) m, insT_sorted h _ m h1 (fun y hy => tagL_lt (h2.mem_iff.1 hy)), ?_, ?_⟩
  · rw [tagL_snoc]
    exact (insT_perm _ m).trans ((h2.cons _).trans (List.perm_append_singleton _ _).symm)
  · rw [insT_fst, h3, stab_snoc]
/-- a sorted row of what a row has, tagged, is that row in order -/
theorem stab_of (h : OrdC cmp) {l : List β} {m : List (β × Nat)} (hs : Sorted cmp m) (hp : m.Perm (tagL l)) : m.map (·.1) = stab cmp l := by
  obtain ⟨m', h1, h2, h3⟩ := stab_spec h l
  rw [sorted_unique h hs h1 (hp.trans h2.symm), h3]
theorem ins_perm (x : β) : ∀ l : List β, (ins cmp x l).Perm (x :: l)
  | [] => List.Perm.refl _
  | y :: r => by
    unfold ins
    split
    · exact List.Perm.refl _
    · exact ((ins_perm x r).cons y).trans (List.Perm.swap x y r)
theorem stab_perm (l : List β) : (stab cmp l).Perm l :=
  snoc_ind (P := fun l => (stab cmp l).Perm l) (List.Perm.refl _) (fun l x ih => by rw [stab_snoc]; exact (ins_perm x _).trans ((ih.cons x).trans (List.perm_append_singleton _ _).symm)) l
theorem stab_len (l : List β) : (stab cmp l).length = l.length := (stab_perm l).length_eq
/-! ### chunks -/
/-- every one of a chunk stood ahead of every one of a later chunk -/
def befC (c d : List (β × Nat)) : Prop := ∀ x ∈ c, ∀ y ∈ d, bef x y
theorem befC_merge {Ds R : List (List (β × Nat))} {c d m : List (β × Nat)} (h : (Ds ++ c :: d :: R).Pairwise befC) (hm : m.Perm (c ++ d)) : (Ds ++ m :: R).Pairwise befC := by
  have h := List.pairwise_append.1 h
  have hc := List.pairwise_cons.1 h.2.1
  have hd := List.pairwise_cons.1 hc.2
  refine List.pairwise_append.2 ⟨h.1, List.pairwise_cons.2 ⟨fun r hr x hx y hy => ?_, hd.2⟩, fun e he r hr x hx y hy => ?_⟩
  · rcases List.mem_append.1 (hm.mem_iff.1 hx) with hx | hx
    · exact hc.1 r (List.mem_cons_of_mem _ hr) x hx y hy
    · exact hd.1 r hr x hx y hy
  · rcases List.mem_cons.1 hr with rfl | hr
    · rcases List.mem_append.1 (hm.mem_iff.1 hy) with hy | hy
      · exact h.2.2 e he c (List.mem_cons_self ..) x hx y hy
      · exact h.2.2 e he d (List.mem_cons_of_mem _ (List.mem_cons_self ..)) x hx y hy
    · exact h.2.2 e he r (List.mem_cons_of_mem _ (List.mem_cons_of_mem _ hr)) x hx y hy
theorem befC_two {Ds R : List (List (β × Nat))} {c d : List (β × Nat)} (h : (Ds ++ c :: d :: R).Pairwise befC) : befC c d := by
  have h := List.pairwise_append.1 h
  exact (List.pairwise_cons.1 h.2.1).1 d (List.mem_cons_self ..)
theorem flat_len {k : Nat} : ∀ {Fs : List (List (β × Nat))}, (∀ f ∈ Fs, f.length = k) → Fs.flatten.length = Fs.length * k
  | [], _ => by simp
  | f :: r, h => by
    rw [List.flatten_cons, List.length_append, h f (List.mem_cons_self ..), flat_len (fun g hg => h g (List.mem_cons_of_mem _ hg)), List.length_cons, Nat.add_mul]; omega
end
end Go.Stb
/- ints: rows, read and pushed -/
namespace Go.Proofs.YtfdhaeglhkmmpaaGreat
open Go.GV Go.RowKit Go.Lib
set_option linter.unusedVariables false
set_option linter.unusedSimpArgs false
def ivs (l : List Int) : List Value := l.map (Value.int .i64)
theorem ivs_len (l : List Int) : (ivs l).length = l.length := by simp [ivs]
theorem ivs_app (a b : List Int) : ivs (a ++ b) = ivs a ++ ivs b := by simp [ivs]
theorem ivs_one (l : List Int) : ∀ v ∈ ivs l, v.oneCell' = true := by
  intro v hv
  simp only [ivs, List.mem_map] at hv
  obtain ⟨x, _, rfl⟩ := hv
  rfl
theorem ivs_at {l : List Int} {i : Nat} {x : Int} (h : l[i]? = some x) : (ivs l)[i]? = some (.int .i64 x) := by simp [ivs, h]
theorem ivs_take (l : List Int) (k : Nat) : (ivs l).take k = ivs (l.take k) := by simp [ivs]
theorem ei (i : Nat) (h : i < 1099511627776) : IntKind.wrap .i64 ((i : Int) + 1) = ((i + 1 : Nat) : Int) := by rw [i64_id (by omega) (by omega)]; rfl
theorem sl_n {w : World} {A : Option Addr} {n : Nat} {l : List Int} (h : Sl w 1 A n (ivs l)) : l.length = n := by
  have := h.1
  rw [ivs_len] at this
  omega
theorem sl_at {w : World} {A : Option Addr} {n : Nat} {l : List Int} (h : Sl w 1 A n (ivs l)) {i : Nat} (hi : i < n) {x : Int} (hx : l[i]? = some x) : ∃ b o, A = some ⟨b, o, none⟩ ∧ ∀ j y, l[j]? = some y → cellAt w b (o + j * 1) = some (.int .i64 y) := by
  obtain ⟨b, o, hA, hc⟩ := h.2 (by omega)
  exact ⟨b, o, hA, fun j y hj => by rw [Nat.mul_one]; exact hc j _ (ivs_at hj)⟩
/-- a step of a loop over a row of ints -/
theorem sl_rd {w : World} {A : Option Addr} {n : Nat} {l : List Int} (h : Sl w 1 A n (ivs l)) {i : Nat} (hi : i < n) {x : Int} (hx : l[i]? = some x) {K : Int → Prop} (hK : K x) :
    dr A fun b o => gd (decide (0 ≤ (i : Int))) (gd (decide ((i : Int) < ((n : Nat) : Int))) (ldI .i64 w b (o + ((i : Int)).toNat * 1) K)) := by
  obtain ⟨b, o, rfl, hc⟩ := sl_at h hi hx
  refine dr_mk (gd_mk (decide_eq_true (by omega)) (gd_mk (decide_eq_true (by omega)) ⟨x, ?_, hK⟩))
  rw [Int.toNat_natCast]
  exact hc i x hx
theorem row_low {u : World} {B B' : Nat} {e : TypeId} {sz : Nat} {A : Option Addr} {k c : Nat} {vs : List Value} (hB : B' ≤ B) (hr : Row u B e sz A k c vs) : Row u B' e sz A k c vs := by
  refine ⟨hr.len, hr.le, ?_⟩
  rcases hr.at_ with h' | ⟨b', cs', q1, q2, q3⟩
  · exact .inl h'
  · exact .inr ⟨b', cs', q1, by omega, q3⟩
theorem at_lt {l : List Int} {i : Nat} (h : i < l.length) : l[i]? = some (l[i]'h) := List.getElem?_eq_getElem h
end Go.Proofs.YtfdhaeglhkmmpaaGreat
/- slices.Insert of one: rows of api.Named -/
namespace Go.Proofs.YtfdhaeglhkmmpaaGreat.InsNm
open Go.GV Go.RowKit
set_option linter.unusedVariables false
set_option linter.unusedSimpArgs false
section
variable {β : Type} {enc : β → List Value}
theorem src_rec {w : World} {b : Nat} {e : TypeId} {cs : List Value} {sz : Nat} (h : RecAt w b e cs) (hl : cs.length = sz) : srcOf w sz (.slice (some ⟨b, 0, none⟩) 1 1) 1 cs :=
  ⟨rfl, by omega, fun _ => dr_mk (h.cells (o := 0) (fun j v hj => by simpa using hj))⟩
set_option maxHeartbeats 1000000 in
theorem insert_calls (h0 : EncO β enc 2) (B : Nat) (A : Option Addr) (n c i : Nat) (l : List β) (x : β) (bv : Nat) (w : World) (h : Row w B 94 2 A n c (flt enc l)) (hl : l.length = n) (hi : i ≤ n) (hv : RecAt w bv 94 (enc x)) (hA : blkOf A ≠ some bv) (hB : B ≤ w.heap.size) (hn : n ≤ 1073741824) :
    Calls Tryz.prog 137 #[.slice A n c, .int .i64 (i : Nat), .slice (some ⟨bv, 0, none⟩) 1 1] w fun e w' => ∃ A' c', e = .returned (.slice A' (n + 1) c') ∧ Fr (fun k => blkOf A = some k) w w' ∧ Row w' B 94 2 A' (n + 1) c' (flt enc (l.take i ++ x :: l.drop i)) ∧ ∀ k, blkOf A' = some k → blkOf A = some k ∨ w.heap.size ≤ k := by
  refine (F137.of A n c _ (some ⟨bv, 0, none⟩) 1 1 w (Q := fun v w' => ∃ A' c', v = .slice A' (n + 1) c' ∧ Fr (fun k => blkOf A = some k) w w' ∧ Row w' B 94 2 A' (n + 1) c' (flt enc (l.take i ++ x :: l.drop i)) ∧ ∀ k, blkOf A' = some k → blkOf A = some k ∨ w.heap.size ≤ k) ?_).mono (fun e w' ⟨v, he, A', c', hv, h⟩ => ⟨A', c', by rw [he, hv], h⟩)
  have hle := h.le
  have hx := h0.len x
  have hfl := h0.fl l
  have hsx := src_rec hv hx
  have ox := h0.one x
  have htx : (enc x).take 2 = enc x := by rw [← hx, List.take_length]
  have hlT : (flt enc (l.take i)).length = i * 2 := by rw [h0.fl, List.length_take, hl, Nat.min_eq_left hi]
  have hlD : (flt enc (l.drop i)).length = (n - i) * 2 := by rw [h0.fl, List.length_drop, hl]
  have fin : flt enc (l.take i ++ x :: l.drop i) = flt enc (l.take i) ++ enc x ++ flt enc (l.drop i) := by rw [flt_app, flt_cons, List.append_assoc]
  rw [fin]
  clear fin
  refine gd_mk (decide_eq_true (by omega)) (gd_mk (decide_eq_true (by omega)) (vIf_f rfl (vIf_mk (fun he => ?_) (fun hne => ?_))))
  · have he : (i : Int) = (n : Int) := by simpa using he
    have he : i = n := by omega
    subst he
    have ht : l.take i = l := List.take_of_length_le (by omega)
    have hd : l.drop i = [] := List.drop_of_length_le (by omega)
    refine app_row2 (us := enc x) (m := 1) h hsx ox rfl (by omega) (by omega) hB (fun A' c' w' hr' f' hb' => ⟨A', c', rfl, f', ?_, hb'⟩)
    rw [ht, hd, flt_nil, List.append_nil]
    exact hr'
  have hne : i ≠ n := fun h => by subst h; simp at hne
  obtain ⟨b, hb⟩ : ∃ b, A = some ⟨b, 0, none⟩ := by
    rcases h.at_ with ⟨_, h0, _⟩ | ⟨b, _, hA, _⟩
    · omega
    · exact ⟨b, hA⟩
  subst hb
  have hbb : b ≠ bv := fun h => hA (by rw [h]; rfl)
  have en : IntKind.wrap .i64 ((n : Int) + ((1 : Nat) : Int)) = ((n + 1 : Nat) : Int) := by rw [i64_id (by omega) (by omega)]; rfl
  have ei : IntKind.wrap .i64 ((i : Int) + ((1 : Nat) : Int)) = ((i + 1 : Nat) : Int) := by rw [i64_id (by omega) (by omega)]; rfl
  have ed : IntKind.wrap .i64 (((n + 1 : Nat) : Int) - (i : Int)) = ((n + 1 - i : Nat) : Int) := by rw [i64_id (by omega) (by omega)]; omega
  have h00 : slA (some (⟨b, 0, none⟩ : Addr)) c 0 2 = some ⟨b, 0, none⟩ := sl0 _ _ _
  simp only [en, ei, ed, h00, Int.toNat_natCast]
  refine vIf_mk (fun hgt => ?_) (fun hng => ?_)
  · have hgt : c < n + 1 := by have := of_decide_eq_true hgt; omega
    refine gd_mk (decide_eq_true (by omega)) (gd_mk (decide_eq_true (by omega)) ?_)
    have hnm : i + (n + 1 - i) = n + 1 := by omega
    refine appZ_new (m := n + 1 - i) (old := flt enc (l.take i)) (B := B) (by rw [← h0.ft l (by omega)]; exact h.sl.headS (by omega)) (by rw [i64_id (by omega) (by omega)]) (by omega) (by intro v hv; repeat (first | (cases hv; done) | (rcases List.mem_cons.1 hv with rfl | hv; · rfl))) rfl (by omega) (by omega) (by omega) hB (fun b5 c5 w5 hb5 hr5 f5 => ?_)
    rw [hnm] at hr5 ⊢
    have hzl : (zeros (n + 1 - i) ([.string (⟨#[]⟩ : ByteArray), .int .i64 0] : List Value)).length = (n + 1 - i) * 2 := by rw [zeros_length]; rfl
    refine gd_mk (decide_eq_true (by omega)) (gd_mk (decide_eq_true (by omega)) ?_)
    refine cpy_row hr5 (src_rec (hv.fr f5 (fun h => h)) hx) (by omega) (by omega) (by rw [Nat.min_eq_left (by omega), Nat.one_mul, htx]; exact ox) (fun w6 hr6 f6 => ?_)
    rw [Nat.min_eq_left (by omega), Nat.one_mul, htx, splice_at hlT] at hr6
    refine gd_mk (decide_eq_true (by omega)) (gd_mk (decide_eq_true (by omega)) (gd_mk (decide_eq_true (by omega)) (gd_mk (decide_eq_true (by omega)) ?_)))
    have hsD := h.tailS (k := i) (by omega)
    rw [h0.fd l (by omega)] at hsD
    have hbl := (h.blt (b := b) rfl).2
    have f56 : Fr (fun k => b5 = k) w w6 := (f5.mono (fun _ _ h => h.elim)).trans1 (f6.mono (fun k _ h => by simpa [blkOf] using h))
    have f7 := f56.trans1 (Fr.drew _ _)
    have hsD7 := f7.sl hsD (fun _ k hk h => by rw [sl_blk] at hk; injection hk with hk; omega)
    refine cpy_row ((Fr.drew (fun _ => False) w6).row hr6 (fun _ _ h => h)) hsD7.src (by rw [hlD]) (by omega) (by intro v hv; exact h0.fo _ v (List.mem_of_mem_take hv)) (fun w8 hr8 f8 => ⟨_, _, rfl, ?_, ?_, fun k hk => .inr (by simp [blkOf] at hk; omega)⟩)
    · exact (f7.trans1 (f8.mono (fun k _ h => by simpa [blkOf] using h))).mono (fun k hk h => by omega)
    · have hD : (flt enc (l.drop i)).take (min (n - i) (n + 1 - (i + 1)) * 2) = flt enc (l.drop i) := List.take_of_length_le (by rw [hlD, show min (n - i) (n + 1 - (i + 1)) = n - i by omega]; exact Nat.le_refl _)
      have hd0 : ((zeros (n + 1 - i) ([.string (⟨#[]⟩ : ByteArray), .int .i64 0] : List Value)).drop (enc x).length).drop (flt enc (l.drop i)).length = [] := List.drop_of_length_le (by rw [List.length_drop, hzl, hx, hlD]; omega)
      rw [hD, splice_at (by rw [List.length_append, hlT, hx]; omega), hd0, List.append_nil] at hr8
      exact hr8
  · have hng : n + 1 ≤ c := by have := of_decide_eq_false hng; omega
    have hs1 : slA (some (⟨b, 0, none⟩ : Addr)) c (i + 1) 2 = some ⟨b, (i + 1) * 2, none⟩ := slS (by omega)
    refine gd_mk (decide_eq_true (by omega)) (gd_mk (decide_eq_true (by omega)) (gd_mk (decide_eq_true (by omega)) (gd_mk (decide_eq_true (by omega)) ?_)))
    obtain ⟨cs, hcs, hcl⟩ : ∃ cs, w.heap[b]? = some (.cells cs 94 (0, 0)) ∧ cs.size = c * 2 := by
      rcases h.at_ with ⟨h1, _⟩ | ⟨b', cs, hA', _, hh, hs, _⟩
      · cases h1
      · cases hA'; exact ⟨cs, hh, hs⟩
    have hov : ∀ K : Value → World → Prop, K (.bool false) w → extC Tryz.prog 148 #[Value.slice (some ⟨bv, 0, none⟩) 1 1, Value.slice (slA (some (⟨b, 0, none⟩ : Addr)) c (i + 1) 2) (n + 1 - (i + 1)) (c - (i + 1))] w K := by
      intro K hK
      rw [hs1]
      exact overlaps_ext (tS := 61) (tR := 4) (e := 94) Tryz.func148 (by kernel_rfl) (by kernel_rfl) (by kernel_rfl) (by kernel_rfl) (size := 2) (by decide) (by kernel_rfl) hv hcs (fun h => hbb h.symm) (by omega) hK
    refine hov _ ⟨false, rfl, vIf_t rfl ?_⟩
    refine gd_mk (decide_eq_true (by omega)) (gd_mk (decide_eq_true (by omega)) (gd_mk (decide_eq_true (by omega)) (gd_mk (decide_eq_true (by omega)) ?_)))
    have hwd := (Fr.drew (fun _ => False) w).row h (fun _ _ h => h)
    obtain ⟨us, hul, hE⟩ := row_ext hwd (k := 1) (by omega)
    have hsE := hE.tailS (k := i) (by omega)
    have hEl : (flt enc l ++ us).length = (n + 1) * 2 := hE.len
    have hmin : min (n + 1 - i) (n + 1 - (i + 1)) = n - i := by omega
    have hdi : (flt enc l ++ us).drop (i * 2) = flt enc (l.drop i) ++ us := by rw [List.drop_append_of_le_length (by rw [hfl]; omega), h0.fd l (by omega)]
    rw [hdi] at hsE
    have htk : (flt enc (l.drop i) ++ us).take ((n - i) * 2) = flt enc (l.drop i) := by rw [← hlD, List.take_left]
    refine cpy_row hE hsE.src (by rw [List.length_append, hlD, hul]; omega) (by omega) (by rw [hmin, htk]; exact h0.fo _) (fun w5 hr5 f5 => ?_)
    rw [hmin, htk] at hr5
    have hsp : splice (flt enc l ++ us) ((i + 1) * 2) (flt enc (l.drop i)) = flt enc (l.take (i + 1)) ++ flt enc (l.drop i) := by
      have e1 : flt enc l ++ us = flt enc (l.take (i + 1)) ++ (flt enc (l.drop (i + 1)) ++ us) := by rw [← List.append_assoc, ← flt_app, List.take_append_drop]
      have hd0 : (flt enc (l.drop (i + 1)) ++ us).drop (flt enc (l.drop i)).length = [] := List.drop_of_length_le (by rw [List.length_append, h0.fl, List.length_drop, hl, hul, hlD]; omega)
      rw [e1, splice_at (by rw [h0.fl, List.length_take, hl, Nat.min_eq_left (by omega)]), hd0, List.append_nil]
    rw [hsp] at hr5
    have f5 : Fr (fun k => b = k) w w5 := ((Fr.drew (fun k => b = k) w).trans1 (f5.mono (fun k _ h => by simpa [blkOf] using h)))
    refine gd_mk (decide_eq_true (by omega)) (gd_mk (decide_eq_true (by omega)) ?_)
    refine cpy_row hr5 (src_rec (hv.fr f5 (fun h => hbb h)) hx) (by omega) (by omega) (by rw [Nat.min_eq_left (by omega), Nat.one_mul, htx]; exact ox) (fun w6 hr6 f6 => ⟨_, _, rfl, ?_, ?_, fun k hk => .inl hk⟩)
    · exact (f5.trans1 (f6.mono (fun k _ h => by simpa [blkOf] using h))).mono (fun k _ h => by rw [h]; rfl)
    · rw [Nat.min_eq_left (by omega), Nat.one_mul, htx] at hr6
      have e2 : l.take (i + 1) = l.take i ++ [l[i]'(by omega)] := by rw [List.take_add_one, List.getElem?_eq_getElem (by omega)]; rfl
      rw [e2, flt_app, flt_one, List.append_assoc, splice_at hlT, hx, List.drop_left' (h0.len _)] at hr6
      exact hr6
end
end Go.Proofs.YtfdhaeglhkmmpaaGreat.InsNm
/- slices.Delete of one: rows of api.Named -/
namespace Go.Proofs.YtfdhaeglhkmmpaaGreat.DelNm
open Go.GV Go.RowKit
set_option linter.unusedVariables false
set_option linter.unusedSimpArgs false
section
variable {β : Type} {enc : β → List Value}
set_option maxHeartbeats 1000000 in
theorem delete_calls (h0 : EncO β enc 2) (B : Nat) (A : Option Addr) (n c i : Nat) (l : List β) (w : World) (h : Row w B 94 2 A n c (flt enc l)) (hl : l.length = n) (hi : i < n) (hn : n ≤ 1073741824) {j : Int} (hj : j = ((i + 1 : Nat) : Int)) :
    Calls Tryz.prog 138 #[.slice A n c, .int .i64 (i : Nat), .int .i64 j] w fun e w' => e = .returned (.slice A (n - 1) c) ∧ Fr (fun k => blkOf A = some k) w w' ∧ Row w' B 94 2 A (n - 1) c (flt enc (l.take i ++ l.drop (i + 1))) := by
  subst hj
  refine (F138.of A n c _ _ w (Q := fun v w' => v = .slice A (n - 1) c ∧ Fr (fun k => blkOf A = some k) w w' ∧ Row w' B 94 2 A (n - 1) c (flt enc (l.take i ++ l.drop (i + 1)))) ?_).mono (fun e w' ⟨v, he, hv, h⟩ => ⟨by rw [he, hv], h⟩)
  have hle := h.le
  have hfl := h0.fl l
  obtain ⟨b, hb⟩ : ∃ b, A = some ⟨b, 0, none⟩ := by
    rcases h.at_ with ⟨_, h0, _⟩ | ⟨b, _, hA, _⟩
    · omega
    · exact ⟨b, hA⟩
  subst hb
  have h00 : slA (some (⟨b, 0, none⟩ : Addr)) c 0 2 = some ⟨b, 0, none⟩ := sl0 _ _ _
  refine gd_mk (decide_eq_true (by omega)) (gd_mk (decide_eq_true (by omega)) (gd_mk (decide_eq_true (by omega)) (gd_mk (decide_eq_true (by omega)) (gd_mk (decide_eq_true (by omega)) (gd_mk (decide_eq_true (by omega)) (vIf_f (by simp; omega) ?_))))))
  refine gd_mk (decide_eq_true (by omega)) (gd_mk (decide_eq_true (by omega)) (gd_mk (decide_eq_true (by omega)) (gd_mk (decide_eq_true (by omega)) ?_)))
  simp only [h00, Int.toNat_natCast]
  have hwd := (Fr.drew (fun _ => False) w).row h (fun _ _ h => h)
  have hcut := row_cutG hwd (k := i) (by omega)
  have hsD := hwd.tailS (k := i + 1) (by omega)
  rw [h0.fd l (by omega)] at hsD
  rw [h0.ft l (by omega)] at hcut
  have hnm : i + (n - (i + 1)) = n - 1 := by omega
  refine app_in hcut hsD.src (by rw [h0.fl, List.length_drop, hl]) (h0.fo _) (by omega) (by omega) (by omega) (fun w5 hr5 f5 => ?_)
  rw [hnm] at hr5 ⊢
  rw [← flt_app] at hr5
  refine gd_mk (decide_eq_true (by omega)) (gd_mk (decide_eq_true (by omega)) (gd_mk (decide_eq_true (by omega)) (gd_mk (decide_eq_true (by omega)) (vIf_f (by simp; omega) ?_))))
  have hs1 : slA (some (⟨b, 0, none⟩ : Addr)) c (n - 1) 2 = some ⟨b, (n - 1) * 2, none⟩ := slS (by omega)
  simp only [Int.toNat_natCast]
  rw [hs1, show n - (n - 1) = 1 by omega]
  obtain ⟨us, hul, hE⟩ := row_ext hr5 (k := 1) (by omega)
  have hpl : (flt enc (l.take i ++ l.drop (i + 1))).length = (n - 1) * 2 := hr5.len
  rw [show n - 1 + 1 = n by omega] at hE
  have hpt := row_putG (o' := (n - 1) * 2) (us := zeros 1 ([.string (⟨#[]⟩ : ByteArray), .int .i64 0] : List Value)) (K := fun w' => True ∧ Fr (fun k => blkOf (some (⟨b, 0, none⟩ : Addr)) = some k) w w' ∧ Row w' B 94 2 (some ⟨b, 0, none⟩) (n - 1) c (flt enc (l.take i ++ l.drop (i + 1)))) hE (by omega) (by rw [zeros_length]; show (n - 1) * 2 + 1 * 2 ≤ _; rw [← Nat.add_mul]; exact Nat.mul_le_mul_right _ (by omega)) (zeros_one (by intro v hv; repeat (first | (cases hv; done) | (rcases List.mem_cons.1 hv with rfl | hv; · rfl)))) (fun w6 hr6 f6 => ⟨trivial, ((Fr.drew _ w).trans1 f5).trans1 f6, ?_⟩)
  · rw [← Nat.zero_add ((n - 1) * 2)]
    exact hpt
  · have h7 := row_cutG hr6 (k := n - 1) (by omega)
    rw [splice_at hpl, List.append_assoc, ← hpl, List.take_left] at h7
    exact h7
end
end Go.Proofs.YtfdhaeglhkmmpaaGreat.DelNm
/- slices.Clone: rows of api.Named -/
namespace Go.Proofs.YtfdhaeglhkmmpaaGreat.ClnNm
open Go.GV Go.RowKit
set_option linter.unusedVariables false
theorem clone_calls (A : Option Addr) (n c : Nat) (vs : List Value) (w : World) (h : Sl w 2 A n vs) (ho : ∀ v ∈ vs, v.oneCell' = true) (hn : n ≤ 1073741824) :
    Calls Tryz.prog 112 #[.slice A n c] w fun e w' => Fr (fun _ => False) w w' ∧ ∃ A' c', e = .returned (.slice A' n c') ∧ Row w' w.heap.size 94 2 A' n c' vs := by
  refine (F112.of A n c w (Q := fun v w' => Fr (fun _ => False) w w' ∧ ∃ A' c', v = .slice A' n c' ∧ Row w' w.heap.size 94 2 A' n c' vs) ?_).mono (fun e w' ⟨v, he, hf, A', c', hv, h⟩ => ⟨hf, A', c', by rw [he, hv], h⟩)
  refine vIf_mk (fun h0 => ?_) (fun h0 => nw_mk ?_)
  · have : n = 0 := by
      refine Classical.byContradiction fun hn0 => ?_
      obtain ⟨b, o, hA, _⟩ := h.2 hn0
      rw [hA] at h0; cases h0
    subst this
    have : vs = [] := List.length_eq_zero_iff.1 (by have := h.1; omega)
    subst this
    exact ⟨Fr.refl _ _, none, 0, rfl, Row.nil _ _ _ _⟩
  · have f1 : Fr (fun _ => False) w (w.alloc (.cells ([] : List Value).toArray 94)) := Fr.alloc _ _ _
    have r1 : Row (w.alloc (.cells ([] : List Value).toArray 94)) w.heap.size 94 2 (some ⟨w.heap.size, 0, none⟩) 0 0 [] := Row.new (Nat.le_refl _) rfl
    have hs : (w.alloc (.cells ([] : List Value).toArray 94)).heap.size = w.heap.size + 1 := alloc_size _ _
    generalize w.alloc (.cells ([] : List Value).toArray 94) = w1 at f1 r1 hs ⊢
    refine app_row r1 (f1.sl h (fun _ _ _ h => h)).src ho rfl (by omega) (by omega) (by omega) (fun A' c' w' hr' f' => ⟨?_, A', c', ?_, ?_⟩)
    · exact f1.trans f' (fun _ _ h => h) (fun k hk h' => by simp only [blkOf, Option.some.injEq] at h'; omega)
    · rw [Nat.zero_add]
    · rw [Nat.zero_add, List.nil_append] at hr'; exact hr'
end Go.Proofs.YtfdhaeglhkmmpaaGreat.ClnNm
/- slices.Clone: rows of api.Change -/
namespace Go.Proofs.YtfdhaeglhkmmpaaGreat.ClnCh
open Go.GV Go.RowKit
set_option linter.unusedVariables false
theorem clone_calls (A : Option Addr) (n c : Nat) (vs : List Value) (w : World) (h : Sl w 4 A n vs) (ho : ∀ v ∈ vs, v.oneCell' = true) (hn : n ≤ 1073741824) :
    Calls Tryz.prog 97 #[.slice A n c] w fun e w' => Fr (fun _ => False) w w' ∧ ∃ A' c', e = .returned (.slice A' n c') ∧ Row w' w.heap.size 82 4 A' n c' vs := by
  refine (F97.of A n c w (Q := fun v w' => Fr (fun _ => False) w w' ∧ ∃ A' c', v = .slice A' n c' ∧ Row w' w.heap.size 82 4 A' n c' vs) ?_).mono (fun e w' ⟨v, he, hf, A', c', hv, h⟩ => ⟨hf, A', c', by rw [he, hv], h⟩)
  refine vIf_mk (fun h0 => ?_) (fun h0 => nw_mk ?_)
  · have : n = 0 := by
      refine Classical.byContradiction fun hn0 => ?_
      obtain ⟨b, o, hA, _⟩ := h.2 hn0
      rw [hA] at h0; cases h0
    subst this
    have : vs = [] := List.length_eq_zero_iff.1 (by have := h.1; omega)
    subst this
    exact ⟨Fr.refl _ _, none, 0, rfl, Row.nil _ _ _ _⟩
  · have f1 : Fr (fun _ => False) w (w.alloc (.cells ([] : List Value).toArray 82)) := Fr.alloc _ _ _
    have r1 : Row (w.alloc (.cells ([] : List Value).toArray 82)) w.heap.size 82 4 (some ⟨w.heap.size, 0, none⟩) 0 0 [] := Row.new (Nat.le_refl _) rfl
    have hs : (w.alloc (.cells ([] : List Value).toArray 82)).heap.size = w.heap.size + 1 := alloc_size _ _
    generalize w.alloc (.cells ([] : List Value).toArray 82) = w1 at f1 r1 hs ⊢
    refine app_row r1 (f1.sl h (fun _ _ _ h => h)).src ho rfl (by omega) (by omega) (by omega) (fun A' c' w' hr' f' => ⟨?_, A', c', ?_, ?_⟩)
    · exact f1.trans f' (fun _ _ h => h) (fun k hk h' => by simp only [blkOf, Option.some.injEq] at h'; omega)
    · rw [Nat.zero_add]
    · rw [Nat.zero_add, List.nil_append] at hr'; exact hr'
end Go.Proofs.YtfdhaeglhkmmpaaGreat.ClnCh
/- stable sorting, walked: rows of api.Named -/
namespace Go.Proofs.YtfdhaeglhkmmpaaGreat.StbNm
open Go.GV Go.RowKit Go.Stb
set_option linter.unusedVariables false
set_option linter.unusedSimpArgs false
/-- what is asked of the elements and their comparison -/
structure Srt (β : Type) (enc : β → List Value) (cmp : β → β → Int) : Prop where
  len : ∀ x, (enc x).length = 2
  one : ∀ x, ∀ v ∈ enc x, v.oneCell' = true
  ord : OrdC cmp
  call : ∀ x y w, Calls Tryz.prog 114 #[ofL (enc x), ofL (enc y)] w fun e w' => e = .returned (.int .i64 (cmp x y)) ∧ Fr (fun _ => False) w w'
def cf : Value := .func (.func 114) #[] #[]
section
variable {β : Type} {enc : β → List Value} {cmp : β → β → Int}
abbrev encT (enc : β → List Value) : β × Nat → List Value := fun x => enc x.1
theorem Srt.lenT (h : Srt β enc cmp) {l : List (β × Nat)} : ∀ x ∈ l, (encT enc x).length = 2 := fun x _ => h.len x.1
/-- the row holds these -/
def RS (enc : β → List Value) (w : World) (B : Nat) (A : Option Addr) (n c : Nat) (l : List (β × Nat)) : Prop := Row w B 94 2 A n c (flt (encT enc) l) ∧ l.length = n
theorem RS.fr0 {w w' : World} {B : Nat} {A : Option Addr} {n c : Nat} {l : List (β × Nat)} (h : RS enc w B A n c l) (f : Fr (fun _ => False) w w') : RS enc w' B A n c l := ⟨f.row h.1 (fun _ _ h => h), h.2⟩
theorem RS.drew {w : World} {B : Nat} {A : Option Addr} {n c : Nat} {l : List (β × Nat)} (h : RS enc w B A n c l) : RS enc w.drew B A n c l := h.fr0 (Fr.drew _ _)
theorem rs_rd (h0 : Srt β enc cmp) {w : World} {B : Nat} {A : Option Addr} {n c : Nat} {l : List (β × Nat)} (h : RS enc w B A n c l) {i : Nat} {x : β × Nat} (hi : l[i]? = some x) {ii : Int} (hii : ii = (i : Int)) {K : List Value → Prop} (hK : K (enc x.1)) :
    dr A fun b o => gd (decide (0 ≤ ii)) (gd (decide (ii < ((n : Nat) : Int))) (ldA 2 w b (o + ii.toNat * 2) K)) :=
  el_rd h.1.sl h0.lenT hi hii h.2 (fun b o hA hc => ⟨enc x.1, h0.len x.1, hc, hK⟩)
/-- two elements change their places -/
theorem rs_swap (h0 : Srt β enc cmp) {w : World} {B : Nat} {A : Option Addr} {n c : Nat} {l : List (β × Nat)} (h : RS enc w B A n c l) {i j : Nat} {x y : β × Nat} (hi : i < n) (hj : j < n) {ii jj : Int} (hii : ii = (i : Int)) (hjj : jj = (j : Int)) {K : World → Prop}
    (hK : ∀ w', RS enc w' B A n c ((l.set i y).set j x) → Fr (fun k => blkOf A = some k) w w' → K w') :
    dr A fun b o => gd (decide (0 ≤ ii)) (gd (decide (ii < ((n : Nat) : Int))) (gd ((enc y.1).length == 2) (st w b (o + ii.toNat * 2) (enc y.1) fun w1 =>
      dr A fun b o => gd (decide (0 ≤ jj)) (gd (decide (jj < ((n : Nat) : Int))) (gd ((enc x.1).length == 2) (st w1 b (o + jj.toNat * 2) (enc x.1) K)))))) :=
  el_put (enc := encT enc) h.1 h0.lenT h.2 hi hii (h0.len y.1) (h0.one y.1) (fun w1 hr1 f1 =>
    el_put (enc := encT enc) hr1 h0.lenT (by rw [List.length_set]; exact h.2) hj hjj (h0.len x.1) (h0.one x.1) (fun w2 hr2 f2 => hK w2 ⟨hr2, by rw [List.length_set, List.length_set]; exact h.2⟩ (f1.trans1 f2)))
theorem em (i j : Nat) (h1 : i < 1099511627776) (h2 : j < 1099511627776) : IntKind.wrap .i64 (Int.fdiv (IntKind.wrap .u64 (IntKind.wrap .i64 ((i : Int) + (j : Int)))) (2 ^ 1)) = (((i + j) / 2 : Nat) : Int) := by
  rw [i64_id (n := (i : Int) + (j : Int)) (by omega) (by omega), IntKind.wrap_u64, Int.fdiv_eq_ediv_of_nonneg _ (by decide), i64_id (by omega) (by omega)]; omega
theorem ep (i : Nat) (h : i < 1099511627776) : IntKind.wrap .i64 ((i : Int) + 1) = ((i + 1 : Nat) : Int) := by rw [i64_id (by omega) (by omega)]; rfl
theorem ea (i j : Nat) (h1 : i < 1099511627776) (h2 : j < 1099511627776) : IntKind.wrap .i64 ((i : Int) + (j : Int)) = ((i + j : Nat) : Int) := by rw [i64_id (by omega) (by omega)]; rfl
theorem es (i j : Nat) (h1 : i < 1099511627776) (h2 : j ≤ i) : IntKind.wrap .i64 ((i : Int) - (j : Int)) = ((i - j : Nat) : Int) := by rw [i64_id (by omega) (by omega)]; omega
theorem e1 (i : Nat) (h1 : i < 1099511627776) (h2 : 1 ≤ i) : IntKind.wrap .i64 ((i : Int) - 1) = ((i - 1 : Nat) : Int) := by rw [i64_id (by omega) (by omega)]; omega
/-! ### two ranges change their places -/
theorem swapRange_calls (h0 : Srt β enc cmp) (B : Nat) (A : Option Addr) (n c : Nat) (P X Y Z S : List (β × Nat)) (w : World) (h : RS enc w B A n c (P ++ X ++ Y ++ Z ++ S)) (hXZ : X.length = Z.length) (hn : n < 549755813888) {a b m : Int} (ha : a = ((P.length : Nat) : Int)) (hb : b = ((P.length + X.length + Y.length : Nat) : Int)) (hm : m = ((X.length : Nat) : Int)) :
    Calls Tryz.prog 153 #[.slice A n c, .int .i64 a, .int .i64 b, .int .i64 m, cf] w fun e w' => e = .returned (.tuple #[]) ∧ Fr (fun k => blkOf A = some k) w w' ∧ RS enc w' B A n c (P ++ Z ++ Y ++ X ++ S) := by
  subst ha; subst hb; subst hm
  refine (F153s.of A n c _ _ _ w (Q := fun v w' => v = .tuple #[] ∧ Fr (fun k => blkOf A = some k) w w' ∧ RS enc w' B A n c (P ++ Z ++ Y ++ X ++ S)) ?_).mono (fun e w' ⟨v, he, hv, h⟩ => ⟨by rw [he, hv], h⟩)
  have hlen := h.2
  simp only [List.length_append] at hlen
  refine jnC_mk (loop_rule (fun s u => Fr (fun k => blkOf A = some k) w u ∧ ∃ (k : Nat) (X1 X2 Z1 Z2 : List (β × Nat)), X = X1 ++ X2 ∧ Z = Z1 ++ Z2 ∧ X1.length = k ∧ Z1.length = k ∧ s = ((A, n, c), ((P.length : Nat) : Int), ((P.length + X.length + Y.length : Nat) : Int), ((X.length : Nat) : Int), (k : Int), ()) ∧ RS enc u B A n c (P ++ Z1 ++ X2 ++ Y ++ X1 ++ Z2 ++ S))
    (fun s _ => (X.length - s.2.2.2.2.1).toNat) ?_ _ _ ⟨Fr.refl _ _, 0, [], X, [], Z, rfl, rfl, rfl, rfl, rfl, by simpa using h⟩)
  rintro s u C ⟨hf, k, X1, X2, Z1, Z2, hX, hZ, hx1, hz1, rfl, hr⟩ hC _
  have hXl : X.length = X1.length + X2.length := by rw [hX, List.length_append]
  have hZl : Z.length = Z1.length + Z2.length := by rw [hZ, List.length_append]
  refine vIf_mk (fun hlt => ?_) (fun hge => ?_)
  · have hlt2 : (k : Int) < (X.length : Int) := of_decide_eq_true hlt
    obtain ⟨x, X2', rfl⟩ : ∃ x X2', X2 = x :: X2' := by
      cases X2 with
      | nil => simp at hXl; omega
      | cons x r => exact ⟨x, r, rfl⟩
    obtain ⟨z, Z2', rfl⟩ : ∃ z Z2', Z2 = z :: Z2' := by
      cases Z2 with
      | nil => simp at hZl; omega
      | cons x r => exact ⟨x, r, rfl⟩
    simp only [List.length_cons] at hXl hZl
    have ea1 : IntKind.wrap .i64 (((P.length : Nat) : Int) + (k : Int)) = ((P.length + k : Nat) : Int) := ea _ _ (by omega) (by omega)
    have eb1 : IntKind.wrap .i64 (((P.length + X.length + Y.length : Nat) : Int) + (k : Int)) = ((P.length + X.length + Y.length + k : Nat) : Int) := ea _ _ (by omega) (by omega)
    have hr := hr.drew
    have fd : Fr (fun k => blkOf A = some k) w u.drew := hf.trans1 (Fr.drew _ _)
    have hl1 : P ++ Z1 ++ (x :: X2') ++ Y ++ X1 ++ (z :: Z2') ++ S = (P ++ Z1) ++ x :: (X2' ++ Y ++ X1 ++ (z :: Z2') ++ S) := by simp
    have hl2 : P ++ Z1 ++ (x :: X2') ++ Y ++ X1 ++ (z :: Z2') ++ S = (P ++ Z1 ++ (x :: X2') ++ Y ++ X1) ++ z :: (Z2' ++ S) := by simp
    dsimp only
    refine rs_rd h0 hr (i := P.length + X.length + Y.length + k) (x := z) (by rw [hl2]; exact get_mid (by simp; omega)) eb1 ?_
    refine rs_rd h0 hr (i := P.length + k) (x := x) (by rw [hl1]; exact get_mid (by simp; omega)) ea1 ?_
    refine rs_swap h0 hr (i := P.length + k) (j := P.length + X.length + Y.length + k) (x := x) (y := z) (by omega) (by omega) ea1 eb1 (fun w' hr' f' => jnC_mk (hC _ _ ⟨fd.trans1 f', k + 1, X1 ++ [x], X2', Z1 ++ [z], Z2', by rw [hX]; simp, by rw [hZ]; simp, by simp [hx1], by simp [hz1], by rw [ep k (by omega)], ?_⟩ ?_))
    · rw [hl1, set_mid (by simp; omega)] at hr'
      have hl3 : (P ++ Z1) ++ z :: (X2' ++ Y ++ X1 ++ (z :: Z2') ++ S) = (P ++ Z1 ++ z :: (X2' ++ Y ++ X1)) ++ z :: (Z2' ++ S) := by simp
      rw [hl3, set_mid (by simp; omega)] at hr'
      have hl4 : (P ++ Z1 ++ z :: (X2' ++ Y ++ X1)) ++ x :: (Z2' ++ S) = P ++ (Z1 ++ [z]) ++ X2' ++ Y ++ (X1 ++ [x]) ++ Z2' ++ S := by simp
      rw [hl4] at hr'
      exact hr'
    · show ((X.length : Int) - IntKind.wrap .i64 ((k : Int) + 1)).toNat < ((X.length : Int) - (k : Int)).toNat
      rw [ep k (by omega)]; omega
  · have hge2 : ¬ (k : Int) < (X.length : Int) := of_decide_eq_false hge
    have hx2 : X2 = [] := List.length_eq_zero_iff.1 (by omega)
    have hz2 : Z2 = [] := List.length_eq_zero_iff.1 (by omega)
    subst hx2; subst hz2
    simp only [List.append_nil] at hX hZ hr
    subst hX; subst hZ
    exact ⟨rfl, hf, hr⟩
/-! ### rotation -/
theorem rotate_calls (h0 : Srt β enc cmp) (B : Nat) (A : Option Addr) (n c : Nat) (P X Y S : List (β × Nat)) (w : World) (h : RS enc w B A n c (P ++ X ++ Y ++ S)) (hX : X ≠ []) (hY : Y ≠ []) (hn : n < 549755813888) {a m b : Int} (ha : a = ((P.length : Nat) : Int)) (hm : m = ((P.length + X.length : Nat) : Int)) (hb : b = ((P.length + X.length + Y.length : Nat) : Int)) :
    Calls Tryz.prog 151 #[.slice A n c, .int .i64 a, .int .i64 m, .int .i64 b, cf] w fun e w' => e = .returned (.tuple #[]) ∧ Fr (fun k => blkOf A = some k) w w' ∧ RS enc w' B A n c (P ++ Y ++ X ++ S) := by
  subst ha; subst hm; subst hb
  refine (F151s.of A n c _ _ _ w (Q := fun v w' => v = .tuple #[] ∧ Fr (fun k => blkOf A = some k) w w' ∧ RS enc w' B A n c (P ++ Y ++ X ++ S)) ?_).mono (fun e w' ⟨v, he, hv, h⟩ => ⟨by rw [he, hv], h⟩)
  have hlen := h.2
  simp only [List.length_append] at hlen
  have hX0 : X.length ≠ 0 := fun h => hX (List.length_eq_zero_iff.1 h)
  have hY0 : Y.length ≠ 0 := fun h => hY (List.length_eq_zero_iff.1 h)
  have eX : IntKind.wrap .i64 (((P.length + X.length : Nat) : Int) - ((P.length : Nat) : Int)) = ((X.length : Nat) : Int) := by rw [es _ _ (by omega) (by omega), Nat.add_sub_cancel_left]
  have eY : IntKind.wrap .i64 (((P.length + X.length + Y.length : Nat) : Int) - ((P.length + X.length : Nat) : Int)) = ((Y.length : Nat) : Int) := by rw [es _ _ (by omega) (by omega), Nat.add_sub_cancel_left]
  refine jnC_mk (loop_rule (fun s u => Fr (fun k => blkOf A = some k) w u ∧ ∃ (P' X' Y' S' : List (β × Nat)), X' ≠ [] ∧ Y' ≠ [] ∧ P'.length + X'.length = P.length + X.length ∧ P' ++ Y' ++ X' ++ S' = P ++ Y ++ X ++ S ∧ s = ((A, n, c), ((P.length + X.length : Nat) : Int), (), ((X'.length : Nat) : Int), ((Y'.length : Nat) : Int), ()) ∧ RS enc u B A n c (P' ++ X' ++ Y' ++ S'))
    (fun s _ => (s.2.2.2.1 + s.2.2.2.2.1).toNat) ?_ _ _ ⟨Fr.refl _ _, P, X, Y, S, hX, hY, rfl, rfl, by rw [eX, eY], h⟩)
  rintro s u C ⟨hf, P', X', Y', S', hX', hY', hpx, htot, rfl, hr⟩ hC _
  have hX1 : X'.length ≠ 0 := fun h => hX' (List.length_eq_zero_iff.1 h)
  have hY1 : Y'.length ≠ 0 := fun h => hY' (List.length_eq_zero_iff.1 h)
  have hl := hr.2
  simp only [List.length_append] at hl
  have em1 : IntKind.wrap .i64 (((P.length + X.length : Nat) : Int) - ((X'.length : Nat) : Int)) = ((P'.length : Nat) : Int) := by rw [es _ _ (by omega) (by omega)]; congr 1; omega
  refine vIf_mk (fun hne => vIf_mk (fun hgt => ?_) (fun hle => ?_)) (fun heq => ?_)
  · have hgt2 : (X'.length : Int) > (Y'.length : Int) := of_decide_eq_true hgt
    -- X' = U V, U as long as Y'
    obtain ⟨U, V, hUV, hU⟩ : ∃ U V, X' = U ++ V ∧ U.length = Y'.length := ⟨X'.take Y'.length, X'.drop Y'.length, (List.take_append_drop _ _).symm, by rw [List.length_take]; omega⟩
    have hVl : X'.length = U.length + V.length := by rw [hUV, List.length_append]
    have hr2 : RS enc u B A n c (P' ++ U ++ V ++ Y' ++ S') := by
      rw [hUV] at hr
      simpa using hr
    refine (swapRange_calls h0 B A n c P' U V Y' S' u hr2 hU hn em1 (by rw [Nat.add_assoc P'.length, ← hVl]; exact congrArg _ hpx.symm) (by rw [hU])).mono ?_
    rintro r u2 ⟨rfl, f2, hr3⟩
    refine ⟨rfl, jnC_mk (hC _ _ ⟨hf.trans1 f2, P' ++ Y', V, U, S', ?_, ?_, ?_, ?_, ?_, ?_⟩ ?_)⟩
    · intro h; rw [h] at hVl; simp at hVl; omega
    · intro h; rw [h] at hU; simp at hU; omega
    · simp only [List.length_append]; omega
    · rw [← htot, hUV]; simp
    · show (_, _, _, IntKind.wrap .i64 ((X'.length : Int) - (Y'.length : Int)), _, ()) = _
      rw [es _ _ (by omega) (by omega), hU, show X'.length - Y'.length = V.length by omega]
    · exact hr3
    · show (IntKind.wrap .i64 ((X'.length : Int) - (Y'.length : Int)) + (Y'.length : Int)).toNat < ((X'.length : Int) + (Y'.length : Int)).toNat
      rw [es _ _ (by omega) (by omega)]; omega
  · have hle2 : ¬ (X'.length : Int) > (Y'.length : Int) := of_decide_eq_false hle
    have hne2 : X'.length ≠ Y'.length := by
      have hne : ((X'.length : Int) != (Y'.length : Int)) = true := hne
      intro h; rw [h] at hne; simp at hne
    -- Y' = U V, V as long as X'
    obtain ⟨U, V, hUV, hV⟩ : ∃ U V, Y' = U ++ V ∧ V.length = X'.length := ⟨Y'.take (Y'.length - X'.length), Y'.drop (Y'.length - X'.length), (List.take_append_drop _ _).symm, by rw [List.length_drop]; omega⟩
    have hUl : Y'.length = U.length + V.length := by rw [hUV, List.length_append]
    have hr2 : RS enc u B A n c (P' ++ X' ++ U ++ V ++ S') := by
      rw [hUV] at hr
      simpa using hr
    have eb2 : IntKind.wrap .i64 (IntKind.wrap .i64 (((P.length + X.length : Nat) : Int) + ((Y'.length : Nat) : Int)) - ((X'.length : Nat) : Int)) = ((P'.length + X'.length + U.length : Nat) : Int) := by
      rw [ea _ _ (by omega) (by omega), es _ _ (by omega) (by omega)]; congr 1; omega
    refine (swapRange_calls h0 B A n c P' X' U V S' u hr2 hV.symm hn em1 eb2 rfl).mono ?_
    rintro r u2 ⟨rfl, f2, hr3⟩
    refine ⟨rfl, jnC_mk (hC _ _ ⟨hf.trans1 f2, P', V, U, X' ++ S', ?_, ?_, ?_, ?_, ?_, ?_⟩ ?_)⟩
    · intro h; rw [h] at hV; simp at hV; omega
    · intro h; rw [h] at hUl; simp at hUl; omega
    · omega
    · rw [← htot, hUV]; simp
    · show (_, _, _, _, IntKind.wrap .i64 ((Y'.length : Int) - (X'.length : Int)), ()) = _
      rw [es _ _ (by omega) (by omega), hV, show Y'.length - X'.length = U.length by omega]
    · simpa using hr3
    · show ((X'.length : Int) + IntKind.wrap .i64 ((Y'.length : Int) - (X'.length : Int))).toNat < ((X'.length : Int) + (Y'.length : Int)).toNat
      rw [es _ _ (by omega) (by omega)]; omega
  · have heq2 : X'.length = Y'.length := by
      have heq : ((X'.length : Int) != (Y'.length : Int)) = false := heq
      have : (X'.length : Int) = (Y'.length : Int) := by simpa using heq
      omega
    refine (swapRange_calls h0 B A n c P' X' [] Y' S' u (by simpa using hr) heq2 hn em1 (by simp; omega) rfl).mono ?_
    rintro r u2 ⟨rfl, f2, hr3⟩
    rw [List.append_nil, htot] at hr3
    exact ⟨rfl, rfl, hf.trans1 f2, hr3⟩
end
end Go.Proofs.YtfdhaeglhkmmpaaGreat.StbNm
