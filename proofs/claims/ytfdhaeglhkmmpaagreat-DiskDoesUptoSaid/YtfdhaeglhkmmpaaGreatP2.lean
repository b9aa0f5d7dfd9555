import Derived.Lib.Overlaps
import Derived.Test.YtfdhaeglhkmmpaaGreatProg
import Derived.Test.YtfdhaeglhkmmpaaGreatP1
/- MY OWN ENGINE, part 14: copies inside a row, appends in place and anew, what lies apart. -/
namespace Go.GV
open Go Go.RowKit
set_option linter.unusedSimpArgs false
set_option linter.unusedVariables false
theorem slN (m l sz : Nat) : slA none m l sz = none := by unfold slA; split <;> rfl
theorem slS {b m l sz : Nat} (h : l < m) : slA (some (⟨b, 0, none⟩ : Addr)) m l sz = some ⟨b, l * sz, none⟩ := by
  unfold slA
  rw [if_neg (by omega), Option.map_some, add_none, Nat.zero_add]
theorem sl0 (b m sz : Nat) : slA (some (⟨b, 0, none⟩ : Addr)) m 0 sz = some ⟨b, 0, none⟩ := by
  unfold slA
  split
  · rfl
  · rw [Option.map_some, add_none, Nat.zero_mul]
theorem sl_blk {b m l sz : Nat} : blkOf (slA (some (⟨b, 0, none⟩ : Addr)) m l sz) = some b := by
  unfold slA
  split
  · rfl
  · rw [Option.map_some, add_none]; rfl
theorem splice_nil (c : List Value) (o : Nat) : splice c o [] = c := by simp [splice]
theorem Row.sl0 {w : World} {B : Nat} {e : TypeId} {sz : Nat} {A : Option Addr} {n c : Nat} {vs : List Value} (h : Row w B e sz A n c vs) (m : Nat) : slA A m 0 sz = A := by
  rcases h.at_ with ⟨rfl, _, _⟩ | ⟨b, _, rfl, _⟩
  · exact slN _ _ _
  · exact GV.sl0 _ _ _
theorem Row.tailS {w : World} {B : Nat} {e : TypeId} {sz : Nat} {A : Option Addr} {n c k : Nat} {vs : List Value} (h : Row w B e sz A n c vs) (hk : k ≤ n) : Sl w sz (slA A c k sz) (n - k) (vs.drop (k * sz)) := by
  have hl := h.len
  have hle := h.le
  refine ⟨by rw [List.length_drop, hl, Nat.sub_mul], fun h0 => ?_⟩
  rcases h.at_ with ⟨_, h1, _⟩ | ⟨b, cs, rfl, _, hh, _, ht⟩
  · omega
  · refine ⟨b, k * sz, slS (by omega), fun j v hj => ?_⟩
    rw [List.getElem?_drop] at hj
    have := cellsAt_take hh ht (k * sz + j) v hj
    rwa [Nat.zero_add] at this
theorem Sl.headS {w : World} {sz : Nat} {A : Option Addr} {n k : Nat} {vs : List Value} (h : Sl w sz A n vs) (hk : k ≤ n) : Sl w sz A k (vs.take (k * sz)) := by
  have hl := h.1
  have hm : k * sz ≤ n * sz := Nat.mul_le_mul_right _ hk
  refine ⟨by rw [List.length_take, hl, Nat.min_eq_left hm], fun h0 => ?_⟩
  obtain ⟨b, o, hA, hc⟩ := h.2 (by omega)
  refine ⟨b, o, hA, fun j v hj => hc j v ?_⟩
  rw [List.getElem?_take] at hj
  split at hj
  · exact hj
  · cases hj
theorem row_cutG {w : World} {B : Nat} {e : TypeId} {sz : Nat} {A : Option Addr} {n c k : Nat} {vs : List Value} (hr : Row w B e sz A n c vs) (hk : k ≤ n) : Row w B e sz A k c (vs.take (k * sz)) := by
  have hl := hr.len
  have hle := hr.le
  have hm : k * sz ≤ n * sz := Nat.mul_le_mul_right _ hk
  refine ⟨by rw [List.length_take, hl, Nat.min_eq_left hm], by omega, ?_⟩
  rcases hr.at_ with ⟨h1, h2, h3⟩ | ⟨b, cs, hA, hB, hh, hs, ht⟩
  · exact .inl ⟨h1, by omega, h3⟩
  · exact .inr ⟨b, cs, hA, hB, hh, hs, by rw [← ht, List.take_take, Nat.min_eq_left hm]⟩
/-- the row with some of what lies behind it -/
theorem row_ext {w : World} {B : Nat} {e : TypeId} {sz : Nat} {A : Option Addr} {n c k : Nat} {vs : List Value} (hr : Row w B e sz A n c vs) (hk : n + k ≤ c) : ∃ us, us.length = k * sz ∧ Row w B e sz A (n + k) c (vs ++ us) := by
  have hl := hr.len
  rcases hr.at_ with ⟨h1, h2, h3⟩ | ⟨b, cs, hA, hB, hh, hs, ht⟩
  · have : k = 0 := by omega
    subst this
    exact ⟨[], by simp, by rw [List.append_nil]; exact hr⟩
  · have hm : (n + k) * sz ≤ c * sz := Nat.mul_le_mul_right _ hk
    have hcl : cs.toList.length = c * sz := by simpa using hs
    rw [Nat.add_mul] at hm
    refine ⟨(cs.toList.drop (n * sz)).take (k * sz), by rw [List.length_take, List.length_drop, hcl]; omega, ?_, hk, .inr ⟨b, cs, hA, hB, hh, hs, ?_⟩⟩
    · rw [List.length_append, List.length_take, List.length_drop, hcl, hl, Nat.add_mul]; omega
    · rw [Nat.add_mul, ← ht, List.take_add]
theorem cpy_row {w : World} {B : Nat} {e : TypeId} {sz : Nat} {A : Option Addr} {n c m k : Nat} {vs us : List Value} {x : Value} {K : Nat → World → Prop} (hr : Row w B e sz A n c vs) (hx : srcOf w sz x m us) (hul : us.length = m * sz) (hk : k ≤ n) (h1 : ∀ v ∈ us.take (min m (n - k) * sz), v.oneCell' = true)
    (hK : ∀ w', Row w' B e sz A n c (splice vs (k * sz) (us.take (min m (n - k) * sz))) → Fr (fun j => blkOf A = some j) w w' → K (min m (n - k)) w') : cpy w sz (slA A c k sz) (n - k) x K := by
  refine ⟨m, us, hx, fun h0 => ?_, fun h0 => ?_⟩
  · have := hK w (by rw [h0, Nat.zero_mul, List.take_zero, splice_nil]; exact hr) (Fr.refl _ _)
    rw [h0] at this
    exact this
  · have hle := hr.le
    have hkn : k < n := by omega
    have hm1 : min m (n - k) * sz ≤ m * sz := Nat.mul_le_mul_right _ (Nat.min_le_left _ _)
    have hm2 : min m (n - k) * sz ≤ (n - k) * sz := Nat.mul_le_mul_right _ (Nat.min_le_right _ _)
    have hm3 : k * sz ≤ n * sz := Nat.mul_le_mul_right _ hk
    rw [Nat.sub_mul] at hm2
    have hlt : (us.take (min m (n - k) * sz)).length = min m (n - k) * sz := by rw [List.length_take, hul, Nat.min_eq_left hm1]
    have h := row_putG (o' := k * sz) (us := us.take (min m (n - k) * sz)) (K := fun w' => K (min m (n - k)) w') hr (by omega) (by rw [hlt]; omega) h1 hK
    rcases hr.at_ with ⟨_, h2, _⟩ | ⟨b, cs, rfl, _⟩
    · omega
    · rw [slS (by omega)]
      have h : st w b (0 + k * sz) _ _ := h
      rw [Nat.zero_add] at h
      exact h
/-- appended in place -/
theorem app_in {w : World} {B : Nat} {e : TypeId} {sz bytes : Nat} {z : List Value} {A : Option Addr} {n c : Nat} {x : Value} {old us : List Value} {m : Nat} {K : Option Addr → Nat → Nat → World → Prop}
    (hr : Row w B e sz A n c old) (hx : srcOf w sz x m us) (hul : us.length = m * sz) (h1 : ∀ v ∈ us, v.oneCell' = true) (hb : (n + m) * bytes ≤ 140737488355328) (hm : n + m ≤ 9223372036854775807) (hle : n + m ≤ c)
    (hK : ∀ w', Row w' B e sz A (n + m) c (old ++ us) → Fr (fun k => blkOf A = some k) w w' → K A (n + m) c w') : app w sz bytes z e A n c x K := by
  refine ⟨m, us, hx, h1, hb, hm, fun _ => ⟨fun h0 => ?_, fun h0 => ?_⟩, fun hlt => absurd hlt (by omega)⟩
  · subst h0
    have : us = [] := List.length_eq_zero_iff.1 (by simpa using hul)
    subst this
    exact hK w (by rw [List.append_nil]; exact hr) (Fr.refl _ _)
  · rcases hr.at_ with ⟨rfl, rfl, rfl⟩ | ⟨b, cs, rfl, hBb, hh, hs, ht⟩
    · omega
    · have hfit : n * sz + us.length ≤ cs.size := by rw [hs, hul, ← Nat.add_mul]; exact Nat.mul_le_mul_right _ hle
      show st w b (0 + n * sz) us _
      rw [Nat.zero_add]
      refine ⟨⟨cs, e, 0, 0, hh, hfit, .inl (Nat.zero_le _)⟩, h1, ?_⟩
      refine hK _ ⟨by rw [List.length_append, hr.len, hul, Nat.add_mul], hle, .inr ⟨b, _, rfl, hBb, stB_heap hh, ?_, ?_⟩⟩ (Fr.st (fun _ => rfl))
      · simp only [List.size_toArray]; rw [splice_length (by simpa using hfit)]; simpa using hs
      · have := splice_take (vs := us) ht hr.len
        rw [hul, ← Nat.add_mul] at this
        simpa using this
/-- zeros appended, where there is no room -/
theorem appZ_new {w : World} {B : Nat} {e : TypeId} {sz bytes : Nat} {z : List Value} {A : Option Addr} {n c : Nat} {x : Int} {old : List Value} {m : Nat} {K : Option Addr → Nat → Nat → World → Prop}
    (hs : Sl w sz A n old) (hx : IntKind.wrap .i64 x = (m : Int)) (h48 : (m : Int) * bytes ≤ 281474976710656) (h1 : ∀ v ∈ z, v.oneCell' = true) (hz : z.length = sz) (hb : (n + m) * bytes ≤ 140737488355328) (hm : n + m ≤ 9223372036854775807) (hlt : c < n + m) (hB : B ≤ w.heap.size)
    (hK : ∀ b c' w', w.heap.size ≤ b → Row w' B e sz (some ⟨b, 0, none⟩) (n + m) c' (old ++ zeros m z) → Fr (fun _ => False) w w' → K (some ⟨b, 0, none⟩) (n + m) c' w') : appZ w sz bytes z e A n c x K := by
  have hul : (zeros m z).length = m * sz := by rw [zeros_length, hz]
  have hol := hs.1
  unfold appZ
  rw [hx, Int.toNat_natCast]
  refine ⟨Int.natCast_nonneg m, h48, h1, hb, hm, fun hle => absurd hle (by omega), fun _ => ⟨old, hs.src, fun cap hc1 hc2 => ?_⟩⟩
  refine hK _ _ _ (by show w.heap.size ≤ w.drew.heap.size; exact Nat.le_refl _) ⟨by rw [List.length_append, hol, hul, Nat.add_mul], hc1, .inr ⟨_, _, rfl, hB, heap_alloc_at _ _, ?_, ?_⟩⟩ ((Fr.drew _ w).trans1 (Fr.alloc _ _ _))
  · simp only [List.size_toArray, List.length_append, zeros_length, hol, hz, ← Nat.add_mul]
    congr 1; omega
  · simp only [List.append_assoc]
    rw [← List.append_assoc, List.take_append_of_le_length (by rw [List.length_append, hol, hul, ← Nat.add_mul]; exact Nat.le_refl _), List.take_of_length_le (by rw [List.length_append, hol, hul, ← Nat.add_mul]; exact Nat.le_refl _)]
/-- what lies in two blocks does not overlap -/
theorem overlaps_ext {P : Program} {f : FuncId} {fn : Func} {w : World} {tS tR e e1 e2 : TypeId} {size : Nat} {b1 o1 n1 c1 b2 o2 n2 c2 : Nat} {cs1 cs2 : Array Value} {K : Value → World → Prop}
    (hf : P.funcs[f]? = some fn) (hb : fn.body.isNone = true) (hn : Extern.findNext fn = none) (he : Extern.find fn = some (Extern.SlicesOverlaps.overlaps #[tS, tS] #[tR]))
    (ht : P.underlying tS = some (.slice e)) (hz0 : size ≠ 0) (hz : szOf P e = size)
    (h1 : w.heap[b1]? = some (.cells cs1 e1 (0, 0))) (h2 : w.heap[b2]? = some (.cells cs2 e2 (0, 0))) (hne : b1 ≠ b2) (h0 : cs2.size ≠ 0) (hK : K (.bool false) w) :
    extC P f #[.slice (some ⟨b1, o1, none⟩) n1 c1, .slice (some ⟨b2, o2, none⟩) n2 c2] w K := by
  refine ⟨fn, _, _, w, hf, hb, hn, he, ?_, hK⟩
  exact Lib.run_overlaps_apart w tS tR e ht size (fun w => szOf_run hz0 hz) ⟨b1, o1, none⟩ ⟨b2, o2, none⟩ n1 c1 n2 c2 hne e1 e2 cs1.size cs2.size (by simp [World.shape?, h1]) (by simp [World.shape?, h2]) h0 (by simp [World.frozen?, h1]) (by simp [World.frozen?, h1])
end Go.GV
namespace Go.GV
/-- elements that lie as so many cells each -/
structure EncO (β : Type) (enc : β → List Value) (sz : Nat) : Prop where
  len : ∀ x, (enc x).length = sz
  one : ∀ x, ∀ v ∈ enc x, v.oneCell' = true
section
variable {β : Type} {enc : β → List Value} {sz : Nat}
theorem EncO.fl (h : EncO β enc sz) (l : List β) : (flt enc l).length = l.length * sz := flt_len (fun x _ => h.len x)
theorem EncO.fo (h : EncO β enc sz) (l : List β) : ∀ v ∈ flt enc l, v.oneCell' = true := flt_oneCell (fun x _ => h.one x)
theorem EncO.ft (h : EncO β enc sz) (l : List β) {k : Nat} (hk : k ≤ l.length) : (flt enc l).take (k * sz) = flt enc (l.take k) := flt_take (fun x _ => h.len x) hk
theorem EncO.fd (h : EncO β enc sz) (l : List β) {k : Nat} (hk : k ≤ l.length) : (flt enc l).drop (k * sz) = flt enc (l.drop k) := flt_drop (fun x _ => h.len x) hk
end
theorem splice_at {a z b : List Value} {o : Nat} (ha : a.length = o) : splice (a ++ z) o b = a ++ b ++ z.drop b.length := by
  subst ha
  unfold splice
  rw [List.take_left, ← List.drop_drop, List.drop_left]
theorem zeros_one {n : Nat} {z : List Value} (h : ∀ v ∈ z, v.oneCell' = true) : ∀ v ∈ zeros n z, v.oneCell' = true := by
  intro v hv
  simp only [zeros, List.mem_flatten, List.mem_replicate] at hv
  obtain ⟨l, ⟨_, rfl⟩, hv⟩ := hv
  exact h v hv
end Go.GV
/- PRINTED BY MY OWN gen.py out of the translation: each function as a proposition. -/
namespace Go.Proofs.YtfdhaeglhkmmpaaGreat
open Go.GV
set_option linter.unusedVariables false
set_option maxRecDepth 100000
theorem noCount : NoCount Tryz.prog := noCount_of (by kernel_rfl)
theorem mixed : Tryz.prog.follows .mixedOrders = true := by kernel_rfl
def Z82 : List Value := [Value.int .i64 0, Value.string (⟨#[]⟩ : ByteArray), Value.string (⟨#[]⟩ : ByteArray), Value.int .i64 0]
end Go.Proofs.YtfdhaeglhkmmpaaGreat
/- PRINTED BY MY OWN gen.py out of the translation: each function as a proposition. -/
namespace Go.Proofs.YtfdhaeglhkmmpaaGreat
open Go.GV
set_option linter.unusedVariables false
set_option maxRecDepth 100000
/-! ### function 6: stillage/stillagelaw12.DiskDoes -/
def F6.b5c (Q : Value → World → Prop) (C5 : ((Option Addr × Nat × Nat) × Option Addr × Option Addr × Int × Unit) → World → Prop) (x2 : (Option Addr × Nat × Nat)) (x7 : Option Addr) (x8 : Option Addr) (x9 : Int) (w : World) : Prop :=
  vIf (decide (x9 < ((x2.2.1 : Nat) : Int)))
  (dr x2.1 fun b11 o12 =>
    gd (decide (0 ≤ x9)) <|
    gd (decide (x9 < ((x2.2.1 : Nat) : Int))) <|
    ldA 5 w.drew b11 (o12 + (x9).toNat * 5) fun a13 =>
    dr x2.1 fun b14 o15 =>
    gd (decide (0 ≤ x9)) <|
    gd (decide (x9 < ((x2.2.1 : Nat) : Int))) <|
    ldA 5 w.drew b14 (o15 + (x9).toNat * 5) fun a16 =>
    Calls Tryz.prog 8 #[Value.pointer x7, ofL a13] w.drew fun e18 w17 =>
    ∃ i19 : Int, e18 = .returned (Value.int .i64 i19) ∧ (
      kp w.drew b14 (o15 + (x9).toNat * 5) 5 w17 <|
      Calls Tryz.prog 25 #[Value.pointer x8, ofL a16] w17 fun e21 w20 =>
      ∃ i22 : Int, e21 = .returned (Value.int .i64 i22) ∧ (
        vIf (i19 != i22)
        (Q (Value.bool false) w20)
        (dr x2.1 fun b23 o24 =>
          gd (decide (0 ≤ x9)) <|
          gd (decide (x9 < ((x2.2.1 : Nat) : Int))) <|
          ldA 5 w20 b23 (o24 + (x9).toNat * 5) fun a25 =>
          Calls Tryz.prog 26 #[Value.pointer x7, Value.pointer x8, ofL a25] w20 fun e27 w26 =>
          ∃ t28 : Bool, e27 = .returned (Value.bool t28) ∧ (
            vIf (!t28)
            (Q (Value.bool false) w26)
            (jnC C5 ((x2.1, x2.2.1, x2.2.2), x7, x8, ((IntKind.wrap .i64 (x9 + 1))), ()) w26))))))
  (Calls Tryz.prog 26 #[Value.pointer x7, Value.pointer x8, ofL ([Value.int .i64 0] ++ ([Value.string (⟨#[]⟩ : ByteArray)] ++ ([Value.string (⟨#[]⟩ : ByteArray)] ++ ([Value.slice none 0 0] ++ ([Value.int .i64 0] ++ [])))))] w fun e30 w29 =>
    ∃ t31 : Bool, e30 = .returned (Value.bool t31) ∧ (
      vIf t31
      (Calls Tryz.prog 14 #[] w29 fun e33 w32 =>
        ∃ t34 : Bool, e33 = .returned (Value.bool t34) ∧ (
          Q (Value.bool t34) w32))
      (Q (Value.bool false) w29)))
def F6.b5 (Q : Value → World → Prop) : ((Option Addr × Nat × Nat) × Option Addr × Option Addr × Int × Unit) → World → (((Option Addr × Nat × Nat) × Option Addr × Option Addr × Int × Unit) → World → Prop) → Prop := fun s w C5 => ∀ _ : Nat → Value, F6.b5c Q C5 s.1 s.2.1 s.2.2.1 s.2.2.2.1 w
def F6.l5 (Q : Value → World → Prop) : ((Option Addr × Nat × Nat) × Option Addr × Option Addr × Int × Unit) → World → Prop := fun s w => ∃ n, loopC (F6.b5 Q) n s w
def F6.vc (x0 : List Value) (x1A : Option Addr) (x1n x1c : Nat) (x2A : Option Addr) (x2n x2c : Nat) (w : World) (Q : Value → World → Prop) : Prop :=
  nw w x0 27 fun b1 w2 =>
  ldA 2 w2.drew b1 0 fun a3 =>
  ldA 2 w2.drew b1 0 fun a4 =>
  Calls Tryz.prog 23 #[ofL a3, Value.slice x1A x1n x1c] w2.drew fun e6 w5 =>
  ∃ p7 : Option Addr, e6 = .returned (Value.pointer p7) ∧ (
    kp w2.drew b1 0 2 w5 <|
    Calls Tryz.prog 24 #[ofL a4, Value.slice x1A x1n x1c] w5 fun e9 w8 =>
    ∃ p10 : Option Addr, e9 = .returned (Value.pointer p10) ∧ (
      vIf p7.isNone
      (Q (Value.bool false) w8)
      (jnC (F6.l5 Q) ((x2A, x2n, x2c), p7, p10, (0), ()) w8)))
def F6.an : Ann := ⟨[(5, [(2, .kSl), (7, .kP), (8, .kP), (9, .kI .i64)])], []⟩
theorem F6.of (x0 : List Value) (x1A : Option Addr) (x1n x1c : Nat) (x2A : Option Addr) (x2n x2c : Nat) (w : World) {Q : Value → World → Prop} (h : F6.vc x0 x1A x1n x1c x2A x2n x2c w Q) : Calls Tryz.prog 6 #[ofL x0, Value.slice x1A x1n x1c, Value.slice x2A x2n x2c] w (fun e w' => ∃ v, e = .returned v ∧ Q v w') := vcFn_of (A := F6.an) noCount mixed h (by kernel_rfl)
/-! ### function 7: stillage/disk.New -/
def F7.vc (x0 : List Value) (w : World) (Q : Value → World → Prop) : Prop :=
  nw w x0 27 fun b1 w2 =>
  ldA 2 w2 b1 0 fun a3 =>
  mmk w2 fun m4 w5 =>
  gd (a3.length == 2) <|
  nw w5 (a3 ++ ([Value.slice none 0 0, Value.slice none 0 0] ++ ([Value.map (some m4)] ++ ([Value.int .i64 0] ++ ([Value.bool false] ++ ([Value.bool false] ++ ([Value.int .i64 0] ++ ([Value.int .i64 0] ++ [])))))))) 66 fun b6 w7 =>
  Q (Value.pointer (some ⟨b6, 0, none⟩)) w7
def F7.an : Ann := ⟨[], []⟩
theorem F7.of (x0 : List Value) (w : World) {Q : Value → World → Prop} (h : F7.vc x0 w Q) : Calls Tryz.prog 7 #[ofL x0] w (fun e w' => ∃ v, e = .returned v ∧ Q v w') := vcFn_of (A := F7.an) noCount mixed h (by kernel_rfl)
/-! ### function 8: stillage/stillagelaw12.Do -/
def F8.vc (x0 : Option Addr) (x1 : List Value) (w : World) (Q : Value → World → Prop) : Prop :=
  nw w x1 31 fun b1 w2 =>
  ldI .i64 w2 b1 0 fun i3 =>
  vIf (i3 == 1)
  (ldS w2 b1 (0 + 1) fun s4 =>
    Calls Tryz.prog 10 #[Value.pointer x0, Value.string s4] w2 fun e6 w5 =>
    ∃ i7 : Int, e6 = .returned (Value.int .i64 i7) ∧ (
      Q (Value.int .i64 i7) w5))
  (vIf (i3 == 2)
    (ldS w2 b1 (0 + 1) fun s8 =>
      ldSl w2 b1 (0 + 3) fun A9 n10 c11 =>
      Calls Tryz.prog 11 #[Value.pointer x0, Value.string s8, Value.slice A9 n10 c11] w2 fun e13 w12 =>
      ∃ i14 : Int, e13 = .returned (Value.int .i64 i14) ∧ (
        Q (Value.int .i64 i14) w12))
    (vIf (i3 == 3)
      (ldS w2 b1 (0 + 1) fun s15 =>
        ldI .i64 w2 b1 (0 + 4) fun i16 =>
        Calls Tryz.prog 27 #[Value.pointer x0, Value.string s15, Value.int .i64 i16] w2 fun e18 w17 =>
        ∃ i19 : Int, e18 = .returned (Value.int .i64 i19) ∧ (
          Q (Value.int .i64 i19) w17))
      (vIf (i3 == 4)
        (ldS w2 b1 (0 + 1) fun s20 =>
          Calls Tryz.prog 12 #[Value.pointer x0, Value.string s20] w2 fun e22 w21 =>
          ∃ i23 : Int, e22 = .returned (Value.int .i64 i23) ∧ (
            Q (Value.int .i64 i23) w21))
        (vIf (i3 == 5)
          (ldS w2 b1 (0 + 1) fun s24 =>
            ldS w2 b1 (0 + 2) fun s25 =>
            Calls Tryz.prog 28 #[Value.pointer x0, Value.string s24, Value.string s25] w2 fun e27 w26 =>
            ∃ i28 : Int, e27 = .returned (Value.int .i64 i28) ∧ (
              Q (Value.int .i64 i28) w26))
          (vIf (i3 == 6)
            (ldS w2 b1 (0 + 1) fun s29 =>
              Calls Tryz.prog 29 #[Value.pointer x0, Value.string s29] w2 fun e31 w30 =>
              ∃ i32 : Int, e31 = .returned (Value.int .i64 i32) ∧ (
                Q (Value.int .i64 i32) w30))
            (vIf (i3 == 7)
              (Calls Tryz.prog 13 #[Value.pointer x0] w2 fun e34 w33 =>
                ∃ i35 : Int, e34 = .returned (Value.int .i64 i35) ∧ (
                  Q (Value.int .i64 i35) w33))
              (vIf (i3 == 8)
                (ldI .i64 w2 b1 (0 + 4) fun i36 =>
                  Calls Tryz.prog 30 #[Value.pointer x0, Value.int .i64 i36] w2 fun e38 w37 =>
                  e38 = .returned (Value.tuple #[]) ∧ (
                    Q (Value.int .i64 0) w37))
                (vIf (i3 == 9)
                  (ldSl w2 b1 (0 + 3) fun A39 n40 c41 =>
                    Calls Tryz.prog 9 #[Value.pointer x0, Value.slice A39 n40 c41] w2 fun e43 w42 =>
                    e43 = .returned (Value.tuple #[]) ∧ (
                      Q (Value.int .i64 0) w42))
                  (Q (Value.int .i64 0) w2)))))))))
def F8.an : Ann := ⟨[], []⟩
theorem F8.of (x0 : Option Addr) (x1 : List Value) (w : World) {Q : Value → World → Prop} (h : F8.vc x0 x1 w Q) : Calls Tryz.prog 8 #[Value.pointer x0, ofL x1] w (fun e w' => ∃ v, e = .returned v ∧ Q v w') := vcFn_of (A := F8.an) noCount mixed h (by kernel_rfl)
/-! ### function 9: (*stillage/disk.Disk).Crash -/
def F9.b6c (Q : Value → World → Prop) (C6 : (Option Addr × (Option Addr × Nat × Nat) × Int × (Option Addr × Nat × Nat) × (Option Addr × Nat × Nat) × Int × Int × Unit) → World → Prop) (x0 : Option Addr) (x1 : (Option Addr × Nat × Nat)) (x4 : Int) (x5 : (Option Addr × Nat × Nat)) (x24 : (Option Addr × Nat × Nat)) (x25 : Int) (x26 : Int) (w : World) : Prop :=
  vIf (decide (x26 < x25))
  (dr x24.1 fun b12 o13 =>
    gd (decide (0 ≤ x26)) <|
    gd (decide (x26 < ((x24.2.1 : Nat) : Int))) <|
    ldI .i64 w b12 (o13 + (x26).toNat * 1) fun i14 =>
    dr x0 fun b15 o16 =>
    ldM w.drew b15 (o16 + 4) fun m17 =>
    dr x0 fun b18 o19 =>
    ldM w.drew b18 (o19 + 4) fun m20 =>
    drM m20 fun r23 =>
    mlk w.drew r23 .i64 i14 fun q21 =>
    lvA [Value.slice none 0 0, Value.slice none 0 0] q21 fun a22 =>
    kp w.drew b15 (o16 + 4) 1 w.drew <|
    Calls Tryz.prog 32 #[ofL a22, Value.slice x1.1 x1.2.1 x1.2.2] w.drew fun e25 w24 =>
    ∃ a26 : List Value, ∃ (A27 : Option Addr) (n28 c29 : Nat), e25 = .returned (Value.tuple #[ofL a26, Value.slice A27 n28 c29]) ∧ (
      kp w.drew b15 (o16 + 4) 1 w24 <|
      drM m17 fun r31 =>
      mup w24 r31 .i64 i14 (ofL a26) fun w30 =>
      jnC C6 (x0, (A27, n28, c29), (x4), (x5.1, x5.2.1, x5.2.2), (x24.1, x24.2.1, x24.2.2), (x25), ((IntKind.wrap .i64 (x26 + 1))), ()) w30))
  (dr x0 fun b32 o33 =>
    ldA 2 w b32 (o33 + 2) fun a34 =>
    Calls Tryz.prog 33 #[ofL a34, Value.int .i64 x4] w fun e36 w35 =>
    ∃ a37 : List Value, e36 = .returned (ofL a37) ∧ (
      dr x0 fun b38 o39 =>
      gd (a37.length == 2) <|
      st w35 b38 (o39 + 2) a37 fun w40 =>
      Calls Tryz.prog 34 #[Value.pointer x0, Value.slice x5.1 x5.2.1 x5.2.2] w40 fun e42 w41 =>
      e42 = .returned (Value.tuple #[]) ∧ (
        dr x0 fun b43 o44 =>
        st w41 b43 (o44 + 6) [Value.bool false] fun w45 =>
        dr x0 fun b46 o47 =>
        st w45 b46 (o47 + 7) [Value.bool false] fun w48 =>
        Q (Value.tuple #[]) w48)))
def F9.b6 (Q : Value → World → Prop) : (Option Addr × (Option Addr × Nat × Nat) × Int × (Option Addr × Nat × Nat) × (Option Addr × Nat × Nat) × Int × Int × Unit) → World → ((Option Addr × (Option Addr × Nat × Nat) × Int × (Option Addr × Nat × Nat) × (Option Addr × Nat × Nat) × Int × Int × Unit) → World → Prop) → Prop := fun s w C6 => ∀ _ : Nat → Value, F9.b6c Q C6 s.1 s.2.1 s.2.2.1 s.2.2.2.1 s.2.2.2.2.1 s.2.2.2.2.2.1 s.2.2.2.2.2.2.1 w
def F9.l6 (Q : Value → World → Prop) : (Option Addr × (Option Addr × Nat × Nat) × Int × (Option Addr × Nat × Nat) × (Option Addr × Nat × Nat) × Int × Int × Unit) → World → Prop := fun s w => ∃ n, loopC (F9.b6 Q) n s w
def F9.k4c (Q : Value → World → Prop) (x0 : Option Addr) (x1 : (Option Addr × Nat × Nat)) (x4 : Int) (w : World) : Prop :=
  dr x0 fun b4 o5 =>
  ldA 2 w b4 (o5 + 2) fun a6 =>
  Calls Tryz.prog 31 #[ofL a6] w fun e8 w7 =>
  ∃ (A9 : Option Addr) (n10 c11 : Nat), e8 = .returned (Value.slice A9 n10 c11) ∧ (
    jnC (F9.l6 Q) (x0, (x1.1, x1.2.1, x1.2.2), (x4), (A9, n10, c11), (A9, n10, c11), (((n10 : Nat) : Int)), (0), ()) w7)
def F9.k4 (Q : Value → World → Prop) : (Option Addr × (Option Addr × Nat × Nat) × Int × Unit) → World → Prop := fun s w => ∀ _ : Nat → Value, F9.k4c Q s.1 s.2.1 s.2.2.1 w
def F9.vc (x0 : Option Addr) (x1A : Option Addr) (x1n x1c : Nat) (w : World) (Q : Value → World → Prop) : Prop :=
  vIf x0.isNone
  (Q (Value.tuple #[]) w)
  (vIf (decide (((x1n : Nat) : Int) > 0))
    (dr x1A fun b1 o2 =>
      gd (decide ((0 : Int) < ((x1n : Nat) : Int))) <|
      ldI .u8 w.drew b1 o2 fun i3 =>
      gd (decide ((1 : Int) ≤ ((x1n : Nat) : Int))) <|
      jnC (F9.k4 Q) (x0, ((slA x1A x1c 1 1), (x1n - 1), (x1c - 1)), ((IntKind.wrap .i64 i3)), ()) w.drew)
    (jnC (F9.k4 Q) (x0, (x1A, x1n, x1c), (0), ()) w))
def F9.an : Ann := ⟨[(6, [(0, .kP), (1, .kSl), (4, .kI .i64), (5, .kSl), (24, .kSl), (25, .kI .i64), (26, .kI .i64)])], [(4, [(0, .kP), (1, .kSl), (4, .kI .i64)])]⟩
theorem F9.of (x0 : Option Addr) (x1A : Option Addr) (x1n x1c : Nat) (w : World) {Q : Value → World → Prop} (h : F9.vc x0 x1A x1n x1c w Q) : Calls Tryz.prog 9 #[Value.pointer x0, Value.slice x1A x1n x1c] w (fun e w' => ∃ v, e = .returned v ∧ Q v w') := vcFn_of (A := F9.an) noCount mixed h (by kernel_rfl)
/-! ### function 10: (*stillage/disk.Disk).Create -/
def F10.vc (x0 : Option Addr) (x1 : ByteArray) (w : World) (Q : Value → World → Prop) : Prop :=
  nw w [Value.pointer x0] 24 fun b1 w2 =>
  nw w2 [Value.string x1] 9 fun b3 w4 =>
  ldP w4 b1 0 fun p5 =>
  Calls Tryz.prog 35 #[Value.pointer p5, Value.func (.func 36) #[] #[Value.pointer (some ⟨b1, 0, none⟩), Value.pointer (some ⟨b3, 0, none⟩)]] w4 fun e7 w6 =>
  ∃ i8 : Int, e7 = .returned (Value.int .i64 i8) ∧ (
    Q (Value.int .i64 i8) w6)
def F10.an : Ann := ⟨[], []⟩
theorem F10.of (x0 : Option Addr) (x1 : ByteArray) (w : World) {Q : Value → World → Prop} (h : F10.vc x0 x1 w Q) : Calls Tryz.prog 10 #[Value.pointer x0, Value.string x1] w (fun e w' => ∃ v, e = .returned v ∧ Q v w') := vcFn_of (A := F10.an) noCount mixed h (by kernel_rfl)
/-! ### function 11: (*stillage/disk.Disk).Append -/
def F11.vc (x0 : Option Addr) (x1 : ByteArray) (x2A : Option Addr) (x2n x2c : Nat) (w : World) (Q : Value → World → Prop) : Prop :=
  nw w [Value.pointer x0] 24 fun b1 w2 =>
  nw w2 [Value.string x1] 9 fun b3 w4 =>
  nw w4 [Value.slice x2A x2n x2c] 23 fun b5 w6 =>
  ldP w6 b1 0 fun p7 =>
  Calls Tryz.prog 35 #[Value.pointer p7, Value.func (.func 38) #[] #[Value.pointer (some ⟨b1, 0, none⟩), Value.pointer (some ⟨b3, 0, none⟩), Value.pointer (some ⟨b5, 0, none⟩)]] w6 fun e9 w8 =>
  ∃ i10 : Int, e9 = .returned (Value.int .i64 i10) ∧ (
    Q (Value.int .i64 i10) w8)
def F11.an : Ann := ⟨[], []⟩
theorem F11.of (x0 : Option Addr) (x1 : ByteArray) (x2A : Option Addr) (x2n x2c : Nat) (w : World) {Q : Value → World → Prop} (h : F11.vc x0 x1 x2A x2n x2c w Q) : Calls Tryz.prog 11 #[Value.pointer x0, Value.string x1, Value.slice x2A x2n x2c] w (fun e w' => ∃ v, e = .returned v ∧ Q v w') := vcFn_of (A := F11.an) noCount mixed h (by kernel_rfl)
/-! ### function 12: (*stillage/disk.Disk).Sync -/
def F12.vc (x0 : Option Addr) (x1 : ByteArray) (w : World) (Q : Value → World → Prop) : Prop :=
  nw w [Value.pointer x0] 24 fun b1 w2 =>
  nw w2 [Value.string x1] 9 fun b3 w4 =>
  ldP w4 b1 0 fun p5 =>
  Calls Tryz.prog 35 #[Value.pointer p5, Value.func (.func 42) #[] #[Value.pointer (some ⟨b1, 0, none⟩), Value.pointer (some ⟨b3, 0, none⟩)]] w4 fun e7 w6 =>
  ∃ i8 : Int, e7 = .returned (Value.int .i64 i8) ∧ (
    Q (Value.int .i64 i8) w6)
def F12.an : Ann := ⟨[], []⟩
theorem F12.of (x0 : Option Addr) (x1 : ByteArray) (w : World) {Q : Value → World → Prop} (h : F12.vc x0 x1 w Q) : Calls Tryz.prog 12 #[Value.pointer x0, Value.string x1] w (fun e w' => ∃ v, e = .returned v ∧ Q v w') := vcFn_of (A := F12.an) noCount mixed h (by kernel_rfl)
/-! ### function 13: (*stillage/disk.Disk).SyncDir -/
def F13.vc (x0 : Option Addr) (w : World) (Q : Value → World → Prop) : Prop :=
  nw w [Value.pointer x0] 24 fun b1 w2 =>
  ldP w2 b1 0 fun p3 =>
  Calls Tryz.prog 35 #[Value.pointer p3, Value.func (.func 45) #[] #[Value.pointer (some ⟨b1, 0, none⟩)]] w2 fun e5 w4 =>
  ∃ i6 : Int, e5 = .returned (Value.int .i64 i6) ∧ (
    Q (Value.int .i64 i6) w4)
def F13.an : Ann := ⟨[], []⟩
theorem F13.of (x0 : Option Addr) (w : World) {Q : Value → World → Prop} (h : F13.vc x0 w Q) : Calls Tryz.prog 13 #[Value.pointer x0] w (fun e w' => ∃ v, e = .returned v ∧ Q v w') := vcFn_of (A := F13.an) noCount mixed h (by kernel_rfl)
/-! ### function 14: stillage/stillagelaw12.lives -/
def F14.b6c (Q : Value → World → Prop) (C6 : (Option Addr × (Option Addr × Nat × Nat) × Int × Unit) → World → Prop) (x1 : Option Addr) (x2 : (Option Addr × Nat × Nat)) (x3 : Int) (w : World) : Prop :=
  vIf (decide (x3 < ((x2.2.1 : Nat) : Int)))
  (dr x2.1 fun b27 o28 =>
    gd (decide (0 ≤ x3)) <|
    gd (decide (x3 < ((x2.2.1 : Nat) : Int))) <|
    ldI .i64 w b27 (o28 + (x3).toNat * 1) fun i29 =>
    vIf (i29 != 0)
    (Q (Value.bool false) w)
    (jnC C6 (x1, (x2.1, x2.2.1, x2.2.2), ((IntKind.wrap .i64 (x3 + 1))), ()) w))
  (Calls Tryz.prog 9 #[Value.pointer x1, Value.slice none 0 0] w fun e31 w30 =>
    e31 = .returned (Value.tuple #[]) ∧ (
      Calls Tryz.prog 16 #[Value.pointer x1, Value.string (⟨#[97]⟩ : ByteArray), Value.int .i64 0, Value.int .i64 2] w30 fun e33 w32 =>
      ∃ (A34 : Option Addr) (n35 c36 : Nat), ∃ i37 : Int, e33 = .returned (Value.tuple #[Value.slice A34 n35 c36, Value.int .i64 i37]) ∧ (
        Calls Tryz.prog 15 #[Value.pointer x1, Value.string (⟨#[97]⟩ : ByteArray)] w32 fun e39 w38 =>
        ∃ i40 : Int, ∃ i41 : Int, e39 = .returned (Value.tuple #[Value.int .i64 i40, Value.int .i64 i41]) ∧ (
          vIf (i37 == 0)
          (b2s w38 A34 n35 fun s42 =>
            vIf (s42.toList == (⟨#[120, 121]⟩ : ByteArray).toList)
            (vIf (i41 == 0)
              (vIf (i40 == 2)
                (Calls Tryz.prog 22 #[Value.pointer x1] w38 fun e44 w43 =>
                  ∃ i45 : Int, e44 = .returned (Value.int .i64 i45) ∧ (
                    Q (Value.bool (i45 == 5)) w43))
                (Q (Value.bool false) w38))
              (Q (Value.bool false) w38))
            (Q (Value.bool false) w38))
          (Q (Value.bool false) w38)))))
def F14.b6 (Q : Value → World → Prop) : (Option Addr × (Option Addr × Nat × Nat) × Int × Unit) → World → ((Option Addr × (Option Addr × Nat × Nat) × Int × Unit) → World → Prop) → Prop := fun s w C6 => ∀ _ : Nat → Value, F14.b6c Q C6 s.1 s.2.1 s.2.2.1 w
def F14.l6 (Q : Value → World → Prop) : (Option Addr × (Option Addr × Nat × Nat) × Int × Unit) → World → Prop := fun s w => ∃ n, loopC (F14.b6 Q) n s w
def F14.vc  (w : World) (Q : Value → World → Prop) : Prop :=
  Calls Tryz.prog 7 #[ofL ([Value.int .i64 100] ++ ([Value.int .i64 4] ++ []))] w fun e2 w1 =>
  ∃ p3 : Option Addr, e2 = .returned (Value.pointer p3) ∧ (
    vIf p3.isNone
    (Q (Value.bool false) w1)
    (Calls Tryz.prog 10 #[Value.pointer p3, Value.string (⟨#[97]⟩ : ByteArray)] w1 fun e5 w4 =>
      ∃ i6 : Int, e5 = .returned (Value.int .i64 i6) ∧ (
        nw w4 ([Value.int .u8 120] ++ ([Value.int .u8 121] ++ [])) 5 fun b7 w8 =>
        mkS w8 b7 fun w9 =>
        Calls Tryz.prog 11 #[Value.pointer p3, Value.string (⟨#[97]⟩ : ByteArray), Value.slice (some ⟨b7, 0, none⟩) 2 2] w9 fun e11 w10 =>
        ∃ i12 : Int, e11 = .returned (Value.int .i64 i12) ∧ (
          Calls Tryz.prog 12 #[Value.pointer p3, Value.string (⟨#[97]⟩ : ByteArray)] w10 fun e14 w13 =>
          ∃ i15 : Int, e14 = .returned (Value.int .i64 i15) ∧ (
            Calls Tryz.prog 13 #[Value.pointer p3] w13 fun e17 w16 =>
            ∃ i18 : Int, e17 = .returned (Value.int .i64 i18) ∧ (
              nw w16 ([Value.int .u8 122] ++ []) 5 fun b19 w20 =>
              mkS w20 b19 fun w21 =>
              Calls Tryz.prog 11 #[Value.pointer p3, Value.string (⟨#[97]⟩ : ByteArray), Value.slice (some ⟨b19, 0, none⟩) 1 1] w21 fun e23 w22 =>
              ∃ i24 : Int, e23 = .returned (Value.int .i64 i24) ∧ (
                nw w22 ([Value.int .i64 i6] ++ ([Value.int .i64 i12] ++ ([Value.int .i64 i15] ++ ([Value.int .i64 i18] ++ ([Value.int .i64 i24] ++ []))))) 28 fun b25 w26 =>
                jnC (F14.l6 Q) (p3, ((some ⟨b25, 0, none⟩), 5, 5), (0), ()) w26)))))))
def F14.an : Ann := ⟨[(6, [(1, .kP), (2, .kSl), (3, .kI .i64)])], []⟩
theorem F14.of  (w : World) {Q : Value → World → Prop} (h : F14.vc  w Q) : Calls Tryz.prog 14 #[] w (fun e w' => ∃ v, e = .returned v ∧ Q v w') := vcFn_of (A := F14.an) noCount mixed h (by kernel_rfl)
/-! ### function 15: (*stillage/disk.Disk).Size -/
def F15.vc (x0 : Option Addr) (x1 : ByteArray) (w : World) (Q : Value → World → Prop) : Prop :=
  Calls Tryz.prog 47 #[Value.pointer x0, Value.string x1] w fun e2 w1 =>
  ∃ (A3 : Option Addr) (n4 c5 : Nat), ∃ i6 : Int, e2 = .returned (Value.tuple #[Value.slice A3 n4 c5, Value.int .i64 i6]) ∧ (
    Q (Value.tuple #[Value.int .i64 ((n4 : Nat) : Int), Value.int .i64 i6]) w1)
def F15.an : Ann := ⟨[], []⟩
theorem F15.of (x0 : Option Addr) (x1 : ByteArray) (w : World) {Q : Value → World → Prop} (h : F15.vc x0 x1 w Q) : Calls Tryz.prog 15 #[Value.pointer x0, Value.string x1] w (fun e w' => ∃ v, e = .returned v ∧ Q v w') := vcFn_of (A := F15.an) noCount mixed h (by kernel_rfl)
/-! ### function 16: (*stillage/disk.Disk).Read -/
def F16.k6c (Q : Value → World → Prop) (x2 : Int) (x3 : Int) (x10 : (Option Addr × Nat × Nat)) (w : World) : Prop :=
  gd (decide (0 ≤ (IntKind.wrap .i64 (x2 + x3)))) <|
  gd (decide ((IntKind.wrap .i64 (x2 + x3)) ≤ ((x10.2.2 : Nat) : Int))) <|
  gd (decide (0 ≤ (IntKind.wrap .i64 (x2 + x3)))) <|
  gd (decide ((IntKind.wrap .i64 (x2 + x3)) ≤ ((((IntKind.wrap .i64 (x2 + x3))).toNat : Nat) : Int))) <|
  gd (decide (0 ≤ x2)) <|
  gd (decide (x2 ≤ ((((IntKind.wrap .i64 (x2 + x3))).toNat : Nat) : Int))) <|
  Q (Value.tuple #[Value.slice (slA x10.1 ((IntKind.wrap .i64 (x2 + x3))).toNat (x2).toNat 1) (((IntKind.wrap .i64 (x2 + x3))).toNat - (x2).toNat) (((IntKind.wrap .i64 (x2 + x3))).toNat - (x2).toNat), Value.int .i64 0]) w
def F16.k6 (Q : Value → World → Prop) : (Int × Int × (Option Addr × Nat × Nat) × Unit) → World → Prop := fun s w => ∀ _ : Nat → Value, F16.k6c Q s.1 s.2.1 s.2.2.1 w
def F16.vc (x0 : Option Addr) (x1 : ByteArray) (x2 : Int) (x3 : Int) (w : World) (Q : Value → World → Prop) : Prop :=
  Calls Tryz.prog 47 #[Value.pointer x0, Value.string x1] w fun e2 w1 =>
  ∃ (A3 : Option Addr) (n4 c5 : Nat), ∃ i6 : Int, e2 = .returned (Value.tuple #[Value.slice A3 n4 c5, Value.int .i64 i6]) ∧ (
    vIf (i6 != 0)
    (Q (Value.tuple #[Value.slice none 0 0, Value.int .i64 i6]) w1)
    (vIf (decide (x2 < 0))
      (Q (Value.tuple #[Value.slice none 0 0, Value.int .i64 20]) w1)
      (vIf (decide (x3 < 0))
        (Q (Value.tuple #[Value.slice none 0 0, Value.int .i64 20]) w1)
        (vIf (decide (x2 > ((n4 : Nat) : Int)))
          (Q (Value.tuple #[Value.slice none 0 0, Value.int .i64 20]) w1)
          (vIf (decide (x3 > (IntKind.wrap .i64 (((n4 : Nat) : Int) - x2))))
            (Q (Value.tuple #[Value.slice none 0 0, Value.int .i64 20]) w1)
            (jnC (F16.k6 Q) ((x2), (x3), (A3, n4, c5), ()) w1))))))
def F16.an : Ann := ⟨[], [(6, [(2, .kI .i64), (3, .kI .i64), (10, .kSl)])]⟩
theorem F16.of (x0 : Option Addr) (x1 : ByteArray) (x2 : Int) (x3 : Int) (w : World) {Q : Value → World → Prop} (h : F16.vc x0 x1 x2 x3 w Q) : Calls Tryz.prog 16 #[Value.pointer x0, Value.string x1, Value.int .i64 x2, Value.int .i64 x3] w (fun e w' => ∃ v, e = .returned v ∧ Q v w') := vcFn_of (A := F16.an) noCount mixed h (by kernel_rfl)
/-! ### function 17: stillage/stillageref01.Same -/
def F17.b4c (Q : Value → World → Prop) (C4 : ((Option Addr × Nat × Nat) × (Option Addr × Nat × Nat) × Int × Unit) → World → Prop) (x0 : (Option Addr × Nat × Nat)) (x1 : (Option Addr × Nat × Nat)) (x5 : Int) (w : World) : Prop :=
  vIf (decide (x5 < ((x0.2.1 : Nat) : Int)))
  (dr x0.1 fun b1 o2 =>
    gd (decide (0 ≤ x5)) <|
    gd (decide (x5 < ((x0.2.1 : Nat) : Int))) <|
    ldI .u8 w.drew b1 (o2 + (x5).toNat * 1) fun i3 =>
    dr x1.1 fun b4 o5 =>
    gd (decide (0 ≤ x5)) <|
    gd (decide (x5 < ((x1.2.1 : Nat) : Int))) <|
    ldI .u8 w.drew b4 (o5 + (x5).toNat * 1) fun i6 =>
    vIf (i3 != i6)
    (Q (Value.bool false) w.drew)
    (jnC C4 ((x0.1, x0.2.1, x0.2.2), (x1.1, x1.2.1, x1.2.2), ((IntKind.wrap .i64 (x5 + 1))), ()) w.drew))
  (Q (Value.bool true) w)
def F17.b4 (Q : Value → World → Prop) : ((Option Addr × Nat × Nat) × (Option Addr × Nat × Nat) × Int × Unit) → World → (((Option Addr × Nat × Nat) × (Option Addr × Nat × Nat) × Int × Unit) → World → Prop) → Prop := fun s w C4 => ∀ _ : Nat → Value, F17.b4c Q C4 s.1 s.2.1 s.2.2.1 w
def F17.l4 (Q : Value → World → Prop) : ((Option Addr × Nat × Nat) × (Option Addr × Nat × Nat) × Int × Unit) → World → Prop := fun s w => ∃ n, loopC (F17.b4 Q) n s w
def F17.vc (x0A : Option Addr) (x0n x0c : Nat) (x1A : Option Addr) (x1n x1c : Nat) (w : World) (Q : Value → World → Prop) : Prop :=
  vIf (((x0n : Nat) : Int) != ((x1n : Nat) : Int))
  (Q (Value.bool false) w)
  (jnC (F17.l4 Q) ((x0A, x0n, x0c), (x1A, x1n, x1c), (0), ()) w)
def F17.an : Ann := ⟨[(4, [(0, .kSl), (1, .kSl), (5, .kI .i64)])], []⟩
theorem F17.of (x0A : Option Addr) (x0n x0c : Nat) (x1A : Option Addr) (x1n x1c : Nat) (w : World) {Q : Value → World → Prop} (h : F17.vc x0A x0n x0c x1A x1n x1c w Q) : Calls Tryz.prog 17 #[Value.slice x0A x0n x0c, Value.slice x1A x1n x1c] w (fun e w' => ∃ v, e = .returned v ∧ Q v w') := vcFn_of (A := F17.an) noCount mixed h (by kernel_rfl)
/-! ### function 18: (*stillage/disk.Disk).Free -/
def F18.vc (x0 : Option Addr) (w : World) (Q : Value → World → Prop) : Prop :=
  vIf x0.isNone
  (Q (Value.tuple #[Value.int .i64 0, Value.int .i64 0]) w)
  (dr x0 fun b1 o2 =>
    ldA 2 w.drew b1 (o2 + 2) fun a3 =>
    Calls Tryz.prog 48 #[Value.pointer x0] w.drew fun e5 w4 =>
    ∃ i6 : Int, e5 = .returned (Value.int .i64 i6) ∧ (
      kp w.drew b1 (o2 + 2) 2 w4 <|
      Calls Tryz.prog 31 #[ofL a3] w4 fun e8 w7 =>
      ∃ (A9 : Option Addr) (n10 c11 : Nat), e8 = .returned (Value.slice A9 n10 c11) ∧ (
        dr x0 fun b12 o13 =>
        ldI .i64 w7.drew b12 o13 fun i14 =>
        dr x0 fun b15 o16 =>
        ldI .i64 w7.drew b15 (o16 + 1) fun i17 =>
        Calls Tryz.prog 49 #[Value.int .i64 i14, Value.int .i64 i6] w7.drew fun e19 w18 =>
        ∃ i20 : Int, e19 = .returned (Value.int .i64 i20) ∧ (
          kp w7.drew b15 (o16 + 1) 1 w18 <|
          Calls Tryz.prog 49 #[Value.int .i64 i17, Value.int .i64 ((n10 : Nat) : Int)] w18 fun e22 w21 =>
          ∃ i23 : Int, e22 = .returned (Value.int .i64 i23) ∧ (
            Q (Value.tuple #[Value.int .i64 i20, Value.int .i64 i23]) w21)))))
def F18.an : Ann := ⟨[], []⟩
theorem F18.of (x0 : Option Addr) (w : World) {Q : Value → World → Prop} (h : F18.vc x0 w Q) : Calls Tryz.prog 18 #[Value.pointer x0] w (fun e w' => ∃ v, e = .returned v ∧ Q v w') := vcFn_of (A := F18.an) noCount mixed h (by kernel_rfl)
/-! ### function 19: (*stillage/disk.Disk).Image -/
def F19.b5c (Q : Value → World → Prop) (C5 : (Option Addr × (Option Addr × Nat × Nat) × (Option Addr × Nat × Nat) × Int × Int × Unit) → World → Prop) (x0 : Option Addr) (x3 : (Option Addr × Nat × Nat)) (x14 : (Option Addr × Nat × Nat)) (x15 : Int) (x16 : Int) (w : World) : Prop :=
  vIf (decide (x16 < x15))
  (dr x14.1 fun b11 o12 =>
    gd (decide (0 ≤ x16)) <|
    gd (decide (x16 < ((x14.2.1 : Nat) : Int))) <|
    ldA 2 w b11 (o12 + (x16).toNat * 2) fun a13 =>
    nw w [Value.string (⟨#[]⟩ : ByteArray), Value.int .i64 0] 94 fun b14 w15 =>
    gd (a13.length == 2) <|
    st w15 b14 0 a13 fun w16 =>
    ldS w16.drew b14 0 fun s17 =>
    dr x0 fun b18 o19 =>
    ldM w16.drew b18 (o19 + 4) fun m20 =>
    ldI .i64 w16.drew b14 (0 + 1) fun i21 =>
    drM m20 fun r24 =>
    mlk w16.drew r24 .i64 i21 fun q22 =>
    lvA [Value.slice none 0 0, Value.slice none 0 0] q22 fun a23 =>
    kp w16.drew b14 0 1 w16.drew <|
    gd (decide (0 < a23.length)) <|
    ptSl (nthV a23 0) fun A25 n26 c27 =>
    Calls Tryz.prog 51 #[ofL ([Value.slice A25 n26 c27] ++ ([Value.slice none 0 0] ++ []))] w16.drew fun e29 w28 =>
    ∃ (A30 : Option Addr) (n31 c32 : Nat), e29 = .returned (Value.slice A30 n31 c32) ∧ (
      kp w16.drew b14 0 1 w28 <|
      gd (([Value.string s17] ++ ([Value.slice A30 n31 c32] ++ [])).length == 2) <|
      nw w28 (([Value.string s17] ++ ([Value.slice A30 n31 c32] ++ [])) ++ []) 97 fun b33 w34 =>
      app w34 2 40 [Value.string (⟨#[]⟩ : ByteArray), Value.slice none 0 0] 97 x3.1 x3.2.1 x3.2.2 (Value.slice (some ⟨b33, 0, none⟩) 1 1) fun A35 n36 c37 w38 =>
      jnC C5 (x0, (A35, n36, c37), (x14.1, x14.2.1, x14.2.2), (x15), ((IntKind.wrap .i64 (x16 + 1))), ()) w38))
  (Q (Value.slice x3.1 x3.2.1 x3.2.2) w)
def F19.b5 (Q : Value → World → Prop) : (Option Addr × (Option Addr × Nat × Nat) × (Option Addr × Nat × Nat) × Int × Int × Unit) → World → ((Option Addr × (Option Addr × Nat × Nat) × (Option Addr × Nat × Nat) × Int × Int × Unit) → World → Prop) → Prop := fun s w C5 => ∀ _ : Nat → Value, F19.b5c Q C5 s.1 s.2.1 s.2.2.1 s.2.2.2.1 s.2.2.2.2.1 w
def F19.l5 (Q : Value → World → Prop) : (Option Addr × (Option Addr × Nat × Nat) × (Option Addr × Nat × Nat) × Int × Int × Unit) → World → Prop := fun s w => ∃ n, loopC (F19.b5 Q) n s w
def F19.vc (x0 : Option Addr) (w : World) (Q : Value → World → Prop) : Prop :=
  vIf x0.isNone
  (Q (Value.slice none 0 0) w)
  (dr x0 fun b1 o2 =>
    ldSl w b1 (o2 + 2) fun A3 n4 c5 =>
    Calls Tryz.prog 50 #[ofL ([Value.slice A3 n4 c5] ++ ([Value.slice none 0 0] ++ []))] w fun e7 w6 =>
    ∃ (A8 : Option Addr) (n9 c10 : Nat), e7 = .returned (Value.slice A8 n9 c10) ∧ (
      jnC (F19.l5 Q) (x0, (none, 0, 0), (A8, n9, c10), (((n9 : Nat) : Int)), (0), ()) w6))
def F19.an : Ann := ⟨[(5, [(0, .kP), (3, .kSl), (14, .kSl), (15, .kI .i64), (16, .kI .i64)])], []⟩
theorem F19.of (x0 : Option Addr) (w : World) {Q : Value → World → Prop} (h : F19.vc x0 w Q) : Calls Tryz.prog 19 #[Value.pointer x0] w (fun e w' => ∃ v, e = .returned v ∧ Q v w') := vcFn_of (A := F19.an) noCount mixed h (by kernel_rfl)
/-! ### function 20: stillage/stillageref12.Files -/
def F20.b4c (Q : Value → World → Prop) (C4 : ((Option Addr × Nat × Nat) × (Option Addr × Nat × Nat) × Int × Unit) → World → Prop) (x0 : (Option Addr × Nat × Nat)) (x1 : (Option Addr × Nat × Nat)) (x5 : Int) (w : World) : Prop :=
  vIf (decide (x5 < ((x0.2.1 : Nat) : Int)))
  (dr x0.1 fun b1 o2 =>
    gd (decide (0 ≤ x5)) <|
    gd (decide (x5 < ((x0.2.1 : Nat) : Int))) <|
    ldS w.drew b1 (o2 + (x5).toNat * 2) fun s3 =>
    dr x1.1 fun b4 o5 =>
    gd (decide (0 ≤ x5)) <|
    gd (decide (x5 < ((x1.2.1 : Nat) : Int))) <|
    ldS w.drew b4 (o5 + (x5).toNat * 2) fun s6 =>
    vIf (!(s3.toList == s6.toList))
    ((Q (Value.bool false) w.drew) ∧
      (Q (Value.bool false) w.drew))
    (dr x0.1 fun b7 o8 =>
      gd (decide (0 ≤ x5)) <|
      gd (decide (x5 < ((x0.2.1 : Nat) : Int))) <|
      ldSl w.drew b7 ((o8 + (x5).toNat * 2) + 1) fun A9 n10 c11 =>
      dr x1.1 fun b12 o13 =>
      gd (decide (0 ≤ x5)) <|
      gd (decide (x5 < ((x1.2.1 : Nat) : Int))) <|
      ldSl w.drew b12 ((o13 + (x5).toNat * 2) + 1) fun A14 n15 c16 =>
      (b2s w.drew A9 n10 fun s17 =>
        kp w.drew b12 ((o13 + (x5).toNat * 2) + 1) 1 w.drew <|
        b2s w.drew A14 n15 fun s18 =>
        kp w.drew b7 ((o8 + (x5).toNat * 2) + 1) 1 w.drew <|
        vIf (!(s17.toList == s18.toList))
        (Q (Value.bool false) w.drew)
        (jnC C4 ((x0.1, x0.2.1, x0.2.2), (x1.1, x1.2.1, x1.2.2), ((IntKind.wrap .i64 (x5 + 1))), ()) w.drew)) ∧
      (b2s w.drew A14 n15 fun s19 =>
        kp w.drew b7 ((o8 + (x5).toNat * 2) + 1) 1 w.drew <|
        b2s w.drew A9 n10 fun s20 =>
        kp w.drew b12 ((o13 + (x5).toNat * 2) + 1) 1 w.drew <|
        vIf (!(s20.toList == s19.toList))
        (Q (Value.bool false) w.drew)
        (jnC C4 ((x0.1, x0.2.1, x0.2.2), (x1.1, x1.2.1, x1.2.2), ((IntKind.wrap .i64 (x5 + 1))), ()) w.drew))))
  (Q (Value.bool true) w)
def F20.b4 (Q : Value → World → Prop) : ((Option Addr × Nat × Nat) × (Option Addr × Nat × Nat) × Int × Unit) → World → (((Option Addr × Nat × Nat) × (Option Addr × Nat × Nat) × Int × Unit) → World → Prop) → Prop := fun s w C4 => ∀ _ : Nat → Value, F20.b4c Q C4 s.1 s.2.1 s.2.2.1 w
def F20.l4 (Q : Value → World → Prop) : ((Option Addr × Nat × Nat) × (Option Addr × Nat × Nat) × Int × Unit) → World → Prop := fun s w => ∃ n, loopC (F20.b4 Q) n s w
def F20.vc (x0A : Option Addr) (x0n x0c : Nat) (x1A : Option Addr) (x1n x1c : Nat) (w : World) (Q : Value → World → Prop) : Prop :=
  vIf (((x0n : Nat) : Int) != ((x1n : Nat) : Int))
  (Q (Value.bool false) w)
  (jnC (F20.l4 Q) ((x0A, x0n, x0c), (x1A, x1n, x1c), (0), ()) w)
def F20.an : Ann := ⟨[(4, [(0, .kSl), (1, .kSl), (5, .kI .i64)])], []⟩
theorem F20.of (x0A : Option Addr) (x0n x0c : Nat) (x1A : Option Addr) (x1n x1c : Nat) (w : World) {Q : Value → World → Prop} (h : F20.vc x0A x0n x0c x1A x1n x1c w Q) : Calls Tryz.prog 20 #[Value.slice x0A x0n x0c, Value.slice x1A x1n x1c] w (fun e w' => ∃ v, e = .returned v ∧ Q v w') := vcFn_of (A := F20.an) noCount mixed h (by kernel_rfl)
/-! ### function 21: (*stillage/disk.Disk).Names -/
def F21.b7c (Q : Value → World → Prop) (C7 : ((Option Addr × Nat × Nat) × (Option Addr × Nat × Nat) × Int × Int × Unit) → World → Prop) (x4 : (Option Addr × Nat × Nat)) (x19 : (Option Addr × Nat × Nat)) (x20 : Int) (x21 : Int) (w : World) : Prop :=
  vIf (decide (x21 < x20))
  (dr x19.1 fun b12 o13 =>
    gd (decide (0 ≤ x21)) <|
    gd (decide (x21 < ((x19.2.1 : Nat) : Int))) <|
    ldA 2 w b12 (o13 + (x21).toNat * 2) fun a14 =>
    nw w [Value.string (⟨#[]⟩ : ByteArray), Value.int .i64 0] 94 fun b15 w16 =>
    gd (a14.length == 2) <|
    st w16 b15 0 a14 fun w17 =>
    ldS w17 b15 0 fun s18 =>
    nw w17 ([Value.string s18] ++ []) 9 fun b19 w20 =>
    app w20 1 16 [Value.string (⟨#[]⟩ : ByteArray)] 9 x4.1 x4.2.1 x4.2.2 (Value.slice (some ⟨b19, 0, none⟩) 1 1) fun A21 n22 c23 w24 =>
    jnC C7 ((A21, n22, c23), (x19.1, x19.2.1, x19.2.2), (x20), ((IntKind.wrap .i64 (x21 + 1))), ()) w24)
  (Q (Value.tuple #[Value.slice x4.1 x4.2.1 x4.2.2, Value.int .i64 0]) w)
def F21.b7 (Q : Value → World → Prop) : ((Option Addr × Nat × Nat) × (Option Addr × Nat × Nat) × Int × Int × Unit) → World → (((Option Addr × Nat × Nat) × (Option Addr × Nat × Nat) × Int × Int × Unit) → World → Prop) → Prop := fun s w C7 => ∀ _ : Nat → Value, F21.b7c Q C7 s.1 s.2.1 s.2.2.1 s.2.2.2.1 w
def F21.l7 (Q : Value → World → Prop) : ((Option Addr × Nat × Nat) × (Option Addr × Nat × Nat) × Int × Int × Unit) → World → Prop := fun s w => ∃ n, loopC (F21.b7 Q) n s w
def F21.vc (x0 : Option Addr) (w : World) (Q : Value → World → Prop) : Prop :=
  vIf x0.isNone
  (Q (Value.tuple #[Value.slice none 0 0, Value.int .i64 1]) w)
  (dr x0 fun b1 o2 =>
    ldB w b1 (o2 + 6) fun t3 =>
    vIf t3
    (Q (Value.tuple #[Value.slice none 0 0, Value.int .i64 11]) w)
    (dr x0 fun b4 o5 =>
      ldA 2 w b4 (o5 + 2) fun a6 =>
      Calls Tryz.prog 50 #[ofL a6] w fun e8 w7 =>
      ∃ (A9 : Option Addr) (n10 c11 : Nat), e8 = .returned (Value.slice A9 n10 c11) ∧ (
        jnC (F21.l7 Q) ((none, 0, 0), (A9, n10, c11), (((n10 : Nat) : Int)), (0), ()) w7)))
def F21.an : Ann := ⟨[(7, [(4, .kSl), (19, .kSl), (20, .kI .i64), (21, .kI .i64)])], []⟩
theorem F21.of (x0 : Option Addr) (w : World) {Q : Value → World → Prop} (h : F21.vc x0 w Q) : Calls Tryz.prog 21 #[Value.pointer x0] w (fun e w' => ∃ v, e = .returned v ∧ Q v w') := vcFn_of (A := F21.an) noCount mixed h (by kernel_rfl)
/-! ### function 22: (*stillage/disk.Disk).Calls -/
def F22.vc (x0 : Option Addr) (w : World) (Q : Value → World → Prop) : Prop :=
  vIf x0.isNone
  (Q (Value.int .i64 0) w)
  (dr x0 fun b1 o2 =>
    ldI .i64 w b1 (o2 + 9) fun i3 =>
    Q (Value.int .i64 i3) w)
def F22.an : Ann := ⟨[], []⟩
theorem F22.of (x0 : Option Addr) (w : World) {Q : Value → World → Prop} (h : F22.vc x0 w Q) : Calls Tryz.prog 22 #[Value.pointer x0] w (fun e w' => ∃ v, e = .returned v ∧ Q v w') := vcFn_of (A := F22.an) noCount mixed h (by kernel_rfl)
/-! ### function 23: stillage/disk.Load -/
def F23.k7c (Q : Value → World → Prop) (C3 : (Option Addr × (Option Addr × Nat × Nat) × Int × Int × Unit) → World → Prop) (x5 : Option Addr) (x7 : (Nat × Nat)) (x12 : (Option Addr × Nat × Nat)) (x13 : Int) (x14 : Int) (w : World) : Prop :=
  dr x5 fun b28 o29 =>
  ldI .i64 w b28 (o29 + 5) fun i30 =>
  dr x5 fun b31 o32 =>
  st w b31 (o32 + 5) [Value.int .i64 (IntKind.wrap .i64 (i30 + 1))] fun w33 =>
  dr x5 fun b34 o35 =>
  ldSl w33.drew b34 (o35 + 2) fun A36 n37 c38 =>
  ldS w33.drew x7.1 x7.2 fun s39 =>
  dr x5 fun b40 o41 =>
  ldI .i64 w33.drew b40 (o41 + 5) fun i42 =>
  gd (([Value.string s39] ++ ([Value.int .i64 i42] ++ [])).length == 2) <|
  nw w33.drew (([Value.string s39] ++ ([Value.int .i64 i42] ++ [])) ++ []) 94 fun b43 w44 =>
  kp w33.drew b34 (o35 + 2) 1 w44 <|
  app w44 2 24 [Value.string (⟨#[]⟩ : ByteArray), Value.int .i64 0] 94 A36 n37 c38 (Value.slice (some ⟨b43, 0, none⟩) 1 1) fun A45 n46 c47 w48 =>
  dr x5 fun b49 o50 =>
  st w48 b49 (o50 + 2) [Value.slice A45 n46 c47] fun w51 =>
  dr x5 fun b52 o53 =>
  ldM w51.drew b52 (o53 + 4) fun m54 =>
  dr x5 fun b55 o56 =>
  ldI .i64 w51.drew b55 (o56 + 5) fun i57 =>
  ldSl w51.drew x7.1 (x7.2 + 1) fun A58 n59 c60 =>
  Calls Tryz.prog 44 #[ofL ([Value.slice A58 n59 c60] ++ ([Value.slice none 0 0] ++ []))] w51.drew fun e62 w61 =>
  ∃ a63 : List Value, e62 = .returned (ofL a63) ∧ (
    kp w51.drew b55 (o56 + 5) 1 w61 <|
    kp w51.drew b52 (o53 + 4) 1 w61 <|
    drM m54 fun r65 =>
    mup w61 r65 .i64 i57 (ofL a63) fun w64 =>
    jnC C3 (x5, (x12.1, x12.2.1, x12.2.2), (x13), ((IntKind.wrap .i64 (x14 + 1))), ()) w64)
def F23.k7 (Q : Value → World → Prop) (C3 : (Option Addr × (Option Addr × Nat × Nat) × Int × Int × Unit) → World → Prop) : (Option Addr × (Nat × Nat) × (Option Addr × Nat × Nat) × Int × Int × Unit) → World → Prop := fun s w => ∀ _ : Nat → Value, F23.k7c Q C3 s.1 s.2.1 s.2.2.1 s.2.2.2.1 s.2.2.2.2.1 w
def F23.b3c (Q : Value → World → Prop) (C3 : (Option Addr × (Option Addr × Nat × Nat) × Int × Int × Unit) → World → Prop) (x5 : Option Addr) (x12 : (Option Addr × Nat × Nat)) (x13 : Int) (x14 : Int) (w : World) : Prop :=
  vIf (decide (x14 < x13))
  (dr x12.1 fun b7 o8 =>
    gd (decide (0 ≤ x14)) <|
    gd (decide (x14 < ((x12.2.1 : Nat) : Int))) <|
    ldA 2 w b7 (o8 + (x14).toNat * 2) fun a9 =>
    nw w [Value.string (⟨#[]⟩ : ByteArray), Value.slice none 0 0] 97 fun b10 w11 =>
    gd (a9.length == 2) <|
    st w11 b10 0 a9 fun w12 =>
    dr x5 fun b13 o14 =>
    ldA 2 w12.drew b13 (o14 + 2) fun a15 =>
    ldS w12.drew b10 0 fun s16 =>
    Calls Tryz.prog 52 #[ofL a15, Value.string s16] w12.drew fun e18 w17 =>
    ∃ i19 : Int, ∃ t20 : Bool, e18 = .returned (Value.tuple #[Value.int .i64 i19, Value.bool t20]) ∧ (
      vIf t20
      (jnC C3 (x5, (x12.1, x12.2.1, x12.2.2), (x13), ((IntKind.wrap .i64 (x14 + 1))), ()) w17)
      (ldS w17 b10 0 fun s21 =>
        Calls Tryz.prog 53 #[Value.string s21] w17 fun e23 w22 =>
        ∃ t24 : Bool, e23 = .returned (Value.bool t24) ∧ (
          vIf (!t24)
          (jnC C3 (x5, (x12.1, x12.2.1, x12.2.2), (x13), ((IntKind.wrap .i64 (x14 + 1))), ()) w22)
          (ldSl w22 b10 (0 + 1) fun A25 n26 c27 =>
            vIf (decide (((n26 : Nat) : Int) > 1048576))
            (jnC C3 (x5, (x12.1, x12.2.1, x12.2.2), (x13), ((IntKind.wrap .i64 (x14 + 1))), ()) w22)
            (jnC (F23.k7 Q C3) (x5, (b10, 0), (x12.1, x12.2.1, x12.2.2), (x13), (x14), ()) w22))))))
  (dr x5 fun b66 o67 =>
    ldA 2 w b66 (o67 + 2) fun a68 =>
    Calls Tryz.prog 46 #[ofL a68] w fun e70 w69 =>
    ∃ a71 : List Value, e70 = .returned (ofL a71) ∧ (
      dr x5 fun b72 o73 =>
      gd (a71.length == 2) <|
      st w69 b72 (o73 + 2) a71 fun w74 =>
      Q (Value.pointer x5) w74))
def F23.b3 (Q : Value → World → Prop) : (Option Addr × (Option Addr × Nat × Nat) × Int × Int × Unit) → World → ((Option Addr × (Option Addr × Nat × Nat) × Int × Int × Unit) → World → Prop) → Prop := fun s w C3 => ∀ _ : Nat → Value, F23.b3c Q C3 s.1 s.2.1 s.2.2.1 s.2.2.2.1 w
def F23.l3 (Q : Value → World → Prop) : (Option Addr × (Option Addr × Nat × Nat) × Int × Int × Unit) → World → Prop := fun s w => ∃ n, loopC (F23.b3 Q) n s w
def F23.vc (x0 : List Value) (x1A : Option Addr) (x1n x1c : Nat) (w : World) (Q : Value → World → Prop) : Prop :=
  nw w x0 27 fun b1 w2 =>
  ldA 2 w2 b1 0 fun a3 =>
  Calls Tryz.prog 7 #[ofL a3] w2 fun e5 w4 =>
  ∃ p6 : Option Addr, e5 = .returned (Value.pointer p6) ∧ (
    jnC (F23.l3 Q) (p6, (x1A, x1n, x1c), (((x1n : Nat) : Int)), (0), ()) w4)
def F23.an : Ann := ⟨[(3, [(5, .kP), (12, .kSl), (13, .kI .i64), (14, .kI .i64)])], [(7, [(5, .kP), (7, .kL), (12, .kSl), (13, .kI .i64), (14, .kI .i64)])]⟩
theorem F23.of (x0 : List Value) (x1A : Option Addr) (x1n x1c : Nat) (w : World) {Q : Value → World → Prop} (h : F23.vc x0 x1A x1n x1c w Q) : Calls Tryz.prog 23 #[ofL x0, Value.slice x1A x1n x1c] w (fun e w' => ∃ v, e = .returned v ∧ Q v w') := vcFn_of (A := F23.an) noCount mixed h (by kernel_rfl)
/-! ### function 24: stillage/stillageref12.Load -/
def F24.k8c (Q : Value → World → Prop) (C4 : ((Option Addr × Nat × Nat) × Option Addr × (Option Addr × Nat × Nat) × Int × Unit) → World → Prop) (x1 : (Option Addr × Nat × Nat)) (x5 : Option Addr) (x6 : (Option Addr × Nat × Nat)) (x7 : Int) (x47 : Bool) (w : World) : Prop :=
  vIf x47
  (dr x5 fun b25 o26 =>
    ldI .i64 w b25 (o26 + 5) fun i27 =>
    dr x5 fun b28 o29 =>
    st w b28 (o29 + 5) [Value.int .i64 (IntKind.wrap .i64 (i27 + 1))] fun w30 =>
    dr x1.1 fun b31 o32 =>
    gd (decide (0 ≤ x7)) <|
    gd (decide (x7 < ((x1.2.1 : Nat) : Int))) <|
    ldS w30.drew b31 (o32 + (x7).toNat * 2) fun s33 =>
    dr x5 fun b34 o35 =>
    ldI .i64 w30.drew b34 (o35 + 5) fun i36 =>
    gd (([Value.string s33] ++ ([Value.int .i64 i36] ++ [])).length == 2) <|
    nw w30.drew (([Value.string s33] ++ ([Value.int .i64 i36] ++ [])) ++ []) 94 fun b37 w38 =>
    app w38 2 24 [Value.string (⟨#[]⟩ : ByteArray), Value.int .i64 0] 94 x6.1 x6.2.1 x6.2.2 (Value.slice (some ⟨b37, 0, none⟩) 1 1) fun A39 n40 c41 w42 =>
    dr x5 fun b43 o44 =>
    ldSl w42.drew b43 (o44 + 4) fun A45 n46 c47 =>
    dr x5 fun b48 o49 =>
    ldI .i64 w42.drew b48 (o49 + 5) fun i50 =>
    dr x1.1 fun b51 o52 =>
    gd (decide (0 ≤ x7)) <|
    gd (decide (x7 < ((x1.2.1 : Nat) : Int))) <|
    ldSl w42.drew b51 ((o52 + (x7).toNat * 2) + 1) fun A53 n54 c55 =>
    app w42.drew 1 1 [Value.int .u8 0] 5 none 0 0 (Value.slice A53 n54 c55) fun A56 n57 c58 w59 =>
    kp w42.drew b48 (o49 + 5) 1 w59 <|
    kp w42.drew b43 (o44 + 4) 1 w59 <|
    gd (([Value.slice A56 n57 c58] ++ ([Value.slice none 0 0] ++ [])).length == 2) <|
    gd (([Value.int .i64 i50] ++ (([Value.slice A56 n57 c58] ++ ([Value.slice none 0 0] ++ [])) ++ [])).length == 3) <|
    nw w59 (([Value.int .i64 i50] ++ (([Value.slice A56 n57 c58] ++ ([Value.slice none 0 0] ++ [])) ++ [])) ++ []) 106 fun b60 w61 =>
    kp w42.drew b43 (o44 + 4) 1 w61 <|
    app w61 3 56 [Value.int .i64 0, Value.slice none 0 0, Value.slice none 0 0] 106 A45 n46 c47 (Value.slice (some ⟨b60, 0, none⟩) 1 1) fun A62 n63 c64 w65 =>
    dr x5 fun b66 o67 =>
    st w65 b66 (o67 + 4) [Value.slice A62 n63 c64] fun w68 =>
    jnC C4 ((x1.1, x1.2.1, x1.2.2), x5, (A39, n40, c41), ((IntKind.wrap .i64 (x7 + 1))), ()) w68)
  (jnC C4 ((x1.1, x1.2.1, x1.2.2), x5, (x6.1, x6.2.1, x6.2.2), ((IntKind.wrap .i64 (x7 + 1))), ()) w)
def F24.k8 (Q : Value → World → Prop) (C4 : ((Option Addr × Nat × Nat) × Option Addr × (Option Addr × Nat × Nat) × Int × Unit) → World → Prop) : ((Option Addr × Nat × Nat) × Option Addr × (Option Addr × Nat × Nat) × Int × Bool × Unit) → World → Prop := fun s w => ∀ _ : Nat → Value, F24.k8c Q C4 s.1 s.2.1 s.2.2.1 s.2.2.2.1 s.2.2.2.2.1 w
def F24.b4c (Q : Value → World → Prop) (C4 : ((Option Addr × Nat × Nat) × Option Addr × (Option Addr × Nat × Nat) × Int × Unit) → World → Prop) (x1 : (Option Addr × Nat × Nat)) (x5 : Option Addr) (x6 : (Option Addr × Nat × Nat)) (x7 : Int) (w : World) : Prop :=
  vIf (decide (x7 < ((x1.2.1 : Nat) : Int)))
  (dr x1.1 fun b7 o8 =>
    gd (decide (0 ≤ x7)) <|
    gd (decide (x7 < ((x1.2.1 : Nat) : Int))) <|
    ldS w b7 (o8 + (x7).toNat * 2) fun s9 =>
    Calls Tryz.prog 55 #[ofL ([Value.slice x6.1 x6.2.1 x6.2.2] ++ ([Value.slice none 0 0] ++ [])), Value.string s9] w fun e11 w10 =>
    ∃ i12 : Int, ∃ t13 : Bool, e11 = .returned (Value.tuple #[Value.int .i64 i12, Value.bool t13]) ∧ (
      vIf (!t13)
      (dr x1.1 fun b14 o15 =>
        gd (decide (0 ≤ x7)) <|
        gd (decide (x7 < ((x1.2.1 : Nat) : Int))) <|
        ldS w10 b14 (o15 + (x7).toNat * 2) fun s16 =>
        Calls Tryz.prog 56 #[Value.string s16] w10 fun e18 w17 =>
        ∃ t19 : Bool, e18 = .returned (Value.bool t19) ∧ (
          vIf t19
          (dr x1.1 fun b20 o21 =>
            gd (decide (0 ≤ x7)) <|
            gd (decide (x7 < ((x1.2.1 : Nat) : Int))) <|
            ldSl w17 b20 ((o21 + (x7).toNat * 2) + 1) fun A22 n23 c24 =>
            jnC (F24.k8 Q C4) ((x1.1, x1.2.1, x1.2.2), x5, (x6.1, x6.2.1, x6.2.2), (x7), (decide (((n23 : Nat) : Int) ≤ 1048576)), ()) w17)
          (jnC (F24.k8 Q C4) ((x1.1, x1.2.1, x1.2.2), x5, (x6.1, x6.2.1, x6.2.2), (x7), false, ()) w17)))
      (jnC (F24.k8 Q C4) ((x1.1, x1.2.1, x1.2.2), x5, (x6.1, x6.2.1, x6.2.2), (x7), false, ()) w10)))
  (Calls Tryz.prog 57 #[ofL ([Value.slice x6.1 x6.2.1 x6.2.2] ++ ([Value.slice none 0 0] ++ []))] w fun e70 w69 =>
    ∃ (A71 : Option Addr) (n72 c73 : Nat), e70 = .returned (Value.slice A71 n72 c73) ∧ (
      dr x5 fun b74 o75 =>
      gd (([Value.slice A71 n72 c73] ++ ([Value.slice none 0 0] ++ [])).length == 2) <|
      st w69 b74 (o75 + 2) ([Value.slice A71 n72 c73] ++ ([Value.slice none 0 0] ++ [])) fun w76 =>
      Q (Value.pointer x5) w76))
def F24.b4 (Q : Value → World → Prop) : ((Option Addr × Nat × Nat) × Option Addr × (Option Addr × Nat × Nat) × Int × Unit) → World → (((Option Addr × Nat × Nat) × Option Addr × (Option Addr × Nat × Nat) × Int × Unit) → World → Prop) → Prop := fun s w C4 => ∀ _ : Nat → Value, F24.b4c Q C4 s.1 s.2.1 s.2.2.1 s.2.2.2.1 w
def F24.l4 (Q : Value → World → Prop) : ((Option Addr × Nat × Nat) × Option Addr × (Option Addr × Nat × Nat) × Int × Unit) → World → Prop := fun s w => ∃ n, loopC (F24.b4 Q) n s w
def F24.vc (x0 : List Value) (x1A : Option Addr) (x1n x1c : Nat) (w : World) (Q : Value → World → Prop) : Prop :=
  nw w x0 27 fun b1 w2 =>
  ldA 2 w2 b1 0 fun a3 =>
  Calls Tryz.prog 54 #[ofL a3] w2 fun e5 w4 =>
  ∃ p6 : Option Addr, e5 = .returned (Value.pointer p6) ∧ (
    jnC (F24.l4 Q) ((x1A, x1n, x1c), p6, (none, 0, 0), (0), ()) w4)
def F24.an : Ann := ⟨[(4, [(1, .kSl), (5, .kP), (6, .kSl), (7, .kI .i64)])], [(8, [(1, .kSl), (5, .kP), (6, .kSl), (7, .kI .i64), (47, .kB)])]⟩
theorem F24.of (x0 : List Value) (x1A : Option Addr) (x1n x1c : Nat) (w : World) {Q : Value → World → Prop} (h : F24.vc x0 x1A x1n x1c w Q) : Calls Tryz.prog 24 #[ofL x0, Value.slice x1A x1n x1c] w (fun e w' => ∃ v, e = .returned v ∧ Q v w') := vcFn_of (A := F24.an) noCount mixed h (by kernel_rfl)
end Go.Proofs.YtfdhaeglhkmmpaaGreat
/- PRINTED BY MY OWN gen.py out of the translation: each function as a proposition. -/
namespace Go.Proofs.YtfdhaeglhkmmpaaGreat
open Go.GV
set_option linter.unusedVariables false
set_option maxRecDepth 100000
/-! ### function 25: stillage/stillagelaw12.play -/
def F25.k9c (Q : Value → World → Prop) (x0 : Option Addr) (x3 : (Nat × Nat)) (x6 : Int) (x7 : Bool) (w : World) : Prop :=
  vIf x7
  (ldI .i64 w x3.1 x3.2 fun i4 =>
    ldS w x3.1 (x3.2 + 1) fun s5 =>
    ldS w x3.1 (x3.2 + 2) fun s6 =>
    ldSl w x3.1 (x3.2 + 3) fun A7 n8 c9 =>
    ldI .i64 w x3.1 (x3.2 + 4) fun i10 =>
    Calls Tryz.prog 58 #[Value.pointer x0, Value.int .i64 i4, Value.string s5, Value.string s6, Value.slice A7 n8 c9, Value.int .i64 i10] w fun e12 w11 =>
    ∃ i13 : Int, e12 = .returned (Value.int .i64 i13) ∧ (
      Q (Value.int .i64 i13) w11))
  (vIf (x6 == 8)
    (dr x0 fun b14 o15 =>
      st w b14 (o15 + 7) [Value.int .i64 (-1)] fun w16 =>
      ldI .i64 w16 x3.1 (x3.2 + 4) fun i17 =>
      vIf (decide (i17 ≥ 0))
      (ldI .i64 w16 x3.1 (x3.2 + 4) fun i18 =>
        dr x0 fun b19 o20 =>
        st w16 b19 (o20 + 7) [Value.int .i64 i18] fun w21 =>
        Q (Value.int .i64 0) w21)
      (Q (Value.int .i64 0) w16))
    (vIf (x6 == 9)
      (ldSl w x3.1 (x3.2 + 3) fun A22 n23 c24 =>
        Calls Tryz.prog 59 #[Value.pointer x0, Value.slice A22 n23 c24] w fun e26 w25 =>
        e26 = .returned (Value.tuple #[]) ∧ (
          Q (Value.int .i64 0) w25))
      (Q (Value.int .i64 0) w)))
def F25.k9 (Q : Value → World → Prop) : (Option Addr × (Nat × Nat) × Int × Bool × Unit) → World → Prop := fun s w => ∀ _ : Nat → Value, F25.k9c Q s.1 s.2.1 s.2.2.1 s.2.2.2.1 w
def F25.vc (x0 : Option Addr) (x1 : List Value) (w : World) (Q : Value → World → Prop) : Prop :=
  nw w x1 31 fun b1 w2 =>
  ldI .i64 w2 b1 0 fun i3 =>
  vIf (i3 == 1)
  (jnC (F25.k9 Q) (x0, (b1, 0), (i3), (i3 == 1), ()) w2)
  (vIf (i3 == 2)
    (jnC (F25.k9 Q) (x0, (b1, 0), (i3), (i3 == 2), ()) w2)
    (vIf (i3 == 3)
      (jnC (F25.k9 Q) (x0, (b1, 0), (i3), (i3 == 3), ()) w2)
      (vIf (i3 == 4)
        (jnC (F25.k9 Q) (x0, (b1, 0), (i3), (i3 == 4), ()) w2)
        (vIf (i3 == 5)
          (jnC (F25.k9 Q) (x0, (b1, 0), (i3), (i3 == 5), ()) w2)
          (vIf (i3 == 6)
            (jnC (F25.k9 Q) (x0, (b1, 0), (i3), (i3 == 6), ()) w2)
            (jnC (F25.k9 Q) (x0, (b1, 0), (i3), (i3 == 7), ()) w2))))))
def F25.an : Ann := ⟨[], [(9, [(0, .kP), (3, .kL), (6, .kI .i64), (7, .kB)])]⟩
theorem F25.of (x0 : Option Addr) (x1 : List Value) (w : World) {Q : Value → World → Prop} (h : F25.vc x0 x1 w Q) : Calls Tryz.prog 25 #[Value.pointer x0, ofL x1] w (fun e w' => ∃ v, e = .returned v ∧ Q v w') := vcFn_of (A := F25.an) noCount mixed h (by kernel_rfl)
/-! ### function 26: stillage/stillagelaw12.same -/
def F26.b18c (Q : Value → World → Prop) (C18 : ((Option Addr × Nat × Nat) × (Option Addr × Nat × Nat) × Int × Unit) → World → Prop) (x19 : (Option Addr × Nat × Nat)) (x21 : (Option Addr × Nat × Nat)) (x22 : Int) (w : World) : Prop :=
  vIf (decide (x22 < ((x19.2.1 : Nat) : Int)))
  (dr x19.1 fun b84 o85 =>
    gd (decide (0 ≤ x22)) <|
    gd (decide (x22 < ((x19.2.1 : Nat) : Int))) <|
    ldS w.drew b84 (o85 + (x22).toNat * 1) fun s86 =>
    dr x21.1 fun b87 o88 =>
    gd (decide (0 ≤ x22)) <|
    gd (decide (x22 < ((x21.2.1 : Nat) : Int))) <|
    ldS w.drew b87 (o88 + (x22).toNat * 2) fun s89 =>
    vIf (!(s86.toList == s89.toList))
    (Q (Value.bool false) w.drew)
    (jnC C18 ((x19.1, x19.2.1, x19.2.2), (x21.1, x21.2.1, x21.2.2), ((IntKind.wrap .i64 (x22 + 1))), ()) w.drew))
  (Q (Value.bool true) w)
def F26.b18 (Q : Value → World → Prop) : ((Option Addr × Nat × Nat) × (Option Addr × Nat × Nat) × Int × Unit) → World → (((Option Addr × Nat × Nat) × (Option Addr × Nat × Nat) × Int × Unit) → World → Prop) → Prop := fun s w C18 => ∀ _ : Nat → Value, F26.b18c Q C18 s.1 s.2.1 s.2.2.1 w
def F26.l18 (Q : Value → World → Prop) : ((Option Addr × Nat × Nat) × (Option Addr × Nat × Nat) × Int × Unit) → World → Prop := fun s w => ∃ n, loopC (F26.b18 Q) n s w
def F26.k17c (Q : Value → World → Prop) (x19 : (Option Addr × Nat × Nat)) (x21 : (Option Addr × Nat × Nat)) (w : World) : Prop :=
  jnC (F26.l18 Q) ((x19.1, x19.2.1, x19.2.2), (x21.1, x21.2.1, x21.2.2), (0), ()) w
def F26.k17 (Q : Value → World → Prop) : ((Option Addr × Nat × Nat) × (Option Addr × Nat × Nat) × Unit) → World → Prop := fun s w => ∀ _ : Nat → Value, F26.k17c Q s.1 s.2.1 w
def F26.k11c (Q : Value → World → Prop) (x0 : Option Addr) (x1 : Option Addr) (w : World) : Prop :=
  Calls Tryz.prog 21 #[Value.pointer x0] w fun e68 w67 =>
  ∃ (A69 : Option Addr) (n70 c71 : Nat), ∃ i72 : Int, e68 = .returned (Value.tuple #[Value.slice A69 n70 c71, Value.int .i64 i72]) ∧ (
    dr x1 fun b73 o74 =>
    ldA 2 w67 b73 (o74 + 2) fun a75 =>
    Calls Tryz.prog 57 #[ofL a75] w67 fun e77 w76 =>
    ∃ (A78 : Option Addr) (n79 c80 : Nat), e77 = .returned (Value.slice A78 n79 c80) ∧ (
      dr x1 fun b81 o82 =>
      ldB w76 b81 (o82 + 6) fun t83 =>
      vIf t83
      (vIf (i72 == 11)
        (Q (Value.bool (((n70 : Nat) : Int) == 0)) w76)
        (Q (Value.bool false) w76))
      (vIf (i72 != 0)
        (Q (Value.bool false) w76)
        (vIf (((n70 : Nat) : Int) != ((n79 : Nat) : Int))
          (Q (Value.bool false) w76)
          (jnC (F26.k17 Q) ((A69, n70, c71), (A78, n79, c80), ()) w76)))))
def F26.k11 (Q : Value → World → Prop) : (Option Addr × Option Addr × Unit) → World → Prop := fun s w => ∀ _ : Nat → Value, F26.k11c Q s.1 s.2.1 w
def F26.k5c (Q : Value → World → Prop) (x0 : Option Addr) (x1 : Option Addr) (x5 : (Nat × Nat)) (w : World) : Prop :=
  ldS w x5.1 (x5.2 + 1) fun s30 =>
  ldI .i64 w x5.1 (x5.2 + 4) fun i31 =>
  ldSl w x5.1 (x5.2 + 3) fun A32 n33 c34 =>
  Calls Tryz.prog 16 #[Value.pointer x0, Value.string s30, Value.int .i64 i31, Value.int .i64 ((n33 : Nat) : Int)] w fun e36 w35 =>
  ∃ (A37 : Option Addr) (n38 c39 : Nat), ∃ i40 : Int, e36 = .returned (Value.tuple #[Value.slice A37 n38 c39, Value.int .i64 i40]) ∧ (
    ldS w35 x5.1 (x5.2 + 1) fun s41 =>
    ldI .i64 w35 x5.1 (x5.2 + 4) fun i42 =>
    ldSl w35 x5.1 (x5.2 + 3) fun A43 n44 c45 =>
    Calls Tryz.prog 62 #[Value.pointer x1, Value.string s41, Value.int .i64 i42, Value.int .i64 ((n44 : Nat) : Int)] w35 fun e47 w46 =>
    ∃ (A48 : Option Addr) (n49 c50 : Nat), ∃ i51 : Int, e47 = .returned (Value.tuple #[Value.slice A48 n49 c50, Value.int .i64 i51]) ∧ (
      ldS w46 x5.1 (x5.2 + 1) fun s52 =>
      Calls Tryz.prog 15 #[Value.pointer x0, Value.string s52] w46 fun e54 w53 =>
      ∃ i55 : Int, ∃ i56 : Int, e54 = .returned (Value.tuple #[Value.int .i64 i55, Value.int .i64 i56]) ∧ (
        ldS w53 x5.1 (x5.2 + 1) fun s57 =>
        Calls Tryz.prog 63 #[Value.pointer x1, Value.string s57] w53 fun e59 w58 =>
        ∃ (A60 : Option Addr) (n61 c62 : Nat), ∃ i63 : Int, e59 = .returned (Value.tuple #[Value.slice A60 n61 c62, Value.int .i64 i63]) ∧ (
          Calls Tryz.prog 17 #[Value.slice A37 n38 c39, Value.slice A48 n49 c50] w58 fun e65 w64 =>
          ∃ t66 : Bool, e65 = .returned (Value.bool t66) ∧ (
            vIf (!t66)
            (Q (Value.bool false) w64)
            (vIf (i40 != i51)
              (Q (Value.bool false) w64)
              (vIf (i55 != ((n61 : Nat) : Int))
                (Q (Value.bool false) w64)
                (vIf (i56 != i63)
                  (Q (Value.bool false) w64)
                  (jnC (F26.k11 Q) (x0, x1, ()) w64)))))))))
def F26.k5 (Q : Value → World → Prop) : (Option Addr × Option Addr × (Nat × Nat) × Unit) → World → Prop := fun s w => ∀ _ : Nat → Value, F26.k5c Q s.1 s.2.1 s.2.2.1 w
def F26.vc (x0 : Option Addr) (x1 : Option Addr) (x2 : List Value) (w : World) (Q : Value → World → Prop) : Prop :=
  nw w x2 31 fun b1 w2 =>
  Calls Tryz.prog 18 #[Value.pointer x0] w2 fun e4 w3 =>
  ∃ i5 : Int, ∃ i6 : Int, e4 = .returned (Value.tuple #[Value.int .i64 i5, Value.int .i64 i6]) ∧ (
    Calls Tryz.prog 60 #[Value.pointer x1] w3 fun e8 w7 =>
    ∃ i9 : Int, ∃ i10 : Int, e8 = .returned (Value.tuple #[Value.int .i64 i9, Value.int .i64 i10]) ∧ (
      vIf (i5 != i9)
      (Q (Value.bool false) w7.drew)
      (vIf (i6 != i10)
        (Q (Value.bool false) w7.drew)
        (dr x1 fun b11 o12 =>
          ldI .i64 w7.drew b11 (o12 + 8) fun i13 =>
          Calls Tryz.prog 22 #[Value.pointer x0] w7.drew fun e15 w14 =>
          ∃ i16 : Int, e15 = .returned (Value.int .i64 i16) ∧ (
            kp w7.drew b11 (o12 + 8) 1 w14 <|
            vIf (i16 != i13)
            (Q (Value.bool false) w14)
            (Calls Tryz.prog 19 #[Value.pointer x0] w14 fun e18 w17 =>
              ∃ (A19 : Option Addr) (n20 c21 : Nat), e18 = .returned (Value.slice A19 n20 c21) ∧ (
                Calls Tryz.prog 61 #[Value.pointer x1] w17 fun e23 w22 =>
                ∃ (A24 : Option Addr) (n25 c26 : Nat), e23 = .returned (Value.slice A24 n25 c26) ∧ (
                  Calls Tryz.prog 20 #[Value.slice A19 n20 c21, Value.slice A24 n25 c26] w22 fun e28 w27 =>
                  ∃ t29 : Bool, e28 = .returned (Value.bool t29) ∧ (
                    vIf (!t29)
                    (Q (Value.bool false) w27)
                    (jnC (F26.k5 Q) (x0, x1, (b1, 0), ()) w27))))))))))
def F26.an : Ann := ⟨[(18, [(19, .kSl), (21, .kSl), (22, .kI .i64)])], [(5, [(0, .kP), (1, .kP), (5, .kL)]), (11, [(0, .kP), (1, .kP)]), (17, [(19, .kSl), (21, .kSl)])]⟩
theorem F26.of (x0 : Option Addr) (x1 : Option Addr) (x2 : List Value) (w : World) {Q : Value → World → Prop} (h : F26.vc x0 x1 x2 w Q) : Calls Tryz.prog 26 #[Value.pointer x0, Value.pointer x1, ofL x2] w (fun e w' => ∃ v, e = .returned v ∧ Q v w') := vcFn_of (A := F26.an) noCount mixed h (by kernel_rfl)
/-! ### function 27: (*stillage/disk.Disk).Cut -/
def F27.vc (x0 : Option Addr) (x1 : ByteArray) (x2 : Int) (w : World) (Q : Value → World → Prop) : Prop :=
  nw w [Value.pointer x0] 24 fun b1 w2 =>
  nw w2 [Value.string x1] 9 fun b3 w4 =>
  nw w4 [Value.int .i64 x2] 3 fun b5 w6 =>
  ldP w6 b1 0 fun p7 =>
  Calls Tryz.prog 35 #[Value.pointer p7, Value.func (.func 64) #[] #[Value.pointer (some ⟨b1, 0, none⟩), Value.pointer (some ⟨b3, 0, none⟩), Value.pointer (some ⟨b5, 0, none⟩)]] w6 fun e9 w8 =>
  ∃ i10 : Int, e9 = .returned (Value.int .i64 i10) ∧ (
    Q (Value.int .i64 i10) w8)
def F27.an : Ann := ⟨[], []⟩
theorem F27.of (x0 : Option Addr) (x1 : ByteArray) (x2 : Int) (w : World) {Q : Value → World → Prop} (h : F27.vc x0 x1 x2 w Q) : Calls Tryz.prog 27 #[Value.pointer x0, Value.string x1, Value.int .i64 x2] w (fun e w' => ∃ v, e = .returned v ∧ Q v w') := vcFn_of (A := F27.an) noCount mixed h (by kernel_rfl)
/-! ### function 28: (*stillage/disk.Disk).Rename -/
def F28.vc (x0 : Option Addr) (x1 : ByteArray) (x2 : ByteArray) (w : World) (Q : Value → World → Prop) : Prop :=
  nw w [Value.pointer x0] 24 fun b1 w2 =>
  nw w2 [Value.string x1] 9 fun b3 w4 =>
  nw w4 [Value.string x2] 9 fun b5 w6 =>
  ldP w6 b1 0 fun p7 =>
  Calls Tryz.prog 35 #[Value.pointer p7, Value.func (.func 67) #[] #[Value.pointer (some ⟨b1, 0, none⟩), Value.pointer (some ⟨b3, 0, none⟩), Value.pointer (some ⟨b5, 0, none⟩)]] w6 fun e9 w8 =>
  ∃ i10 : Int, e9 = .returned (Value.int .i64 i10) ∧ (
    Q (Value.int .i64 i10) w8)
def F28.an : Ann := ⟨[], []⟩
theorem F28.of (x0 : Option Addr) (x1 : ByteArray) (x2 : ByteArray) (w : World) {Q : Value → World → Prop} (h : F28.vc x0 x1 x2 w Q) : Calls Tryz.prog 28 #[Value.pointer x0, Value.string x1, Value.string x2] w (fun e w' => ∃ v, e = .returned v ∧ Q v w') := vcFn_of (A := F28.an) noCount mixed h (by kernel_rfl)
/-! ### function 29: (*stillage/disk.Disk).Remove -/
def F29.vc (x0 : Option Addr) (x1 : ByteArray) (w : World) (Q : Value → World → Prop) : Prop :=
  nw w [Value.pointer x0] 24 fun b1 w2 =>
  nw w2 [Value.string x1] 9 fun b3 w4 =>
  ldP w4 b1 0 fun p5 =>
  Calls Tryz.prog 35 #[Value.pointer p5, Value.func (.func 68) #[] #[Value.pointer (some ⟨b1, 0, none⟩), Value.pointer (some ⟨b3, 0, none⟩)]] w4 fun e7 w6 =>
  ∃ i8 : Int, e7 = .returned (Value.int .i64 i8) ∧ (
    Q (Value.int .i64 i8) w6)
def F29.an : Ann := ⟨[], []⟩
theorem F29.of (x0 : Option Addr) (x1 : ByteArray) (w : World) {Q : Value → World → Prop} (h : F29.vc x0 x1 w Q) : Calls Tryz.prog 29 #[Value.pointer x0, Value.string x1] w (fun e w' => ∃ v, e = .returned v ∧ Q v w') := vcFn_of (A := F29.an) noCount mixed h (by kernel_rfl)
/-! ### function 30: (*stillage/disk.Disk).Fuse -/
def F30.vc (x0 : Option Addr) (x1 : Int) (w : World) (Q : Value → World → Prop) : Prop :=
  vIf (!x0.isNone)
  (dr x0 fun b1 o2 =>
    st w b1 (o2 + 7) [Value.bool (decide (x1 ≥ 0))] fun w3 =>
    dr x0 fun b4 o5 =>
    st w3 b4 (o5 + 8) [Value.int .i64 x1] fun w6 =>
    Q (Value.tuple #[]) w6)
  (Q (Value.tuple #[]) w)
def F30.an : Ann := ⟨[], []⟩
theorem F30.of (x0 : Option Addr) (x1 : Int) (w : World) {Q : Value → World → Prop} (h : F30.vc x0 x1 w Q) : Calls Tryz.prog 30 #[Value.pointer x0, Value.int .i64 x1] w (fun e w' => ∃ v, e = .returned v ∧ Q v w') := vcFn_of (A := F30.an) noCount mixed h (by kernel_rfl)
/-! ### function 31: stillage/folder.Ids -/
def F31.b6c (Q : Value → World → Prop) (C3 : ((Nat × Nat) × (Option Addr × Nat × Nat) × Int × Int × Unit) → World → Prop) (C6 : ((Nat × Nat) × (Option Addr × Nat × Nat) × Int × Int × (Option Addr × Nat × Nat) × Int × Int × Unit) → World → Prop) (x1 : (Nat × Nat)) (x3 : (Option Addr × Nat × Nat)) (x10 : Int) (x11 : Int) (x16 : (Option Addr × Nat × Nat)) (x17 : Int) (x18 : Int) (w : World) : Prop :=
  vIf (decide (x18 < x17))
  (dr x16.1 fun b12 o13 =>
    gd (decide (0 ≤ x18)) <|
    gd (decide (x18 < ((x16.2.1 : Nat) : Int))) <|
    ldA 2 w b12 (o13 + (x18).toNat * 2) fun a14 =>
    nw w [Value.string (⟨#[]⟩ : ByteArray), Value.int .i64 0] 94 fun b15 w16 =>
    gd (a14.length == 2) <|
    st w16 b15 0 a14 fun w17 =>
    ldI .i64 w17 b15 (0 + 1) fun i18 =>
    nw w17 ([Value.int .i64 i18] ++ []) 3 fun b19 w20 =>
    app w20 1 8 [Value.int .i64 0] 3 x3.1 x3.2.1 x3.2.2 (Value.slice (some ⟨b19, 0, none⟩) 1 1) fun A21 n22 c23 w24 =>
    jnC C6 ((x1.1, x1.2), (A21, n22, c23), (x10), (x11), (x16.1, x16.2.1, x16.2.2), (x17), ((IntKind.wrap .i64 (x18 + 1))), ()) w24)
  (jnC C3 ((x1.1, x1.2), (x3.1, x3.2.1, x3.2.2), (x10), ((IntKind.wrap .i64 (x11 + 1))), ()) w)
def F31.b6 (Q : Value → World → Prop) (C3 : ((Nat × Nat) × (Option Addr × Nat × Nat) × Int × Int × Unit) → World → Prop) : ((Nat × Nat) × (Option Addr × Nat × Nat) × Int × Int × (Option Addr × Nat × Nat) × Int × Int × Unit) → World → (((Nat × Nat) × (Option Addr × Nat × Nat) × Int × Int × (Option Addr × Nat × Nat) × Int × Int × Unit) → World → Prop) → Prop := fun s w C6 => ∀ _ : Nat → Value, F31.b6c Q C3 C6 s.1 s.2.1 s.2.2.1 s.2.2.2.1 s.2.2.2.2.1 s.2.2.2.2.2.1 s.2.2.2.2.2.2.1 w
def F31.l6 (Q : Value → World → Prop) (C3 : ((Nat × Nat) × (Option Addr × Nat × Nat) × Int × Int × Unit) → World → Prop) : ((Nat × Nat) × (Option Addr × Nat × Nat) × Int × Int × (Option Addr × Nat × Nat) × Int × Int × Unit) → World → Prop := fun s w => ∃ n, loopC (F31.b6 Q C3) n s w
def F31.b3c (Q : Value → World → Prop) (C3 : ((Nat × Nat) × (Option Addr × Nat × Nat) × Int × Int × Unit) → World → Prop) (x1 : (Nat × Nat)) (x3 : (Option Addr × Nat × Nat)) (x10 : Int) (x11 : Int) (w : World) : Prop :=
  vIf (decide (x11 < x10))
  (ldA 2 w x1.1 x1.2 fun a6 =>
    Calls Tryz.prog 69 #[ofL a6, Value.int .i64 x11] w fun e8 w7 =>
    ∃ (A9 : Option Addr) (n10 c11 : Nat), e8 = .returned (Value.slice A9 n10 c11) ∧ (
      jnC (F31.l6 Q C3) ((x1.1, x1.2), (x3.1, x3.2.1, x3.2.2), (x10), (x11), (A9, n10, c11), (((n10 : Nat) : Int)), (0), ()) w7))
  (Calls Tryz.prog 70 #[Value.slice x3.1 x3.2.1 x3.2.2] w fun e26 w25 =>
    e26 = .returned (Value.tuple #[]) ∧ (
      Calls Tryz.prog 71 #[Value.slice x3.1 x3.2.1 x3.2.2] w25 fun e28 w27 =>
      ∃ (A29 : Option Addr) (n30 c31 : Nat), e28 = .returned (Value.slice A29 n30 c31) ∧ (
        Q (Value.slice A29 n30 c31) w27)))
def F31.b3 (Q : Value → World → Prop) : ((Nat × Nat) × (Option Addr × Nat × Nat) × Int × Int × Unit) → World → (((Nat × Nat) × (Option Addr × Nat × Nat) × Int × Int × Unit) → World → Prop) → Prop := fun s w C3 => ∀ _ : Nat → Value, F31.b3c Q C3 s.1 s.2.1 s.2.2.1 s.2.2.2.1 w
def F31.l3 (Q : Value → World → Prop) : ((Nat × Nat) × (Option Addr × Nat × Nat) × Int × Int × Unit) → World → Prop := fun s w => ∃ n, loopC (F31.b3 Q) n s w
def F31.vc (x0 : List Value) (w : World) (Q : Value → World → Prop) : Prop :=
  nw w x0 64 fun b1 w2 =>
  ldSl w2 b1 (0 + 1) fun A3 n4 c5 =>
  jnC (F31.l3 Q) ((b1, 0), (none, 0, 0), ((IntKind.wrap .i64 (((n4 : Nat) : Int) + 1))), (0), ()) w2
def F31.an : Ann := ⟨[(3, [(1, .kL), (3, .kSl), (10, .kI .i64), (11, .kI .i64)]), (6, [(1, .kL), (3, .kSl), (10, .kI .i64), (11, .kI .i64), (16, .kSl), (17, .kI .i64), (18, .kI .i64)])], []⟩
theorem F31.of (x0 : List Value) (w : World) {Q : Value → World → Prop} (h : F31.vc x0 w Q) : Calls Tryz.prog 31 #[ofL x0] w (fun e w' => ∃ v, e = .returned v ∧ Q v w') := vcFn_of (A := F31.an) noCount mixed h (by kernel_rfl)
/-! ### function 32: stillage/inode.Crash -/
def F32.vc (x0 : List Value) (x1A : Option Addr) (x1n x1c : Nat) (w : World) (Q : Value → World → Prop) : Prop :=
  nw w x0 74 fun b1 w2 =>
  nw w2 [Value.slice none 0 0, Value.slice none 0 0] 74 fun b3 w4 =>
  ldSl w4 b1 (0 + 1) fun A5 n6 c7 =>
  ldSl w4.drew b1 0 fun A8 n9 c10 =>
  ldSl w4.drew b1 (0 + 1) fun A11 n12 c13 =>
  gd (decide (0 ≤ (if ((n6 : Nat) : Int) < ((x1n : Nat) : Int) then ((n6 : Nat) : Int) else ((x1n : Nat) : Int)))) <|
  gd (decide ((if ((n6 : Nat) : Int) < ((x1n : Nat) : Int) then ((n6 : Nat) : Int) else ((x1n : Nat) : Int)) ≤ ((x1c : Nat) : Int))) <|
  gd (decide (0 ≤ (if ((n6 : Nat) : Int) < ((x1n : Nat) : Int) then ((n6 : Nat) : Int) else ((x1n : Nat) : Int)))) <|
  gd (decide ((if ((n6 : Nat) : Int) < ((x1n : Nat) : Int) then ((n6 : Nat) : Int) else ((x1n : Nat) : Int)) ≤ ((x1n : Nat) : Int))) <|
  Calls Tryz.prog 72 #[Value.slice A8 n9 c10, Value.slice A11 n12 c13, Value.slice (slA x1A x1c 0 1) ((if ((n6 : Nat) : Int) < ((x1n : Nat) : Int) then ((n6 : Nat) : Int) else ((x1n : Nat) : Int))).toNat x1c] w4.drew fun e15 w14 =>
  ∃ (A16 : Option Addr) (n17 c18 : Nat), e15 = .returned (Value.slice A16 n17 c18) ∧ (
    Calls Tryz.prog 73 #[Value.slice (slA x1A x1c ((if ((n6 : Nat) : Int) < ((x1n : Nat) : Int) then ((n6 : Nat) : Int) else ((x1n : Nat) : Int))).toNat 1) (x1n - ((if ((n6 : Nat) : Int) < ((x1n : Nat) : Int) then ((n6 : Nat) : Int) else ((x1n : Nat) : Int))).toNat) (x1c - ((if ((n6 : Nat) : Int) < ((x1n : Nat) : Int) then ((n6 : Nat) : Int) else ((x1n : Nat) : Int))).toNat)] w14 fun e20 w19 =>
    ∃ (A21 : Option Addr) (n22 c23 : Nat), e20 = .returned (Value.slice A21 n22 c23) ∧ (
      gd (([Value.slice A16 n17 c18] ++ ([Value.slice none 0 0] ++ [])).length == 2) <|
      st w19 b3 0 ([Value.slice A16 n17 c18] ++ ([Value.slice none 0 0] ++ [])) fun w24 =>
      ldA 2 w24 b3 0 fun a25 =>
      Q (Value.tuple #[ofL a25, Value.slice A21 n22 c23]) w24))
def F32.an : Ann := ⟨[], []⟩
theorem F32.of (x0 : List Value) (x1A : Option Addr) (x1n x1c : Nat) (w : World) {Q : Value → World → Prop} (h : F32.vc x0 x1A x1n x1c w Q) : Calls Tryz.prog 32 #[ofL x0, Value.slice x1A x1n x1c] w (fun e w' => ∃ v, e = .returned v ∧ Q v w') := vcFn_of (A := F32.an) noCount mixed h (by kernel_rfl)
/-! ### function 33: stillage/folder.Crash -/
def F33.vc (x0 : List Value) (x1 : Int) (w : World) (Q : Value → World → Prop) : Prop :=
  nw w x0 64 fun b1 w2 =>
  nw w2 [Value.slice none 0 0, Value.slice none 0 0] 64 fun b3 w4 =>
  ldA 2 w4 b1 0 fun a5 =>
  Calls Tryz.prog 69 #[ofL a5, Value.int .i64 x1] w4 fun e7 w6 =>
  ∃ (A8 : Option Addr) (n9 c10 : Nat), e7 = .returned (Value.slice A8 n9 c10) ∧ (
    gd (([Value.slice A8 n9 c10] ++ ([Value.slice none 0 0] ++ [])).length == 2) <|
    st w6 b3 0 ([Value.slice A8 n9 c10] ++ ([Value.slice none 0 0] ++ [])) fun w11 =>
    ldA 2 w11 b3 0 fun a12 =>
    Q (ofL a12) w11)
def F33.an : Ann := ⟨[], []⟩
theorem F33.of (x0 : List Value) (x1 : Int) (w : World) {Q : Value → World → Prop} (h : F33.vc x0 x1 w Q) : Calls Tryz.prog 33 #[ofL x0, Value.int .i64 x1] w (fun e w' => ∃ v, e = .returned v ∧ Q v w') := vcFn_of (A := F33.an) noCount mixed h (by kernel_rfl)
/-! ### function 34: (*stillage/disk.Disk).keep -/
def F34.k8c (Q : Value → World → Prop) (C3 : (Option Addr × (Option Addr × Nat × Nat) × Int × (Option Addr × Nat × Nat) × Int × Int × Unit) → World → Prop) (x0 : Option Addr) (x4 : (Option Addr × Nat × Nat)) (x5 : Int) (x7 : Int) (x13 : (Option Addr × Nat × Nat)) (x14 : Int) (x15 : Int) (x44 : Bool) (w : World) : Prop :=
  vIf x44
  (dr x0 fun b15 o16 =>
    ldM w b15 (o16 + 4) fun m17 =>
    drM m17 fun r19 =>
    mdl w r19 .i64 x7 fun w18 =>
    jnC C3 (x0, (x4.1, x4.2.1, x4.2.2), (x5), (x13.1, x13.2.1, x13.2.2), (x14), ((IntKind.wrap .i64 (x15 + 1))), ()) w18)
  (jnC C3 (x0, (x4.1, x4.2.1, x4.2.2), (x5), (x13.1, x13.2.1, x13.2.2), (x14), ((IntKind.wrap .i64 (x15 + 1))), ()) w)
def F34.k8 (Q : Value → World → Prop) (C3 : (Option Addr × (Option Addr × Nat × Nat) × Int × (Option Addr × Nat × Nat) × Int × Int × Unit) → World → Prop) : (Option Addr × (Option Addr × Nat × Nat) × Int × Int × (Option Addr × Nat × Nat) × Int × Int × Bool × Unit) → World → Prop := fun s w => ∀ _ : Nat → Value, F34.k8c Q C3 s.1 s.2.1 s.2.2.1 s.2.2.2.1 s.2.2.2.2.1 s.2.2.2.2.2.1 s.2.2.2.2.2.2.1 s.2.2.2.2.2.2.2.1 w
def F34.k7c (Q : Value → World → Prop) (C3 : (Option Addr × (Option Addr × Nat × Nat) × Int × (Option Addr × Nat × Nat) × Int × Int × Unit) → World → Prop) (x0 : Option Addr) (x4 : (Option Addr × Nat × Nat)) (x5 : Int) (x7 : Int) (x13 : (Option Addr × Nat × Nat)) (x14 : Int) (x15 : Int) (w : World) : Prop :=
  vIf (x5 == ((x4.2.1 : Nat) : Int))
  (jnC (F34.k8 Q C3) (x0, (x4.1, x4.2.1, x4.2.2), (x5), (x7), (x13.1, x13.2.1, x13.2.2), (x14), (x15), true, ()) w)
  (dr x4.1 fun b20 o21 =>
    gd (decide (0 ≤ x5)) <|
    gd (decide (x5 < ((x4.2.1 : Nat) : Int))) <|
    ldI .i64 w b20 (o21 + (x5).toNat * 1) fun i22 =>
    jnC (F34.k8 Q C3) (x0, (x4.1, x4.2.1, x4.2.2), (x5), (x7), (x13.1, x13.2.1, x13.2.2), (x14), (x15), (i22 != x7), ()) w)
def F34.k7 (Q : Value → World → Prop) (C3 : (Option Addr × (Option Addr × Nat × Nat) × Int × (Option Addr × Nat × Nat) × Int × Int × Unit) → World → Prop) : (Option Addr × (Option Addr × Nat × Nat) × Int × Int × (Option Addr × Nat × Nat) × Int × Int × Unit) → World → Prop := fun s w => ∀ _ : Nat → Value, F34.k7c Q C3 s.1 s.2.1 s.2.2.1 s.2.2.2.1 s.2.2.2.2.1 s.2.2.2.2.2.1 s.2.2.2.2.2.2.1 w
def F34.b5c (Q : Value → World → Prop) (C3 : (Option Addr × (Option Addr × Nat × Nat) × Int × (Option Addr × Nat × Nat) × Int × Int × Unit) → World → Prop) (C5 : (Option Addr × (Option Addr × Nat × Nat) × Int × Int × (Option Addr × Nat × Nat) × Int × Int × Unit) → World → Prop) (x0 : Option Addr) (x4 : (Option Addr × Nat × Nat)) (x5 : Int) (x7 : Int) (x13 : (Option Addr × Nat × Nat)) (x14 : Int) (x15 : Int) (w : World) : Prop :=
  vIf (decide (x5 < ((x4.2.1 : Nat) : Int)))
  (dr x4.1 fun b12 o13 =>
    gd (decide (0 ≤ x5)) <|
    gd (decide (x5 < ((x4.2.1 : Nat) : Int))) <|
    ldI .i64 w b12 (o13 + (x5).toNat * 1) fun i14 =>
    vIf (decide (i14 < x7))
    (jnC C5 (x0, (x4.1, x4.2.1, x4.2.2), ((IntKind.wrap .i64 (x5 + 1))), (x7), (x13.1, x13.2.1, x13.2.2), (x14), (x15), ()) w)
    (jnC (F34.k7 Q C3) (x0, (x4.1, x4.2.1, x4.2.2), (x5), (x7), (x13.1, x13.2.1, x13.2.2), (x14), (x15), ()) w))
  (jnC (F34.k7 Q C3) (x0, (x4.1, x4.2.1, x4.2.2), (x5), (x7), (x13.1, x13.2.1, x13.2.2), (x14), (x15), ()) w)
def F34.b5 (Q : Value → World → Prop) (C3 : (Option Addr × (Option Addr × Nat × Nat) × Int × (Option Addr × Nat × Nat) × Int × Int × Unit) → World → Prop) : (Option Addr × (Option Addr × Nat × Nat) × Int × Int × (Option Addr × Nat × Nat) × Int × Int × Unit) → World → ((Option Addr × (Option Addr × Nat × Nat) × Int × Int × (Option Addr × Nat × Nat) × Int × Int × Unit) → World → Prop) → Prop := fun s w C5 => ∀ _ : Nat → Value, F34.b5c Q C3 C5 s.1 s.2.1 s.2.2.1 s.2.2.2.1 s.2.2.2.2.1 s.2.2.2.2.2.1 s.2.2.2.2.2.2.1 w
def F34.l5 (Q : Value → World → Prop) (C3 : (Option Addr × (Option Addr × Nat × Nat) × Int × (Option Addr × Nat × Nat) × Int × Int × Unit) → World → Prop) : (Option Addr × (Option Addr × Nat × Nat) × Int × Int × (Option Addr × Nat × Nat) × Int × Int × Unit) → World → Prop := fun s w => ∃ n, loopC (F34.b5 Q C3) n s w
def F34.b3c (Q : Value → World → Prop) (C3 : (Option Addr × (Option Addr × Nat × Nat) × Int × (Option Addr × Nat × Nat) × Int × Int × Unit) → World → Prop) (x0 : Option Addr) (x4 : (Option Addr × Nat × Nat)) (x5 : Int) (x13 : (Option Addr × Nat × Nat)) (x14 : Int) (x15 : Int) (w : World) : Prop :=
  vIf (decide (x15 < x14))
  (dr x13.1 fun b9 o10 =>
    gd (decide (0 ≤ x15)) <|
    gd (decide (x15 < ((x13.2.1 : Nat) : Int))) <|
    ldI .i64 w b9 (o10 + (x15).toNat * 1) fun i11 =>
    jnC (F34.l5 Q C3) (x0, (x4.1, x4.2.1, x4.2.2), (x5), (i11), (x13.1, x13.2.1, x13.2.2), (x14), (x15), ()) w)
  (Q (Value.tuple #[]) w)
def F34.b3 (Q : Value → World → Prop) : (Option Addr × (Option Addr × Nat × Nat) × Int × (Option Addr × Nat × Nat) × Int × Int × Unit) → World → ((Option Addr × (Option Addr × Nat × Nat) × Int × (Option Addr × Nat × Nat) × Int × Int × Unit) → World → Prop) → Prop := fun s w C3 => ∀ _ : Nat → Value, F34.b3c Q C3 s.1 s.2.1 s.2.2.1 s.2.2.2.1 s.2.2.2.2.1 s.2.2.2.2.2.1 w
def F34.l3 (Q : Value → World → Prop) : (Option Addr × (Option Addr × Nat × Nat) × Int × (Option Addr × Nat × Nat) × Int × Int × Unit) → World → Prop := fun s w => ∃ n, loopC (F34.b3 Q) n s w
def F34.vc (x0 : Option Addr) (x1A : Option Addr) (x1n x1c : Nat) (w : World) (Q : Value → World → Prop) : Prop :=
  dr x0 fun b1 o2 =>
  ldA 2 w b1 (o2 + 2) fun a3 =>
  Calls Tryz.prog 31 #[ofL a3] w fun e5 w4 =>
  ∃ (A6 : Option Addr) (n7 c8 : Nat), e5 = .returned (Value.slice A6 n7 c8) ∧ (
    jnC (F34.l3 Q) (x0, (A6, n7, c8), (0), (x1A, x1n, x1c), (((x1n : Nat) : Int)), (0), ()) w4)
def F34.an : Ann := ⟨[(3, [(0, .kP), (4, .kSl), (5, .kI .i64), (13, .kSl), (14, .kI .i64), (15, .kI .i64)]), (5, [(0, .kP), (4, .kSl), (5, .kI .i64), (7, .kI .i64), (13, .kSl), (14, .kI .i64), (15, .kI .i64)])], [(7, [(0, .kP), (4, .kSl), (5, .kI .i64), (7, .kI .i64), (13, .kSl), (14, .kI .i64), (15, .kI .i64)]), (8, [(0, .kP), (4, .kSl), (5, .kI .i64), (7, .kI .i64), (13, .kSl), (14, .kI .i64), (15, .kI .i64), (44, .kB)])]⟩
theorem F34.of (x0 : Option Addr) (x1A : Option Addr) (x1n x1c : Nat) (w : World) {Q : Value → World → Prop} (h : F34.vc x0 x1A x1n x1c w Q) : Calls Tryz.prog 34 #[Value.pointer x0, Value.slice x1A x1n x1c] w (fun e w' => ∃ v, e = .returned v ∧ Q v w') := vcFn_of (A := F34.an) noCount mixed h (by kernel_rfl)
/-! ### function 35: (*stillage/disk.Disk).power -/
def F35a.k6c (Q : Value → World → Prop) (x0 : Option Addr) (x1 : ((Nat × Nat) × (Nat × Nat) ×  Unit)) (w : World) : Prop :=
  dr x0 fun b7 o8 =>
  ldI .i64 w b7 (o8 + 8) fun i9 =>
  dr x0 fun b10 o11 =>
  st w b10 (o11 + 8) [Value.int .i64 (IntKind.wrap .i64 (i9 - 1))] fun w12 =>
  dr x0 fun b13 o14 =>
  ldI .i64 w12 b13 (o14 + 9) fun i15 =>
  dr x0 fun b16 o17 =>
  st w12 b16 (o17 + 9) [Value.int .i64 (IntKind.wrap .i64 (i15 + 1))] fun w18 =>
  Calls Tryz.prog 36 #[Value.pointer (some ⟨x1.1.1, x1.1.2, none⟩), Value.pointer (some ⟨x1.2.1.1, x1.2.1.2, none⟩)] w18 fun e20 w19 =>
  ∃ i21 : Int, e20 = .returned (Value.int .i64 i21) ∧ (
    Q (Value.int .i64 i21) w19)
def F35a.k6 (Q : Value → World → Prop) : (Option Addr × ((Nat × Nat) × (Nat × Nat) ×  Unit) × Unit) → World → Prop := fun s w => ∀ _ : Nat → Value, F35a.k6c Q s.1 s.2.1 w
def F35a.k4c (Q : Value → World → Prop) (x0 : Option Addr) (x1 : ((Nat × Nat) × (Nat × Nat) ×  Unit)) (x8 : Bool) (w : World) : Prop :=
  vIf x8
  (dr x0 fun b4 o5 =>
    st w b4 (o5 + 6) [Value.bool true] fun w6 =>
    Q (Value.int .i64 11) w6)
  (jnC (F35a.k6 Q) (x0, ((x1.1.1, x1.1.2), (x1.2.1.1, x1.2.1.2), ()), ()) w)
def F35a.k4 (Q : Value → World → Prop) : (Option Addr × ((Nat × Nat) × (Nat × Nat) ×  Unit) × Bool × Unit) → World → Prop := fun s w => ∀ _ : Nat → Value, F35a.k4c Q s.1 s.2.1 s.2.2.1 w
def F35a.vc (x0 : Option Addr) (x1 : (Nat × Nat) × (Nat × Nat) × Unit) (w : World) (Q : Value → World → Prop) : Prop :=
  vIf x0.isNone
  (Q (Value.int .i64 1) w)
  (dr x0 fun b1 o2 =>
    ldB w b1 (o2 + 6) fun t3 =>
    vIf t3
    (jnC (F35a.k4 Q) (x0, ((x1.1.1, x1.1.2), (x1.2.1.1, x1.2.1.2), ()), true, ()) w)
    (dr x0 fun b22 o23 =>
      ldB w b22 (o23 + 7) fun t24 =>
      vIf t24
      (dr x0 fun b25 o26 =>
        ldI .i64 w b25 (o26 + 8) fun i27 =>
        jnC (F35a.k4 Q) (x0, ((x1.1.1, x1.1.2), (x1.2.1.1, x1.2.1.2), ()), (decide (i27 ≤ 0)), ()) w)
      (jnC (F35a.k4 Q) (x0, ((x1.1.1, x1.1.2), (x1.2.1.1, x1.2.1.2), ()), false, ()) w)))
def F35a.an : Ann := ⟨[], [(4, [(0, .kP), (1, .kH 36 2), (8, .kB)]), (6, [(0, .kP), (1, .kH 36 2)])]⟩
theorem F35a.of (x0 : Option Addr) (x1 : (Nat × Nat) × (Nat × Nat) × Unit) (w : World) {Q : Value → World → Prop} (h : F35a.vc x0 x1 w Q) : Calls Tryz.prog 35 #[Value.pointer x0, Value.func (.func 36) #[] #[Value.pointer (some ⟨x1.1.1, x1.1.2, none⟩), Value.pointer (some ⟨x1.2.1.1, x1.2.1.2, none⟩)]] w (fun e w' => ∃ v, e = .returned v ∧ Q v w') := vcFn_of (A := F35a.an) noCount mixed h (by kernel_rfl)
/-! ### function 35: (*stillage/disk.Disk).power -/
def F35b.k6c (Q : Value → World → Prop) (x0 : Option Addr) (x1 : ((Nat × Nat) × (Nat × Nat) × (Nat × Nat) ×  Unit)) (w : World) : Prop :=
  dr x0 fun b7 o8 =>
  ldI .i64 w b7 (o8 + 8) fun i9 =>
  dr x0 fun b10 o11 =>
  st w b10 (o11 + 8) [Value.int .i64 (IntKind.wrap .i64 (i9 - 1))] fun w12 =>
  dr x0 fun b13 o14 =>
  ldI .i64 w12 b13 (o14 + 9) fun i15 =>
  dr x0 fun b16 o17 =>
  st w12 b16 (o17 + 9) [Value.int .i64 (IntKind.wrap .i64 (i15 + 1))] fun w18 =>
  Calls Tryz.prog 38 #[Value.pointer (some ⟨x1.1.1, x1.1.2, none⟩), Value.pointer (some ⟨x1.2.1.1, x1.2.1.2, none⟩), Value.pointer (some ⟨x1.2.2.1.1, x1.2.2.1.2, none⟩)] w18 fun e20 w19 =>
  ∃ i21 : Int, e20 = .returned (Value.int .i64 i21) ∧ (
    Q (Value.int .i64 i21) w19)
def F35b.k6 (Q : Value → World → Prop) : (Option Addr × ((Nat × Nat) × (Nat × Nat) × (Nat × Nat) ×  Unit) × Unit) → World → Prop := fun s w => ∀ _ : Nat → Value, F35b.k6c Q s.1 s.2.1 w
def F35b.k4c (Q : Value → World → Prop) (x0 : Option Addr) (x1 : ((Nat × Nat) × (Nat × Nat) × (Nat × Nat) ×  Unit)) (x8 : Bool) (w : World) : Prop :=
  vIf x8
  (dr x0 fun b4 o5 =>
    st w b4 (o5 + 6) [Value.bool true] fun w6 =>
    Q (Value.int .i64 11) w6)
  (jnC (F35b.k6 Q) (x0, ((x1.1.1, x1.1.2), (x1.2.1.1, x1.2.1.2), (x1.2.2.1.1, x1.2.2.1.2), ()), ()) w)
def F35b.k4 (Q : Value → World → Prop) : (Option Addr × ((Nat × Nat) × (Nat × Nat) × (Nat × Nat) ×  Unit) × Bool × Unit) → World → Prop := fun s w => ∀ _ : Nat → Value, F35b.k4c Q s.1 s.2.1 s.2.2.1 w
def F35b.vc (x0 : Option Addr) (x1 : (Nat × Nat) × (Nat × Nat) × (Nat × Nat) × Unit) (w : World) (Q : Value → World → Prop) : Prop :=
  vIf x0.isNone
  (Q (Value.int .i64 1) w)
  (dr x0 fun b1 o2 =>
    ldB w b1 (o2 + 6) fun t3 =>
    vIf t3
    (jnC (F35b.k4 Q) (x0, ((x1.1.1, x1.1.2), (x1.2.1.1, x1.2.1.2), (x1.2.2.1.1, x1.2.2.1.2), ()), true, ()) w)
    (dr x0 fun b22 o23 =>
      ldB w b22 (o23 + 7) fun t24 =>
      vIf t24
      (dr x0 fun b25 o26 =>
        ldI .i64 w b25 (o26 + 8) fun i27 =>
        jnC (F35b.k4 Q) (x0, ((x1.1.1, x1.1.2), (x1.2.1.1, x1.2.1.2), (x1.2.2.1.1, x1.2.2.1.2), ()), (decide (i27 ≤ 0)), ()) w)
      (jnC (F35b.k4 Q) (x0, ((x1.1.1, x1.1.2), (x1.2.1.1, x1.2.1.2), (x1.2.2.1.1, x1.2.2.1.2), ()), false, ()) w)))
def F35b.an : Ann := ⟨[], [(4, [(0, .kP), (1, .kH 38 3), (8, .kB)]), (6, [(0, .kP), (1, .kH 38 3)])]⟩
theorem F35b.of (x0 : Option Addr) (x1 : (Nat × Nat) × (Nat × Nat) × (Nat × Nat) × Unit) (w : World) {Q : Value → World → Prop} (h : F35b.vc x0 x1 w Q) : Calls Tryz.prog 35 #[Value.pointer x0, Value.func (.func 38) #[] #[Value.pointer (some ⟨x1.1.1, x1.1.2, none⟩), Value.pointer (some ⟨x1.2.1.1, x1.2.1.2, none⟩), Value.pointer (some ⟨x1.2.2.1.1, x1.2.2.1.2, none⟩)]] w (fun e w' => ∃ v, e = .returned v ∧ Q v w') := vcFn_of (A := F35b.an) noCount mixed h (by kernel_rfl)
/-! ### function 35: (*stillage/disk.Disk).power -/
def F35c.k6c (Q : Value → World → Prop) (x0 : Option Addr) (x1 : ((Nat × Nat) × (Nat × Nat) × (Nat × Nat) ×  Unit)) (w : World) : Prop :=
  dr x0 fun b7 o8 =>
  ldI .i64 w b7 (o8 + 8) fun i9 =>
  dr x0 fun b10 o11 =>
  st w b10 (o11 + 8) [Value.int .i64 (IntKind.wrap .i64 (i9 - 1))] fun w12 =>
  dr x0 fun b13 o14 =>
  ldI .i64 w12 b13 (o14 + 9) fun i15 =>
  dr x0 fun b16 o17 =>
  st w12 b16 (o17 + 9) [Value.int .i64 (IntKind.wrap .i64 (i15 + 1))] fun w18 =>
  Calls Tryz.prog 64 #[Value.pointer (some ⟨x1.1.1, x1.1.2, none⟩), Value.pointer (some ⟨x1.2.1.1, x1.2.1.2, none⟩), Value.pointer (some ⟨x1.2.2.1.1, x1.2.2.1.2, none⟩)] w18 fun e20 w19 =>
  ∃ i21 : Int, e20 = .returned (Value.int .i64 i21) ∧ (
    Q (Value.int .i64 i21) w19)
def F35c.k6 (Q : Value → World → Prop) : (Option Addr × ((Nat × Nat) × (Nat × Nat) × (Nat × Nat) ×  Unit) × Unit) → World → Prop := fun s w => ∀ _ : Nat → Value, F35c.k6c Q s.1 s.2.1 w
def F35c.k4c (Q : Value → World → Prop) (x0 : Option Addr) (x1 : ((Nat × Nat) × (Nat × Nat) × (Nat × Nat) ×  Unit)) (x8 : Bool) (w : World) : Prop :=
  vIf x8
  (dr x0 fun b4 o5 =>
    st w b4 (o5 + 6) [Value.bool true] fun w6 =>
    Q (Value.int .i64 11) w6)
  (jnC (F35c.k6 Q) (x0, ((x1.1.1, x1.1.2), (x1.2.1.1, x1.2.1.2), (x1.2.2.1.1, x1.2.2.1.2), ()), ()) w)
def F35c.k4 (Q : Value → World → Prop) : (Option Addr × ((Nat × Nat) × (Nat × Nat) × (Nat × Nat) ×  Unit) × Bool × Unit) → World → Prop := fun s w => ∀ _ : Nat → Value, F35c.k4c Q s.1 s.2.1 s.2.2.1 w
def F35c.vc (x0 : Option Addr) (x1 : (Nat × Nat) × (Nat × Nat) × (Nat × Nat) × Unit) (w : World) (Q : Value → World → Prop) : Prop :=
  vIf x0.isNone
  (Q (Value.int .i64 1) w)
  (dr x0 fun b1 o2 =>
    ldB w b1 (o2 + 6) fun t3 =>
    vIf t3
    (jnC (F35c.k4 Q) (x0, ((x1.1.1, x1.1.2), (x1.2.1.1, x1.2.1.2), (x1.2.2.1.1, x1.2.2.1.2), ()), true, ()) w)
    (dr x0 fun b22 o23 =>
      ldB w b22 (o23 + 7) fun t24 =>
      vIf t24
      (dr x0 fun b25 o26 =>
        ldI .i64 w b25 (o26 + 8) fun i27 =>
        jnC (F35c.k4 Q) (x0, ((x1.1.1, x1.1.2), (x1.2.1.1, x1.2.1.2), (x1.2.2.1.1, x1.2.2.1.2), ()), (decide (i27 ≤ 0)), ()) w)
      (jnC (F35c.k4 Q) (x0, ((x1.1.1, x1.1.2), (x1.2.1.1, x1.2.1.2), (x1.2.2.1.1, x1.2.2.1.2), ()), false, ()) w)))
def F35c.an : Ann := ⟨[], [(4, [(0, .kP), (1, .kH 64 3), (8, .kB)]), (6, [(0, .kP), (1, .kH 64 3)])]⟩
theorem F35c.of (x0 : Option Addr) (x1 : (Nat × Nat) × (Nat × Nat) × (Nat × Nat) × Unit) (w : World) {Q : Value → World → Prop} (h : F35c.vc x0 x1 w Q) : Calls Tryz.prog 35 #[Value.pointer x0, Value.func (.func 64) #[] #[Value.pointer (some ⟨x1.1.1, x1.1.2, none⟩), Value.pointer (some ⟨x1.2.1.1, x1.2.1.2, none⟩), Value.pointer (some ⟨x1.2.2.1.1, x1.2.2.1.2, none⟩)]] w (fun e w' => ∃ v, e = .returned v ∧ Q v w') := vcFn_of (A := F35c.an) noCount mixed h (by kernel_rfl)
/-! ### function 35: (*stillage/disk.Disk).power -/
def F35d.k6c (Q : Value → World → Prop) (x0 : Option Addr) (x1 : ((Nat × Nat) × (Nat × Nat) ×  Unit)) (w : World) : Prop :=
  dr x0 fun b7 o8 =>
  ldI .i64 w b7 (o8 + 8) fun i9 =>
  dr x0 fun b10 o11 =>
  st w b10 (o11 + 8) [Value.int .i64 (IntKind.wrap .i64 (i9 - 1))] fun w12 =>
  dr x0 fun b13 o14 =>
  ldI .i64 w12 b13 (o14 + 9) fun i15 =>
  dr x0 fun b16 o17 =>
  st w12 b16 (o17 + 9) [Value.int .i64 (IntKind.wrap .i64 (i15 + 1))] fun w18 =>
  Calls Tryz.prog 42 #[Value.pointer (some ⟨x1.1.1, x1.1.2, none⟩), Value.pointer (some ⟨x1.2.1.1, x1.2.1.2, none⟩)] w18 fun e20 w19 =>
  ∃ i21 : Int, e20 = .returned (Value.int .i64 i21) ∧ (
    Q (Value.int .i64 i21) w19)
def F35d.k6 (Q : Value → World → Prop) : (Option Addr × ((Nat × Nat) × (Nat × Nat) ×  Unit) × Unit) → World → Prop := fun s w => ∀ _ : Nat → Value, F35d.k6c Q s.1 s.2.1 w
def F35d.k4c (Q : Value → World → Prop) (x0 : Option Addr) (x1 : ((Nat × Nat) × (Nat × Nat) ×  Unit)) (x8 : Bool) (w : World) : Prop :=
  vIf x8
  (dr x0 fun b4 o5 =>
    st w b4 (o5 + 6) [Value.bool true] fun w6 =>
    Q (Value.int .i64 11) w6)
  (jnC (F35d.k6 Q) (x0, ((x1.1.1, x1.1.2), (x1.2.1.1, x1.2.1.2), ()), ()) w)
def F35d.k4 (Q : Value → World → Prop) : (Option Addr × ((Nat × Nat) × (Nat × Nat) ×  Unit) × Bool × Unit) → World → Prop := fun s w => ∀ _ : Nat → Value, F35d.k4c Q s.1 s.2.1 s.2.2.1 w
def F35d.vc (x0 : Option Addr) (x1 : (Nat × Nat) × (Nat × Nat) × Unit) (w : World) (Q : Value → World → Prop) : Prop :=
  vIf x0.isNone
  (Q (Value.int .i64 1) w)
  (dr x0 fun b1 o2 =>
    ldB w b1 (o2 + 6) fun t3 =>
    vIf t3
    (jnC (F35d.k4 Q) (x0, ((x1.1.1, x1.1.2), (x1.2.1.1, x1.2.1.2), ()), true, ()) w)
    (dr x0 fun b22 o23 =>
      ldB w b22 (o23 + 7) fun t24 =>
      vIf t24
      (dr x0 fun b25 o26 =>
        ldI .i64 w b25 (o26 + 8) fun i27 =>
        jnC (F35d.k4 Q) (x0, ((x1.1.1, x1.1.2), (x1.2.1.1, x1.2.1.2), ()), (decide (i27 ≤ 0)), ()) w)
      (jnC (F35d.k4 Q) (x0, ((x1.1.1, x1.1.2), (x1.2.1.1, x1.2.1.2), ()), false, ()) w)))
def F35d.an : Ann := ⟨[], [(4, [(0, .kP), (1, .kH 42 2), (8, .kB)]), (6, [(0, .kP), (1, .kH 42 2)])]⟩
theorem F35d.of (x0 : Option Addr) (x1 : (Nat × Nat) × (Nat × Nat) × Unit) (w : World) {Q : Value → World → Prop} (h : F35d.vc x0 x1 w Q) : Calls Tryz.prog 35 #[Value.pointer x0, Value.func (.func 42) #[] #[Value.pointer (some ⟨x1.1.1, x1.1.2, none⟩), Value.pointer (some ⟨x1.2.1.1, x1.2.1.2, none⟩)]] w (fun e w' => ∃ v, e = .returned v ∧ Q v w') := vcFn_of (A := F35d.an) noCount mixed h (by kernel_rfl)
/-! ### function 35: (*stillage/disk.Disk).power -/
def F35e.k6c (Q : Value → World → Prop) (x0 : Option Addr) (x1 : ((Nat × Nat) × (Nat × Nat) × (Nat × Nat) ×  Unit)) (w : World) : Prop :=
  dr x0 fun b7 o8 =>
  ldI .i64 w b7 (o8 + 8) fun i9 =>
  dr x0 fun b10 o11 =>
  st w b10 (o11 + 8) [Value.int .i64 (IntKind.wrap .i64 (i9 - 1))] fun w12 =>
  dr x0 fun b13 o14 =>
  ldI .i64 w12 b13 (o14 + 9) fun i15 =>
  dr x0 fun b16 o17 =>
  st w12 b16 (o17 + 9) [Value.int .i64 (IntKind.wrap .i64 (i15 + 1))] fun w18 =>
  Calls Tryz.prog 67 #[Value.pointer (some ⟨x1.1.1, x1.1.2, none⟩), Value.pointer (some ⟨x1.2.1.1, x1.2.1.2, none⟩), Value.pointer (some ⟨x1.2.2.1.1, x1.2.2.1.2, none⟩)] w18 fun e20 w19 =>
  ∃ i21 : Int, e20 = .returned (Value.int .i64 i21) ∧ (
    Q (Value.int .i64 i21) w19)
def F35e.k6 (Q : Value → World → Prop) : (Option Addr × ((Nat × Nat) × (Nat × Nat) × (Nat × Nat) ×  Unit) × Unit) → World → Prop := fun s w => ∀ _ : Nat → Value, F35e.k6c Q s.1 s.2.1 w
def F35e.k4c (Q : Value → World → Prop) (x0 : Option Addr) (x1 : ((Nat × Nat) × (Nat × Nat) × (Nat × Nat) ×  Unit)) (x8 : Bool) (w : World) : Prop :=
  vIf x8
  (dr x0 fun b4 o5 =>
    st w b4 (o5 + 6) [Value.bool true] fun w6 =>
    Q (Value.int .i64 11) w6)
  (jnC (F35e.k6 Q) (x0, ((x1.1.1, x1.1.2), (x1.2.1.1, x1.2.1.2), (x1.2.2.1.1, x1.2.2.1.2), ()), ()) w)
def F35e.k4 (Q : Value → World → Prop) : (Option Addr × ((Nat × Nat) × (Nat × Nat) × (Nat × Nat) ×  Unit) × Bool × Unit) → World → Prop := fun s w => ∀ _ : Nat → Value, F35e.k4c Q s.1 s.2.1 s.2.2.1 w
def F35e.vc (x0 : Option Addr) (x1 : (Nat × Nat) × (Nat × Nat) × (Nat × Nat) × Unit) (w : World) (Q : Value → World → Prop) : Prop :=
  vIf x0.isNone
  (Q (Value.int .i64 1) w)
  (dr x0 fun b1 o2 =>
    ldB w b1 (o2 + 6) fun t3 =>
    vIf t3
    (jnC (F35e.k4 Q) (x0, ((x1.1.1, x1.1.2), (x1.2.1.1, x1.2.1.2), (x1.2.2.1.1, x1.2.2.1.2), ()), true, ()) w)
    (dr x0 fun b22 o23 =>
      ldB w b22 (o23 + 7) fun t24 =>
      vIf t24
      (dr x0 fun b25 o26 =>
        ldI .i64 w b25 (o26 + 8) fun i27 =>
        jnC (F35e.k4 Q) (x0, ((x1.1.1, x1.1.2), (x1.2.1.1, x1.2.1.2), (x1.2.2.1.1, x1.2.2.1.2), ()), (decide (i27 ≤ 0)), ()) w)
      (jnC (F35e.k4 Q) (x0, ((x1.1.1, x1.1.2), (x1.2.1.1, x1.2.1.2), (x1.2.2.1.1, x1.2.2.1.2), ()), false, ()) w)))
def F35e.an : Ann := ⟨[], [(4, [(0, .kP), (1, .kH 67 3), (8, .kB)]), (6, [(0, .kP), (1, .kH 67 3)])]⟩
theorem F35e.of (x0 : Option Addr) (x1 : (Nat × Nat) × (Nat × Nat) × (Nat × Nat) × Unit) (w : World) {Q : Value → World → Prop} (h : F35e.vc x0 x1 w Q) : Calls Tryz.prog 35 #[Value.pointer x0, Value.func (.func 67) #[] #[Value.pointer (some ⟨x1.1.1, x1.1.2, none⟩), Value.pointer (some ⟨x1.2.1.1, x1.2.1.2, none⟩), Value.pointer (some ⟨x1.2.2.1.1, x1.2.2.1.2, none⟩)]] w (fun e w' => ∃ v, e = .returned v ∧ Q v w') := vcFn_of (A := F35e.an) noCount mixed h (by kernel_rfl)
/-! ### function 35: (*stillage/disk.Disk).power -/
def F35f.k6c (Q : Value → World → Prop) (x0 : Option Addr) (x1 : ((Nat × Nat) × (Nat × Nat) ×  Unit)) (w : World) : Prop :=
  dr x0 fun b7 o8 =>
  ldI .i64 w b7 (o8 + 8) fun i9 =>
  dr x0 fun b10 o11 =>
  st w b10 (o11 + 8) [Value.int .i64 (IntKind.wrap .i64 (i9 - 1))] fun w12 =>
  dr x0 fun b13 o14 =>
  ldI .i64 w12 b13 (o14 + 9) fun i15 =>
  dr x0 fun b16 o17 =>
  st w12 b16 (o17 + 9) [Value.int .i64 (IntKind.wrap .i64 (i15 + 1))] fun w18 =>
  Calls Tryz.prog 68 #[Value.pointer (some ⟨x1.1.1, x1.1.2, none⟩), Value.pointer (some ⟨x1.2.1.1, x1.2.1.2, none⟩)] w18 fun e20 w19 =>
  ∃ i21 : Int, e20 = .returned (Value.int .i64 i21) ∧ (
    Q (Value.int .i64 i21) w19)
def F35f.k6 (Q : Value → World → Prop) : (Option Addr × ((Nat × Nat) × (Nat × Nat) ×  Unit) × Unit) → World → Prop := fun s w => ∀ _ : Nat → Value, F35f.k6c Q s.1 s.2.1 w
def F35f.k4c (Q : Value → World → Prop) (x0 : Option Addr) (x1 : ((Nat × Nat) × (Nat × Nat) ×  Unit)) (x8 : Bool) (w : World) : Prop :=
  vIf x8
  (dr x0 fun b4 o5 =>
    st w b4 (o5 + 6) [Value.bool true] fun w6 =>
    Q (Value.int .i64 11) w6)
  (jnC (F35f.k6 Q) (x0, ((x1.1.1, x1.1.2), (x1.2.1.1, x1.2.1.2), ()), ()) w)
def F35f.k4 (Q : Value → World → Prop) : (Option Addr × ((Nat × Nat) × (Nat × Nat) ×  Unit) × Bool × Unit) → World → Prop := fun s w => ∀ _ : Nat → Value, F35f.k4c Q s.1 s.2.1 s.2.2.1 w
def F35f.vc (x0 : Option Addr) (x1 : (Nat × Nat) × (Nat × Nat) × Unit) (w : World) (Q : Value → World → Prop) : Prop :=
  vIf x0.isNone
  (Q (Value.int .i64 1) w)
  (dr x0 fun b1 o2 =>
    ldB w b1 (o2 + 6) fun t3 =>
    vIf t3
    (jnC (F35f.k4 Q) (x0, ((x1.1.1, x1.1.2), (x1.2.1.1, x1.2.1.2), ()), true, ()) w)
    (dr x0 fun b22 o23 =>
      ldB w b22 (o23 + 7) fun t24 =>
      vIf t24
      (dr x0 fun b25 o26 =>
        ldI .i64 w b25 (o26 + 8) fun i27 =>
        jnC (F35f.k4 Q) (x0, ((x1.1.1, x1.1.2), (x1.2.1.1, x1.2.1.2), ()), (decide (i27 ≤ 0)), ()) w)
      (jnC (F35f.k4 Q) (x0, ((x1.1.1, x1.1.2), (x1.2.1.1, x1.2.1.2), ()), false, ()) w)))
def F35f.an : Ann := ⟨[], [(4, [(0, .kP), (1, .kH 68 2), (8, .kB)]), (6, [(0, .kP), (1, .kH 68 2)])]⟩
theorem F35f.of (x0 : Option Addr) (x1 : (Nat × Nat) × (Nat × Nat) × Unit) (w : World) {Q : Value → World → Prop} (h : F35f.vc x0 x1 w Q) : Calls Tryz.prog 35 #[Value.pointer x0, Value.func (.func 68) #[] #[Value.pointer (some ⟨x1.1.1, x1.1.2, none⟩), Value.pointer (some ⟨x1.2.1.1, x1.2.1.2, none⟩)]] w (fun e w' => ∃ v, e = .returned v ∧ Q v w') := vcFn_of (A := F35f.an) noCount mixed h (by kernel_rfl)
/-! ### function 35: (*stillage/disk.Disk).power -/
def F35g.k6c (Q : Value → World → Prop) (x0 : Option Addr) (x1 : (Nat × Nat)) (w : World) : Prop :=
  dr x0 fun b7 o8 =>
  ldI .i64 w b7 (o8 + 8) fun i9 =>
  dr x0 fun b10 o11 =>
  st w b10 (o11 + 8) [Value.int .i64 (IntKind.wrap .i64 (i9 - 1))] fun w12 =>
  dr x0 fun b13 o14 =>
  ldI .i64 w12 b13 (o14 + 9) fun i15 =>
  dr x0 fun b16 o17 =>
  st w12 b16 (o17 + 9) [Value.int .i64 (IntKind.wrap .i64 (i15 + 1))] fun w18 =>
  Calls Tryz.prog 45 #[Value.pointer (some ⟨x1.1, x1.2, none⟩)] w18 fun e20 w19 =>
  ∃ i21 : Int, e20 = .returned (Value.int .i64 i21) ∧ (
    Q (Value.int .i64 i21) w19)
def F35g.k6 (Q : Value → World → Prop) : (Option Addr × (Nat × Nat) × Unit) → World → Prop := fun s w => ∀ _ : Nat → Value, F35g.k6c Q s.1 s.2.1 w
def F35g.k4c (Q : Value → World → Prop) (x0 : Option Addr) (x1 : (Nat × Nat)) (x8 : Bool) (w : World) : Prop :=
  vIf x8
  (dr x0 fun b4 o5 =>
    st w b4 (o5 + 6) [Value.bool true] fun w6 =>
    Q (Value.int .i64 11) w6)
  (jnC (F35g.k6 Q) (x0, (x1.1, x1.2), ()) w)
def F35g.k4 (Q : Value → World → Prop) : (Option Addr × (Nat × Nat) × Bool × Unit) → World → Prop := fun s w => ∀ _ : Nat → Value, F35g.k4c Q s.1 s.2.1 s.2.2.1 w
def F35g.vc (x0 : Option Addr) (x1 : Nat × Nat) (w : World) (Q : Value → World → Prop) : Prop :=
  vIf x0.isNone
  (Q (Value.int .i64 1) w)
  (dr x0 fun b1 o2 =>
    ldB w b1 (o2 + 6) fun t3 =>
    vIf t3
    (jnC (F35g.k4 Q) (x0, (x1.1, x1.2), true, ()) w)
    (dr x0 fun b22 o23 =>
      ldB w b22 (o23 + 7) fun t24 =>
      vIf t24
      (dr x0 fun b25 o26 =>
        ldI .i64 w b25 (o26 + 8) fun i27 =>
        jnC (F35g.k4 Q) (x0, (x1.1, x1.2), (decide (i27 ≤ 0)), ()) w)
      (jnC (F35g.k4 Q) (x0, (x1.1, x1.2), false, ()) w)))
def F35g.an : Ann := ⟨[], [(4, [(0, .kP), (1, .kG 45), (8, .kB)]), (6, [(0, .kP), (1, .kG 45)])]⟩
theorem F35g.of (x0 : Option Addr) (x1 : Nat × Nat) (w : World) {Q : Value → World → Prop} (h : F35g.vc x0 x1 w Q) : Calls Tryz.prog 35 #[Value.pointer x0, Value.func (.func 45) #[] #[Value.pointer (some ⟨x1.1, x1.2, none⟩)]] w (fun e w' => ∃ v, e = .returned v ∧ Q v w') := vcFn_of (A := F35g.an) noCount mixed h (by kernel_rfl)
/-! ### function 36: (*stillage/disk.Disk).Create$1 -/
def F36.vc (x0 : Nat × Nat) (x1 : Nat × Nat) (w : World) (Q : Value → World → Prop) : Prop :=
  ldP w.drew x0.1 x0.2 fun p1 =>
  dr p1 fun b2 o3 =>
  ldA 2 w.drew b2 (o3 + 2) fun a4 =>
  ldP w.drew x0.1 x0.2 fun p5 =>
  dr p5 fun b6 o7 =>
  ldI .i64 w.drew b6 (o7 + 1) fun i8 =>
  Calls Tryz.prog 31 #[ofL a4] w.drew fun e10 w9 =>
  ∃ (A11 : Option Addr) (n12 c13 : Nat), e10 = .returned (Value.slice A11 n12 c13) ∧ (
    kp w.drew b6 (o7 + 1) 1 w9 <|
    kp w.drew x0.1 x0.2 1 w9 <|
    vIf (decide (((n12 : Nat) : Int) ≥ i8))
    (Q (Value.int .i64 8) w9)
    (ldP w9.drew x0.1 x0.2 fun p14 =>
      ldS w9.drew x1.1 x1.2 fun s15 =>
      ldP w9.drew x0.1 x0.2 fun p16 =>
      dr p16 fun b17 o18 =>
      ldI .i64 w9.drew b17 (o18 + 5) fun i19 =>
      Calls Tryz.prog 37 #[Value.pointer p14, ofL ([Value.int .i64 1] ++ ([Value.string s15] ++ ([Value.string (⟨#[]⟩ : ByteArray)] ++ ([Value.int .i64 (IntKind.wrap .i64 (i19 + 1))] ++ []))))] w9.drew fun e21 w20 =>
      ∃ i22 : Int, e21 = .returned (Value.int .i64 i22) ∧ (
        vIf (i22 == 0)
        (ldP w20 x0.1 x0.2 fun p23 =>
          dr p23 fun b24 o25 =>
          ldI .i64 w20 b24 (o25 + 5) fun i26 =>
          dr p23 fun b27 o28 =>
          st w20 b27 (o28 + 5) [Value.int .i64 (IntKind.wrap .i64 (i26 + 1))] fun w29 =>
          ldP w29.drew x0.1 x0.2 fun p30 =>
          dr p30 fun b31 o32 =>
          ldM w29.drew b31 (o32 + 4) fun m33 =>
          ldP w29.drew x0.1 x0.2 fun p34 =>
          dr p34 fun b35 o36 =>
          ldI .i64 w29.drew b35 (o36 + 5) fun i37 =>
          drM m33 fun r39 =>
          mup w29.drew r39 .i64 i37 (ofL ([Value.slice none 0 0] ++ ([Value.slice none 0 0] ++ []))) fun w38 =>
          Q (Value.int .i64 i22) w38)
        (Q (Value.int .i64 i22) w20))))
def F36.an : Ann := ⟨[], []⟩
theorem F36.of (x0 : Nat × Nat) (x1 : Nat × Nat) (w : World) {Q : Value → World → Prop} (h : F36.vc x0 x1 w Q) : Calls Tryz.prog 36 #[Value.pointer (some ⟨x0.1, x0.2, none⟩), Value.pointer (some ⟨x1.1, x1.2, none⟩)] w (fun e w' => ∃ v, e = .returned v ∧ Q v w') := vcFn_of (A := F36.an) noCount mixed h (by kernel_rfl)
/-! ### function 37: (*stillage/disk.Disk).change -/
def F37.vc (x0 : Option Addr) (x1 : List Value) (w : World) (Q : Value → World → Prop) : Prop :=
  nw w x1 82 fun b1 w2 =>
  dr x0 fun b3 o4 =>
  ldA 2 w2 b3 (o4 + 2) fun a5 =>
  Calls Tryz.prog 31 #[ofL a5] w2 fun e7 w6 =>
  ∃ (A8 : Option Addr) (n9 c10 : Nat), e7 = .returned (Value.slice A8 n9 c10) ∧ (
    dr x0 fun b11 o12 =>
    ldA 2 w6.drew b11 (o12 + 2) fun a13 =>
    ldA 4 w6.drew b1 0 fun a14 =>
    (Calls Tryz.prog 74 #[ofL a13, ofL a14] w6.drew fun e16 w15 =>
      ∃ a17 : List Value, ∃ i18 : Int, e16 = .returned (Value.tuple #[ofL a17, Value.int .i64 i18]) ∧ (
        nw w15 [Value.slice none 0 0, Value.slice none 0 0] 64 fun b19 w20 =>
        kp w6.drew b1 0 4 w20 <|
        kp w6.drew b11 (o12 + 2) 2 w20 <|
        gd (a17.length == 2) <|
        st w20 b19 0 a17 fun w21 =>
        ldA 2 w21 b19 0 fun a22 =>
        dr x0 fun b23 o24 =>
        gd (a22.length == 2) <|
        st w21 b23 (o24 + 2) a22 fun w25 =>
        Calls Tryz.prog 34 #[Value.pointer x0, Value.slice A8 n9 c10] w25 fun e27 w26 =>
        e27 = .returned (Value.tuple #[]) ∧ (
          Q (Value.int .i64 i18) w26))) ∧
    (nw w6.drew [Value.slice none 0 0, Value.slice none 0 0] 64 fun b28 w29 =>
      kp w6.drew b1 0 4 w29 <|
      kp w6.drew b11 (o12 + 2) 2 w29 <|
      Calls Tryz.prog 74 #[ofL a13, ofL a14] w29 fun e31 w30 =>
      ∃ a32 : List Value, ∃ i33 : Int, e31 = .returned (Value.tuple #[ofL a32, Value.int .i64 i33]) ∧ (
        gd (a32.length == 2) <|
        st w30 b28 0 a32 fun w34 =>
        ldA 2 w34 b28 0 fun a35 =>
        dr x0 fun b36 o37 =>
        gd (a35.length == 2) <|
        st w34 b36 (o37 + 2) a35 fun w38 =>
        Calls Tryz.prog 34 #[Value.pointer x0, Value.slice A8 n9 c10] w38 fun e40 w39 =>
        e40 = .returned (Value.tuple #[]) ∧ (
          Q (Value.int .i64 i33) w39))))
def F37.an : Ann := ⟨[], []⟩
theorem F37.of (x0 : Option Addr) (x1 : List Value) (w : World) {Q : Value → World → Prop} (h : F37.vc x0 x1 w Q) : Calls Tryz.prog 37 #[Value.pointer x0, ofL x1] w (fun e w' => ∃ v, e = .returned v ∧ Q v w') := vcFn_of (A := F37.an) noCount mixed h (by kernel_rfl)
/-! ### function 38: (*stillage/disk.Disk).Append$1 -/
def F38.vc (x0 : Nat × Nat) (x1 : Nat × Nat) (x2 : Nat × Nat) (w : World) (Q : Value → World → Prop) : Prop :=
  ldP w x0.1 x0.2 fun p1 =>
  ldS w x1.1 x1.2 fun s2 =>
  Calls Tryz.prog 39 #[Value.pointer p1, Value.string s2, Value.func (.func 40) #[] #[Value.pointer (some ⟨x2.1, x2.2, none⟩)]] w fun e4 w3 =>
  ∃ i5 : Int, e4 = .returned (Value.int .i64 i5) ∧ (
    Q (Value.int .i64 i5) w3)
def F38.an : Ann := ⟨[], []⟩
theorem F38.of (x0 : Nat × Nat) (x1 : Nat × Nat) (x2 : Nat × Nat) (w : World) {Q : Value → World → Prop} (h : F38.vc x0 x1 x2 w Q) : Calls Tryz.prog 38 #[Value.pointer (some ⟨x0.1, x0.2, none⟩), Value.pointer (some ⟨x1.1, x1.2, none⟩), Value.pointer (some ⟨x2.1, x2.2, none⟩)] w (fun e w' => ∃ v, e = .returned v ∧ Q v w') := vcFn_of (A := F38.an) noCount mixed h (by kernel_rfl)
/-! ### function 39: (*stillage/disk.Disk).file -/
def F39a.k10c (Q : Value → World → Prop) (x0 : Option Addr) (x7 : Int) (x9 : (Nat × Nat)) (x58 : Bool) (w : World) : Prop :=
  vIf x58
  (dr x0 fun b45 o46 =>
    ldM w.drew b45 (o46 + 4) fun m47 =>
    ldA 2 w.drew x9.1 x9.2 fun a48 =>
    drM m47 fun r50 =>
    mup w.drew r50 .i64 x7 (ofL a48) fun w49 =>
    Q (Value.int .i64 9) w49)
  (Q (Value.int .i64 0) w)
def F39a.k10 (Q : Value → World → Prop) : (Option Addr × Int × (Nat × Nat) × Bool × Unit) → World → Prop := fun s w => ∀ _ : Nat → Value, F39a.k10c Q s.1 s.2.1 s.2.2.1 s.2.2.2.1 w
def F39a.vc (x0 : Option Addr) (x1 : ByteArray) (x2 : Nat × Nat) (w : World) (Q : Value → World → Prop) : Prop :=
  dr x0 fun b1 o2 =>
  ldA 2 w b1 (o2 + 2) fun a3 =>
  Calls Tryz.prog 52 #[ofL a3, Value.string x1] w fun e5 w4 =>
  ∃ i6 : Int, ∃ t7 : Bool, e5 = .returned (Value.tuple #[Value.int .i64 i6, Value.bool t7]) ∧ (
    vIf (!t7)
    (Q (Value.int .i64 6) w4)
    (dr x0 fun b8 o9 =>
      ldM w4 b8 (o9 + 4) fun m10 =>
      drM m10 fun r13 =>
      mlk w4 r13 .i64 i6 fun q11 =>
      lvA [Value.slice none 0 0, Value.slice none 0 0] q11 fun a12 =>
      nw w4 [Value.slice none 0 0, Value.slice none 0 0] 74 fun b14 w15 =>
      gd (a12.length == 2) <|
      st w15 b14 0 a12 fun w16 =>
      ldA 2 w16 b14 0 fun a17 =>
      Calls Tryz.prog 40 #[ofL a17, Value.pointer (some ⟨x2.1, x2.2, none⟩)] w16 fun e19 w18 =>
      ∃ a20 : List Value, ∃ i21 : Int, e19 = .returned (Value.tuple #[ofL a20, Value.int .i64 i21]) ∧ (
        nw w18 [Value.slice none 0 0, Value.slice none 0 0] 74 fun b22 w23 =>
        gd (a20.length == 2) <|
        st w23 b22 0 a20 fun w24 =>
        vIf (i21 != 0)
        (Q (Value.int .i64 i21) w24)
        (dr x0 fun b25 o26 =>
          ldM w24.drew b25 (o26 + 4) fun m27 =>
          ldA 2 w24.drew b22 0 fun a28 =>
          drM m27 fun r30 =>
          mup w24.drew r30 .i64 i6 (ofL a28) fun w29 =>
          ldA 2 w29.drew b22 0 fun a31 =>
          ldA 2 w29.drew b14 0 fun a32 =>
          Calls Tryz.prog 75 #[ofL a31] w29.drew fun e34 w33 =>
          ∃ i35 : Int, e34 = .returned (Value.int .i64 i35) ∧ (
            kp w29.drew b14 0 2 w33 <|
            Calls Tryz.prog 75 #[ofL a32] w33 fun e37 w36 =>
            ∃ i38 : Int, e37 = .returned (Value.int .i64 i38) ∧ (
              vIf (decide (i35 > i38))
              (dr x0 fun b39 o40 =>
                ldI .i64 w36 b39 o40 fun i41 =>
                Calls Tryz.prog 48 #[Value.pointer x0] w36 fun e43 w42 =>
                ∃ i44 : Int, e43 = .returned (Value.int .i64 i44) ∧ (
                  kp w36 b39 o40 1 w42 <|
                  jnC (F39a.k10 Q) (x0, (i6), (b14, 0), (decide (i44 > i41)), ()) w42))
              (jnC (F39a.k10 Q) (x0, (i6), (b14, 0), false, ()) w36)))))))
def F39a.an : Ann := ⟨[], [(10, [(0, .kP), (7, .kI .i64), (9, .kL), (58, .kB)])]⟩
theorem F39a.of (x0 : Option Addr) (x1 : ByteArray) (x2 : Nat × Nat) (w : World) {Q : Value → World → Prop} (h : F39a.vc x0 x1 x2 w Q) : Calls Tryz.prog 39 #[Value.pointer x0, Value.string x1, Value.func (.func 40) #[] #[Value.pointer (some ⟨x2.1, x2.2, none⟩)]] w (fun e w' => ∃ v, e = .returned v ∧ Q v w') := vcFn_of (A := F39a.an) noCount mixed h (by kernel_rfl)
end Go.Proofs.YtfdhaeglhkmmpaaGreat
/- PRINTED BY MY OWN gen.py out of the translation: each function as a proposition. -/
namespace Go.Proofs.YtfdhaeglhkmmpaaGreat
open Go.GV
set_option linter.unusedVariables false
set_option maxRecDepth 100000
/-! ### function 39: (*stillage/disk.Disk).file -/
def F39b.k10c (Q : Value → World → Prop) (x0 : Option Addr) (x7 : Int) (x9 : (Nat × Nat)) (x58 : Bool) (w : World) : Prop :=
  vIf x58
  (dr x0 fun b45 o46 =>
    ldM w.drew b45 (o46 + 4) fun m47 =>
    ldA 2 w.drew x9.1 x9.2 fun a48 =>
    drM m47 fun r50 =>
    mup w.drew r50 .i64 x7 (ofL a48) fun w49 =>
    Q (Value.int .i64 9) w49)
  (Q (Value.int .i64 0) w)
def F39b.k10 (Q : Value → World → Prop) : (Option Addr × Int × (Nat × Nat) × Bool × Unit) → World → Prop := fun s w => ∀ _ : Nat → Value, F39b.k10c Q s.1 s.2.1 s.2.2.1 s.2.2.2.1 w
def F39b.vc (x0 : Option Addr) (x1 : ByteArray) (x2 : Nat × Nat) (w : World) (Q : Value → World → Prop) : Prop :=
  dr x0 fun b1 o2 =>
  ldA 2 w b1 (o2 + 2) fun a3 =>
  Calls Tryz.prog 52 #[ofL a3, Value.string x1] w fun e5 w4 =>
  ∃ i6 : Int, ∃ t7 : Bool, e5 = .returned (Value.tuple #[Value.int .i64 i6, Value.bool t7]) ∧ (
    vIf (!t7)
    (Q (Value.int .i64 6) w4)
    (dr x0 fun b8 o9 =>
      ldM w4 b8 (o9 + 4) fun m10 =>
      drM m10 fun r13 =>
      mlk w4 r13 .i64 i6 fun q11 =>
      lvA [Value.slice none 0 0, Value.slice none 0 0] q11 fun a12 =>
      nw w4 [Value.slice none 0 0, Value.slice none 0 0] 74 fun b14 w15 =>
      gd (a12.length == 2) <|
      st w15 b14 0 a12 fun w16 =>
      ldA 2 w16 b14 0 fun a17 =>
      Calls Tryz.prog 65 #[ofL a17, Value.pointer (some ⟨x2.1, x2.2, none⟩)] w16 fun e19 w18 =>
      ∃ a20 : List Value, ∃ i21 : Int, e19 = .returned (Value.tuple #[ofL a20, Value.int .i64 i21]) ∧ (
        nw w18 [Value.slice none 0 0, Value.slice none 0 0] 74 fun b22 w23 =>
        gd (a20.length == 2) <|
        st w23 b22 0 a20 fun w24 =>
        vIf (i21 != 0)
        (Q (Value.int .i64 i21) w24)
        (dr x0 fun b25 o26 =>
          ldM w24.drew b25 (o26 + 4) fun m27 =>
          ldA 2 w24.drew b22 0 fun a28 =>
          drM m27 fun r30 =>
          mup w24.drew r30 .i64 i6 (ofL a28) fun w29 =>
          ldA 2 w29.drew b22 0 fun a31 =>
          ldA 2 w29.drew b14 0 fun a32 =>
          Calls Tryz.prog 75 #[ofL a31] w29.drew fun e34 w33 =>
          ∃ i35 : Int, e34 = .returned (Value.int .i64 i35) ∧ (
            kp w29.drew b14 0 2 w33 <|
            Calls Tryz.prog 75 #[ofL a32] w33 fun e37 w36 =>
            ∃ i38 : Int, e37 = .returned (Value.int .i64 i38) ∧ (
              vIf (decide (i35 > i38))
              (dr x0 fun b39 o40 =>
                ldI .i64 w36 b39 o40 fun i41 =>
                Calls Tryz.prog 48 #[Value.pointer x0] w36 fun e43 w42 =>
                ∃ i44 : Int, e43 = .returned (Value.int .i64 i44) ∧ (
                  kp w36 b39 o40 1 w42 <|
                  jnC (F39b.k10 Q) (x0, (i6), (b14, 0), (decide (i44 > i41)), ()) w42))
              (jnC (F39b.k10 Q) (x0, (i6), (b14, 0), false, ()) w36)))))))
def F39b.an : Ann := ⟨[], [(10, [(0, .kP), (7, .kI .i64), (9, .kL), (58, .kB)])]⟩
theorem F39b.of (x0 : Option Addr) (x1 : ByteArray) (x2 : Nat × Nat) (w : World) {Q : Value → World → Prop} (h : F39b.vc x0 x1 x2 w Q) : Calls Tryz.prog 39 #[Value.pointer x0, Value.string x1, Value.func (.func 65) #[] #[Value.pointer (some ⟨x2.1, x2.2, none⟩)]] w (fun e w' => ∃ v, e = .returned v ∧ Q v w') := vcFn_of (A := F39b.an) noCount mixed h (by kernel_rfl)
/-! ### function 39: (*stillage/disk.Disk).file -/
def F39c.k10c (Q : Value → World → Prop) (x0 : Option Addr) (x7 : Int) (x9 : (Nat × Nat)) (x58 : Bool) (w : World) : Prop :=
  vIf x58
  (dr x0 fun b45 o46 =>
    ldM w.drew b45 (o46 + 4) fun m47 =>
    ldA 2 w.drew x9.1 x9.2 fun a48 =>
    drM m47 fun r50 =>
    mup w.drew r50 .i64 x7 (ofL a48) fun w49 =>
    Q (Value.int .i64 9) w49)
  (Q (Value.int .i64 0) w)
def F39c.k10 (Q : Value → World → Prop) : (Option Addr × Int × (Nat × Nat) × Bool × Unit) → World → Prop := fun s w => ∀ _ : Nat → Value, F39c.k10c Q s.1 s.2.1 s.2.2.1 s.2.2.2.1 w
def F39c.vc (x0 : Option Addr) (x1 : ByteArray) (w : World) (Q : Value → World → Prop) : Prop :=
  dr x0 fun b1 o2 =>
  ldA 2 w b1 (o2 + 2) fun a3 =>
  Calls Tryz.prog 52 #[ofL a3, Value.string x1] w fun e5 w4 =>
  ∃ i6 : Int, ∃ t7 : Bool, e5 = .returned (Value.tuple #[Value.int .i64 i6, Value.bool t7]) ∧ (
    vIf (!t7)
    (Q (Value.int .i64 6) w4)
    (dr x0 fun b8 o9 =>
      ldM w4 b8 (o9 + 4) fun m10 =>
      drM m10 fun r13 =>
      mlk w4 r13 .i64 i6 fun q11 =>
      lvA [Value.slice none 0 0, Value.slice none 0 0] q11 fun a12 =>
      nw w4 [Value.slice none 0 0, Value.slice none 0 0] 74 fun b14 w15 =>
      gd (a12.length == 2) <|
      st w15 b14 0 a12 fun w16 =>
      ldA 2 w16 b14 0 fun a17 =>
      Calls Tryz.prog 43 #[ofL a17] w16 fun e19 w18 =>
      ∃ a20 : List Value, ∃ i21 : Int, e19 = .returned (Value.tuple #[ofL a20, Value.int .i64 i21]) ∧ (
        nw w18 [Value.slice none 0 0, Value.slice none 0 0] 74 fun b22 w23 =>
        gd (a20.length == 2) <|
        st w23 b22 0 a20 fun w24 =>
        vIf (i21 != 0)
        (Q (Value.int .i64 i21) w24)
        (dr x0 fun b25 o26 =>
          ldM w24.drew b25 (o26 + 4) fun m27 =>
          ldA 2 w24.drew b22 0 fun a28 =>
          drM m27 fun r30 =>
          mup w24.drew r30 .i64 i6 (ofL a28) fun w29 =>
          ldA 2 w29.drew b22 0 fun a31 =>
          ldA 2 w29.drew b14 0 fun a32 =>
          Calls Tryz.prog 75 #[ofL a31] w29.drew fun e34 w33 =>
          ∃ i35 : Int, e34 = .returned (Value.int .i64 i35) ∧ (
            kp w29.drew b14 0 2 w33 <|
            Calls Tryz.prog 75 #[ofL a32] w33 fun e37 w36 =>
            ∃ i38 : Int, e37 = .returned (Value.int .i64 i38) ∧ (
              vIf (decide (i35 > i38))
              (dr x0 fun b39 o40 =>
                ldI .i64 w36 b39 o40 fun i41 =>
                Calls Tryz.prog 48 #[Value.pointer x0] w36 fun e43 w42 =>
                ∃ i44 : Int, e43 = .returned (Value.int .i64 i44) ∧ (
                  kp w36 b39 o40 1 w42 <|
                  jnC (F39c.k10 Q) (x0, (i6), (b14, 0), (decide (i44 > i41)), ()) w42))
              (jnC (F39c.k10 Q) (x0, (i6), (b14, 0), false, ()) w36)))))))
def F39c.an : Ann := ⟨[], [(10, [(0, .kP), (7, .kI .i64), (9, .kL), (58, .kB)])]⟩
theorem F39c.of (x0 : Option Addr) (x1 : ByteArray) (w : World) {Q : Value → World → Prop} (h : F39c.vc x0 x1 w Q) : Calls Tryz.prog 39 #[Value.pointer x0, Value.string x1, Value.func (.func 43) #[] #[]] w (fun e w' => ∃ v, e = .returned v ∧ Q v w') := vcFn_of (A := F39c.an) noCount mixed h (by kernel_rfl)
/-! ### function 40: (*stillage/disk.Disk).Append$1$1 -/
def F40.vc (x0 : List Value) (x1 : Nat × Nat) (w : World) (Q : Value → World → Prop) : Prop :=
  nw w x0 74 fun b1 w2 =>
  nw w2 [Value.slice none 0 0, Value.slice none 0 0] 74 fun b3 w4 =>
  ldA 2 w4 b1 0 fun a5 =>
  ldSl w4 x1.1 x1.2 fun A6 n7 c8 =>
  Calls Tryz.prog 41 #[ofL a5, Value.slice A6 n7 c8] w4 fun e10 w9 =>
  ∃ a11 : List Value, ∃ i12 : Int, e10 = .returned (Value.tuple #[ofL a11, Value.int .i64 i12]) ∧ (
    gd (a11.length == 2) <|
    st w9 b3 0 a11 fun w13 =>
    ldA 2 w13 b3 0 fun a14 =>
    Q (Value.tuple #[ofL a14, Value.int .i64 i12]) w13)
def F40.an : Ann := ⟨[], []⟩
theorem F40.of (x0 : List Value) (x1 : Nat × Nat) (w : World) {Q : Value → World → Prop} (h : F40.vc x0 x1 w Q) : Calls Tryz.prog 40 #[ofL x0, Value.pointer (some ⟨x1.1, x1.2, none⟩)] w (fun e w' => ∃ v, e = .returned v ∧ Q v w') := vcFn_of (A := F40.an) noCount mixed h (by kernel_rfl)
/-! ### function 41: stillage/inode.Append -/
def F41.vc (x0 : List Value) (x1A : Option Addr) (x1n x1c : Nat) (w : World) (Q : Value → World → Prop) : Prop :=
  nw w x0 74 fun b1 w2 =>
  nw w2 [Value.slice none 0 0, Value.slice none 0 0] 74 fun b3 w4 =>
  ldA 2 w4 b1 0 fun a5 =>
  Calls Tryz.prog 51 #[ofL a5] w4 fun e7 w6 =>
  ∃ (A8 : Option Addr) (n9 c10 : Nat), e7 = .returned (Value.slice A8 n9 c10) ∧ (
    vIf (decide (((x1n : Nat) : Int) > (IntKind.wrap .i64 (1048576 - ((n9 : Nat) : Int)))))
    (ldA 2 w6 b1 0 fun a11 =>
      gd (a11.length == 2) <|
      st w6 b3 0 a11 fun w12 =>
      ldA 2 w12 b3 0 fun a13 =>
      Q (Value.tuple #[ofL a13, Value.int .i64 18]) w12)
    (vIf (((x1n : Nat) : Int) == 0)
      (ldA 2 w6 b1 0 fun a14 =>
        gd (a14.length == 2) <|
        st w6 b3 0 a14 fun w15 =>
        ldA 2 w15 b3 0 fun a16 =>
        Q (Value.tuple #[ofL a16, Value.int .i64 0]) w15)
      (ldA 2 w6.drew b1 0 fun a17 =>
        Calls Tryz.prog 73 #[Value.slice x1A x1n x1c] w6.drew fun e19 w18 =>
        ∃ (A20 : Option Addr) (n21 c22 : Nat), e19 = .returned (Value.slice A20 n21 c22) ∧ (
          kp w6.drew b1 0 2 w18 <|
          gd (([Value.bool false] ++ ([Value.int .i64 ((n9 : Nat) : Int)] ++ ([Value.slice A20 n21 c22] ++ []))).length == 3) <|
          nw w18 (([Value.bool false] ++ ([Value.int .i64 ((n9 : Nat) : Int)] ++ ([Value.slice A20 n21 c22] ++ []))) ++ []) 124 fun b23 w24 =>
          kp w6.drew b1 0 2 w24 <|
          Calls Tryz.prog 76 #[ofL a17, Value.slice (some ⟨b23, 0, none⟩) 1 1] w24 fun e26 w25 =>
          ∃ a27 : List Value, e26 = .returned (ofL a27) ∧ (
            gd (a27.length == 2) <|
            st w25 b3 0 a27 fun w28 =>
            ldA 2 w28 b3 0 fun a29 =>
            Q (Value.tuple #[ofL a29, Value.int .i64 0]) w28)))))
def F41.an : Ann := ⟨[], []⟩
theorem F41.of (x0 : List Value) (x1A : Option Addr) (x1n x1c : Nat) (w : World) {Q : Value → World → Prop} (h : F41.vc x0 x1A x1n x1c w Q) : Calls Tryz.prog 41 #[ofL x0, Value.slice x1A x1n x1c] w (fun e w' => ∃ v, e = .returned v ∧ Q v w') := vcFn_of (A := F41.an) noCount mixed h (by kernel_rfl)
/-! ### function 42: (*stillage/disk.Disk).Sync$1 -/
def F42.vc (x0 : Nat × Nat) (x1 : Nat × Nat) (w : World) (Q : Value → World → Prop) : Prop :=
  ldP w x0.1 x0.2 fun p1 =>
  ldS w x1.1 x1.2 fun s2 =>
  Calls Tryz.prog 39 #[Value.pointer p1, Value.string s2, Value.func (.func 43) #[] #[]] w fun e4 w3 =>
  ∃ i5 : Int, e4 = .returned (Value.int .i64 i5) ∧ (
    Q (Value.int .i64 i5) w3)
def F42.an : Ann := ⟨[], []⟩
theorem F42.of (x0 : Nat × Nat) (x1 : Nat × Nat) (w : World) {Q : Value → World → Prop} (h : F42.vc x0 x1 w Q) : Calls Tryz.prog 42 #[Value.pointer (some ⟨x0.1, x0.2, none⟩), Value.pointer (some ⟨x1.1, x1.2, none⟩)] w (fun e w' => ∃ v, e = .returned v ∧ Q v w') := vcFn_of (A := F42.an) noCount mixed h (by kernel_rfl)
/-! ### function 43: (*stillage/disk.Disk).Sync$1$1 -/
def F43.vc (x0 : List Value) (w : World) (Q : Value → World → Prop) : Prop :=
  nw w x0 74 fun b1 w2 =>
  nw w2 [Value.slice none 0 0, Value.slice none 0 0] 74 fun b3 w4 =>
  ldA 2 w4 b1 0 fun a5 =>
  Calls Tryz.prog 44 #[ofL a5] w4 fun e7 w6 =>
  ∃ a8 : List Value, e7 = .returned (ofL a8) ∧ (
    gd (a8.length == 2) <|
    st w6 b3 0 a8 fun w9 =>
    ldA 2 w9 b3 0 fun a10 =>
    Q (Value.tuple #[ofL a10, Value.int .i64 0]) w9)
def F43.an : Ann := ⟨[], []⟩
theorem F43.of (x0 : List Value) (w : World) {Q : Value → World → Prop} (h : F43.vc x0 w Q) : Calls Tryz.prog 43 #[ofL x0] w (fun e w' => ∃ v, e = .returned v ∧ Q v w') := vcFn_of (A := F43.an) noCount mixed h (by kernel_rfl)
/-! ### function 44: stillage/inode.Sync -/
def F44.vc (x0 : List Value) (w : World) (Q : Value → World → Prop) : Prop :=
  nw w x0 74 fun b1 w2 =>
  nw w2 [Value.slice none 0 0, Value.slice none 0 0] 74 fun b3 w4 =>
  ldA 2 w4 b1 0 fun a5 =>
  Calls Tryz.prog 51 #[ofL a5] w4 fun e7 w6 =>
  ∃ (A8 : Option Addr) (n9 c10 : Nat), e7 = .returned (Value.slice A8 n9 c10) ∧ (
    gd (([Value.slice A8 n9 c10] ++ ([Value.slice none 0 0] ++ [])).length == 2) <|
    st w6 b3 0 ([Value.slice A8 n9 c10] ++ ([Value.slice none 0 0] ++ [])) fun w11 =>
    ldA 2 w11 b3 0 fun a12 =>
    Q (ofL a12) w11)
def F44.an : Ann := ⟨[], []⟩
theorem F44.of (x0 : List Value) (w : World) {Q : Value → World → Prop} (h : F44.vc x0 w Q) : Calls Tryz.prog 44 #[ofL x0] w (fun e w' => ∃ v, e = .returned v ∧ Q v w') := vcFn_of (A := F44.an) noCount mixed h (by kernel_rfl)
/-! ### function 45: (*stillage/disk.Disk).SyncDir$1 -/
def F45.vc (x0 : Nat × Nat) (w : World) (Q : Value → World → Prop) : Prop :=
  ldP w x0.1 x0.2 fun p1 =>
  dr p1 fun b2 o3 =>
  ldA 2 w b2 (o3 + 2) fun a4 =>
  Calls Tryz.prog 31 #[ofL a4] w fun e6 w5 =>
  ∃ (A7 : Option Addr) (n8 c9 : Nat), e6 = .returned (Value.slice A7 n8 c9) ∧ (
    ldP w5.drew x0.1 x0.2 fun p10 =>
    ldP w5.drew x0.1 x0.2 fun p11 =>
    dr p11 fun b12 o13 =>
    ldA 2 w5.drew b12 (o13 + 2) fun a14 =>
    Calls Tryz.prog 46 #[ofL a14] w5.drew fun e16 w15 =>
    ∃ a17 : List Value, e16 = .returned (ofL a17) ∧ (
      kp w5.drew x0.1 x0.2 1 w15 <|
      dr p10 fun b18 o19 =>
      gd (a17.length == 2) <|
      st w15 b18 (o19 + 2) a17 fun w20 =>
      ldP w20 x0.1 x0.2 fun p21 =>
      Calls Tryz.prog 34 #[Value.pointer p21, Value.slice A7 n8 c9] w20 fun e23 w22 =>
      e23 = .returned (Value.tuple #[]) ∧ (
        Q (Value.int .i64 0) w22)))
def F45.an : Ann := ⟨[], []⟩
theorem F45.of (x0 : Nat × Nat) (w : World) {Q : Value → World → Prop} (h : F45.vc x0 w Q) : Calls Tryz.prog 45 #[Value.pointer (some ⟨x0.1, x0.2, none⟩)] w (fun e w' => ∃ v, e = .returned v ∧ Q v w') := vcFn_of (A := F45.an) noCount mixed h (by kernel_rfl)
/-! ### function 46: stillage/folder.Sync -/
def F46.vc (x0 : List Value) (w : World) (Q : Value → World → Prop) : Prop :=
  nw w x0 64 fun b1 w2 =>
  nw w2 [Value.slice none 0 0, Value.slice none 0 0] 64 fun b3 w4 =>
  ldA 2 w4 b1 0 fun a5 =>
  Calls Tryz.prog 50 #[ofL a5] w4 fun e7 w6 =>
  ∃ (A8 : Option Addr) (n9 c10 : Nat), e7 = .returned (Value.slice A8 n9 c10) ∧ (
    gd (([Value.slice A8 n9 c10] ++ ([Value.slice none 0 0] ++ [])).length == 2) <|
    st w6 b3 0 ([Value.slice A8 n9 c10] ++ ([Value.slice none 0 0] ++ [])) fun w11 =>
    ldA 2 w11 b3 0 fun a12 =>
    Q (ofL a12) w11)
def F46.an : Ann := ⟨[], []⟩
theorem F46.of (x0 : List Value) (w : World) {Q : Value → World → Prop} (h : F46.vc x0 w Q) : Calls Tryz.prog 46 #[ofL x0] w (fun e w' => ∃ v, e = .returned v ∧ Q v w') := vcFn_of (A := F46.an) noCount mixed h (by kernel_rfl)
/-! ### function 47: (*stillage/disk.Disk).look -/
def F47.vc (x0 : Option Addr) (x1 : ByteArray) (w : World) (Q : Value → World → Prop) : Prop :=
  vIf x0.isNone
  (Q (Value.tuple #[Value.slice none 0 0, Value.int .i64 1]) w)
  (dr x0 fun b1 o2 =>
    ldB w b1 (o2 + 6) fun t3 =>
    vIf t3
    (Q (Value.tuple #[Value.slice none 0 0, Value.int .i64 11]) w)
    (dr x0 fun b4 o5 =>
      ldA 2 w b4 (o5 + 2) fun a6 =>
      Calls Tryz.prog 52 #[ofL a6, Value.string x1] w fun e8 w7 =>
      ∃ i9 : Int, ∃ t10 : Bool, e8 = .returned (Value.tuple #[Value.int .i64 i9, Value.bool t10]) ∧ (
        vIf (!t10)
        (Q (Value.tuple #[Value.slice none 0 0, Value.int .i64 6]) w7)
        (dr x0 fun b11 o12 =>
          ldM w7 b11 (o12 + 4) fun m13 =>
          drM m13 fun r16 =>
          mlk w7 r16 .i64 i9 fun q14 =>
          lvA [Value.slice none 0 0, Value.slice none 0 0] q14 fun a15 =>
          Calls Tryz.prog 51 #[ofL a15] w7 fun e18 w17 =>
          ∃ (A19 : Option Addr) (n20 c21 : Nat), e18 = .returned (Value.slice A19 n20 c21) ∧ (
            Q (Value.tuple #[Value.slice A19 n20 c21, Value.int .i64 0]) w17)))))
def F47.an : Ann := ⟨[], []⟩
theorem F47.of (x0 : Option Addr) (x1 : ByteArray) (w : World) {Q : Value → World → Prop} (h : F47.vc x0 x1 w Q) : Calls Tryz.prog 47 #[Value.pointer x0, Value.string x1] w (fun e w' => ∃ v, e = .returned v ∧ Q v w') := vcFn_of (A := F47.an) noCount mixed h (by kernel_rfl)
/-! ### function 48: (*stillage/disk.Disk).taken -/
def F48.b3c (Q : Value → World → Prop) (C3 : (Option Addr × Int × (Option Addr × Nat × Nat) × Int × Int × Unit) → World → Prop) (x0 : Option Addr) (x3 : Int) (x10 : (Option Addr × Nat × Nat)) (x11 : Int) (x12 : Int) (w : World) : Prop :=
  vIf (decide (x12 < x11))
  (dr x10.1 fun b9 o10 =>
    gd (decide (0 ≤ x12)) <|
    gd (decide (x12 < ((x10.2.1 : Nat) : Int))) <|
    ldI .i64 w b9 (o10 + (x12).toNat * 1) fun i11 =>
    dr x0 fun b12 o13 =>
    ldM w b12 (o13 + 4) fun m14 =>
    drM m14 fun r17 =>
    mlk w r17 .i64 i11 fun q15 =>
    lvA [Value.slice none 0 0, Value.slice none 0 0] q15 fun a16 =>
    Calls Tryz.prog 75 #[ofL a16] w fun e19 w18 =>
    ∃ i20 : Int, e19 = .returned (Value.int .i64 i20) ∧ (
      jnC C3 (x0, ((IntKind.wrap .i64 (x3 + i20))), (x10.1, x10.2.1, x10.2.2), (x11), ((IntKind.wrap .i64 (x12 + 1))), ()) w18))
  (Q (Value.int .i64 x3) w)
def F48.b3 (Q : Value → World → Prop) : (Option Addr × Int × (Option Addr × Nat × Nat) × Int × Int × Unit) → World → ((Option Addr × Int × (Option Addr × Nat × Nat) × Int × Int × Unit) → World → Prop) → Prop := fun s w C3 => ∀ _ : Nat → Value, F48.b3c Q C3 s.1 s.2.1 s.2.2.1 s.2.2.2.1 s.2.2.2.2.1 w
def F48.l3 (Q : Value → World → Prop) : (Option Addr × Int × (Option Addr × Nat × Nat) × Int × Int × Unit) → World → Prop := fun s w => ∃ n, loopC (F48.b3 Q) n s w
def F48.vc (x0 : Option Addr) (w : World) (Q : Value → World → Prop) : Prop :=
  dr x0 fun b1 o2 =>
  ldA 2 w b1 (o2 + 2) fun a3 =>
  Calls Tryz.prog 31 #[ofL a3] w fun e5 w4 =>
  ∃ (A6 : Option Addr) (n7 c8 : Nat), e5 = .returned (Value.slice A6 n7 c8) ∧ (
    jnC (F48.l3 Q) (x0, (0), (A6, n7, c8), (((n7 : Nat) : Int)), (0), ()) w4)
def F48.an : Ann := ⟨[(3, [(0, .kP), (3, .kI .i64), (10, .kSl), (11, .kI .i64), (12, .kI .i64)])], []⟩
theorem F48.of (x0 : Option Addr) (w : World) {Q : Value → World → Prop} (h : F48.vc x0 w Q) : Calls Tryz.prog 48 #[Value.pointer x0] w (fun e w' => ∃ v, e = .returned v ∧ Q v w') := vcFn_of (A := F48.an) noCount mixed h (by kernel_rfl)
/-! ### function 49: stillage/disk.left -/
def F49.vc (x0 : Int) (x1 : Int) (w : World) (Q : Value → World → Prop) : Prop :=
  vIf (decide (x0 ≤ x1))
  (Q (Value.int .i64 0) w)
  (Q (Value.int .i64 (IntKind.wrap .i64 (x0 - x1))) w)
def F49.an : Ann := ⟨[], []⟩
theorem F49.of (x0 : Int) (x1 : Int) (w : World) {Q : Value → World → Prop} (h : F49.vc x0 x1 w Q) : Calls Tryz.prog 49 #[Value.int .i64 x0, Value.int .i64 x1] w (fun e w' => ∃ v, e = .returned v ∧ Q v w') := vcFn_of (A := F49.an) noCount mixed h (by kernel_rfl)
/-! ### function 50: stillage/folder.Now -/
def F50.vc (x0 : List Value) (w : World) (Q : Value → World → Prop) : Prop :=
  nw w x0 64 fun b1 w2 =>
  ldA 2 w2 b1 0 fun a3 =>
  ldSl w2 b1 (0 + 1) fun A4 n5 c6 =>
  Calls Tryz.prog 69 #[ofL a3, Value.int .i64 ((n5 : Nat) : Int)] w2 fun e8 w7 =>
  ∃ (A9 : Option Addr) (n10 c11 : Nat), e8 = .returned (Value.slice A9 n10 c11) ∧ (
    Q (Value.slice A9 n10 c11) w7)
def F50.an : Ann := ⟨[], []⟩
theorem F50.of (x0 : List Value) (w : World) {Q : Value → World → Prop} (h : F50.vc x0 w Q) : Calls Tryz.prog 50 #[ofL x0] w (fun e w' => ∃ v, e = .returned v ∧ Q v w') := vcFn_of (A := F50.an) noCount mixed h (by kernel_rfl)
/-! ### function 51: stillage/inode.Now -/
def F51.vc (x0 : List Value) (w : World) (Q : Value → World → Prop) : Prop :=
  nw w x0 74 fun b1 w2 =>
  ldSl w2 b1 0 fun A3 n4 c5 =>
  ldSl w2 b1 (0 + 1) fun A6 n7 c8 =>
  Calls Tryz.prog 77 #[Value.slice A3 n4 c5, Value.slice A6 n7 c8] w2 fun e10 w9 =>
  ∃ (A11 : Option Addr) (n12 c13 : Nat), e10 = .returned (Value.slice A11 n12 c13) ∧ (
    Q (Value.slice A11 n12 c13) w9)
def F51.an : Ann := ⟨[], []⟩
theorem F51.of (x0 : List Value) (w : World) {Q : Value → World → Prop} (h : F51.vc x0 w Q) : Calls Tryz.prog 51 #[ofL x0] w (fun e w' => ∃ v, e = .returned v ∧ Q v w') := vcFn_of (A := F51.an) noCount mixed h (by kernel_rfl)
/-! ### function 52: stillage/folder.Find -/
def F52.vc (x0 : List Value) (x1 : ByteArray) (w : World) (Q : Value → World → Prop) : Prop :=
  nw w x0 64 fun b1 w2 =>
  ldA 2 w2 b1 0 fun a3 =>
  Calls Tryz.prog 50 #[ofL a3] w2 fun e5 w4 =>
  ∃ (A6 : Option Addr) (n7 c8 : Nat), e5 = .returned (Value.slice A6 n7 c8) ∧ (
    Calls Tryz.prog 78 #[Value.slice A6 n7 c8, Value.string x1, Value.func (.func 79) #[] #[]] w4 fun e10 w9 =>
    ∃ i11 : Int, ∃ t12 : Bool, e10 = .returned (Value.tuple #[Value.int .i64 i11, Value.bool t12]) ∧ (
      vIf (!t12)
      (Q (Value.tuple #[Value.int .i64 0, Value.bool false]) w9)
      (dr A6 fun b13 o14 =>
        gd (decide (0 ≤ i11)) <|
        gd (decide (i11 < ((n7 : Nat) : Int))) <|
        ldI .i64 w9 b13 ((o14 + (i11).toNat * 2) + 1) fun i15 =>
        Q (Value.tuple #[Value.int .i64 i15, Value.bool true]) w9)))
def F52.an : Ann := ⟨[], []⟩
theorem F52.of (x0 : List Value) (x1 : ByteArray) (w : World) {Q : Value → World → Prop} (h : F52.vc x0 x1 w Q) : Calls Tryz.prog 52 #[ofL x0, Value.string x1] w (fun e w' => ∃ v, e = .returned v ∧ Q v w') := vcFn_of (A := F52.an) noCount mixed h (by kernel_rfl)
/-! ### function 53: stillage/name.Disk -/
def F53.b4c (Q : Value → World → Prop) (C4 : (ByteArray × Int × Int × Unit) → World → Prop) (x0 : ByteArray) (x13 : Int) (x14 : Int) (w : World) : Prop :=
  vIf (decide (x14 < x13))
  (gd (decide (0 ≤ x14)) <|
    gd (decide (x14 < (x0.size : Int))) <|
    vIf (decide ((byteAt x0 (x14).toNat) < 33))
    (Q (Value.bool false) w)
    (vIf (decide ((byteAt x0 (x14).toNat) > 126))
      (Q (Value.bool false) w)
      (vIf ((byteAt x0 (x14).toNat) == 47)
        (Q (Value.bool false) w)
        (jnC C4 (x0, (x13), ((IntKind.wrap .i64 (x14 + 1))), ()) w))))
  (Q (Value.bool true) w)
def F53.b4 (Q : Value → World → Prop) : (ByteArray × Int × Int × Unit) → World → ((ByteArray × Int × Int × Unit) → World → Prop) → Prop := fun s w C4 => ∀ _ : Nat → Value, F53.b4c Q C4 s.1 s.2.1 s.2.2.1 w
def F53.l4 (Q : Value → World → Prop) : (ByteArray × Int × Int × Unit) → World → Prop := fun s w => ∃ n, loopC (F53.b4 Q) n s w
def F53.k3c (Q : Value → World → Prop) (x0 : ByteArray) (w : World) : Prop :=
  jnC (F53.l4 Q) (x0, ((x0.size : Int)), (0), ()) w
def F53.k3 (Q : Value → World → Prop) : (ByteArray × Unit) → World → Prop := fun s w => ∀ _ : Nat → Value, F53.k3c Q s.1 w
def F53.vc (x0 : ByteArray) (w : World) (Q : Value → World → Prop) : Prop :=
  vIf (x0.toList == (⟨#[]⟩ : ByteArray).toList)
  (Q (Value.bool false) w)
  (vIf (decide ((x0.size : Int) > 32))
    (Q (Value.bool false) w)
    (jnC (F53.k3 Q) (x0, ()) w))
def F53.an : Ann := ⟨[(4, [(0, .kS), (13, .kI .i64), (14, .kI .i64)])], [(3, [(0, .kS)])]⟩
theorem F53.of (x0 : ByteArray) (w : World) {Q : Value → World → Prop} (h : F53.vc x0 w Q) : Calls Tryz.prog 53 #[Value.string x0] w (fun e w' => ∃ v, e = .returned v ∧ Q v w') := vcFn_of (A := F53.an) noCount mixed h (by kernel_rfl)
/-! ### function 54: stillage/stillageref12.New -/
def F54.vc (x0 : List Value) (w : World) (Q : Value → World → Prop) : Prop :=
  nw w x0 27 fun b1 w2 =>
  ldA 2 w2 b1 0 fun a3 =>
  gd (a3.length == 2) <|
  nw w2 (a3 ++ ([Value.slice none 0 0, Value.slice none 0 0] ++ ([Value.slice none 0 0] ++ ([Value.int .i64 0] ++ ([Value.bool false] ++ ([Value.int .i64 (-1)] ++ ([Value.int .i64 0] ++ []))))))) 104 fun b4 w5 =>
  Q (Value.pointer (some ⟨b4, 0, none⟩)) w5
def F54.an : Ann := ⟨[], []⟩
theorem F54.of (x0 : List Value) (w : World) {Q : Value → World → Prop} (h : F54.vc x0 w Q) : Calls Tryz.prog 54 #[ofL x0] w (fun e w' => ∃ v, e = .returned v ∧ Q v w') := vcFn_of (A := F54.an) noCount mixed h (by kernel_rfl)
/-! ### function 55: stillage/stillageref11.Find -/
def F55.vc (x0 : List Value) (x1 : ByteArray) (w : World) (Q : Value → World → Prop) : Prop :=
  nw w x0 64 fun b1 w2 =>
  ldA 2 w2 b1 0 fun a3 =>
  Calls Tryz.prog 57 #[ofL a3] w2 fun e5 w4 =>
  ∃ (A6 : Option Addr) (n7 c8 : Nat), e5 = .returned (Value.slice A6 n7 c8) ∧ (
    Calls Tryz.prog 80 #[Value.slice A6 n7 c8, Value.string x1] w4 fun e10 w9 =>
    ∃ i11 : Int, ∃ t12 : Bool, e10 = .returned (Value.tuple #[Value.int .i64 i11, Value.bool t12]) ∧ (
      Q (Value.tuple #[Value.int .i64 i11, Value.bool t12]) w9))
def F55.an : Ann := ⟨[], []⟩
theorem F55.of (x0 : List Value) (x1 : ByteArray) (w : World) {Q : Value → World → Prop} (h : F55.vc x0 x1 w Q) : Calls Tryz.prog 55 #[ofL x0, Value.string x1] w (fun e w' => ∃ v, e = .returned v ∧ Q v w') := vcFn_of (A := F55.an) noCount mixed h (by kernel_rfl)
/-! ### function 56: stillage/stillageref08.Disk -/
def F56.b2c (Q : Value → World → Prop) (C2 : (ByteArray × Int × Unit) → World → Prop) (x0 : ByteArray) (x3 : Int) (w : World) : Prop :=
  vIf (decide (x3 < (x0.size : Int)))
  (gd (decide (0 ≤ x3)) <|
    gd (decide (x3 < (x0.size : Int))) <|
    vIf (decide ((byteAt x0 (x3).toNat) ≤ 32))
    (Q (Value.bool false) w)
    (gd (decide (0 ≤ x3)) <|
      gd (decide (x3 < (x0.size : Int))) <|
      vIf (decide ((byteAt x0 (x3).toNat) ≥ 127))
      (Q (Value.bool false) w)
      (gd (decide (0 ≤ x3)) <|
        gd (decide (x3 < (x0.size : Int))) <|
        vIf ((byteAt x0 (x3).toNat) == 47)
        (Q (Value.bool false) w)
        (jnC C2 (x0, ((IntKind.wrap .i64 (x3 + 1))), ()) w))))
  (vIf (decide ((x0.size : Int) ≥ 1))
    (Q (Value.bool (decide ((x0.size : Int) ≤ 32))) w)
    (Q (Value.bool false) w))
def F56.b2 (Q : Value → World → Prop) : (ByteArray × Int × Unit) → World → ((ByteArray × Int × Unit) → World → Prop) → Prop := fun s w C2 => ∀ _ : Nat → Value, F56.b2c Q C2 s.1 s.2.1 w
def F56.l2 (Q : Value → World → Prop) : (ByteArray × Int × Unit) → World → Prop := fun s w => ∃ n, loopC (F56.b2 Q) n s w
def F56.vc (x0 : ByteArray) (w : World) (Q : Value → World → Prop) : Prop :=
  jnC (F56.l2 Q) (x0, (0), ()) w
def F56.an : Ann := ⟨[(2, [(0, .kS), (3, .kI .i64)])], []⟩
theorem F56.of (x0 : ByteArray) (w : World) {Q : Value → World → Prop} (h : F56.vc x0 w Q) : Calls Tryz.prog 56 #[Value.string x0] w (fun e w' => ∃ v, e = .returned v ∧ Q v w') := vcFn_of (A := F56.an) noCount mixed h (by kernel_rfl)
/-! ### function 57: stillage/stillageref11.Now -/
def F57.vc (x0 : List Value) (w : World) (Q : Value → World → Prop) : Prop :=
  nw w x0 64 fun b1 w2 =>
  ldA 2 w2 b1 0 fun a3 =>
  ldSl w2 b1 (0 + 1) fun A4 n5 c6 =>
  Calls Tryz.prog 81 #[ofL a3, Value.int .i64 ((n5 : Nat) : Int)] w2 fun e8 w7 =>
  ∃ (A9 : Option Addr) (n10 c11 : Nat), e8 = .returned (Value.slice A9 n10 c11) ∧ (
    Q (Value.slice A9 n10 c11) w7)
def F57.an : Ann := ⟨[], []⟩
theorem F57.of (x0 : List Value) (w : World) {Q : Value → World → Prop} (h : F57.vc x0 w Q) : Calls Tryz.prog 57 #[ofL x0] w (fun e w' => ∃ v, e = .returned v ∧ Q v w') := vcFn_of (A := F57.an) noCount mixed h (by kernel_rfl)
/-! ### function 58: stillage/stillageref12.Power -/
def F58.k6c (Q : Value → World → Prop) (x0 : Option Addr) (x1 : Int) (x2 : ByteArray) (x3 : ByteArray) (x4 : (Option Addr × Nat × Nat)) (x5 : Int) (w : World) : Prop :=
  dr x0 fun b16 o17 =>
  ldI .i64 w b16 (o17 + 8) fun i18 =>
  dr x0 fun b19 o20 =>
  st w b19 (o20 + 8) [Value.int .i64 (IntKind.wrap .i64 (i18 + 1))] fun w21 =>
  vIf (x1 == 1)
  (dr x0 fun b22 o23 =>
    ldSl w21.drew b22 (o23 + 4) fun A24 n25 c26 =>
    dr x0 fun b27 o28 =>
    ldI .i64 w21.drew b27 (o28 + 1) fun i29 =>
    vIf (decide (((n25 : Nat) : Int) ≥ i29))
    (Q (Value.int .i64 8) w21.drew)
    (dr x0 fun b30 o31 =>
      ldI .i64 w21.drew b30 (o31 + 5) fun i32 =>
      Calls Tryz.prog 82 #[Value.pointer x0, ofL ([Value.int .i64 1] ++ ([Value.string x2] ++ ([Value.string (⟨#[]⟩ : ByteArray)] ++ ([Value.int .i64 (IntKind.wrap .i64 (i32 + 1))] ++ []))))] w21.drew fun e34 w33 =>
      ∃ i35 : Int, e34 = .returned (Value.int .i64 i35) ∧ (
        Q (Value.int .i64 i35) w33)))
  (vIf (x1 == 5)
    (Calls Tryz.prog 82 #[Value.pointer x0, ofL ([Value.int .i64 2] ++ ([Value.string x2] ++ ([Value.string x3] ++ ([Value.int .i64 0] ++ []))))] w21 fun e37 w36 =>
      ∃ i38 : Int, e37 = .returned (Value.int .i64 i38) ∧ (
        Q (Value.int .i64 i38) w36))
    (vIf (x1 == 6)
      (Calls Tryz.prog 82 #[Value.pointer x0, ofL ([Value.int .i64 3] ++ ([Value.string x2] ++ ([Value.string (⟨#[]⟩ : ByteArray)] ++ ([Value.int .i64 0] ++ []))))] w21 fun e40 w39 =>
        ∃ i41 : Int, e40 = .returned (Value.int .i64 i41) ∧ (
          Q (Value.int .i64 i41) w39))
      (vIf (x1 == 7)
        (dr x0 fun b42 o43 =>
          ldA 2 w21 b42 (o43 + 2) fun a44 =>
          Calls Tryz.prog 57 #[ofL a44] w21 fun e46 w45 =>
          ∃ (A47 : Option Addr) (n48 c49 : Nat), e46 = .returned (Value.slice A47 n48 c49) ∧ (
            dr x0 fun b50 o51 =>
            gd (([Value.slice A47 n48 c49] ++ ([Value.slice none 0 0] ++ [])).length == 2) <|
            st w45 b50 (o51 + 2) ([Value.slice A47 n48 c49] ++ ([Value.slice none 0 0] ++ [])) fun w52 =>
            Calls Tryz.prog 83 #[Value.pointer x0] w52 fun e54 w53 =>
            e54 = .returned (Value.tuple #[]) ∧ (
              Q (Value.int .i64 0) w53)))
        (Calls Tryz.prog 84 #[Value.pointer x0, Value.int .i64 x1, Value.string x2, Value.slice x4.1 x4.2.1 x4.2.2, Value.int .i64 x5] w21 fun e56 w55 =>
          ∃ i57 : Int, e56 = .returned (Value.int .i64 i57) ∧ (
            Q (Value.int .i64 i57) w55)))))
def F58.k6 (Q : Value → World → Prop) : (Option Addr × Int × ByteArray × ByteArray × (Option Addr × Nat × Nat) × Int × Unit) → World → Prop := fun s w => ∀ _ : Nat → Value, F58.k6c Q s.1 s.2.1 s.2.2.1 s.2.2.2.1 s.2.2.2.2.1 s.2.2.2.2.2.1 w
def F58.k4c (Q : Value → World → Prop) (x0 : Option Addr) (x1 : Int) (x2 : ByteArray) (x3 : ByteArray) (x4 : (Option Addr × Nat × Nat)) (x5 : Int) (w : World) : Prop :=
  dr x0 fun b7 o8 =>
  ldI .i64 w b7 (o8 + 7) fun i9 =>
  vIf (decide (i9 > 0))
  (dr x0 fun b10 o11 =>
    ldI .i64 w b10 (o11 + 7) fun i12 =>
    dr x0 fun b13 o14 =>
    st w b13 (o14 + 7) [Value.int .i64 (IntKind.wrap .i64 (i12 - 1))] fun w15 =>
    jnC (F58.k6 Q) (x0, (x1), x2, x3, (x4.1, x4.2.1, x4.2.2), (x5), ()) w15)
  (jnC (F58.k6 Q) (x0, (x1), x2, x3, (x4.1, x4.2.1, x4.2.2), (x5), ()) w)
def F58.k4 (Q : Value → World → Prop) : (Option Addr × Int × ByteArray × ByteArray × (Option Addr × Nat × Nat) × Int × Unit) → World → Prop := fun s w => ∀ _ : Nat → Value, F58.k4c Q s.1 s.2.1 s.2.2.1 s.2.2.2.1 s.2.2.2.2.1 s.2.2.2.2.2.1 w
def F58.k2c (Q : Value → World → Prop) (x0 : Option Addr) (x1 : Int) (x2 : ByteArray) (x3 : ByteArray) (x4 : (Option Addr × Nat × Nat)) (x5 : Int) (x23 : Bool) (w : World) : Prop :=
  vIf x23
  (dr x0 fun b4 o5 =>
    st w b4 (o5 + 6) [Value.bool true] fun w6 =>
    Q (Value.int .i64 11) w6)
  (jnC (F58.k4 Q) (x0, (x1), x2, x3, (x4.1, x4.2.1, x4.2.2), (x5), ()) w)
def F58.k2 (Q : Value → World → Prop) : (Option Addr × Int × ByteArray × ByteArray × (Option Addr × Nat × Nat) × Int × Bool × Unit) → World → Prop := fun s w => ∀ _ : Nat → Value, F58.k2c Q s.1 s.2.1 s.2.2.1 s.2.2.2.1 s.2.2.2.2.1 s.2.2.2.2.2.1 s.2.2.2.2.2.2.1 w
def F58.vc (x0 : Option Addr) (x1 : Int) (x2 : ByteArray) (x3 : ByteArray) (x4A : Option Addr) (x4n x4c : Nat) (x5 : Int) (w : World) (Q : Value → World → Prop) : Prop :=
  dr x0 fun b1 o2 =>
  ldB w b1 (o2 + 6) fun t3 =>
  vIf t3
  (jnC (F58.k2 Q) (x0, (x1), x2, x3, (x4A, x4n, x4c), (x5), true, ()) w)
  (dr x0 fun b58 o59 =>
    ldI .i64 w b58 (o59 + 7) fun i60 =>
    jnC (F58.k2 Q) (x0, (x1), x2, x3, (x4A, x4n, x4c), (x5), (i60 == 0), ()) w)
def F58.an : Ann := ⟨[], [(2, [(0, .kP), (1, .kI .i64), (2, .kS), (3, .kS), (4, .kSl), (5, .kI .i64), (23, .kB)]), (4, [(0, .kP), (1, .kI .i64), (2, .kS), (3, .kS), (4, .kSl), (5, .kI .i64)]), (6, [(0, .kP), (1, .kI .i64), (2, .kS), (3, .kS), (4, .kSl), (5, .kI .i64)])]⟩
theorem F58.of (x0 : Option Addr) (x1 : Int) (x2 : ByteArray) (x3 : ByteArray) (x4A : Option Addr) (x4n x4c : Nat) (x5 : Int) (w : World) {Q : Value → World → Prop} (h : F58.vc x0 x1 x2 x3 x4A x4n x4c x5 w Q) : Calls Tryz.prog 58 #[Value.pointer x0, Value.int .i64 x1, Value.string x2, Value.string x3, Value.slice x4A x4n x4c, Value.int .i64 x5] w (fun e w' => ∃ v, e = .returned v ∧ Q v w') := vcFn_of (A := F58.an) noCount mixed h (by kernel_rfl)
/-! ### function 59: stillage/stillageref12.Crash -/
def F59.b6c (Q : Value → World → Prop) (C6 : (Option Addr × (Option Addr × Nat × Nat) × Int × (Option Addr × Nat × Nat) × Int × Unit) → World → Prop) (x0 : Option Addr) (x1 : (Option Addr × Nat × Nat)) (x4 : Int) (x5 : (Option Addr × Nat × Nat)) (x6 : Int) (w : World) : Prop :=
  dr x0 fun b4 o5 =>
  ldSl w b4 (o5 + 4) fun A6 n7 c8 =>
  vIf (decide (x6 < ((n7 : Nat) : Int)))
  (dr x0 fun b9 o10 =>
    ldSl w b9 (o10 + 4) fun A11 n12 c13 =>
    dr A11 fun b14 o15 =>
    gd (decide (0 ≤ x6)) <|
    gd (decide (x6 < ((n12 : Nat) : Int))) <|
    ldA 2 w b14 ((o15 + (x6).toNat * 3) + 1) fun a16 =>
    Calls Tryz.prog 85 #[ofL a16, Value.slice x1.1 x1.2.1 x1.2.2] w fun e18 w17 =>
    ∃ a19 : List Value, ∃ (A20 : Option Addr) (n21 c22 : Nat), e18 = .returned (Value.tuple #[ofL a19, Value.slice A20 n21 c22]) ∧ (
      nw w17 [Value.slice none 0 0, Value.slice none 0 0] 74 fun b23 w24 =>
      gd (a19.length == 2) <|
      st w24 b23 0 a19 fun w25 =>
      dr x0 fun b26 o27 =>
      ldSl w25.drew b26 (o27 + 4) fun A28 n29 c30 =>
      dr A28 fun b31 o32 =>
      gd (decide (0 ≤ x6)) <|
      gd (decide (x6 < ((n29 : Nat) : Int))) <|
      ldI .i64 w25.drew b31 (o32 + (x6).toNat * 3) fun i33 =>
      ldA 2 w25.drew b23 0 fun a34 =>
      gd (a34.length == 2) <|
      gd (([Value.int .i64 i33] ++ (a34 ++ [])).length == 3) <|
      nw w25.drew (([Value.int .i64 i33] ++ (a34 ++ [])) ++ []) 106 fun b35 w36 =>
      app w36 3 56 [Value.int .i64 0, Value.slice none 0 0, Value.slice none 0 0] 106 x5.1 x5.2.1 x5.2.2 (Value.slice (some ⟨b35, 0, none⟩) 1 1) fun A37 n38 c39 w40 =>
      jnC C6 (x0, (A20, n21, c22), (x4), (A37, n38, c39), ((IntKind.wrap .i64 (x6 + 1))), ()) w40))
  (dr x0 fun b41 o42 =>
    st w b41 (o42 + 4) [Value.slice x5.1 x5.2.1 x5.2.2] fun w43 =>
    dr x0 fun b44 o45 =>
    ldA 2 w43 b44 (o45 + 2) fun a46 =>
    Calls Tryz.prog 81 #[ofL a46, Value.int .i64 x4] w43 fun e48 w47 =>
    ∃ (A49 : Option Addr) (n50 c51 : Nat), e48 = .returned (Value.slice A49 n50 c51) ∧ (
      dr x0 fun b52 o53 =>
      gd (([Value.slice A49 n50 c51] ++ ([Value.slice none 0 0] ++ [])).length == 2) <|
      st w47 b52 (o53 + 2) ([Value.slice A49 n50 c51] ++ ([Value.slice none 0 0] ++ [])) fun w54 =>
      Calls Tryz.prog 83 #[Value.pointer x0] w54 fun e56 w55 =>
      e56 = .returned (Value.tuple #[]) ∧ (
        dr x0 fun b57 o58 =>
        st w55 b57 (o58 + 6) [Value.bool false] fun w59 =>
        dr x0 fun b60 o61 =>
        st w59 b60 (o61 + 7) [Value.int .i64 (-1)] fun w62 =>
        Q (Value.tuple #[]) w62)))
def F59.b6 (Q : Value → World → Prop) : (Option Addr × (Option Addr × Nat × Nat) × Int × (Option Addr × Nat × Nat) × Int × Unit) → World → ((Option Addr × (Option Addr × Nat × Nat) × Int × (Option Addr × Nat × Nat) × Int × Unit) → World → Prop) → Prop := fun s w C6 => ∀ _ : Nat → Value, F59.b6c Q C6 s.1 s.2.1 s.2.2.1 s.2.2.2.1 s.2.2.2.2.1 w
def F59.l6 (Q : Value → World → Prop) : (Option Addr × (Option Addr × Nat × Nat) × Int × (Option Addr × Nat × Nat) × Int × Unit) → World → Prop := fun s w => ∃ n, loopC (F59.b6 Q) n s w
def F59.k4c (Q : Value → World → Prop) (x0 : Option Addr) (x1 : (Option Addr × Nat × Nat)) (x4 : Int) (w : World) : Prop :=
  jnC (F59.l6 Q) (x0, (x1.1, x1.2.1, x1.2.2), (x4), (none, 0, 0), (0), ()) w
def F59.k4 (Q : Value → World → Prop) : (Option Addr × (Option Addr × Nat × Nat) × Int × Unit) → World → Prop := fun s w => ∀ _ : Nat → Value, F59.k4c Q s.1 s.2.1 s.2.2.1 w
def F59.vc (x0 : Option Addr) (x1A : Option Addr) (x1n x1c : Nat) (w : World) (Q : Value → World → Prop) : Prop :=
  vIf (decide (((x1n : Nat) : Int) > 0))
  (dr x1A fun b1 o2 =>
    gd (decide ((0 : Int) < ((x1n : Nat) : Int))) <|
    ldI .u8 w b1 o2 fun i3 =>
    gd (decide ((1 : Int) ≤ ((x1n : Nat) : Int))) <|
    jnC (F59.k4 Q) (x0, ((slA x1A x1c 1 1), (x1n - 1), (x1c - 1)), ((IntKind.wrap .i64 i3)), ()) w)
  (jnC (F59.k4 Q) (x0, (x1A, x1n, x1c), (0), ()) w)
def F59.an : Ann := ⟨[(6, [(0, .kP), (1, .kSl), (4, .kI .i64), (5, .kSl), (6, .kI .i64)])], [(4, [(0, .kP), (1, .kSl), (4, .kI .i64)])]⟩
theorem F59.of (x0 : Option Addr) (x1A : Option Addr) (x1n x1c : Nat) (w : World) {Q : Value → World → Prop} (h : F59.vc x0 x1A x1n x1c w Q) : Calls Tryz.prog 59 #[Value.pointer x0, Value.slice x1A x1n x1c] w (fun e w' => ∃ v, e = .returned v ∧ Q v w') := vcFn_of (A := F59.an) noCount mixed h (by kernel_rfl)
/-! ### function 60: stillage/stillageref12.Free -/
def F60.k6c (Q : Value → World → Prop) (x4 : Int) (x5 : Int) (w : World) : Prop :=
  Q (Value.tuple #[Value.int .i64 x4, Value.int .i64 x5]) w
def F60.k6 (Q : Value → World → Prop) : (Int × Int × Unit) → World → Prop := fun s w => ∀ _ : Nat → Value, F60.k6c Q s.1 s.2.1 w
def F60.k4c (Q : Value → World → Prop) (x0 : Option Addr) (x4 : Int) (x5 : Int) (w : World) : Prop :=
  dr x0 fun b13 o14 =>
  ldI .i64 w.drew b13 (o14 + 1) fun i15 =>
  dr x0 fun b16 o17 =>
  ldSl w.drew b16 (o17 + 4) fun A18 n19 c20 =>
  vIf (decide (i15 > ((n19 : Nat) : Int)))
  (dr x0 fun b21 o22 =>
    ldI .i64 w.drew.drew b21 (o22 + 1) fun i23 =>
    dr x0 fun b24 o25 =>
    ldSl w.drew.drew b24 (o25 + 4) fun A26 n27 c28 =>
    jnC (F60.k6 Q) ((x4), ((IntKind.wrap .i64 (i23 - ((n27 : Nat) : Int)))), ()) w.drew.drew)
  (jnC (F60.k6 Q) ((x4), (x5), ()) w.drew)
def F60.k4 (Q : Value → World → Prop) : (Option Addr × Int × Int × Unit) → World → Prop := fun s w => ∀ _ : Nat → Value, F60.k4c Q s.1 s.2.1 s.2.2.1 w
def F60.vc (x0 : Option Addr) (w : World) (Q : Value → World → Prop) : Prop :=
  dr x0 fun b1 o2 =>
  ldI .i64 w.drew b1 o2 fun i3 =>
  Calls Tryz.prog 86 #[Value.pointer x0] w.drew fun e5 w4 =>
  ∃ i6 : Int, e5 = .returned (Value.int .i64 i6) ∧ (
    kp w.drew b1 o2 1 w4 <|
    vIf (decide (i3 > i6))
    (dr x0 fun b7 o8 =>
      ldI .i64 w4.drew b7 o8 fun i9 =>
      Calls Tryz.prog 86 #[Value.pointer x0] w4.drew fun e11 w10 =>
      ∃ i12 : Int, e11 = .returned (Value.int .i64 i12) ∧ (
        kp w4.drew b7 o8 1 w10 <|
        jnC (F60.k4 Q) (x0, ((IntKind.wrap .i64 (i9 - i12))), (0), ()) w10))
    (jnC (F60.k4 Q) (x0, (0), (0), ()) w4))
def F60.an : Ann := ⟨[], [(4, [(0, .kP), (4, .kI .i64), (5, .kI .i64)]), (6, [(4, .kI .i64), (5, .kI .i64)])]⟩
theorem F60.of (x0 : Option Addr) (w : World) {Q : Value → World → Prop} (h : F60.vc x0 w Q) : Calls Tryz.prog 60 #[Value.pointer x0] w (fun e w' => ∃ v, e = .returned v ∧ Q v w') := vcFn_of (A := F60.an) noCount mixed h (by kernel_rfl)
/-! ### function 61: stillage/stillageref12.Image -/
def F61.b4c (Q : Value → World → Prop) (C4 : (Option Addr × (Option Addr × Nat × Nat) × (Option Addr × Nat × Nat) × Int × Unit) → World → Prop) (x0 : Option Addr) (x3 : (Option Addr × Nat × Nat)) (x4 : (Option Addr × Nat × Nat)) (x5 : Int) (w : World) : Prop :=
  vIf (decide (x5 < ((x4.2.1 : Nat) : Int)))
  (dr x4.1 fun b9 o10 =>
    gd (decide (0 ≤ x5)) <|
    gd (decide (x5 < ((x4.2.1 : Nat) : Int))) <|
    ldS w.drew b9 (o10 + (x5).toNat * 2) fun s11 =>
    dr x4.1 fun b12 o13 =>
    gd (decide (0 ≤ x5)) <|
    gd (decide (x5 < ((x4.2.1 : Nat) : Int))) <|
    ldI .i64 w.drew b12 ((o13 + (x5).toNat * 2) + 1) fun i14 =>
    Calls Tryz.prog 87 #[Value.pointer x0, Value.int .i64 i14] w.drew fun e16 w15 =>
    ∃ a17 : List Value, e16 = .returned (ofL a17) ∧ (
      kp w.drew b9 (o10 + (x5).toNat * 2) 1 w15 <|
      gd (decide (0 < a17.length)) <|
      ptSl (nthV a17 0) fun A18 n19 c20 =>
      gd (([Value.string s11] ++ ([Value.slice A18 n19 c20] ++ [])).length == 2) <|
      nw w15 (([Value.string s11] ++ ([Value.slice A18 n19 c20] ++ [])) ++ []) 97 fun b21 w22 =>
      app w22 2 40 [Value.string (⟨#[]⟩ : ByteArray), Value.slice none 0 0] 97 x3.1 x3.2.1 x3.2.2 (Value.slice (some ⟨b21, 0, none⟩) 1 1) fun A23 n24 c25 w26 =>
      jnC C4 (x0, (A23, n24, c25), (x4.1, x4.2.1, x4.2.2), ((IntKind.wrap .i64 (x5 + 1))), ()) w26))
  (Q (Value.slice x3.1 x3.2.1 x3.2.2) w)
def F61.b4 (Q : Value → World → Prop) : (Option Addr × (Option Addr × Nat × Nat) × (Option Addr × Nat × Nat) × Int × Unit) → World → ((Option Addr × (Option Addr × Nat × Nat) × (Option Addr × Nat × Nat) × Int × Unit) → World → Prop) → Prop := fun s w C4 => ∀ _ : Nat → Value, F61.b4c Q C4 s.1 s.2.1 s.2.2.1 s.2.2.2.1 w
def F61.l4 (Q : Value → World → Prop) : (Option Addr × (Option Addr × Nat × Nat) × (Option Addr × Nat × Nat) × Int × Unit) → World → Prop := fun s w => ∃ n, loopC (F61.b4 Q) n s w
def F61.vc (x0 : Option Addr) (w : World) (Q : Value → World → Prop) : Prop :=
  dr x0 fun b1 o2 =>
  ldA 2 w b1 (o2 + 2) fun a3 =>
  Calls Tryz.prog 81 #[ofL a3, Value.int .i64 0] w fun e5 w4 =>
  ∃ (A6 : Option Addr) (n7 c8 : Nat), e5 = .returned (Value.slice A6 n7 c8) ∧ (
    jnC (F61.l4 Q) (x0, (none, 0, 0), (A6, n7, c8), (0), ()) w4)
def F61.an : Ann := ⟨[(4, [(0, .kP), (3, .kSl), (4, .kSl), (5, .kI .i64)])], []⟩
theorem F61.of (x0 : Option Addr) (w : World) {Q : Value → World → Prop} (h : F61.vc x0 w Q) : Calls Tryz.prog 61 #[Value.pointer x0] w (fun e w' => ∃ v, e = .returned v ∧ Q v w') := vcFn_of (A := F61.an) noCount mixed h (by kernel_rfl)
/-! ### function 62: stillage/stillageref12.Read -/
def F62.k6c (Q : Value → World → Prop) (x2 : Int) (x3 : Int) (x10 : (Option Addr × Nat × Nat)) (w : World) : Prop :=
  gd (decide (0 ≤ (IntKind.wrap .i64 (x2 + x3)))) <|
  gd (decide ((IntKind.wrap .i64 (x2 + x3)) ≤ ((x10.2.2 : Nat) : Int))) <|
  gd (decide (0 ≤ x2)) <|
  gd (decide (x2 ≤ ((((IntKind.wrap .i64 (x2 + x3))).toNat : Nat) : Int))) <|
  Q (Value.tuple #[Value.slice (slA x10.1 x10.2.2 (x2).toNat 1) (((IntKind.wrap .i64 (x2 + x3))).toNat - (x2).toNat) (x10.2.2 - (x2).toNat), Value.int .i64 0]) w
def F62.k6 (Q : Value → World → Prop) : (Int × Int × (Option Addr × Nat × Nat) × Unit) → World → Prop := fun s w => ∀ _ : Nat → Value, F62.k6c Q s.1 s.2.1 s.2.2.1 w
def F62.vc (x0 : Option Addr) (x1 : ByteArray) (x2 : Int) (x3 : Int) (w : World) (Q : Value → World → Prop) : Prop :=
  Calls Tryz.prog 63 #[Value.pointer x0, Value.string x1] w fun e2 w1 =>
  ∃ (A3 : Option Addr) (n4 c5 : Nat), ∃ i6 : Int, e2 = .returned (Value.tuple #[Value.slice A3 n4 c5, Value.int .i64 i6]) ∧ (
    vIf (i6 != 0)
    (Q (Value.tuple #[Value.slice none 0 0, Value.int .i64 i6]) w1)
    (vIf (decide (x2 < 0))
      (Q (Value.tuple #[Value.slice none 0 0, Value.int .i64 20]) w1)
      (vIf (decide (x3 < 0))
        (Q (Value.tuple #[Value.slice none 0 0, Value.int .i64 20]) w1)
        (vIf (decide (x2 > ((n4 : Nat) : Int)))
          (Q (Value.tuple #[Value.slice none 0 0, Value.int .i64 20]) w1)
          (vIf (decide (x3 > (IntKind.wrap .i64 (((n4 : Nat) : Int) - x2))))
            (Q (Value.tuple #[Value.slice none 0 0, Value.int .i64 20]) w1)
            (jnC (F62.k6 Q) ((x2), (x3), (A3, n4, c5), ()) w1))))))
def F62.an : Ann := ⟨[], [(6, [(2, .kI .i64), (3, .kI .i64), (10, .kSl)])]⟩
theorem F62.of (x0 : Option Addr) (x1 : ByteArray) (x2 : Int) (x3 : Int) (w : World) {Q : Value → World → Prop} (h : F62.vc x0 x1 x2 x3 w Q) : Calls Tryz.prog 62 #[Value.pointer x0, Value.string x1, Value.int .i64 x2, Value.int .i64 x3] w (fun e w' => ∃ v, e = .returned v ∧ Q v w') := vcFn_of (A := F62.an) noCount mixed h (by kernel_rfl)
/-! ### function 63: stillage/stillageref12.Bytes -/
def F63.vc (x0 : Option Addr) (x1 : ByteArray) (w : World) (Q : Value → World → Prop) : Prop :=
  dr x0 fun b1 o2 =>
  ldB w b1 (o2 + 6) fun t3 =>
  vIf t3
  (Q (Value.tuple #[Value.slice none 0 0, Value.int .i64 11]) w)
  (dr x0 fun b4 o5 =>
    ldA 2 w b4 (o5 + 2) fun a6 =>
    Calls Tryz.prog 55 #[ofL a6, Value.string x1] w fun e8 w7 =>
    ∃ i9 : Int, ∃ t10 : Bool, e8 = .returned (Value.tuple #[Value.int .i64 i9, Value.bool t10]) ∧ (
      vIf (!t10)
      (Q (Value.tuple #[Value.slice none 0 0, Value.int .i64 6]) w7)
      (Calls Tryz.prog 87 #[Value.pointer x0, Value.int .i64 i9] w7 fun e12 w11 =>
        ∃ a13 : List Value, e12 = .returned (ofL a13) ∧ (
          nw w11 [Value.slice none 0 0, Value.slice none 0 0] 74 fun b14 w15 =>
          gd (a13.length == 2) <|
          st w15 b14 0 a13 fun w16 =>
          ldSl w16 b14 0 fun A17 n18 c19 =>
          ldSl w16 b14 (0 + 1) fun A20 n21 c22 =>
          Calls Tryz.prog 88 #[Value.slice A17 n18 c19, Value.slice A20 n21 c22] w16 fun e24 w23 =>
          ∃ (A25 : Option Addr) (n26 c27 : Nat), e24 = .returned (Value.slice A25 n26 c27) ∧ (
            Q (Value.tuple #[Value.slice A25 n26 c27, Value.int .i64 0]) w23)))))
def F63.an : Ann := ⟨[], []⟩
theorem F63.of (x0 : Option Addr) (x1 : ByteArray) (w : World) {Q : Value → World → Prop} (h : F63.vc x0 x1 w Q) : Calls Tryz.prog 63 #[Value.pointer x0, Value.string x1] w (fun e w' => ∃ v, e = .returned v ∧ Q v w') := vcFn_of (A := F63.an) noCount mixed h (by kernel_rfl)
/-! ### function 64: (*stillage/disk.Disk).Cut$1 -/
def F64.vc (x0 : Nat × Nat) (x1 : Nat × Nat) (x2 : Nat × Nat) (w : World) (Q : Value → World → Prop) : Prop :=
  ldP w x0.1 x0.2 fun p1 =>
  ldS w x1.1 x1.2 fun s2 =>
  Calls Tryz.prog 39 #[Value.pointer p1, Value.string s2, Value.func (.func 65) #[] #[Value.pointer (some ⟨x2.1, x2.2, none⟩)]] w fun e4 w3 =>
  ∃ i5 : Int, e4 = .returned (Value.int .i64 i5) ∧ (
    Q (Value.int .i64 i5) w3)
def F64.an : Ann := ⟨[], []⟩
theorem F64.of (x0 : Nat × Nat) (x1 : Nat × Nat) (x2 : Nat × Nat) (w : World) {Q : Value → World → Prop} (h : F64.vc x0 x1 x2 w Q) : Calls Tryz.prog 64 #[Value.pointer (some ⟨x0.1, x0.2, none⟩), Value.pointer (some ⟨x1.1, x1.2, none⟩), Value.pointer (some ⟨x2.1, x2.2, none⟩)] w (fun e w' => ∃ v, e = .returned v ∧ Q v w') := vcFn_of (A := F64.an) noCount mixed h (by kernel_rfl)
/-! ### function 65: (*stillage/disk.Disk).Cut$1$1 -/
def F65.vc (x0 : List Value) (x1 : Nat × Nat) (w : World) (Q : Value → World → Prop) : Prop :=
  nw w x0 74 fun b1 w2 =>
  nw w2 [Value.slice none 0 0, Value.slice none 0 0] 74 fun b3 w4 =>
  ldA 2 w4 b1 0 fun a5 =>
  ldI .i64 w4 x1.1 x1.2 fun i6 =>
  Calls Tryz.prog 66 #[ofL a5, Value.int .i64 i6] w4 fun e8 w7 =>
  ∃ a9 : List Value, ∃ i10 : Int, e8 = .returned (Value.tuple #[ofL a9, Value.int .i64 i10]) ∧ (
    gd (a9.length == 2) <|
    st w7 b3 0 a9 fun w11 =>
    ldA 2 w11 b3 0 fun a12 =>
    Q (Value.tuple #[ofL a12, Value.int .i64 i10]) w11)
def F65.an : Ann := ⟨[], []⟩
theorem F65.of (x0 : List Value) (x1 : Nat × Nat) (w : World) {Q : Value → World → Prop} (h : F65.vc x0 x1 w Q) : Calls Tryz.prog 65 #[ofL x0, Value.pointer (some ⟨x1.1, x1.2, none⟩)] w (fun e w' => ∃ v, e = .returned v ∧ Q v w') := vcFn_of (A := F65.an) noCount mixed h (by kernel_rfl)
/-! ### function 66: stillage/inode.Cut -/
def F66.k3c (Q : Value → World → Prop) (x1 : Int) (x2 : (Nat × Nat)) (x4 : (Nat × Nat)) (w : World) : Prop :=
  ldA 2 w x2.1 x2.2 fun a8 =>
  gd (([Value.bool true] ++ ([Value.int .i64 x1] ++ ([Value.slice none 0 0] ++ []))).length == 3) <|
  nw w (([Value.bool true] ++ ([Value.int .i64 x1] ++ ([Value.slice none 0 0] ++ []))) ++ []) 124 fun b9 w10 =>
  Calls Tryz.prog 76 #[ofL a8, Value.slice (some ⟨b9, 0, none⟩) 1 1] w10 fun e12 w11 =>
  ∃ a13 : List Value, e12 = .returned (ofL a13) ∧ (
    gd (a13.length == 2) <|
    st w11 x4.1 x4.2 a13 fun w14 =>
    ldA 2 w14 x4.1 x4.2 fun a15 =>
    Q (Value.tuple #[ofL a15, Value.int .i64 0]) w14)
def F66.k3 (Q : Value → World → Prop) : (Int × (Nat × Nat) × (Nat × Nat) × Unit) → World → Prop := fun s w => ∀ _ : Nat → Value, F66.k3c Q s.1 s.2.1 s.2.2.1 w
def F66.k2c (Q : Value → World → Prop) (x1 : Int) (x2 : (Nat × Nat)) (x4 : (Nat × Nat)) (x14 : Bool) (w : World) : Prop :=
  vIf x14
  (ldA 2 w x2.1 x2.2 fun a5 =>
    gd (a5.length == 2) <|
    st w x4.1 x4.2 a5 fun w6 =>
    ldA 2 w6 x4.1 x4.2 fun a7 =>
    Q (Value.tuple #[ofL a7, Value.int .i64 20]) w6)
  (jnC (F66.k3 Q) ((x1), (x2.1, x2.2), (x4.1, x4.2), ()) w)
def F66.k2 (Q : Value → World → Prop) : (Int × (Nat × Nat) × (Nat × Nat) × Bool × Unit) → World → Prop := fun s w => ∀ _ : Nat → Value, F66.k2c Q s.1 s.2.1 s.2.2.1 s.2.2.2.1 w
def F66.vc (x0 : List Value) (x1 : Int) (w : World) (Q : Value → World → Prop) : Prop :=
  nw w x0 74 fun b1 w2 =>
  nw w2 [Value.slice none 0 0, Value.slice none 0 0] 74 fun b3 w4 =>
  vIf (decide (x1 < 0))
  (jnC (F66.k2 Q) ((x1), (b1, 0), (b3, 0), true, ()) w4)
  (ldA 2 w4 b1 0 fun a16 =>
    Calls Tryz.prog 51 #[ofL a16] w4 fun e18 w17 =>
    ∃ (A19 : Option Addr) (n20 c21 : Nat), e18 = .returned (Value.slice A19 n20 c21) ∧ (
      jnC (F66.k2 Q) ((x1), (b1, 0), (b3, 0), (decide (x1 > ((n20 : Nat) : Int))), ()) w17))
def F66.an : Ann := ⟨[], [(2, [(1, .kI .i64), (2, .kL), (4, .kL), (14, .kB)]), (3, [(1, .kI .i64), (2, .kL), (4, .kL)])]⟩
theorem F66.of (x0 : List Value) (x1 : Int) (w : World) {Q : Value → World → Prop} (h : F66.vc x0 x1 w Q) : Calls Tryz.prog 66 #[ofL x0, Value.int .i64 x1] w (fun e w' => ∃ v, e = .returned v ∧ Q v w') := vcFn_of (A := F66.an) noCount mixed h (by kernel_rfl)
/-! ### function 67: (*stillage/disk.Disk).Rename$1 -/
def F67.vc (x0 : Nat × Nat) (x1 : Nat × Nat) (x2 : Nat × Nat) (w : World) (Q : Value → World → Prop) : Prop :=
  ldP w x0.1 x0.2 fun p1 =>
  ldS w x1.1 x1.2 fun s2 =>
  ldS w x2.1 x2.2 fun s3 =>
  Calls Tryz.prog 37 #[Value.pointer p1, ofL ([Value.int .i64 2] ++ ([Value.string s2] ++ ([Value.string s3] ++ ([Value.int .i64 0] ++ []))))] w fun e5 w4 =>
  ∃ i6 : Int, e5 = .returned (Value.int .i64 i6) ∧ (
    Q (Value.int .i64 i6) w4)
def F67.an : Ann := ⟨[], []⟩
theorem F67.of (x0 : Nat × Nat) (x1 : Nat × Nat) (x2 : Nat × Nat) (w : World) {Q : Value → World → Prop} (h : F67.vc x0 x1 x2 w Q) : Calls Tryz.prog 67 #[Value.pointer (some ⟨x0.1, x0.2, none⟩), Value.pointer (some ⟨x1.1, x1.2, none⟩), Value.pointer (some ⟨x2.1, x2.2, none⟩)] w (fun e w' => ∃ v, e = .returned v ∧ Q v w') := vcFn_of (A := F67.an) noCount mixed h (by kernel_rfl)
/-! ### function 68: (*stillage/disk.Disk).Remove$1 -/
def F68.vc (x0 : Nat × Nat) (x1 : Nat × Nat) (w : World) (Q : Value → World → Prop) : Prop :=
  ldP w x0.1 x0.2 fun p1 =>
  ldS w x1.1 x1.2 fun s2 =>
  Calls Tryz.prog 37 #[Value.pointer p1, ofL ([Value.int .i64 3] ++ ([Value.string s2] ++ ([Value.string (⟨#[]⟩ : ByteArray)] ++ ([Value.int .i64 0] ++ []))))] w fun e4 w3 =>
  ∃ i5 : Int, e4 = .returned (Value.int .i64 i5) ∧ (
    Q (Value.int .i64 i5) w3)
def F68.an : Ann := ⟨[], []⟩
theorem F68.of (x0 : Nat × Nat) (x1 : Nat × Nat) (w : World) {Q : Value → World → Prop} (h : F68.vc x0 x1 w Q) : Calls Tryz.prog 68 #[Value.pointer (some ⟨x0.1, x0.2, none⟩), Value.pointer (some ⟨x1.1, x1.2, none⟩)] w (fun e w' => ∃ v, e = .returned v ∧ Q v w') := vcFn_of (A := F68.an) noCount mixed h (by kernel_rfl)
/-! ### function 69: stillage/folder.behind -/
def F69.b3c (Q : Value → World → Prop) (C3 : ((Option Addr × Nat × Nat) × (Option Addr × Nat × Nat) × Int × Int × Unit) → World → Prop) (x5 : (Option Addr × Nat × Nat)) (x18 : (Option Addr × Nat × Nat)) (x19 : Int) (x20 : Int) (w : World) : Prop :=
  vIf (decide (x20 < x19))
  (dr x18.1 fun b15 o16 =>
    gd (decide (0 ≤ x20)) <|
    gd (decide (x20 < ((x18.2.1 : Nat) : Int))) <|
    ldA 4 w b15 (o16 + (x20).toNat * 4) fun a17 =>
    nw w Z82 82 fun b18 w19 =>
    gd (a17.length == 4) <|
    st w19 b18 0 a17 fun w20 =>
    ldA 4 w20 b18 0 fun a21 =>
    Calls Tryz.prog 90 #[Value.slice x5.1 x5.2.1 x5.2.2, ofL a21] w20 fun e23 w22 =>
    ∃ (A24 : Option Addr) (n25 c26 : Nat), e23 = .returned (Value.slice A24 n25 c26) ∧ (
      jnC C3 ((A24, n25, c26), (x18.1, x18.2.1, x18.2.2), (x19), ((IntKind.wrap .i64 (x20 + 1))), ()) w22))
  (Q (Value.slice x5.1 x5.2.1 x5.2.2) w)
def F69.b3 (Q : Value → World → Prop) : ((Option Addr × Nat × Nat) × (Option Addr × Nat × Nat) × Int × Int × Unit) → World → (((Option Addr × Nat × Nat) × (Option Addr × Nat × Nat) × Int × Int × Unit) → World → Prop) → Prop := fun s w C3 => ∀ _ : Nat → Value, F69.b3c Q C3 s.1 s.2.1 s.2.2.1 s.2.2.2.1 w
def F69.l3 (Q : Value → World → Prop) : ((Option Addr × Nat × Nat) × (Option Addr × Nat × Nat) × Int × Int × Unit) → World → Prop := fun s w => ∃ n, loopC (F69.b3 Q) n s w
def F69.vc (x0 : List Value) (x1 : Int) (w : World) (Q : Value → World → Prop) : Prop :=
  nw w x0 64 fun b1 w2 =>
  ldA 2 w2 b1 0 fun a3 =>
  Calls Tryz.prog 89 #[ofL a3] w2 fun e5 w4 =>
  ∃ (A6 : Option Addr) (n7 c8 : Nat), e5 = .returned (Value.slice A6 n7 c8) ∧ (
    ldSl w4 b1 (0 + 1) fun A9 n10 c11 =>
    ldSl w4 b1 (0 + 1) fun A12 n13 c14 =>
    gd (decide (0 ≤ (if 0 < (if ((n13 : Nat) : Int) < x1 then ((n13 : Nat) : Int) else x1) then (if ((n13 : Nat) : Int) < x1 then ((n13 : Nat) : Int) else x1) else 0))) <|
    gd (decide ((if 0 < (if ((n13 : Nat) : Int) < x1 then ((n13 : Nat) : Int) else x1) then (if ((n13 : Nat) : Int) < x1 then ((n13 : Nat) : Int) else x1) else 0) ≤ ((c11 : Nat) : Int))) <|
    jnC (F69.l3 Q) ((A6, n7, c8), ((slA A9 c11 0 4), ((if 0 < (if ((n13 : Nat) : Int) < x1 then ((n13 : Nat) : Int) else x1) then (if ((n13 : Nat) : Int) < x1 then ((n13 : Nat) : Int) else x1) else 0)).toNat, c11), (((((if 0 < (if ((n13 : Nat) : Int) < x1 then ((n13 : Nat) : Int) else x1) then (if ((n13 : Nat) : Int) < x1 then ((n13 : Nat) : Int) else x1) else 0)).toNat : Nat) : Int)), (0), ()) w4)
def F69.an : Ann := ⟨[(3, [(5, .kSl), (18, .kSl), (19, .kI .i64), (20, .kI .i64)])], []⟩
theorem F69.of (x0 : List Value) (x1 : Int) (w : World) {Q : Value → World → Prop} (h : F69.vc x0 x1 w Q) : Calls Tryz.prog 69 #[ofL x0, Value.int .i64 x1] w (fun e w' => ∃ v, e = .returned v ∧ Q v w') := vcFn_of (A := F69.an) noCount mixed h (by kernel_rfl)
/-! ### function 71: slices.Compact[[]int,int] -/
def F71.k15c (Q : Value → World → Prop) (C4 : ((Option Addr × Nat × Nat) × Int × Unit) → World → Prop) (x0 : (Option Addr × Nat × Nat)) (x3 : Int) (w : World) : Prop :=
  gd (decide (0 ≤ x3)) <|
  gd (decide (x3 ≤ ((x0.2.2 : Nat) : Int))) <|
  Q (Value.slice (slA x0.1 x0.2.2 0 1) (x3).toNat x0.2.2) w
def F71.k15 (Q : Value → World → Prop) (C4 : ((Option Addr × Nat × Nat) × Int × Unit) → World → Prop) : ((Option Addr × Nat × Nat) × Int × Unit) → World → Prop := fun s w => ∀ _ : Nat → Value, F71.k15c Q C4 s.1 s.2.1 w
def F71.b9c (Q : Value → World → Prop) (C4 : ((Option Addr × Nat × Nat) × Int × Unit) → World → Prop) (C9 : ((Option Addr × Nat × Nat) × Int × (Option Addr × Nat × Nat) × Int × Unit) → World → Prop) (x0 : (Option Addr × Nat × Nat)) (x3 : Int) (x4 : (Option Addr × Nat × Nat)) (x5 : Int) (w : World) : Prop :=
  vIf (decide (x5 < ((x4.2.1 : Nat) : Int)))
  (dr x4.1 fun b7 o8 =>
    gd (decide (0 ≤ x5)) <|
    gd (decide (x5 < ((x4.2.1 : Nat) : Int))) <|
    ldI .i64 w.drew b7 (o8 + (x5).toNat * 1) fun i9 =>
    dr x4.1 fun b10 o11 =>
    gd (decide (0 ≤ (IntKind.wrap .i64 (x5 - 1)))) <|
    gd (decide ((IntKind.wrap .i64 (x5 - 1)) < ((x4.2.1 : Nat) : Int))) <|
    ldI .i64 w.drew b10 (o11 + ((IntKind.wrap .i64 (x5 - 1))).toNat * 1) fun i12 =>
    vIf (i9 != i12)
    (dr x4.1 fun b13 o14 =>
      gd (decide (0 ≤ x5)) <|
      gd (decide (x5 < ((x4.2.1 : Nat) : Int))) <|
      ldI .i64 w.drew b13 (o14 + (x5).toNat * 1) fun i15 =>
      dr x0.1 fun b16 o17 =>
      gd (decide (0 ≤ x3)) <|
      gd (decide (x3 < ((x0.2.1 : Nat) : Int))) <|
      st w.drew b16 (o17 + (x3).toNat * 1) [Value.int .i64 i15] fun w18 =>
      jnC C9 ((x0.1, x0.2.1, x0.2.2), ((IntKind.wrap .i64 (x3 + 1))), (x4.1, x4.2.1, x4.2.2), ((IntKind.wrap .i64 (x5 + 1))), ()) w18)
    (jnC C9 ((x0.1, x0.2.1, x0.2.2), (x3), (x4.1, x4.2.1, x4.2.2), ((IntKind.wrap .i64 (x5 + 1))), ()) w.drew))
  (gd (decide (0 ≤ x3)) <|
    gd (decide (x3 ≤ ((x0.2.1 : Nat) : Int))) <|
    vIf ((x0.2.1 - (x3).toNat) == 0)
    (jnC (F71.k15 Q C4) ((x0.1, x0.2.1, x0.2.2), (x3), ()) w)
    (dr (slA x0.1 x0.2.2 (x3).toNat 1) fun b20 o21 =>
      st w b20 o21 (zeros (x0.2.1 - (x3).toNat) [Value.int .i64 0]) fun w19 =>
      jnC (F71.k15 Q C4) ((x0.1, x0.2.1, x0.2.2), (x3), ()) w19))
def F71.b9 (Q : Value → World → Prop) (C4 : ((Option Addr × Nat × Nat) × Int × Unit) → World → Prop) : ((Option Addr × Nat × Nat) × Int × (Option Addr × Nat × Nat) × Int × Unit) → World → (((Option Addr × Nat × Nat) × Int × (Option Addr × Nat × Nat) × Int × Unit) → World → Prop) → Prop := fun s w C9 => ∀ _ : Nat → Value, F71.b9c Q C4 C9 s.1 s.2.1 s.2.2.1 s.2.2.2.1 w
def F71.l9 (Q : Value → World → Prop) (C4 : ((Option Addr × Nat × Nat) × Int × Unit) → World → Prop) : ((Option Addr × Nat × Nat) × Int × (Option Addr × Nat × Nat) × Int × Unit) → World → Prop := fun s w => ∃ n, loopC (F71.b9 Q C4) n s w
def F71.b4c (Q : Value → World → Prop) (C4 : ((Option Addr × Nat × Nat) × Int × Unit) → World → Prop) (x0 : (Option Addr × Nat × Nat)) (x3 : Int) (w : World) : Prop :=
  vIf (decide (x3 < ((x0.2.1 : Nat) : Int)))
  (dr x0.1 fun b1 o2 =>
    gd (decide (0 ≤ x3)) <|
    gd (decide (x3 < ((x0.2.1 : Nat) : Int))) <|
    ldI .i64 w.drew b1 (o2 + (x3).toNat * 1) fun i3 =>
    dr x0.1 fun b4 o5 =>
    gd (decide (0 ≤ (IntKind.wrap .i64 (x3 - 1)))) <|
    gd (decide ((IntKind.wrap .i64 (x3 - 1)) < ((x0.2.1 : Nat) : Int))) <|
    ldI .i64 w.drew b4 (o5 + ((IntKind.wrap .i64 (x3 - 1))).toNat * 1) fun i6 =>
    vIf (i3 == i6)
    (gd (decide (0 ≤ x3)) <|
      gd (decide (x3 ≤ ((x0.2.1 : Nat) : Int))) <|
      jnC (F71.l9 Q C4) ((x0.1, x0.2.1, x0.2.2), (x3), ((slA x0.1 x0.2.2 (x3).toNat 1), (x0.2.1 - (x3).toNat), (x0.2.2 - (x3).toNat)), (1), ()) w.drew)
    (jnC C4 ((x0.1, x0.2.1, x0.2.2), ((IntKind.wrap .i64 (x3 + 1))), ()) w.drew))
  (Q (Value.slice x0.1 x0.2.1 x0.2.2) w)
def F71.b4 (Q : Value → World → Prop) : ((Option Addr × Nat × Nat) × Int × Unit) → World → (((Option Addr × Nat × Nat) × Int × Unit) → World → Prop) → Prop := fun s w C4 => ∀ _ : Nat → Value, F71.b4c Q C4 s.1 s.2.1 w
def F71.l4 (Q : Value → World → Prop) : ((Option Addr × Nat × Nat) × Int × Unit) → World → Prop := fun s w => ∃ n, loopC (F71.b4 Q) n s w
def F71.vc (x0A : Option Addr) (x0n x0c : Nat) (w : World) (Q : Value → World → Prop) : Prop :=
  vIf (decide (((x0n : Nat) : Int) < 2))
  (Q (Value.slice x0A x0n x0c) w)
  (jnC (F71.l4 Q) ((x0A, x0n, x0c), (1), ()) w)
def F71.an : Ann := ⟨[(4, [(0, .kSl), (3, .kI .i64)]), (9, [(0, .kSl), (3, .kI .i64), (4, .kSl), (5, .kI .i64)])], [(15, [(0, .kSl), (3, .kI .i64)])]⟩
theorem F71.of (x0A : Option Addr) (x0n x0c : Nat) (w : World) {Q : Value → World → Prop} (h : F71.vc x0A x0n x0c w Q) : Calls Tryz.prog 71 #[Value.slice x0A x0n x0c] w (fun e w' => ∃ v, e = .returned v ∧ Q v w') := vcFn_of (A := F71.an) noCount mixed h (by kernel_rfl)
end Go.Proofs.YtfdhaeglhkmmpaaGreat
/- PRINTED BY MY OWN gen.py out of the translation: each function as a proposition. -/
namespace Go.Proofs.YtfdhaeglhkmmpaaGreat
open Go.GV
set_option linter.unusedVariables false
set_option maxRecDepth 100000
/-! ### function 72: stillage/writes.Survive -/
def F72.vc (x0A : Option Addr) (x0n x0c : Nat) (x1A : Option Addr) (x1n x1c : Nat) (x2A : Option Addr) (x2n x2c : Nat) (w : World) (Q : Value → World → Prop) : Prop :=
  nw w [Value.slice x2A x2n x2c] 23 fun b1 w2 =>
  Calls Tryz.prog 93 #[Value.slice x0A x0n x0c, Value.slice x1A x1n x1c, Value.func (.func 94) #[] #[Value.pointer (some ⟨b1, 0, none⟩)]] w2 fun e4 w3 =>
  ∃ (A5 : Option Addr) (n6 c7 : Nat), e4 = .returned (Value.slice A5 n6 c7) ∧ (
    Q (Value.slice A5 n6 c7) w3)
def F72.an : Ann := ⟨[], []⟩
theorem F72.of (x0A : Option Addr) (x0n x0c : Nat) (x1A : Option Addr) (x1n x1c : Nat) (x2A : Option Addr) (x2n x2c : Nat) (w : World) {Q : Value → World → Prop} (h : F72.vc x0A x0n x0c x1A x1n x1c x2A x2n x2c w Q) : Calls Tryz.prog 72 #[Value.slice x0A x0n x0c, Value.slice x1A x1n x1c, Value.slice x2A x2n x2c] w (fun e w' => ∃ v, e = .returned v ∧ Q v w') := vcFn_of (A := F72.an) noCount mixed h (by kernel_rfl)
/-! ### function 73: slices.Clone[[]byte,byte] -/
def F73.vc (x0A : Option Addr) (x0n x0c : Nat) (w : World) (Q : Value → World → Prop) : Prop :=
  vIf x0A.isNone
  (Q (Value.slice none 0 0) w)
  (nw w [] 5 fun b1 w2 =>
    app w2 1 1 [Value.int .u8 0] 5 (some ⟨b1, 0, none⟩) 0 0 (Value.slice x0A x0n x0c) fun A3 n4 c5 w6 =>
    Q (Value.slice A3 n4 c5) w6)
def F73.an : Ann := ⟨[], []⟩
theorem F73.of (x0A : Option Addr) (x0n x0c : Nat) (w : World) {Q : Value → World → Prop} (h : F73.vc x0A x0n x0c w Q) : Calls Tryz.prog 73 #[Value.slice x0A x0n x0c] w (fun e w' => ∃ v, e = .returned v ∧ Q v w') := vcFn_of (A := F73.an) noCount mixed h (by kernel_rfl)
/-! ### function 74: stillage/folder.Do -/
def F74.vc (x0 : List Value) (x1 : List Value) (w : World) (Q : Value → World → Prop) : Prop :=
  nw w x0 64 fun b1 w2 =>
  nw w2 x1 82 fun b3 w4 =>
  nw w4 [Value.slice none 0 0, Value.slice none 0 0] 64 fun b5 w6 =>
  ldA 2 w6 b1 0 fun a7 =>
  ldA 4 w6 b3 0 fun a8 =>
  Calls Tryz.prog 96 #[ofL a7, ofL a8] w6 fun e10 w9 =>
  ∃ i11 : Int, e10 = .returned (Value.int .i64 i11) ∧ (
    vIf (i11 != 0)
    (ldA 2 w9 b1 0 fun a12 =>
      gd (a12.length == 2) <|
      st w9 b5 0 a12 fun w13 =>
      ldA 2 w13 b5 0 fun a14 =>
      Q (Value.tuple #[ofL a14, Value.int .i64 i11]) w13)
    (ldSl w9.drew b1 0 fun A15 n16 c17 =>
      ldSl w9.drew b1 (0 + 1) fun A18 n19 c20 =>
      ldA 4 w9.drew b3 0 fun a21 =>
      (Calls Tryz.prog 97 #[Value.slice A18 n19 c20] w9.drew fun e23 w22 =>
        ∃ (A24 : Option Addr) (n25 c26 : Nat), e23 = .returned (Value.slice A24 n25 c26) ∧ (
          kp w9.drew b3 0 4 w22 <|
          kp w9.drew b1 0 1 w22 <|
          gd (a21.length == 4) <|
          nw w22 (a21 ++ []) 82 fun b27 w28 =>
          kp w9.drew b1 (0 + 1) 1 w28 <|
          kp w9.drew b1 0 1 w28 <|
          app w28 4 48 Z82 82 A24 n25 c26 (Value.slice (some ⟨b27, 0, none⟩) 1 1) fun A29 n30 c31 w32 =>
          kp w9.drew b1 0 1 w32 <|
          gd (([Value.slice A15 n16 c17] ++ ([Value.slice A29 n30 c31] ++ [])).length == 2) <|
          st w32 b5 0 ([Value.slice A15 n16 c17] ++ ([Value.slice A29 n30 c31] ++ [])) fun w33 =>
          ldA 2 w33 b5 0 fun a34 =>
          Q (Value.tuple #[ofL a34, Value.int .i64 0]) w33)) ∧
      (gd (a21.length == 4) <|
        nw w9.drew (a21 ++ []) 82 fun b35 w36 =>
        kp w9.drew b1 (0 + 1) 1 w36 <|
        kp w9.drew b1 0 1 w36 <|
        Calls Tryz.prog 97 #[Value.slice A18 n19 c20] w36 fun e38 w37 =>
        ∃ (A39 : Option Addr) (n40 c41 : Nat), e38 = .returned (Value.slice A39 n40 c41) ∧ (
          kp w9.drew b3 0 4 w37 <|
          kp w9.drew b1 0 1 w37 <|
          app w37 4 48 Z82 82 A39 n40 c41 (Value.slice (some ⟨b35, 0, none⟩) 1 1) fun A42 n43 c44 w45 =>
          kp w9.drew b1 0 1 w45 <|
          gd (([Value.slice A15 n16 c17] ++ ([Value.slice A42 n43 c44] ++ [])).length == 2) <|
          st w45 b5 0 ([Value.slice A15 n16 c17] ++ ([Value.slice A42 n43 c44] ++ [])) fun w46 =>
          ldA 2 w46 b5 0 fun a47 =>
          Q (Value.tuple #[ofL a47, Value.int .i64 0]) w46))))
def F74.an : Ann := ⟨[], []⟩
theorem F74.of (x0 : List Value) (x1 : List Value) (w : World) {Q : Value → World → Prop} (h : F74.vc x0 x1 w Q) : Calls Tryz.prog 74 #[ofL x0, ofL x1] w (fun e w' => ∃ v, e = .returned v ∧ Q v w') := vcFn_of (A := F74.an) noCount mixed h (by kernel_rfl)
/-! ### function 75: stillage/inode.Room -/
def F75.vc (x0 : List Value) (w : World) (Q : Value → World → Prop) : Prop :=
  nw w x0 74 fun b1 w2 =>
  ldSl w2 b1 0 fun A3 n4 c5 =>
  ldSl w2 b1 (0 + 1) fun A6 n7 c8 =>
  Calls Tryz.prog 98 #[Value.int .i64 ((n4 : Nat) : Int), Value.slice A6 n7 c8] w2 fun e10 w9 =>
  ∃ i11 : Int, e10 = .returned (Value.int .i64 i11) ∧ (
    Q (Value.int .i64 i11) w9)
def F75.an : Ann := ⟨[], []⟩
theorem F75.of (x0 : List Value) (w : World) {Q : Value → World → Prop} (h : F75.vc x0 w Q) : Calls Tryz.prog 75 #[ofL x0] w (fun e w' => ∃ v, e = .returned v ∧ Q v w') := vcFn_of (A := F75.an) noCount mixed h (by kernel_rfl)
/-! ### function 76: stillage/inode.with -/
def F76.vc (x0 : List Value) (x1A : Option Addr) (x1n x1c : Nat) (w : World) (Q : Value → World → Prop) : Prop :=
  nw w x0 74 fun b1 w2 =>
  nw w2 [Value.slice none 0 0, Value.slice none 0 0] 74 fun b3 w4 =>
  ldSl w4.drew b1 0 fun A5 n6 c7 =>
  ldSl w4.drew b1 (0 + 1) fun A8 n9 c10 =>
  nw w4.drew ([Value.slice A8 n9 c10] ++ ([Value.slice x1A x1n x1c] ++ [])) 72 fun b11 w12 =>
  kp w4.drew b1 0 1 w12 <|
  Calls Tryz.prog 99 #[Value.slice (some ⟨b11, 0, none⟩) 2 2] w12 fun e14 w13 =>
  ∃ (A15 : Option Addr) (n16 c17 : Nat), e14 = .returned (Value.slice A15 n16 c17) ∧ (
    kp w4.drew b1 0 1 w13 <|
    gd (([Value.slice A5 n6 c7] ++ ([Value.slice A15 n16 c17] ++ [])).length == 2) <|
    st w13 b3 0 ([Value.slice A5 n6 c7] ++ ([Value.slice A15 n16 c17] ++ [])) fun w18 =>
    ldA 2 w18 b3 0 fun a19 =>
    Q (ofL a19) w18)
def F76.an : Ann := ⟨[], []⟩
theorem F76.of (x0 : List Value) (x1A : Option Addr) (x1n x1c : Nat) (w : World) {Q : Value → World → Prop} (h : F76.vc x0 x1A x1n x1c w Q) : Calls Tryz.prog 76 #[ofL x0, Value.slice x1A x1n x1c] w (fun e w' => ∃ v, e = .returned v ∧ Q v w') := vcFn_of (A := F76.an) noCount mixed h (by kernel_rfl)
/-! ### function 77: stillage/writes.All -/
def F77.vc (x0A : Option Addr) (x0n x0c : Nat) (x1A : Option Addr) (x1n x1c : Nat) (w : World) (Q : Value → World → Prop) : Prop :=
  Calls Tryz.prog 93 #[Value.slice x0A x0n x0c, Value.slice x1A x1n x1c, Value.func (.func 100) #[] #[]] w fun e2 w1 =>
  ∃ (A3 : Option Addr) (n4 c5 : Nat), e2 = .returned (Value.slice A3 n4 c5) ∧ (
    Q (Value.slice A3 n4 c5) w1)
def F77.an : Ann := ⟨[], []⟩
theorem F77.of (x0A : Option Addr) (x0n x0c : Nat) (x1A : Option Addr) (x1n x1c : Nat) (w : World) {Q : Value → World → Prop} (h : F77.vc x0A x0n x0c x1A x1n x1c w Q) : Calls Tryz.prog 77 #[Value.slice x0A x0n x0c, Value.slice x1A x1n x1c] w (fun e w' => ∃ v, e = .returned v ∧ Q v w') := vcFn_of (A := F77.an) noCount mixed h (by kernel_rfl)
/-! ### function 78: slices.BinarySearchFunc[[]stillage/api.Named,stillage/api.Named,string] -/
def F78s.b3c (Q : Value → World → Prop) (C3 : ((Option Addr × Nat × Nat) × ByteArray × Unit × Int × Int × Int × Unit) → World → Prop) (x0 : (Option Addr × Nat × Nat)) (x1 : ByteArray) (x2 : Unit) (x8 : Int) (x9 : Int) (x10 : Int) (w : World) : Prop :=
  vIf (decide (x9 < x10))
  (dr x0.1 fun b1 o2 =>
    gd (decide (0 ≤ (IntKind.wrap .i64 (Int.fdiv (IntKind.wrap .u64 (IntKind.wrap .i64 (x9 + x10))) (2 ^ 1))))) <|
    gd (decide ((IntKind.wrap .i64 (Int.fdiv (IntKind.wrap .u64 (IntKind.wrap .i64 (x9 + x10))) (2 ^ 1))) < ((x0.2.1 : Nat) : Int))) <|
    ldA 2 w b1 (o2 + ((IntKind.wrap .i64 (Int.fdiv (IntKind.wrap .u64 (IntKind.wrap .i64 (x9 + x10))) (2 ^ 1)))).toNat * 2) fun a3 =>
    Calls Tryz.prog 79 #[ofL a3, Value.string x1] w fun e5 w4 =>
    ∃ i6 : Int, e5 = .returned (Value.int .i64 i6) ∧ (
      vIf (decide (i6 < 0))
      (jnC C3 ((x0.1, x0.2.1, x0.2.2), x1, (), (x8), ((IntKind.wrap .i64 ((IntKind.wrap .i64 (Int.fdiv (IntKind.wrap .u64 (IntKind.wrap .i64 (x9 + x10))) (2 ^ 1))) + 1))), (x10), ()) w4)
      (jnC C3 ((x0.1, x0.2.1, x0.2.2), x1, (), (x8), (x9), ((IntKind.wrap .i64 (Int.fdiv (IntKind.wrap .u64 (IntKind.wrap .i64 (x9 + x10))) (2 ^ 1)))), ()) w4)))
  (vIf (decide (x9 < x8))
    (dr x0.1 fun b7 o8 =>
      gd (decide (0 ≤ x9)) <|
      gd (decide (x9 < ((x0.2.1 : Nat) : Int))) <|
      ldA 2 w b7 (o8 + (x9).toNat * 2) fun a9 =>
      Calls Tryz.prog 79 #[ofL a9, Value.string x1] w fun e11 w10 =>
      ∃ i12 : Int, e11 = .returned (Value.int .i64 i12) ∧ (
        Q (Value.tuple #[Value.int .i64 x9, Value.bool (i12 == 0)]) w10))
    (Q (Value.tuple #[Value.int .i64 x9, Value.bool false]) w))
def F78s.b3 (Q : Value → World → Prop) : ((Option Addr × Nat × Nat) × ByteArray × Unit × Int × Int × Int × Unit) → World → (((Option Addr × Nat × Nat) × ByteArray × Unit × Int × Int × Int × Unit) → World → Prop) → Prop := fun s w C3 => ∀ _ : Nat → Value, F78s.b3c Q C3 s.1 s.2.1 s.2.2.1 s.2.2.2.1 s.2.2.2.2.1 s.2.2.2.2.2.1 w
def F78s.l3 (Q : Value → World → Prop) : ((Option Addr × Nat × Nat) × ByteArray × Unit × Int × Int × Int × Unit) → World → Prop := fun s w => ∃ n, loopC (F78s.b3 Q) n s w
def F78s.vc (x0A : Option Addr) (x0n x0c : Nat) (x1 : ByteArray) (w : World) (Q : Value → World → Prop) : Prop :=
  jnC (F78s.l3 Q) ((x0A, x0n, x0c), x1, (), (((x0n : Nat) : Int)), (0), (((x0n : Nat) : Int)), ()) w
def F78s.an : Ann := ⟨[(3, [(0, .kSl), (1, .kS), (2, .kF 79), (8, .kI .i64), (9, .kI .i64), (10, .kI .i64)])], []⟩
theorem F78s.of (x0A : Option Addr) (x0n x0c : Nat) (x1 : ByteArray) (w : World) {Q : Value → World → Prop} (h : F78s.vc x0A x0n x0c x1 w Q) : Calls Tryz.prog 78 #[Value.slice x0A x0n x0c, Value.string x1, Value.func (.func 79) #[] #[]] w (fun e w' => ∃ v, e = .returned v ∧ Q v w') := vcFn_of (A := F78s.an) noCount mixed h (by kernel_rfl)
/-! ### function 79: stillage/folder.byName -/
def F79.vc (x0 : List Value) (x1 : ByteArray) (w : World) (Q : Value → World → Prop) : Prop :=
  nw w x0 94 fun b1 w2 =>
  ldS w2 b1 0 fun s3 =>
  Calls Tryz.prog 101 #[Value.string s3, Value.string x1] w2 fun e5 w4 =>
  ∃ i6 : Int, e5 = .returned (Value.int .i64 i6) ∧ (
    Q (Value.int .i64 i6) w4)
def F79.an : Ann := ⟨[], []⟩
theorem F79.of (x0 : List Value) (x1 : ByteArray) (w : World) {Q : Value → World → Prop} (h : F79.vc x0 x1 w Q) : Calls Tryz.prog 79 #[ofL x0, Value.string x1] w (fun e w' => ∃ v, e = .returned v ∧ Q v w') := vcFn_of (A := F79.an) noCount mixed h (by kernel_rfl)
/-! ### function 80: stillage/stillageref11.find -/
def F80.b2c (Q : Value → World → Prop) (C2 : ((Option Addr × Nat × Nat) × ByteArray × Int × Unit) → World → Prop) (x0 : (Option Addr × Nat × Nat)) (x1 : ByteArray) (x6 : Int) (w : World) : Prop :=
  vIf (decide (x6 < ((x0.2.1 : Nat) : Int)))
  (dr x0.1 fun b1 o2 =>
    gd (decide (0 ≤ x6)) <|
    gd (decide (x6 < ((x0.2.1 : Nat) : Int))) <|
    ldS w b1 (o2 + (x6).toNat * 2) fun s3 =>
    vIf (s3.toList == x1.toList)
    (dr x0.1 fun b4 o5 =>
      gd (decide (0 ≤ x6)) <|
      gd (decide (x6 < ((x0.2.1 : Nat) : Int))) <|
      ldI .i64 w b4 ((o5 + (x6).toNat * 2) + 1) fun i6 =>
      Q (Value.tuple #[Value.int .i64 i6, Value.bool true]) w)
    (jnC C2 ((x0.1, x0.2.1, x0.2.2), x1, ((IntKind.wrap .i64 (x6 + 1))), ()) w))
  (Q (Value.tuple #[Value.int .i64 0, Value.bool false]) w)
def F80.b2 (Q : Value → World → Prop) : ((Option Addr × Nat × Nat) × ByteArray × Int × Unit) → World → (((Option Addr × Nat × Nat) × ByteArray × Int × Unit) → World → Prop) → Prop := fun s w C2 => ∀ _ : Nat → Value, F80.b2c Q C2 s.1 s.2.1 s.2.2.1 w
def F80.l2 (Q : Value → World → Prop) : ((Option Addr × Nat × Nat) × ByteArray × Int × Unit) → World → Prop := fun s w => ∃ n, loopC (F80.b2 Q) n s w
def F80.vc (x0A : Option Addr) (x0n x0c : Nat) (x1 : ByteArray) (w : World) (Q : Value → World → Prop) : Prop :=
  jnC (F80.l2 Q) ((x0A, x0n, x0c), x1, (0), ()) w
def F80.an : Ann := ⟨[(2, [(0, .kSl), (1, .kS), (6, .kI .i64)])], []⟩
theorem F80.of (x0A : Option Addr) (x0n x0c : Nat) (x1 : ByteArray) (w : World) {Q : Value → World → Prop} (h : F80.vc x0A x0n x0c x1 w Q) : Calls Tryz.prog 80 #[Value.slice x0A x0n x0c, Value.string x1] w (fun e w' => ∃ v, e = .returned v ∧ Q v w') := vcFn_of (A := F80.an) noCount mixed h (by kernel_rfl)
/-! ### function 81: stillage/stillageref11.Behind -/
def F81.k15c (Q : Value → World → Prop) (C7 : (Int × (Nat × Nat) × (Option Addr × Nat × Nat) × Int × Unit) → World → Prop) (x1 : Int) (x2 : (Nat × Nat)) (x5 : (Option Addr × Nat × Nat)) (x7 : Int) (x8 : (Nat × Nat)) (w : World) : Prop :=
  ldI .i64 w x8.1 x8.2 fun i55 =>
  vIf (i55 == 3)
  (ldS w x8.1 (x8.2 + 1) fun s56 =>
    Calls Tryz.prog 103 #[Value.slice x5.1 x5.2.1 x5.2.2, Value.string s56] w fun e58 w57 =>
    ∃ (A59 : Option Addr) (n60 c61 : Nat), e58 = .returned (Value.slice A59 n60 c61) ∧ (
      jnC C7 ((x1), (x2.1, x2.2), (A59, n60, c61), ((IntKind.wrap .i64 (x7 + 1))), ()) w57))
  (jnC C7 ((x1), (x2.1, x2.2), (x5.1, x5.2.1, x5.2.2), ((IntKind.wrap .i64 (x7 + 1))), ()) w)
def F81.k15 (Q : Value → World → Prop) (C7 : (Int × (Nat × Nat) × (Option Addr × Nat × Nat) × Int × Unit) → World → Prop) : (Int × (Nat × Nat) × (Option Addr × Nat × Nat) × Int × (Nat × Nat) × Unit) → World → Prop := fun s w => ∀ _ : Nat → Value, F81.k15c Q C7 s.1 s.2.1 s.2.2.1 s.2.2.2.1 s.2.2.2.2.1 w
def F81.k14c (Q : Value → World → Prop) (C7 : (Int × (Nat × Nat) × (Option Addr × Nat × Nat) × Int × Unit) → World → Prop) (x1 : Int) (x2 : (Nat × Nat)) (x5 : (Option Addr × Nat × Nat)) (x7 : Int) (x8 : (Nat × Nat)) (x9 : Int) (x65 : Bool) (w : World) : Prop :=
  vIf x65
  (ldS w.drew x8.1 (x8.2 + 1) fun s43 =>
    ldS w.drew x8.1 (x8.2 + 2) fun s44 =>
    Calls Tryz.prog 103 #[Value.slice x5.1 x5.2.1 x5.2.2, Value.string s43] w.drew fun e46 w45 =>
    ∃ (A47 : Option Addr) (n48 c49 : Nat), e46 = .returned (Value.slice A47 n48 c49) ∧ (
      kp w.drew x8.1 (x8.2 + 2) 1 w45 <|
      Calls Tryz.prog 102 #[Value.slice A47 n48 c49, ofL ([Value.string s44] ++ ([Value.int .i64 x9] ++ []))] w45 fun e51 w50 =>
      ∃ (A52 : Option Addr) (n53 c54 : Nat), e51 = .returned (Value.slice A52 n53 c54) ∧ (
        jnC (F81.k15 Q C7) ((x1), (x2.1, x2.2), (A52, n53, c54), (x7), (x8.1, x8.2), ()) w50)))
  (jnC (F81.k15 Q C7) ((x1), (x2.1, x2.2), (x5.1, x5.2.1, x5.2.2), (x7), (x8.1, x8.2), ()) w)
def F81.k14 (Q : Value → World → Prop) (C7 : (Int × (Nat × Nat) × (Option Addr × Nat × Nat) × Int × Unit) → World → Prop) : (Int × (Nat × Nat) × (Option Addr × Nat × Nat) × Int × (Nat × Nat) × Int × Bool × Unit) → World → Prop := fun s w => ∀ _ : Nat → Value, F81.k14c Q C7 s.1 s.2.1 s.2.2.1 s.2.2.2.1 s.2.2.2.2.1 s.2.2.2.2.2.1 s.2.2.2.2.2.2.1 w
def F81.k13c (Q : Value → World → Prop) (C7 : (Int × (Nat × Nat) × (Option Addr × Nat × Nat) × Int × Unit) → World → Prop) (x1 : Int) (x2 : (Nat × Nat)) (x5 : (Option Addr × Nat × Nat)) (x7 : Int) (x8 : (Nat × Nat)) (x9 : Int) (x10 : Bool) (w : World) : Prop :=
  ldI .i64 w x8.1 x8.2 fun i42 =>
  vIf (i42 == 2)
  (jnC (F81.k14 Q C7) ((x1), (x2.1, x2.2), (x5.1, x5.2.1, x5.2.2), (x7), (x8.1, x8.2), (x9), x10, ()) w)
  (jnC (F81.k14 Q C7) ((x1), (x2.1, x2.2), (x5.1, x5.2.1, x5.2.2), (x7), (x8.1, x8.2), (x9), false, ()) w)
def F81.k13 (Q : Value → World → Prop) (C7 : (Int × (Nat × Nat) × (Option Addr × Nat × Nat) × Int × Unit) → World → Prop) : (Int × (Nat × Nat) × (Option Addr × Nat × Nat) × Int × (Nat × Nat) × Int × Bool × Unit) → World → Prop := fun s w => ∀ _ : Nat → Value, F81.k13c Q C7 s.1 s.2.1 s.2.2.1 s.2.2.2.1 s.2.2.2.2.1 s.2.2.2.2.2.1 s.2.2.2.2.2.2.1 w
def F81.k9c (Q : Value → World → Prop) (C7 : (Int × (Nat × Nat) × (Option Addr × Nat × Nat) × Int × Unit) → World → Prop) (x1 : Int) (x2 : (Nat × Nat)) (x5 : (Option Addr × Nat × Nat)) (x7 : Int) (w : World) : Prop :=
  ldSl w x2.1 (x2.2 + 1) fun A20 n21 c22 =>
  dr A20 fun b23 o24 =>
  gd (decide (0 ≤ x7)) <|
  gd (decide (x7 < ((n21 : Nat) : Int))) <|
  ldA 4 w b23 (o24 + (x7).toNat * 4) fun a25 =>
  nw w Z82 82 fun b26 w27 =>
  gd (a25.length == 4) <|
  st w27 b26 0 a25 fun w28 =>
  ldS w28 b26 (0 + 1) fun s29 =>
  Calls Tryz.prog 80 #[Value.slice x5.1 x5.2.1 x5.2.2, Value.string s29] w28 fun e31 w30 =>
  ∃ i32 : Int, ∃ t33 : Bool, e31 = .returned (Value.tuple #[Value.int .i64 i32, Value.bool t33]) ∧ (
    ldI .i64 w30 b26 0 fun i34 =>
    vIf (i34 == 1)
    (ldS w30 b26 (0 + 1) fun s35 =>
      ldI .i64 w30 b26 (0 + 3) fun i36 =>
      Calls Tryz.prog 102 #[Value.slice x5.1 x5.2.1 x5.2.2, ofL ([Value.string s35] ++ ([Value.int .i64 i36] ++ []))] w30 fun e38 w37 =>
      ∃ (A39 : Option Addr) (n40 c41 : Nat), e38 = .returned (Value.slice A39 n40 c41) ∧ (
        jnC (F81.k13 Q C7) ((x1), (x2.1, x2.2), (A39, n40, c41), (x7), (b26, 0), (i32), t33, ()) w37))
    (jnC (F81.k13 Q C7) ((x1), (x2.1, x2.2), (x5.1, x5.2.1, x5.2.2), (x7), (b26, 0), (i32), t33, ()) w30))
def F81.k9 (Q : Value → World → Prop) (C7 : (Int × (Nat × Nat) × (Option Addr × Nat × Nat) × Int × Unit) → World → Prop) : (Int × (Nat × Nat) × (Option Addr × Nat × Nat) × Int × Unit) → World → Prop := fun s w => ∀ _ : Nat → Value, F81.k9c Q C7 s.1 s.2.1 s.2.2.1 s.2.2.2.1 w
def F81.b7c (Q : Value → World → Prop) (C7 : (Int × (Nat × Nat) × (Option Addr × Nat × Nat) × Int × Unit) → World → Prop) (x1 : Int) (x2 : (Nat × Nat)) (x5 : (Option Addr × Nat × Nat)) (x7 : Int) (w : World) : Prop :=
  ldSl w x2.1 (x2.2 + 1) fun A17 n18 c19 =>
  vIf (decide (x7 < ((n18 : Nat) : Int)))
  (vIf (decide (x7 < x1))
    (jnC (F81.k9 Q C7) ((x1), (x2.1, x2.2), (x5.1, x5.2.1, x5.2.2), (x7), ()) w)
    (Q (Value.slice x5.1 x5.2.1 x5.2.2) w))
  (Q (Value.slice x5.1 x5.2.1 x5.2.2) w)
def F81.b7 (Q : Value → World → Prop) : (Int × (Nat × Nat) × (Option Addr × Nat × Nat) × Int × Unit) → World → ((Int × (Nat × Nat) × (Option Addr × Nat × Nat) × Int × Unit) → World → Prop) → Prop := fun s w C7 => ∀ _ : Nat → Value, F81.b7c Q C7 s.1 s.2.1 s.2.2.1 s.2.2.2.1 w
def F81.l7 (Q : Value → World → Prop) : (Int × (Nat × Nat) × (Option Addr × Nat × Nat) × Int × Unit) → World → Prop := fun s w => ∃ n, loopC (F81.b7 Q) n s w
def F81.b3c (Q : Value → World → Prop) (C3 : (Int × (Nat × Nat) × (Option Addr × Nat × Nat) × Int × Unit) → World → Prop) (x1 : Int) (x2 : (Nat × Nat)) (x5 : (Option Addr × Nat × Nat)) (x6 : Int) (w : World) : Prop :=
  vIf (decide (x6 ≥ 0))
  (ldSl w x2.1 x2.2 fun A6 n7 c8 =>
    dr A6 fun b9 o10 =>
    gd (decide (0 ≤ x6)) <|
    gd (decide (x6 < ((n7 : Nat) : Int))) <|
    ldA 2 w b9 (o10 + (x6).toNat * 2) fun a11 =>
    Calls Tryz.prog 102 #[Value.slice x5.1 x5.2.1 x5.2.2, ofL a11] w fun e13 w12 =>
    ∃ (A14 : Option Addr) (n15 c16 : Nat), e13 = .returned (Value.slice A14 n15 c16) ∧ (
      jnC C3 ((x1), (x2.1, x2.2), (A14, n15, c16), ((IntKind.wrap .i64 (x6 - 1))), ()) w12))
  (jnC (F81.l7 Q) ((x1), (x2.1, x2.2), (x5.1, x5.2.1, x5.2.2), (0), ()) w)
def F81.b3 (Q : Value → World → Prop) : (Int × (Nat × Nat) × (Option Addr × Nat × Nat) × Int × Unit) → World → ((Int × (Nat × Nat) × (Option Addr × Nat × Nat) × Int × Unit) → World → Prop) → Prop := fun s w C3 => ∀ _ : Nat → Value, F81.b3c Q C3 s.1 s.2.1 s.2.2.1 s.2.2.2.1 w
def F81.l3 (Q : Value → World → Prop) : (Int × (Nat × Nat) × (Option Addr × Nat × Nat) × Int × Unit) → World → Prop := fun s w => ∃ n, loopC (F81.b3 Q) n s w
def F81.vc (x0 : List Value) (x1 : Int) (w : World) (Q : Value → World → Prop) : Prop :=
  nw w x0 64 fun b1 w2 =>
  ldSl w2 b1 0 fun A3 n4 c5 =>
  jnC (F81.l3 Q) ((x1), (b1, 0), (none, 0, 0), ((IntKind.wrap .i64 (((n4 : Nat) : Int) - 1))), ()) w2
def F81.an : Ann := ⟨[(3, [(1, .kI .i64), (2, .kL), (5, .kSl), (6, .kI .i64)]), (7, [(1, .kI .i64), (2, .kL), (5, .kSl), (7, .kI .i64)])], [(9, [(1, .kI .i64), (2, .kL), (5, .kSl), (7, .kI .i64)]), (13, [(1, .kI .i64), (2, .kL), (5, .kSl), (7, .kI .i64), (8, .kL), (9, .kI .i64), (10, .kB)]), (14, [(1, .kI .i64), (2, .kL), (5, .kSl), (7, .kI .i64), (8, .kL), (9, .kI .i64), (65, .kB)]), (15, [(1, .kI .i64), (2, .kL), (5, .kSl), (7, .kI .i64), (8, .kL)])]⟩
theorem F81.of (x0 : List Value) (x1 : Int) (w : World) {Q : Value → World → Prop} (h : F81.vc x0 x1 w Q) : Calls Tryz.prog 81 #[ofL x0, Value.int .i64 x1] w (fun e w' => ∃ v, e = .returned v ∧ Q v w') := vcFn_of (A := F81.an) noCount mixed h (by kernel_rfl)
/-! ### function 82: stillage/stillageref12.change -/
def F82.k5c (Q : Value → World → Prop) (x0 : Option Addr) (x6 : Int) (w : World) : Prop :=
  Calls Tryz.prog 83 #[Value.pointer x0] w fun e26 w25 =>
  e26 = .returned (Value.tuple #[]) ∧ (
    Q (Value.int .i64 x6) w25)
def F82.k5 (Q : Value → World → Prop) : (Option Addr × Int × Unit) → World → Prop := fun s w => ∀ _ : Nat → Value, F82.k5c Q s.1 s.2.1 w
def F82.k4c (Q : Value → World → Prop) (x0 : Option Addr) (x6 : Int) (x26 : Bool) (w : World) : Prop :=
  vIf x26
  (dr x0 fun b19 o20 =>
    ldI .i64 w b19 (o20 + 5) fun i21 =>
    dr x0 fun b22 o23 =>
    st w b22 (o23 + 5) [Value.int .i64 (IntKind.wrap .i64 (i21 + 1))] fun w24 =>
    jnC (F82.k5 Q) (x0, (x6), ()) w24)
  (jnC (F82.k5 Q) (x0, (x6), ()) w)
def F82.k4 (Q : Value → World → Prop) : (Option Addr × Int × Bool × Unit) → World → Prop := fun s w => ∀ _ : Nat → Value, F82.k4c Q s.1 s.2.1 s.2.2.1 w
def F82.vc (x0 : Option Addr) (x1 : List Value) (w : World) (Q : Value → World → Prop) : Prop :=
  nw w x1 82 fun b1 w2 =>
  dr x0 fun b3 o4 =>
  ldA 2 w2.drew b3 (o4 + 2) fun a5 =>
  ldA 4 w2.drew b1 0 fun a6 =>
  (Calls Tryz.prog 104 #[ofL a5, ofL a6] w2.drew fun e8 w7 =>
    ∃ a9 : List Value, ∃ i10 : Int, e8 = .returned (Value.tuple #[ofL a9, Value.int .i64 i10]) ∧ (
      nw w7 [Value.slice none 0 0, Value.slice none 0 0] 64 fun b11 w12 =>
      kp w2.drew b1 0 4 w12 <|
      kp w2.drew b3 (o4 + 2) 2 w12 <|
      gd (a9.length == 2) <|
      st w12 b11 0 a9 fun w13 =>
      ldA 2 w13 b11 0 fun a14 =>
      dr x0 fun b15 o16 =>
      gd (a14.length == 2) <|
      st w13 b15 (o16 + 2) a14 fun w17 =>
      vIf (i10 == 0)
      (ldI .i64 w17 b1 0 fun i18 =>
        jnC (F82.k4 Q) (x0, (i10), (i18 == 1), ()) w17)
      (jnC (F82.k4 Q) (x0, (i10), false, ()) w17))) ∧
  (nw w2.drew [Value.slice none 0 0, Value.slice none 0 0] 64 fun b27 w28 =>
    kp w2.drew b1 0 4 w28 <|
    kp w2.drew b3 (o4 + 2) 2 w28 <|
    Calls Tryz.prog 104 #[ofL a5, ofL a6] w28 fun e30 w29 =>
    ∃ a31 : List Value, ∃ i32 : Int, e30 = .returned (Value.tuple #[ofL a31, Value.int .i64 i32]) ∧ (
      gd (a31.length == 2) <|
      st w29 b27 0 a31 fun w33 =>
      ldA 2 w33 b27 0 fun a34 =>
      dr x0 fun b35 o36 =>
      gd (a34.length == 2) <|
      st w33 b35 (o36 + 2) a34 fun w37 =>
      vIf (i32 == 0)
      (ldI .i64 w37 b1 0 fun i38 =>
        jnC (F82.k4 Q) (x0, (i32), (i38 == 1), ()) w37)
      (jnC (F82.k4 Q) (x0, (i32), false, ()) w37)))
def F82.an : Ann := ⟨[], [(4, [(0, .kP), (6, .kI .i64), (26, .kB)]), (5, [(0, .kP), (6, .kI .i64)])]⟩
theorem F82.of (x0 : Option Addr) (x1 : List Value) (w : World) {Q : Value → World → Prop} (h : F82.vc x0 x1 w Q) : Calls Tryz.prog 82 #[Value.pointer x0, ofL x1] w (fun e w' => ∃ v, e = .returned v ∧ Q v w') := vcFn_of (A := F82.an) noCount mixed h (by kernel_rfl)
/-! ### function 83: stillage/stillageref12.tidy -/
def F83.b3c (Q : Value → World → Prop) (C3 : (Option Addr × (Option Addr × Nat × Nat) × (Option Addr × Nat × Nat) × Int × Unit) → World → Prop) (x0 : Option Addr) (x2 : (Option Addr × Nat × Nat)) (x3 : (Option Addr × Nat × Nat)) (x4 : Int) (w : World) : Prop :=
  vIf (decide (x4 < ((x2.2.1 : Nat) : Int)))
  (dr x2.1 fun b9 o10 =>
    gd (decide (0 ≤ x4)) <|
    gd (decide (x4 < ((x2.2.1 : Nat) : Int))) <|
    ldI .i64 w.drew b9 (o10 + (x4).toNat * 1) fun i11 =>
    dr x2.1 fun b12 o13 =>
    gd (decide (0 ≤ x4)) <|
    gd (decide (x4 < ((x2.2.1 : Nat) : Int))) <|
    ldI .i64 w.drew b12 (o13 + (x4).toNat * 1) fun i14 =>
    Calls Tryz.prog 87 #[Value.pointer x0, Value.int .i64 i14] w.drew fun e16 w15 =>
    ∃ a17 : List Value, e16 = .returned (ofL a17) ∧ (
      kp w.drew b9 (o10 + (x4).toNat * 1) 1 w15 <|
      gd (a17.length == 2) <|
      gd (([Value.int .i64 i11] ++ (a17 ++ [])).length == 3) <|
      nw w15 (([Value.int .i64 i11] ++ (a17 ++ [])) ++ []) 106 fun b18 w19 =>
      app w19 3 56 [Value.int .i64 0, Value.slice none 0 0, Value.slice none 0 0] 106 x3.1 x3.2.1 x3.2.2 (Value.slice (some ⟨b18, 0, none⟩) 1 1) fun A20 n21 c22 w23 =>
      jnC C3 (x0, (x2.1, x2.2.1, x2.2.2), (A20, n21, c22), ((IntKind.wrap .i64 (x4 + 1))), ()) w23))
  (dr x0 fun b24 o25 =>
    st w b24 (o25 + 4) [Value.slice x3.1 x3.2.1 x3.2.2] fun w26 =>
    Q (Value.tuple #[]) w26)
def F83.b3 (Q : Value → World → Prop) : (Option Addr × (Option Addr × Nat × Nat) × (Option Addr × Nat × Nat) × Int × Unit) → World → ((Option Addr × (Option Addr × Nat × Nat) × (Option Addr × Nat × Nat) × Int × Unit) → World → Prop) → Prop := fun s w C3 => ∀ _ : Nat → Value, F83.b3c Q C3 s.1 s.2.1 s.2.2.1 s.2.2.2.1 w
def F83.l3 (Q : Value → World → Prop) : (Option Addr × (Option Addr × Nat × Nat) × (Option Addr × Nat × Nat) × Int × Unit) → World → Prop := fun s w => ∃ n, loopC (F83.b3 Q) n s w
def F83.vc (x0 : Option Addr) (w : World) (Q : Value → World → Prop) : Prop :=
  dr x0 fun b1 o2 =>
  ldA 2 w b1 (o2 + 2) fun a3 =>
  Calls Tryz.prog 105 #[ofL a3] w fun e5 w4 =>
  ∃ (A6 : Option Addr) (n7 c8 : Nat), e5 = .returned (Value.slice A6 n7 c8) ∧ (
    jnC (F83.l3 Q) (x0, (A6, n7, c8), (none, 0, 0), (0), ()) w4)
def F83.an : Ann := ⟨[(3, [(0, .kP), (2, .kSl), (3, .kSl), (4, .kI .i64)])], []⟩
theorem F83.of (x0 : Option Addr) (w : World) {Q : Value → World → Prop} (h : F83.vc x0 w Q) : Calls Tryz.prog 83 #[Value.pointer x0] w (fun e w' => ∃ v, e = .returned v ∧ Q v w') := vcFn_of (A := F83.an) noCount mixed h (by kernel_rfl)
/-! ### function 84: stillage/stillageref12.on -/
def F84.k17c (Q : Value → World → Prop) (x0 : Option Addr) (x11 : Int) (x14 : (Nat × Nat)) (w : World) : Prop :=
  ldA 2 w x14.1 x14.2 fun a48 =>
  Calls Tryz.prog 109 #[Value.pointer x0, Value.int .i64 x11, ofL a48] w fun e50 w49 =>
  e50 = .returned (Value.tuple #[]) ∧ (
    Q (Value.int .i64 0) w49)
def F84.k17 (Q : Value → World → Prop) : (Option Addr × Int × (Nat × Nat) × Unit) → World → Prop := fun s w => ∀ _ : Nat → Value, F84.k17c Q s.1 s.2.1 s.2.2.1 w
def F84.k12c (Q : Value → World → Prop) (x0 : Option Addr) (x11 : Int) (x13 : (Nat × Nat)) (x14 : (Nat × Nat)) (x15 : Int) (w : World) : Prop :=
  vIf (x15 != 0)
  (Q (Value.int .i64 x15) w)
  (ldSl w.drew x13.1 x13.2 fun A24 n25 c26 =>
    ldSl w.drew x13.1 (x13.2 + 1) fun A27 n28 c29 =>
    ldSl w.drew x14.1 x14.2 fun A30 n31 c32 =>
    ldSl w.drew x14.1 (x14.2 + 1) fun A33 n34 c35 =>
    Calls Tryz.prog 108 #[Value.int .i64 ((n25 : Nat) : Int), Value.slice A27 n28 c29] w.drew fun e37 w36 =>
    ∃ i38 : Int, e37 = .returned (Value.int .i64 i38) ∧ (
      kp w.drew x14.1 (x14.2 + 1) 1 w36 <|
      kp w.drew x14.1 x14.2 1 w36 <|
      Calls Tryz.prog 108 #[Value.int .i64 ((n31 : Nat) : Int), Value.slice A33 n34 c35] w36 fun e40 w39 =>
      ∃ i41 : Int, e40 = .returned (Value.int .i64 i41) ∧ (
        vIf (decide (i41 > i38))
        (dr x0 fun b42 o43 =>
          ldI .i64 w39.drew b42 o43 fun i44 =>
          Calls Tryz.prog 86 #[Value.pointer x0] w39.drew fun e46 w45 =>
          ∃ i47 : Int, e46 = .returned (Value.int .i64 i47) ∧ (
            kp w39.drew b42 o43 1 w45 <|
            vIf (decide ((IntKind.wrap .i64 ((IntKind.wrap .i64 (i47 - i38)) + i41)) > i44))
            (Q (Value.int .i64 9) w45)
            (jnC (F84.k17 Q) (x0, (x11), (x14.1, x14.2), ()) w45)))
        (jnC (F84.k17 Q) (x0, (x11), (x14.1, x14.2), ()) w39.drew))))
def F84.k12 (Q : Value → World → Prop) : (Option Addr × Int × (Nat × Nat) × (Nat × Nat) × Int × Unit) → World → Prop := fun s w => ∀ _ : Nat → Value, F84.k12c Q s.1 s.2.1 s.2.2.1 s.2.2.2.1 s.2.2.2.2.1 w
def F84.vc (x0 : Option Addr) (x1 : Int) (x2 : ByteArray) (x3A : Option Addr) (x3n x3c : Nat) (x4 : Int) (w : World) (Q : Value → World → Prop) : Prop :=
  dr x0 fun b1 o2 =>
  ldA 2 w b1 (o2 + 2) fun a3 =>
  Calls Tryz.prog 55 #[ofL a3, Value.string x2] w fun e5 w4 =>
  ∃ i6 : Int, ∃ t7 : Bool, e5 = .returned (Value.tuple #[Value.int .i64 i6, Value.bool t7]) ∧ (
    vIf (!t7)
    (Q (Value.int .i64 6) w4)
    (Calls Tryz.prog 87 #[Value.pointer x0, Value.int .i64 i6] w4 fun e9 w8 =>
      ∃ a10 : List Value, e9 = .returned (ofL a10) ∧ (
        nw w8 [Value.slice none 0 0, Value.slice none 0 0] 74 fun b11 w12 =>
        gd (a10.length == 2) <|
        st w12 b11 0 a10 fun w13 =>
        ldA 2 w13 b11 0 fun a14 =>
        nw w13 [Value.slice none 0 0, Value.slice none 0 0] 74 fun b15 w16 =>
        gd (a14.length == 2) <|
        st w16 b15 0 a14 fun w17 =>
        vIf (x1 == 2)
        (ldA 2 w17 b11 0 fun a18 =>
          Calls Tryz.prog 106 #[ofL a18, Value.slice x3A x3n x3c] w17 fun e20 w19 =>
          ∃ a21 : List Value, ∃ i22 : Int, e20 = .returned (Value.tuple #[ofL a21, Value.int .i64 i22]) ∧ (
            gd (a21.length == 2) <|
            st w19 b15 0 a21 fun w23 =>
            jnC (F84.k12 Q) (x0, (i6), (b11, 0), (b15, 0), (i22), ()) w23))
        (vIf (x1 == 3)
          (ldA 2 w17 b11 0 fun a51 =>
            Calls Tryz.prog 107 #[ofL a51, Value.int .i64 x4] w17 fun e53 w52 =>
            ∃ a54 : List Value, ∃ i55 : Int, e53 = .returned (Value.tuple #[ofL a54, Value.int .i64 i55]) ∧ (
              gd (a54.length == 2) <|
              st w52 b15 0 a54 fun w56 =>
              jnC (F84.k12 Q) (x0, (i6), (b11, 0), (b15, 0), (i55), ()) w56))
          (ldSl w17 b11 0 fun A57 n58 c59 =>
            ldSl w17 b11 (0 + 1) fun A60 n61 c62 =>
            Calls Tryz.prog 88 #[Value.slice A57 n58 c59, Value.slice A60 n61 c62] w17 fun e64 w63 =>
            ∃ (A65 : Option Addr) (n66 c67 : Nat), e64 = .returned (Value.slice A65 n66 c67) ∧ (
              gd (([Value.slice A65 n66 c67] ++ ([Value.slice none 0 0] ++ [])).length == 2) <|
              st w63 b15 0 ([Value.slice A65 n66 c67] ++ ([Value.slice none 0 0] ++ [])) fun w68 =>
              jnC (F84.k12 Q) (x0, (i6), (b11, 0), (b15, 0), (0), ()) w68))))))
def F84.an : Ann := ⟨[], [(12, [(0, .kP), (11, .kI .i64), (13, .kL), (14, .kL), (15, .kI .i64)]), (17, [(0, .kP), (11, .kI .i64), (14, .kL)])]⟩
theorem F84.of (x0 : Option Addr) (x1 : Int) (x2 : ByteArray) (x3A : Option Addr) (x3n x3c : Nat) (x4 : Int) (w : World) {Q : Value → World → Prop} (h : F84.vc x0 x1 x2 x3A x3n x3c x4 w Q) : Calls Tryz.prog 84 #[Value.pointer x0, Value.int .i64 x1, Value.string x2, Value.slice x3A x3n x3c, Value.int .i64 x4] w (fun e w' => ∃ v, e = .returned v ∧ Q v w') := vcFn_of (A := F84.an) noCount mixed h (by kernel_rfl)
/-! ### function 85: stillage/stillageref10.Crash -/
def F85.vc (x0 : List Value) (x1A : Option Addr) (x1n x1c : Nat) (w : World) (Q : Value → World → Prop) : Prop :=
  nw w x0 74 fun b1 w2 =>
  nw w2 [Value.slice none 0 0, Value.slice none 0 0] 74 fun b3 w4 =>
  ldSl w4 b1 0 fun A5 n6 c7 =>
  ldSl w4 b1 (0 + 1) fun A8 n9 c10 =>
  Calls Tryz.prog 110 #[Value.slice A5 n6 c7, Value.slice A8 n9 c10, Value.slice x1A x1n x1c] w4 fun e12 w11 =>
  ∃ (A13 : Option Addr) (n14 c15 : Nat), e12 = .returned (Value.slice A13 n14 c15) ∧ (
    ldSl w11 b1 (0 + 1) fun A16 n17 c18 =>
    vIf (decide (((x1n : Nat) : Int) < ((n17 : Nat) : Int)))
    (gd (([Value.slice A13 n14 c15] ++ ([Value.slice none 0 0] ++ [])).length == 2) <|
      st w11 b3 0 ([Value.slice A13 n14 c15] ++ ([Value.slice none 0 0] ++ [])) fun w19 =>
      ldA 2 w19 b3 0 fun a20 =>
      Q (Value.tuple #[ofL a20, Value.slice none 0 0]) w19)
    (ldSl w11.drew b1 (0 + 1) fun A21 n22 c23 =>
      gd (decide (0 ≤ ((n22 : Nat) : Int))) <|
      gd (decide (((n22 : Nat) : Int) ≤ ((x1n : Nat) : Int))) <|
      gd (([Value.slice A13 n14 c15] ++ ([Value.slice none 0 0] ++ [])).length == 2) <|
      st w11.drew b3 0 ([Value.slice A13 n14 c15] ++ ([Value.slice none 0 0] ++ [])) fun w24 =>
      kp w11.drew b1 (0 + 1) 1 w24 <|
      ldA 2 w24 b3 0 fun a25 =>
      Q (Value.tuple #[ofL a25, Value.slice (slA x1A x1c (((n22 : Nat) : Int)).toNat 1) (x1n - (((n22 : Nat) : Int)).toNat) (x1c - (((n22 : Nat) : Int)).toNat)]) w24))
def F85.an : Ann := ⟨[], []⟩
theorem F85.of (x0 : List Value) (x1A : Option Addr) (x1n x1c : Nat) (w : World) {Q : Value → World → Prop} (h : F85.vc x0 x1A x1n x1c w Q) : Calls Tryz.prog 85 #[ofL x0, Value.slice x1A x1n x1c] w (fun e w' => ∃ v, e = .returned v ∧ Q v w') := vcFn_of (A := F85.an) noCount mixed h (by kernel_rfl)
/-! ### function 86: stillage/stillageref12.Taken -/
def F86.b3c (Q : Value → World → Prop) (C3 : (Option Addr × Int × Int × Unit) → World → Prop) (x0 : Option Addr) (x3 : Int) (x4 : Int) (w : World) : Prop :=
  dr x0 fun b1 o2 =>
  ldSl w b1 (o2 + 4) fun A3 n4 c5 =>
  vIf (decide (x4 < ((n4 : Nat) : Int)))
  (dr x0 fun b6 o7 =>
    ldSl w.drew b6 (o7 + 4) fun A8 n9 c10 =>
    dr A8 fun b11 o12 =>
    gd (decide (0 ≤ x4)) <|
    gd (decide (x4 < ((n9 : Nat) : Int))) <|
    ldSl w.drew b11 ((o12 + (x4).toNat * 3) + 1) fun A13 n14 c15 =>
    dr x0 fun b16 o17 =>
    ldSl w.drew b16 (o17 + 4) fun A18 n19 c20 =>
    dr A18 fun b21 o22 =>
    gd (decide (0 ≤ x4)) <|
    gd (decide (x4 < ((n19 : Nat) : Int))) <|
    ldSl w.drew b21 (((o22 + (x4).toNat * 3) + 1) + 1) fun A23 n24 c25 =>
    Calls Tryz.prog 108 #[Value.int .i64 ((n14 : Nat) : Int), Value.slice A23 n24 c25] w.drew fun e27 w26 =>
    ∃ i28 : Int, e27 = .returned (Value.int .i64 i28) ∧ (
      jnC C3 (x0, ((IntKind.wrap .i64 (x3 + i28))), ((IntKind.wrap .i64 (x4 + 1))), ()) w26))
  (Q (Value.int .i64 x3) w)
def F86.b3 (Q : Value → World → Prop) : (Option Addr × Int × Int × Unit) → World → ((Option Addr × Int × Int × Unit) → World → Prop) → Prop := fun s w C3 => ∀ _ : Nat → Value, F86.b3c Q C3 s.1 s.2.1 s.2.2.1 w
def F86.l3 (Q : Value → World → Prop) : (Option Addr × Int × Int × Unit) → World → Prop := fun s w => ∃ n, loopC (F86.b3 Q) n s w
def F86.vc (x0 : Option Addr) (w : World) (Q : Value → World → Prop) : Prop :=
  jnC (F86.l3 Q) (x0, (0), (0), ()) w
def F86.an : Ann := ⟨[(3, [(0, .kP), (3, .kI .i64), (4, .kI .i64)])], []⟩
theorem F86.of (x0 : Option Addr) (w : World) {Q : Value → World → Prop} (h : F86.vc x0 w Q) : Calls Tryz.prog 86 #[Value.pointer x0] w (fun e w' => ∃ v, e = .returned v ∧ Q v w') := vcFn_of (A := F86.an) noCount mixed h (by kernel_rfl)
/-! ### function 87: stillage/stillageref12.get -/
def F87.b2c (Q : Value → World → Prop) (C2 : (Option Addr × Int × (Nat × Nat) × Int × Unit) → World → Prop) (x0 : Option Addr) (x1 : Int) (x4 : (Nat × Nat)) (x5 : Int) (w : World) : Prop :=
  dr x0 fun b3 o4 =>
  ldSl w b3 (o4 + 4) fun A5 n6 c7 =>
  vIf (decide (x5 < ((n6 : Nat) : Int)))
  (dr x0 fun b8 o9 =>
    ldSl w b8 (o9 + 4) fun A10 n11 c12 =>
    dr A10 fun b13 o14 =>
    gd (decide (0 ≤ x5)) <|
    gd (decide (x5 < ((n11 : Nat) : Int))) <|
    ldI .i64 w b13 (o14 + (x5).toNat * 3) fun i15 =>
    vIf (i15 == x1)
    (dr x0 fun b16 o17 =>
      ldSl w b16 (o17 + 4) fun A18 n19 c20 =>
      dr A18 fun b21 o22 =>
      gd (decide (0 ≤ x5)) <|
      gd (decide (x5 < ((n19 : Nat) : Int))) <|
      ldA 2 w b21 ((o22 + (x5).toNat * 3) + 1) fun a23 =>
      gd (a23.length == 2) <|
      st w x4.1 x4.2 a23 fun w24 =>
      ldA 2 w24 x4.1 x4.2 fun a25 =>
      Q (ofL a25) w24)
    (jnC C2 (x0, (x1), (x4.1, x4.2), ((IntKind.wrap .i64 (x5 + 1))), ()) w))
  (gd (([Value.slice none 0 0] ++ ([Value.slice none 0 0] ++ [])).length == 2) <|
    st w x4.1 x4.2 ([Value.slice none 0 0] ++ ([Value.slice none 0 0] ++ [])) fun w26 =>
    ldA 2 w26 x4.1 x4.2 fun a27 =>
    Q (ofL a27) w26)
def F87.b2 (Q : Value → World → Prop) : (Option Addr × Int × (Nat × Nat) × Int × Unit) → World → ((Option Addr × Int × (Nat × Nat) × Int × Unit) → World → Prop) → Prop := fun s w C2 => ∀ _ : Nat → Value, F87.b2c Q C2 s.1 s.2.1 s.2.2.1 s.2.2.2.1 w
def F87.l2 (Q : Value → World → Prop) : (Option Addr × Int × (Nat × Nat) × Int × Unit) → World → Prop := fun s w => ∃ n, loopC (F87.b2 Q) n s w
def F87.vc (x0 : Option Addr) (x1 : Int) (w : World) (Q : Value → World → Prop) : Prop :=
  nw w [Value.slice none 0 0, Value.slice none 0 0] 74 fun b1 w2 =>
  jnC (F87.l2 Q) (x0, (x1), (b1, 0), (0), ()) w2
def F87.an : Ann := ⟨[(2, [(0, .kP), (1, .kI .i64), (4, .kL), (5, .kI .i64)])], []⟩
theorem F87.of (x0 : Option Addr) (x1 : Int) (w : World) {Q : Value → World → Prop} (h : F87.vc x0 x1 w Q) : Calls Tryz.prog 87 #[Value.pointer x0, Value.int .i64 x1] w (fun e w' => ∃ v, e = .returned v ∧ Q v w') := vcFn_of (A := F87.an) noCount mixed h (by kernel_rfl)
/-! ### function 88: stillage/stillageref09.All -/
def F88.b3c (Q : Value → World → Prop) (C3 : ((Option Addr × Nat × Nat) × (Option Addr × Nat × Nat) × Int × Unit) → World → Prop) (x1 : (Option Addr × Nat × Nat)) (x5 : (Option Addr × Nat × Nat)) (x6 : Int) (w : World) : Prop :=
  vIf (decide (x6 < ((x1.2.1 : Nat) : Int)))
  (dr x1.1 fun b5 o6 =>
    gd (decide (0 ≤ x6)) <|
    gd (decide (x6 < ((x1.2.1 : Nat) : Int))) <|
    ldA 3 w.drew b5 (o6 + (x6).toNat * 3) fun a7 =>
    dr x1.1 fun b8 o9 =>
    gd (decide (0 ≤ x6)) <|
    gd (decide (x6 < ((x1.2.1 : Nat) : Int))) <|
    ldSl w.drew b8 ((o9 + (x6).toNat * 3) + 2) fun A10 n11 c12 =>
    Calls Tryz.prog 111 #[Value.slice x5.1 x5.2.1 x5.2.2, ofL a7, Value.int .i64 ((n11 : Nat) : Int)] w.drew fun e14 w13 =>
    ∃ (A15 : Option Addr) (n16 c17 : Nat), e14 = .returned (Value.slice A15 n16 c17) ∧ (
      jnC C3 ((x1.1, x1.2.1, x1.2.2), (A15, n16, c17), ((IntKind.wrap .i64 (x6 + 1))), ()) w13))
  (Q (Value.slice x5.1 x5.2.1 x5.2.2) w)
def F88.b3 (Q : Value → World → Prop) : ((Option Addr × Nat × Nat) × (Option Addr × Nat × Nat) × Int × Unit) → World → (((Option Addr × Nat × Nat) × (Option Addr × Nat × Nat) × Int × Unit) → World → Prop) → Prop := fun s w C3 => ∀ _ : Nat → Value, F88.b3c Q C3 s.1 s.2.1 s.2.2.1 w
def F88.l3 (Q : Value → World → Prop) : ((Option Addr × Nat × Nat) × (Option Addr × Nat × Nat) × Int × Unit) → World → Prop := fun s w => ∃ n, loopC (F88.b3 Q) n s w
def F88.vc (x0A : Option Addr) (x0n x0c : Nat) (x1A : Option Addr) (x1n x1c : Nat) (w : World) (Q : Value → World → Prop) : Prop :=
  app w 1 1 [Value.int .u8 0] 5 none 0 0 (Value.slice x0A x0n x0c) fun A1 n2 c3 w4 =>
  jnC (F88.l3 Q) ((x1A, x1n, x1c), (A1, n2, c3), (0), ()) w4
def F88.an : Ann := ⟨[(3, [(1, .kSl), (5, .kSl), (6, .kI .i64)])], []⟩
theorem F88.of (x0A : Option Addr) (x0n x0c : Nat) (x1A : Option Addr) (x1n x1c : Nat) (w : World) {Q : Value → World → Prop} (h : F88.vc x0A x0n x0c x1A x1n x1c w Q) : Calls Tryz.prog 88 #[Value.slice x0A x0n x0c, Value.slice x1A x1n x1c] w (fun e w' => ∃ v, e = .returned v ∧ Q v w') := vcFn_of (A := F88.an) noCount mixed h (by kernel_rfl)
/-! ### function 89: stillage/folder.lasts -/
def F89.vc (x0 : List Value) (w : World) (Q : Value → World → Prop) : Prop :=
  nw w x0 64 fun b1 w2 =>
  ldSl w2 b1 0 fun A3 n4 c5 =>
  Calls Tryz.prog 112 #[Value.slice A3 n4 c5] w2 fun e7 w6 =>
  ∃ (A8 : Option Addr) (n9 c10 : Nat), e7 = .returned (Value.slice A8 n9 c10) ∧ (
    Calls Tryz.prog 113 #[Value.slice A8 n9 c10, Value.func (.func 114) #[] #[]] w6 fun e12 w11 =>
    e12 = .returned (Value.tuple #[]) ∧ (
      Calls Tryz.prog 115 #[Value.slice A8 n9 c10, Value.func (.func 116) #[] #[]] w11 fun e14 w13 =>
      ∃ (A15 : Option Addr) (n16 c17 : Nat), e14 = .returned (Value.slice A15 n16 c17) ∧ (
        Q (Value.slice A15 n16 c17) w13)))
def F89.an : Ann := ⟨[], []⟩
theorem F89.of (x0 : List Value) (w : World) {Q : Value → World → Prop} (h : F89.vc x0 w Q) : Calls Tryz.prog 89 #[ofL x0] w (fun e w' => ∃ v, e = .returned v ∧ Q v w') := vcFn_of (A := F89.an) noCount mixed h (by kernel_rfl)
/-! ### function 90: stillage/folder.step -/
def F90.vc (x0A : Option Addr) (x0n x0c : Nat) (x1 : List Value) (w : World) (Q : Value → World → Prop) : Prop :=
  nw w x1 82 fun b1 w2 =>
  ldI .i64 w2 b1 0 fun i3 =>
  vIf (i3 == 1)
  (ldS w2 b1 (0 + 1) fun s4 =>
    ldI .i64 w2 b1 (0 + 3) fun i5 =>
    Calls Tryz.prog 117 #[Value.slice x0A x0n x0c, Value.string s4, Value.int .i64 i5] w2 fun e7 w6 =>
    ∃ (A8 : Option Addr) (n9 c10 : Nat), e7 = .returned (Value.slice A8 n9 c10) ∧ (
      Q (Value.slice A8 n9 c10) w6))
  (vIf (i3 == 3)
    (ldS w2 b1 (0 + 1) fun s11 =>
      Calls Tryz.prog 118 #[Value.slice x0A x0n x0c, Value.string s11] w2 fun e13 w12 =>
      ∃ (A14 : Option Addr) (n15 c16 : Nat), ∃ i17 : Int, ∃ t18 : Bool, e13 = .returned (Value.tuple #[Value.slice A14 n15 c16, Value.int .i64 i17, Value.bool t18]) ∧ (
        Q (Value.slice A14 n15 c16) w12))
    (vIf (i3 == 2)
      (ldS w2 b1 (0 + 1) fun s19 =>
        Calls Tryz.prog 118 #[Value.slice x0A x0n x0c, Value.string s19] w2 fun e21 w20 =>
        ∃ (A22 : Option Addr) (n23 c24 : Nat), ∃ i25 : Int, ∃ t26 : Bool, e21 = .returned (Value.tuple #[Value.slice A22 n23 c24, Value.int .i64 i25, Value.bool t26]) ∧ (
          vIf t26
          (ldS w20 b1 (0 + 2) fun s27 =>
            Calls Tryz.prog 117 #[Value.slice A22 n23 c24, Value.string s27, Value.int .i64 i25] w20 fun e29 w28 =>
            ∃ (A30 : Option Addr) (n31 c32 : Nat), e29 = .returned (Value.slice A30 n31 c32) ∧ (
              Q (Value.slice A30 n31 c32) w28))
          (Q (Value.slice x0A x0n x0c) w20)))
      (Q (Value.slice x0A x0n x0c) w2)))
def F90.an : Ann := ⟨[], []⟩
theorem F90.of (x0A : Option Addr) (x0n x0c : Nat) (x1 : List Value) (w : World) {Q : Value → World → Prop} (h : F90.vc x0A x0n x0c x1 w Q) : Calls Tryz.prog 90 #[Value.slice x0A x0n x0c, ofL x1] w (fun e w' => ∃ v, e = .returned v ∧ Q v w') := vcFn_of (A := F90.an) noCount mixed h (by kernel_rfl)
/-! ### function 93: stillage/writes.through -/
def F93a.b3c (Q : Value → World → Prop) (C3 : (Unit × (Option Addr × Nat × Nat) × (Option Addr × Nat × Nat) × Int × Int × Unit) → World → Prop) (x2 : Unit) (x7 : (Option Addr × Nat × Nat)) (x14 : (Option Addr × Nat × Nat)) (x15 : Int) (x16 : Int) (w : World) : Prop :=
  vIf (decide (x16 < x15))
  (dr x14.1 fun b6 o7 =>
    gd (decide (0 ≤ x16)) <|
    gd (decide (x16 < ((x14.2.1 : Nat) : Int))) <|
    ldA 3 w b6 (o7 + (x16).toNat * 3) fun a8 =>
    nw w [Value.bool false, Value.int .i64 0, Value.slice none 0 0] 124 fun b9 w10 =>
    gd (a8.length == 3) <|
    st w10 b9 0 a8 fun w11 =>
    ldA 3 w11 b9 0 fun a12 =>
    Calls Tryz.prog 100 #[Value.int .i64 x16, ofL a12] w11 fun e14 w13 =>
    ∃ a15 : List Value, ∃ t16 : Bool, e14 = .returned (Value.tuple #[ofL a15, Value.bool t16]) ∧ (
      nw w13 [Value.bool false, Value.int .i64 0, Value.slice none 0 0] 124 fun b17 w18 =>
      gd (a15.length == 3) <|
      st w18 b17 0 a15 fun w19 =>
      vIf t16
      (ldA 3 w19 b17 0 fun a20 =>
        Calls Tryz.prog 130 #[Value.slice x7.1 x7.2.1 x7.2.2, ofL a20] w19 fun e22 w21 =>
        ∃ (A23 : Option Addr) (n24 c25 : Nat), e22 = .returned (Value.slice A23 n24 c25) ∧ (
          jnC C3 ((), (A23, n24, c25), (x14.1, x14.2.1, x14.2.2), (x15), ((IntKind.wrap .i64 (x16 + 1))), ()) w21))
      (jnC C3 ((), (x7.1, x7.2.1, x7.2.2), (x14.1, x14.2.1, x14.2.2), (x15), ((IntKind.wrap .i64 (x16 + 1))), ()) w19)))
  (Q (Value.slice x7.1 x7.2.1 x7.2.2) w)
def F93a.b3 (Q : Value → World → Prop) : (Unit × (Option Addr × Nat × Nat) × (Option Addr × Nat × Nat) × Int × Int × Unit) → World → ((Unit × (Option Addr × Nat × Nat) × (Option Addr × Nat × Nat) × Int × Int × Unit) → World → Prop) → Prop := fun s w C3 => ∀ _ : Nat → Value, F93a.b3c Q C3 s.1 s.2.1 s.2.2.1 s.2.2.2.1 s.2.2.2.2.1 w
def F93a.l3 (Q : Value → World → Prop) : (Unit × (Option Addr × Nat × Nat) × (Option Addr × Nat × Nat) × Int × Int × Unit) → World → Prop := fun s w => ∃ n, loopC (F93a.b3 Q) n s w
def F93a.vc (x0A : Option Addr) (x0n x0c : Nat) (x1A : Option Addr) (x1n x1c : Nat) (w : World) (Q : Value → World → Prop) : Prop :=
  Calls Tryz.prog 73 #[Value.slice x0A x0n x0c] w fun e2 w1 =>
  ∃ (A3 : Option Addr) (n4 c5 : Nat), e2 = .returned (Value.slice A3 n4 c5) ∧ (
    jnC (F93a.l3 Q) ((), (A3, n4, c5), (x1A, x1n, x1c), (((x1n : Nat) : Int)), (0), ()) w1)
def F93a.an : Ann := ⟨[(3, [(2, .kF 100), (7, .kSl), (14, .kSl), (15, .kI .i64), (16, .kI .i64)])], []⟩
theorem F93a.of (x0A : Option Addr) (x0n x0c : Nat) (x1A : Option Addr) (x1n x1c : Nat) (w : World) {Q : Value → World → Prop} (h : F93a.vc x0A x0n x0c x1A x1n x1c w Q) : Calls Tryz.prog 93 #[Value.slice x0A x0n x0c, Value.slice x1A x1n x1c, Value.func (.func 100) #[] #[]] w (fun e w' => ∃ v, e = .returned v ∧ Q v w') := vcFn_of (A := F93a.an) noCount mixed h (by kernel_rfl)
/-! ### function 93: stillage/writes.through -/
def F93b.b3c (Q : Value → World → Prop) (C3 : ((Nat × Nat) × (Option Addr × Nat × Nat) × (Option Addr × Nat × Nat) × Int × Int × Unit) → World → Prop) (x2 : (Nat × Nat)) (x7 : (Option Addr × Nat × Nat)) (x14 : (Option Addr × Nat × Nat)) (x15 : Int) (x16 : Int) (w : World) : Prop :=
  vIf (decide (x16 < x15))
  (dr x14.1 fun b6 o7 =>
    gd (decide (0 ≤ x16)) <|
    gd (decide (x16 < ((x14.2.1 : Nat) : Int))) <|
    ldA 3 w b6 (o7 + (x16).toNat * 3) fun a8 =>
    nw w [Value.bool false, Value.int .i64 0, Value.slice none 0 0] 124 fun b9 w10 =>
    gd (a8.length == 3) <|
    st w10 b9 0 a8 fun w11 =>
    ldA 3 w11 b9 0 fun a12 =>
    Calls Tryz.prog 94 #[Value.int .i64 x16, ofL a12, Value.pointer (some ⟨x2.1, x2.2, none⟩)] w11 fun e14 w13 =>
    ∃ a15 : List Value, ∃ t16 : Bool, e14 = .returned (Value.tuple #[ofL a15, Value.bool t16]) ∧ (
      nw w13 [Value.bool false, Value.int .i64 0, Value.slice none 0 0] 124 fun b17 w18 =>
      gd (a15.length == 3) <|
      st w18 b17 0 a15 fun w19 =>
      vIf t16
      (ldA 3 w19 b17 0 fun a20 =>
        Calls Tryz.prog 130 #[Value.slice x7.1 x7.2.1 x7.2.2, ofL a20] w19 fun e22 w21 =>
        ∃ (A23 : Option Addr) (n24 c25 : Nat), e22 = .returned (Value.slice A23 n24 c25) ∧ (
          jnC C3 ((x2.1, x2.2), (A23, n24, c25), (x14.1, x14.2.1, x14.2.2), (x15), ((IntKind.wrap .i64 (x16 + 1))), ()) w21))
      (jnC C3 ((x2.1, x2.2), (x7.1, x7.2.1, x7.2.2), (x14.1, x14.2.1, x14.2.2), (x15), ((IntKind.wrap .i64 (x16 + 1))), ()) w19)))
  (Q (Value.slice x7.1 x7.2.1 x7.2.2) w)
def F93b.b3 (Q : Value → World → Prop) : ((Nat × Nat) × (Option Addr × Nat × Nat) × (Option Addr × Nat × Nat) × Int × Int × Unit) → World → (((Nat × Nat) × (Option Addr × Nat × Nat) × (Option Addr × Nat × Nat) × Int × Int × Unit) → World → Prop) → Prop := fun s w C3 => ∀ _ : Nat → Value, F93b.b3c Q C3 s.1 s.2.1 s.2.2.1 s.2.2.2.1 s.2.2.2.2.1 w
def F93b.l3 (Q : Value → World → Prop) : ((Nat × Nat) × (Option Addr × Nat × Nat) × (Option Addr × Nat × Nat) × Int × Int × Unit) → World → Prop := fun s w => ∃ n, loopC (F93b.b3 Q) n s w
def F93b.vc (x0A : Option Addr) (x0n x0c : Nat) (x1A : Option Addr) (x1n x1c : Nat) (x2 : Nat × Nat) (w : World) (Q : Value → World → Prop) : Prop :=
  Calls Tryz.prog 73 #[Value.slice x0A x0n x0c] w fun e2 w1 =>
  ∃ (A3 : Option Addr) (n4 c5 : Nat), e2 = .returned (Value.slice A3 n4 c5) ∧ (
    jnC (F93b.l3 Q) ((x2.1, x2.2), (A3, n4, c5), (x1A, x1n, x1c), (((x1n : Nat) : Int)), (0), ()) w1)
def F93b.an : Ann := ⟨[(3, [(2, .kG 94), (7, .kSl), (14, .kSl), (15, .kI .i64), (16, .kI .i64)])], []⟩
theorem F93b.of (x0A : Option Addr) (x0n x0c : Nat) (x1A : Option Addr) (x1n x1c : Nat) (x2 : Nat × Nat) (w : World) {Q : Value → World → Prop} (h : F93b.vc x0A x0n x0c x1A x1n x1c x2 w Q) : Calls Tryz.prog 93 #[Value.slice x0A x0n x0c, Value.slice x1A x1n x1c, Value.func (.func 94) #[] #[Value.pointer (some ⟨x2.1, x2.2, none⟩)]] w (fun e w' => ∃ v, e = .returned v ∧ Q v w') := vcFn_of (A := F93b.an) noCount mixed h (by kernel_rfl)
/-! ### function 94: stillage/writes.Survive$1 -/
def F94.k6c (Q : Value → World → Prop) (x4 : (Nat × Nat)) (x5 : (Nat × Nat)) (w : World) : Prop :=
  ldA 3 w x4.1 x4.2 fun a24 =>
  gd (a24.length == 3) <|
  st w x5.1 x5.2 a24 fun w25 =>
  ldA 3 w25 x5.1 x5.2 fun a26 =>
  Q (Value.tuple #[ofL a26, Value.bool true]) w25
def F94.k6 (Q : Value → World → Prop) : ((Nat × Nat) × (Nat × Nat) × Unit) → World → Prop := fun s w => ∀ _ : Nat → Value, F94.k6c Q s.1 s.2.1 w
def F94.k5c (Q : Value → World → Prop) (x4 : (Nat × Nat)) (x5 : (Nat × Nat)) (x7 : Int) (x38 : Bool) (w : World) : Prop :=
  vIf x38
  (ldSl w x4.1 (x4.2 + 2) fun A20 n21 c22 =>
    gd (decide (0 ≤ x7)) <|
    gd (decide (x7 ≤ ((c22 : Nat) : Int))) <|
    st w x4.1 (x4.2 + 2) [Value.slice (slA A20 c22 0 1) (x7).toNat c22] fun w23 =>
    jnC (F94.k6 Q) ((x4.1, x4.2), (x5.1, x5.2), ()) w23)
  (jnC (F94.k6 Q) ((x4.1, x4.2), (x5.1, x5.2), ()) w)
def F94.k5 (Q : Value → World → Prop) : ((Nat × Nat) × (Nat × Nat) × Int × Bool × Unit) → World → Prop := fun s w => ∀ _ : Nat → Value, F94.k5c Q s.1 s.2.1 s.2.2.1 s.2.2.2.1 w
def F94.k3c (Q : Value → World → Prop) (x0 : Int) (x2 : (Nat × Nat)) (x4 : (Nat × Nat)) (x5 : (Nat × Nat)) (w : World) : Prop :=
  ldSl w x2.1 x2.2 fun A11 n12 c13 =>
  dr A11 fun b14 o15 =>
  gd (decide (0 ≤ x0)) <|
  gd (decide (x0 < ((n12 : Nat) : Int))) <|
  ldI .u8 w b14 (o15 + (x0).toNat * 1) fun i16 =>
  vIf (decide ((IntKind.wrap .i64 i16) < 255))
  (ldSl w x4.1 (x4.2 + 2) fun A17 n18 c19 =>
    jnC (F94.k5 Q) ((x4.1, x4.2), (x5.1, x5.2), ((IntKind.wrap .i64 i16)), (decide ((IntKind.wrap .i64 i16) < ((n18 : Nat) : Int))), ()) w)
  (jnC (F94.k5 Q) ((x4.1, x4.2), (x5.1, x5.2), ((IntKind.wrap .i64 i16)), false, ()) w)
def F94.k3 (Q : Value → World → Prop) : (Int × (Nat × Nat) × (Nat × Nat) × (Nat × Nat) × Unit) → World → Prop := fun s w => ∀ _ : Nat → Value, F94.k3c Q s.1 s.2.1 s.2.2.1 s.2.2.2.1 w
def F94.k2c (Q : Value → World → Prop) (x0 : Int) (x2 : (Nat × Nat)) (x4 : (Nat × Nat)) (x5 : (Nat × Nat)) (x23 : Bool) (w : World) : Prop :=
  vIf x23
  (ldA 3 w x4.1 x4.2 fun a8 =>
    gd (a8.length == 3) <|
    st w x5.1 x5.2 a8 fun w9 =>
    ldA 3 w9 x5.1 x5.2 fun a10 =>
    Q (Value.tuple #[ofL a10, Value.bool false]) w9)
  (jnC (F94.k3 Q) ((x0), (x2.1, x2.2), (x4.1, x4.2), (x5.1, x5.2), ()) w)
def F94.k2 (Q : Value → World → Prop) : (Int × (Nat × Nat) × (Nat × Nat) × (Nat × Nat) × Bool × Unit) → World → Prop := fun s w => ∀ _ : Nat → Value, F94.k2c Q s.1 s.2.1 s.2.2.1 s.2.2.2.1 s.2.2.2.2.1 w
def F94.vc (x0 : Int) (x1 : List Value) (x2 : Nat × Nat) (w : World) (Q : Value → World → Prop) : Prop :=
  nw w x1 124 fun b1 w2 =>
  nw w2 [Value.bool false, Value.int .i64 0, Value.slice none 0 0] 124 fun b3 w4 =>
  ldSl w4 x2.1 x2.2 fun A5 n6 c7 =>
  vIf (decide (x0 ≥ ((n6 : Nat) : Int)))
  (jnC (F94.k2 Q) ((x0), (x2.1, x2.2), (b1, 0), (b3, 0), true, ()) w4)
  (ldSl w4 x2.1 x2.2 fun A27 n28 c29 =>
    dr A27 fun b30 o31 =>
    gd (decide (0 ≤ x0)) <|
    gd (decide (x0 < ((n28 : Nat) : Int))) <|
    ldI .u8 w4 b30 (o31 + (x0).toNat * 1) fun i32 =>
    vIf (i32 == 0)
    (jnC (F94.k2 Q) ((x0), (x2.1, x2.2), (b1, 0), (b3, 0), true, ()) w4)
    (ldA 3 w4 b1 0 fun a33 =>
      Calls Tryz.prog 95 #[ofL a33] w4 fun e35 w34 =>
      ∃ t36 : Bool, e35 = .returned (Value.bool t36) ∧ (
        jnC (F94.k2 Q) ((x0), (x2.1, x2.2), (b1, 0), (b3, 0), (!t36), ()) w34)))
def F94.an : Ann := ⟨[], [(2, [(0, .kI .i64), (2, .kL), (4, .kL), (5, .kL), (23, .kB)]), (3, [(0, .kI .i64), (2, .kL), (4, .kL), (5, .kL)]), (5, [(4, .kL), (5, .kL), (7, .kI .i64), (38, .kB)]), (6, [(4, .kL), (5, .kL)])]⟩
theorem F94.of (x0 : Int) (x1 : List Value) (x2 : Nat × Nat) (w : World) {Q : Value → World → Prop} (h : F94.vc x0 x1 x2 w Q) : Calls Tryz.prog 94 #[Value.int .i64 x0, ofL x1, Value.pointer (some ⟨x2.1, x2.2, none⟩)] w (fun e w' => ∃ v, e = .returned v ∧ Q v w') := vcFn_of (A := F94.an) noCount mixed h (by kernel_rfl)
/-! ### function 95: stillage/writes.Right -/
def F95.vc (x0 : List Value) (w : World) (Q : Value → World → Prop) : Prop :=
  nw w x0 124 fun b1 w2 =>
  ldI .i64 w2 b1 (0 + 1) fun i3 =>
  vIf (decide (i3 ≥ 0))
  (ldI .i64 w2 b1 (0 + 1) fun i4 =>
    ldSl w2 b1 (0 + 2) fun A5 n6 c7 =>
    Q (Value.bool (decide (i4 ≤ (IntKind.wrap .i64 (1048576 - ((n6 : Nat) : Int)))))) w2)
  (Q (Value.bool false) w2)
def F95.an : Ann := ⟨[], []⟩
theorem F95.of (x0 : List Value) (w : World) {Q : Value → World → Prop} (h : F95.vc x0 w Q) : Calls Tryz.prog 95 #[ofL x0] w (fun e w' => ∃ v, e = .returned v ∧ Q v w') := vcFn_of (A := F95.an) noCount mixed h (by kernel_rfl)
/-! ### function 96: stillage/folder.wrong -/
def F96.k13c (Q : Value → World → Prop) (x6 : Bool) (w : World) : Prop :=
  vIf (!x6)
  (Q (Value.int .i64 6) w)
  (Q (Value.int .i64 0) w)
def F96.k13 (Q : Value → World → Prop) : (Bool × Unit) → World → Prop := fun s w => ∀ _ : Nat → Value, F96.k13c Q s.1 w
def F96.vc (x0 : List Value) (x1 : List Value) (w : World) (Q : Value → World → Prop) : Prop :=
  nw w x0 64 fun b1 w2 =>
  nw w2 x1 82 fun b3 w4 =>
  ldA 2 w4 b1 0 fun a5 =>
  ldS w4 b3 (0 + 1) fun s6 =>
  Calls Tryz.prog 52 #[ofL a5, Value.string s6] w4 fun e8 w7 =>
  ∃ i9 : Int, ∃ t10 : Bool, e8 = .returned (Value.tuple #[Value.int .i64 i9, Value.bool t10]) ∧ (
    ldI .i64 w7 b3 0 fun i11 =>
    vIf (i11 == 1)
    (ldS w7 b3 (0 + 1) fun s12 =>
      Calls Tryz.prog 53 #[Value.string s12] w7 fun e14 w13 =>
      ∃ t15 : Bool, e14 = .returned (Value.bool t15) ∧ (
        vIf (!t15)
        (Q (Value.int .i64 12) w13)
        (vIf t10
          (Q (Value.int .i64 7) w13)
          (Q (Value.int .i64 0) w13))))
    (vIf (i11 == 2)
      (vIf t10
        (ldS w7 b3 (0 + 2) fun s16 =>
          Calls Tryz.prog 53 #[Value.string s16] w7 fun e18 w17 =>
          ∃ t19 : Bool, e18 = .returned (Value.bool t19) ∧ (
            vIf (!t19)
            (Q (Value.int .i64 12) w17)
            (jnC (F96.k13 Q) (t10, ()) w17)))
        (jnC (F96.k13 Q) (t10, ()) w7))
      (vIf (i11 == 3)
        (jnC (F96.k13 Q) (t10, ()) w7)
        (Q (Value.int .i64 2) w7))))
def F96.an : Ann := ⟨[], [(13, [(6, .kB)])]⟩
theorem F96.of (x0 : List Value) (x1 : List Value) (w : World) {Q : Value → World → Prop} (h : F96.vc x0 x1 w Q) : Calls Tryz.prog 96 #[ofL x0, ofL x1] w (fun e w' => ∃ v, e = .returned v ∧ Q v w') := vcFn_of (A := F96.an) noCount mixed h (by kernel_rfl)
/-! ### function 97: slices.Clone[[]stillage/api.Change,stillage/api.Change] -/
def F97.vc (x0A : Option Addr) (x0n x0c : Nat) (w : World) (Q : Value → World → Prop) : Prop :=
  vIf x0A.isNone
  (Q (Value.slice none 0 0) w)
  (nw w [] 82 fun b1 w2 =>
    app w2 4 48 Z82 82 (some ⟨b1, 0, none⟩) 0 0 (Value.slice x0A x0n x0c) fun A3 n4 c5 w6 =>
    Q (Value.slice A3 n4 c5) w6)
def F97.an : Ann := ⟨[], []⟩
theorem F97.of (x0A : Option Addr) (x0n x0c : Nat) (w : World) {Q : Value → World → Prop} (h : F97.vc x0A x0n x0c w Q) : Calls Tryz.prog 97 #[Value.slice x0A x0n x0c] w (fun e w' => ∃ v, e = .returned v ∧ Q v w') := vcFn_of (A := F97.an) noCount mixed h (by kernel_rfl)
/-! ### function 98: stillage/writes.Peak -/
def F98.k5c (Q : Value → World → Prop) (C2 : (Int × (Option Addr × Nat × Nat) × Int × Int × Unit) → World → Prop) (x0 : Int) (x6 : (Nat × Nat)) (x7 : (Option Addr × Nat × Nat)) (x8 : Int) (x9 : Int) (x25 : Bool) (w : World) : Prop :=
  vIf x25
  (ldI .i64 w x6.1 (x6.2 + 1) fun i15 =>
    ldSl w x6.1 (x6.2 + 2) fun A16 n17 c18 =>
    jnC C2 (((if x0 < (IntKind.wrap .i64 (i15 + ((n17 : Nat) : Int))) then (IntKind.wrap .i64 (i15 + ((n17 : Nat) : Int))) else x0)), (x7.1, x7.2.1, x7.2.2), (x8), ((IntKind.wrap .i64 (x9 + 1))), ()) w)
  (jnC C2 ((x0), (x7.1, x7.2.1, x7.2.2), (x8), ((IntKind.wrap .i64 (x9 + 1))), ()) w)
def F98.k5 (Q : Value → World → Prop) (C2 : (Int × (Option Addr × Nat × Nat) × Int × Int × Unit) → World → Prop) : (Int × (Nat × Nat) × (Option Addr × Nat × Nat) × Int × Int × Bool × Unit) → World → Prop := fun s w => ∀ _ : Nat → Value, F98.k5c Q C2 s.1 s.2.1 s.2.2.1 s.2.2.2.1 s.2.2.2.2.1 s.2.2.2.2.2.1 w
def F98.b2c (Q : Value → World → Prop) (C2 : (Int × (Option Addr × Nat × Nat) × Int × Int × Unit) → World → Prop) (x0 : Int) (x7 : (Option Addr × Nat × Nat)) (x8 : Int) (x9 : Int) (w : World) : Prop :=
  vIf (decide (x9 < x8))
  (dr x7.1 fun b1 o2 =>
    gd (decide (0 ≤ x9)) <|
    gd (decide (x9 < ((x7.2.1 : Nat) : Int))) <|
    ldA 3 w b1 (o2 + (x9).toNat * 3) fun a3 =>
    nw w [Value.bool false, Value.int .i64 0, Value.slice none 0 0] 124 fun b4 w5 =>
    gd (a3.length == 3) <|
    st w5 b4 0 a3 fun w6 =>
    ldA 3 w6 b4 0 fun a7 =>
    Calls Tryz.prog 95 #[ofL a7] w6 fun e9 w8 =>
    ∃ t10 : Bool, e9 = .returned (Value.bool t10) ∧ (
      vIf t10
      (ldB w8 b4 0 fun t11 =>
        vIf (!t11)
        (ldSl w8 b4 (0 + 2) fun A12 n13 c14 =>
          jnC (F98.k5 Q C2) ((x0), (b4, 0), (x7.1, x7.2.1, x7.2.2), (x8), (x9), (decide (((n13 : Nat) : Int) > 0)), ()) w8)
        (jnC (F98.k5 Q C2) ((x0), (b4, 0), (x7.1, x7.2.1, x7.2.2), (x8), (x9), false, ()) w8))
      (jnC (F98.k5 Q C2) ((x0), (b4, 0), (x7.1, x7.2.1, x7.2.2), (x8), (x9), false, ()) w8)))
  (Q (Value.int .i64 x0) w)
def F98.b2 (Q : Value → World → Prop) : (Int × (Option Addr × Nat × Nat) × Int × Int × Unit) → World → ((Int × (Option Addr × Nat × Nat) × Int × Int × Unit) → World → Prop) → Prop := fun s w C2 => ∀ _ : Nat → Value, F98.b2c Q C2 s.1 s.2.1 s.2.2.1 s.2.2.2.1 w
def F98.l2 (Q : Value → World → Prop) : (Int × (Option Addr × Nat × Nat) × Int × Int × Unit) → World → Prop := fun s w => ∃ n, loopC (F98.b2 Q) n s w
def F98.vc (x0 : Int) (x1A : Option Addr) (x1n x1c : Nat) (w : World) (Q : Value → World → Prop) : Prop :=
  jnC (F98.l2 Q) ((x0), (x1A, x1n, x1c), (((x1n : Nat) : Int)), (0), ()) w
def F98.an : Ann := ⟨[(2, [(0, .kI .i64), (7, .kSl), (8, .kI .i64), (9, .kI .i64)])], [(5, [(0, .kI .i64), (6, .kL), (7, .kSl), (8, .kI .i64), (9, .kI .i64), (25, .kB)])]⟩
theorem F98.of (x0 : Int) (x1A : Option Addr) (x1n x1c : Nat) (w : World) {Q : Value → World → Prop} (h : F98.vc x0 x1A x1n x1c w Q) : Calls Tryz.prog 98 #[Value.int .i64 x0, Value.slice x1A x1n x1c] w (fun e w' => ∃ v, e = .returned v ∧ Q v w') := vcFn_of (A := F98.an) noCount mixed h (by kernel_rfl)
end Go.Proofs.YtfdhaeglhkmmpaaGreat
