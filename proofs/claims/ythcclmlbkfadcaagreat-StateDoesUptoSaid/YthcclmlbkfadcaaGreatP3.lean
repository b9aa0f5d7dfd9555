import Derived.Shelf.Lays
import Derived.Test.YthcclmlbkfadcaaGreatProg
import Derived.Shelf.Sort.Plain
import Derived.Shelf.Slices.In.SortNone
import Derived.Shelf.SlLaysF0
import Derived.Test.YthcclmlbkfadcaaGreatP2
/- PRINTED BY MY OWN gen.py out of the translation: each function as a proposition. -/
namespace Go.Proofs.YthcclmlbkfadcaaGreat
open Go.GV
set_option linter.unusedVariables false
set_option maxRecDepth 100000
/-! ### function 123: stillage/stillageref06.Less -/
def F123.b2c (Q : Value → World → Prop) (C2 : ((Nat × Nat) × (Nat × Nat) × Int × Unit) → World → Prop) (x2 : (Nat × Nat)) (x3 : (Nat × Nat)) (x5 : Int) (w : World) : Prop :=
  vIf (decide (x5 < 32))
  (gd (decide (0 ≤ x5)) <|
    gd (decide (x5 < 32)) <|
    ldI .u8 w.drew x2.1 (x2.2 + (x5).toNat * 1) fun i5 =>
    gd (decide (0 ≤ x5)) <|
    gd (decide (x5 < 32)) <|
    ldI .u8 w.drew x3.1 (x3.2 + (x5).toNat * 1) fun i6 =>
    vIf (i5 != i6)
    (gd (decide (0 ≤ x5)) <|
      gd (decide (x5 < 32)) <|
      ldI .u8 w.drew.drew x2.1 (x2.2 + (x5).toNat * 1) fun i7 =>
      gd (decide (0 ≤ x5)) <|
      gd (decide (x5 < 32)) <|
      ldI .u8 w.drew.drew x3.1 (x3.2 + (x5).toNat * 1) fun i8 =>
      Q (Value.bool (decide (i7 < i8))) w.drew.drew)
    (jnC C2 ((x2.1, x2.2), (x3.1, x3.2), ((IntKind.wrap .i64 (x5 + 1))), ()) w.drew))
  (Q (Value.bool false) w)
def F123.b2 (Q : Value → World → Prop) : ((Nat × Nat) × (Nat × Nat) × Int × Unit) → World → (((Nat × Nat) × (Nat × Nat) × Int × Unit) → World → Prop) → Prop := fun s w C2 => ∀ _ : Nat → Value, F123.b2c Q C2 s.1 s.2.1 s.2.2.1 w
def F123.l2 (Q : Value → World → Prop) : ((Nat × Nat) × (Nat × Nat) × Int × Unit) → World → Prop := fun s w => ∃ n, loopC (F123.b2 Q) n s w
def F123.vc (x0 : List Value) (x1 : List Value) (w : World) (Q : Value → World → Prop) : Prop :=
  nw w x0 33 fun b1 w2 =>
  nw w2 x1 33 fun b3 w4 =>
  jnC (F123.l2 Q) ((b1, 0), (b3, 0), (0), ()) w4
def F123.an : Ann := ⟨[(2, [(2, .kL), (3, .kL), (5, .kI .i64)])], []⟩
theorem F123.of (x0 : List Value) (x1 : List Value) (w : World) {Q : Value → World → Prop} (h : F123.vc x0 x1 w Q) : Calls Tryz.prog 123 #[ofL x0, ofL x1] w (fun e w' => ∃ v, e = .returned v ∧ Q v w') := vcFn_of (A := F123.an) noCount mixed h (by kernel_rfl)
/-! ### function 124: slices.BinarySearchFunc[[]stillage/api.TagEntry,stillage/api.TagEntry,string] -/
def F124s.b3c (Q : Value → World → Prop) (C3 : ((Option Addr × Nat × Nat) × ByteArray × Unit × Int × Int × Int × Unit) → World → Prop) (x0 : (Option Addr × Nat × Nat)) (x1 : ByteArray) (x2 : Unit) (x8 : Int) (x9 : Int) (x10 : Int) (w : World) : Prop :=
  vIf (decide (x9 < x10))
  (dr x0.1 fun b1 o2 =>
    gd (decide (0 ≤ (IntKind.wrap .i64 (Int.fdiv (IntKind.wrap .u64 (IntKind.wrap .i64 (x9 + x10))) (2 ^ 1))))) <|
    gd (decide ((IntKind.wrap .i64 (Int.fdiv (IntKind.wrap .u64 (IntKind.wrap .i64 (x9 + x10))) (2 ^ 1))) < ((x0.2.1 : Nat) : Int))) <|
    ldA 38 w b1 (o2 + ((IntKind.wrap .i64 (Int.fdiv (IntKind.wrap .u64 (IntKind.wrap .i64 (x9 + x10))) (2 ^ 1)))).toNat * 38) fun a3 =>
    Calls Tryz.prog 125 #[ofL a3, Value.string x1] w fun e5 w4 =>
    ∃ i6 : Int, e5 = .returned (Value.int .i64 i6) ∧ (
      vIf (decide (i6 < 0))
      (jnC C3 ((x0.1, x0.2.1, x0.2.2), x1, (), (x8), ((IntKind.wrap .i64 ((IntKind.wrap .i64 (Int.fdiv (IntKind.wrap .u64 (IntKind.wrap .i64 (x9 + x10))) (2 ^ 1))) + 1))), (x10), ()) w4)
      (jnC C3 ((x0.1, x0.2.1, x0.2.2), x1, (), (x8), (x9), ((IntKind.wrap .i64 (Int.fdiv (IntKind.wrap .u64 (IntKind.wrap .i64 (x9 + x10))) (2 ^ 1)))), ()) w4)))
  (vIf (decide (x9 < x8))
    (dr x0.1 fun b7 o8 =>
      gd (decide (0 ≤ x9)) <|
      gd (decide (x9 < ((x0.2.1 : Nat) : Int))) <|
      ldA 38 w b7 (o8 + (x9).toNat * 38) fun a9 =>
      Calls Tryz.prog 125 #[ofL a9, Value.string x1] w fun e11 w10 =>
      ∃ i12 : Int, e11 = .returned (Value.int .i64 i12) ∧ (
        Q (Value.tuple #[Value.int .i64 x9, Value.bool (i12 == 0)]) w10))
    (Q (Value.tuple #[Value.int .i64 x9, Value.bool false]) w))
def F124s.b3 (Q : Value → World → Prop) : ((Option Addr × Nat × Nat) × ByteArray × Unit × Int × Int × Int × Unit) → World → (((Option Addr × Nat × Nat) × ByteArray × Unit × Int × Int × Int × Unit) → World → Prop) → Prop := fun s w C3 => ∀ _ : Nat → Value, F124s.b3c Q C3 s.1 s.2.1 s.2.2.1 s.2.2.2.1 s.2.2.2.2.1 s.2.2.2.2.2.1 w
def F124s.l3 (Q : Value → World → Prop) : ((Option Addr × Nat × Nat) × ByteArray × Unit × Int × Int × Int × Unit) → World → Prop := fun s w => ∃ n, loopC (F124s.b3 Q) n s w
def F124s.vc (x0A : Option Addr) (x0n x0c : Nat) (x1 : ByteArray) (w : World) (Q : Value → World → Prop) : Prop :=
  jnC (F124s.l3 Q) ((x0A, x0n, x0c), x1, (), (((x0n : Nat) : Int)), (0), (((x0n : Nat) : Int)), ()) w
def F124s.an : Ann := ⟨[(3, [(0, .kSl), (1, .kS), (2, .kF 125), (8, .kI .i64), (9, .kI .i64), (10, .kI .i64)])], []⟩
theorem F124s.of (x0A : Option Addr) (x0n x0c : Nat) (x1 : ByteArray) (w : World) {Q : Value → World → Prop} (h : F124s.vc x0A x0n x0c x1 w Q) : Calls Tryz.prog 124 #[Value.slice x0A x0n x0c, Value.string x1, Value.func (.func 125) #[] #[]] w (fun e w' => ∃ v, e = .returned v ∧ Q v w') := vcFn_of (A := F124s.an) noCount mixed h (by kernel_rfl)
/-! ### function 125: (*stillage/tags.Tags).place$1 -/
def F125.vc (x0 : List Value) (x1 : ByteArray) (w : World) (Q : Value → World → Prop) : Prop :=
  nw w x0 53 fun b1 w2 =>
  ldS w2 b1 0 fun s3 =>
  Calls Tryz.prog 126 #[Value.string s3, Value.string x1] w2 fun e5 w4 =>
  ∃ i6 : Int, e5 = .returned (Value.int .i64 i6) ∧ (
    Q (Value.int .i64 i6) w4)
def F125.an : Ann := ⟨[], []⟩
theorem F125.of (x0 : List Value) (x1 : ByteArray) (w : World) {Q : Value → World → Prop} (h : F125.vc x0 x1 w Q) : Calls Tryz.prog 125 #[ofL x0, Value.string x1] w (fun e w' => ∃ v, e = .returned v ∧ Q v w') := vcFn_of (A := F125.an) noCount mixed h (by kernel_rfl)
/-! ### function 126: strings.Compare -/
def F126.vc (x0 : ByteArray) (x1 : ByteArray) (w : World) (Q : Value → World → Prop) : Prop :=
  Calls Tryz.prog 146 #[Value.string x0, Value.string x1] w fun e2 w1 =>
  ∃ i3 : Int, e2 = .returned (Value.int .i64 i3) ∧ (
    Q (Value.int .i64 i3) w1)
def F126.an : Ann := ⟨[], []⟩
theorem F126.of (x0 : ByteArray) (x1 : ByteArray) (w : World) {Q : Value → World → Prop} (h : F126.vc x0 x1 w Q) : Calls Tryz.prog 126 #[Value.string x0, Value.string x1] w (fun e w' => ∃ v, e = .returned v ∧ Q v w') := vcFn_of (A := F126.an) noCount mixed h (by kernel_rfl)
/-! ### function 129: stillage/stillageref19.Add -/
def F129.k10c (Q : Value → World → Prop) (C4 : ((Option Addr × Nat × Nat) × Int × (Option Addr × Nat × Nat) × Bool × Int × Unit) → World → Prop) (x0 : (Option Addr × Nat × Nat)) (x1 : Int) (x5 : (Option Addr × Nat × Nat)) (x6 : Bool) (x7 : Int) (w : World) : Prop :=
  dr x0.1 fun b13 o14 =>
  gd (decide (0 ≤ x7)) <|
  gd (decide (x7 < ((x0.2.1 : Nat) : Int))) <|
  ldI .i64 w b13 (o14 + (x7).toNat * 1) fun i15 =>
  nw w ([Value.int .i64 i15] ++ []) 3 fun b16 w17 =>
  app w17 1 8 [Value.int .i64 0] 3 x5.1 x5.2.1 x5.2.2 (Value.slice (some ⟨b16, 0, none⟩) 1 1) fun A18 n19 c20 w21 =>
  jnC C4 ((x0.1, x0.2.1, x0.2.2), (x1), (A18, n19, c20), x6, ((IntKind.wrap .i64 (x7 + 1))), ()) w21
def F129.k10 (Q : Value → World → Prop) (C4 : ((Option Addr × Nat × Nat) × Int × (Option Addr × Nat × Nat) × Bool × Int × Unit) → World → Prop) : ((Option Addr × Nat × Nat) × Int × (Option Addr × Nat × Nat) × Bool × Int × Unit) → World → Prop := fun s w => ∀ _ : Nat → Value, F129.k10c Q C4 s.1 s.2.1 s.2.2.1 s.2.2.2.1 s.2.2.2.2.1 w
def F129.k7c (Q : Value → World → Prop) (C4 : ((Option Addr × Nat × Nat) × Int × (Option Addr × Nat × Nat) × Bool × Int × Unit) → World → Prop) (x0 : (Option Addr × Nat × Nat)) (x1 : Int) (x5 : (Option Addr × Nat × Nat)) (x6 : Bool) (x7 : Int) (x23 : Bool) (w : World) : Prop :=
  vIf x23
  (dr x0.1 fun b4 o5 =>
    gd (decide (0 ≤ x7)) <|
    gd (decide (x7 < ((x0.2.1 : Nat) : Int))) <|
    ldI .i64 w b4 (o5 + (x7).toNat * 1) fun i6 =>
    vIf (decide (x1 < i6))
    (nw w ([Value.int .i64 x1] ++ []) 3 fun b7 w8 =>
      app w8 1 8 [Value.int .i64 0] 3 x5.1 x5.2.1 x5.2.2 (Value.slice (some ⟨b7, 0, none⟩) 1 1) fun A9 n10 c11 w12 =>
      jnC (F129.k10 Q C4) ((x0.1, x0.2.1, x0.2.2), (x1), (A9, n10, c11), true, (x7), ()) w12)
    (jnC (F129.k10 Q C4) ((x0.1, x0.2.1, x0.2.2), (x1), (x5.1, x5.2.1, x5.2.2), true, (x7), ()) w))
  (jnC (F129.k10 Q C4) ((x0.1, x0.2.1, x0.2.2), (x1), (x5.1, x5.2.1, x5.2.2), x6, (x7), ()) w)
def F129.k7 (Q : Value → World → Prop) (C4 : ((Option Addr × Nat × Nat) × Int × (Option Addr × Nat × Nat) × Bool × Int × Unit) → World → Prop) : ((Option Addr × Nat × Nat) × Int × (Option Addr × Nat × Nat) × Bool × Int × Bool × Unit) → World → Prop := fun s w => ∀ _ : Nat → Value, F129.k7c Q C4 s.1 s.2.1 s.2.2.1 s.2.2.2.1 s.2.2.2.2.1 s.2.2.2.2.2.1 w
def F129.b4c (Q : Value → World → Prop) (C4 : ((Option Addr × Nat × Nat) × Int × (Option Addr × Nat × Nat) × Bool × Int × Unit) → World → Prop) (x0 : (Option Addr × Nat × Nat)) (x1 : Int) (x5 : (Option Addr × Nat × Nat)) (x6 : Bool) (x7 : Int) (w : World) : Prop :=
  vIf (decide (x7 < ((x0.2.1 : Nat) : Int)))
  (vIf (!x6)
    (dr x0.1 fun b1 o2 =>
      gd (decide (0 ≤ x7)) <|
      gd (decide (x7 < ((x0.2.1 : Nat) : Int))) <|
      ldI .i64 w b1 (o2 + (x7).toNat * 1) fun i3 =>
      jnC (F129.k7 Q C4) ((x0.1, x0.2.1, x0.2.2), (x1), (x5.1, x5.2.1, x5.2.2), x6, (x7), (decide (x1 ≤ i3)), ()) w)
    (jnC (F129.k7 Q C4) ((x0.1, x0.2.1, x0.2.2), (x1), (x5.1, x5.2.1, x5.2.2), x6, (x7), false, ()) w))
  (vIf (!x6)
    (nw w ([Value.int .i64 x1] ++ []) 3 fun b22 w23 =>
      app w23 1 8 [Value.int .i64 0] 3 x5.1 x5.2.1 x5.2.2 (Value.slice (some ⟨b22, 0, none⟩) 1 1) fun A24 n25 c26 w27 =>
      Q (Value.slice A24 n25 c26) w27)
    (Q (Value.slice x5.1 x5.2.1 x5.2.2) w))
def F129.b4 (Q : Value → World → Prop) : ((Option Addr × Nat × Nat) × Int × (Option Addr × Nat × Nat) × Bool × Int × Unit) → World → (((Option Addr × Nat × Nat) × Int × (Option Addr × Nat × Nat) × Bool × Int × Unit) → World → Prop) → Prop := fun s w C4 => ∀ _ : Nat → Value, F129.b4c Q C4 s.1 s.2.1 s.2.2.1 s.2.2.2.1 s.2.2.2.2.1 w
def F129.l4 (Q : Value → World → Prop) : ((Option Addr × Nat × Nat) × Int × (Option Addr × Nat × Nat) × Bool × Int × Unit) → World → Prop := fun s w => ∃ n, loopC (F129.b4 Q) n s w
def F129.vc (x0A : Option Addr) (x0n x0c : Nat) (x1 : Int) (w : World) (Q : Value → World → Prop) : Prop :=
  jnC (F129.l4 Q) ((x0A, x0n, x0c), (x1), (none, 0, 0), false, (0), ()) w
def F129.an : Ann := ⟨[(4, [(0, .kSl), (1, .kI .i64), (5, .kSl), (6, .kB), (7, .kI .i64)])], [(7, [(0, .kSl), (1, .kI .i64), (5, .kSl), (6, .kB), (7, .kI .i64), (23, .kB)]), (10, [(0, .kSl), (1, .kI .i64), (5, .kSl), (6, .kB), (7, .kI .i64)])]⟩
theorem F129.of (x0A : Option Addr) (x0n x0c : Nat) (x1 : Int) (w : World) {Q : Value → World → Prop} (h : F129.vc x0A x0n x0c x1 w Q) : Calls Tryz.prog 129 #[Value.slice x0A x0n x0c, Value.int .i64 x1] w (fun e w' => ∃ v, e = .returned v ∧ Q v w') := vcFn_of (A := F129.an) noCount mixed h (by kernel_rfl)
/-! ### function 130: stillage/stillageref19.Row -/
def F130.b3c (Q : Value → World → Prop) (C3 : ((Option Addr × Nat × Nat) × (Option Addr × Nat × Nat) × Int × Unit) → World → Prop) (x0 : (Option Addr × Nat × Nat)) (x3 : (Option Addr × Nat × Nat)) (x4 : Int) (w : World) : Prop :=
  vIf (decide (x4 < ((x0.2.1 : Nat) : Int)))
  (dr x0.1 fun b1 o2 =>
    gd (decide (0 ≤ x4)) <|
    gd (decide (x4 < ((x0.2.1 : Nat) : Int))) <|
    ldI .i64 w b1 (o2 + (x4).toNat * 1) fun i3 =>
    Calls Tryz.prog 129 #[Value.slice x3.1 x3.2.1 x3.2.2, Value.int .i64 i3] w fun e5 w4 =>
    ∃ (A6 : Option Addr) (n7 c8 : Nat), e5 = .returned (Value.slice A6 n7 c8) ∧ (
      jnC C3 ((x0.1, x0.2.1, x0.2.2), (A6, n7, c8), ((IntKind.wrap .i64 (x4 + 1))), ()) w4))
  (Q (Value.slice x3.1 x3.2.1 x3.2.2) w)
def F130.b3 (Q : Value → World → Prop) : ((Option Addr × Nat × Nat) × (Option Addr × Nat × Nat) × Int × Unit) → World → (((Option Addr × Nat × Nat) × (Option Addr × Nat × Nat) × Int × Unit) → World → Prop) → Prop := fun s w C3 => ∀ _ : Nat → Value, F130.b3c Q C3 s.1 s.2.1 s.2.2.1 w
def F130.l3 (Q : Value → World → Prop) : ((Option Addr × Nat × Nat) × (Option Addr × Nat × Nat) × Int × Unit) → World → Prop := fun s w => ∃ n, loopC (F130.b3 Q) n s w
def F130.vc (x0A : Option Addr) (x0n x0c : Nat) (w : World) (Q : Value → World → Prop) : Prop :=
  jnC (F130.l3 Q) ((x0A, x0n, x0c), (none, 0, 0), (0), ()) w
def F130.an : Ann := ⟨[(3, [(0, .kSl), (3, .kSl), (4, .kI .i64)])], []⟩
theorem F130.of (x0A : Option Addr) (x0n x0c : Nat) (w : World) {Q : Value → World → Prop} (h : F130.vc x0A x0n x0c w Q) : Calls Tryz.prog 130 #[Value.slice x0A x0n x0c] w (fun e w' => ∃ v, e = .returned v ∧ Q v w') := vcFn_of (A := F130.an) noCount mixed h (by kernel_rfl)
/-! ### function 131: stillage/entry.left -/
def F131.vc (x0A : Option Addr) (x0n x0c : Nat) (x1A : Option Addr) (x1n x1c : Nat) (w : World) (Q : Value → World → Prop) : Prop :=
  nw w [Value.slice x1A x1n x1c] 46 fun b1 w2 =>
  nw w2 ([Value.slice x0A x0n x0c] ++ []) 46 fun b3 w4 =>
  Calls Tryz.prog 117 #[Value.slice (some ⟨b3, 0, none⟩) 1 1] w4 fun e6 w5 =>
  ∃ (A7 : Option Addr) (n8 c9 : Nat), e6 = .returned (Value.slice A7 n8 c9) ∧ (
    Calls Tryz.prog 148 #[Value.slice A7 n8 c9, Value.func (.func 149) #[] #[Value.pointer (some ⟨b1, 0, none⟩)]] w5 fun e11 w10 =>
    ∃ (A12 : Option Addr) (n13 c14 : Nat), e11 = .returned (Value.slice A12 n13 c14) ∧ (
      Q (Value.slice A12 n13 c14) w10))
def F131.an : Ann := ⟨[], []⟩
theorem F131.of (x0A : Option Addr) (x0n x0c : Nat) (x1A : Option Addr) (x1n x1c : Nat) (w : World) {Q : Value → World → Prop} (h : F131.vc x0A x0n x0c x1A x1n x1c w Q) : Calls Tryz.prog 131 #[Value.slice x0A x0n x0c, Value.slice x1A x1n x1c] w (fun e w' => ∃ v, e = .returned v ∧ Q v w') := vcFn_of (A := F131.an) noCount mixed h (by kernel_rfl)
/-! ### function 132: (*stillage/slots.Table[stillage/api.Entry]).between -/
def F132.vc (x0 : Option Addr) (x1 : Int) (x2 : Int) (w : World) (Q : Value → World → Prop) : Prop :=
  dr x0 fun b1 o2 =>
  ldSl w b1 o2 fun A3 n4 c5 =>
  dr A3 fun b6 o7 =>
  gd (decide (0 ≤ x2)) <|
  gd (decide (x2 < ((n4 : Nat) : Int))) <|
  ldA 32 w b6 ((o7 + (x2).toNat * 71) + 1) fun a8 =>
  Calls Tryz.prog 135 #[Value.pointer x0, ofL a8] w fun e10 w9 =>
  ∃ i11 : Int, e10 = .returned (Value.int .i64 i11) ∧ (
    dr x0 fun b12 o13 =>
    ldSl w9 b12 o13 fun A14 n15 c16 =>
    gd (decide (((n15 : Nat) : Int) ≠ 0)) <|
    gd (decide (((n15 : Nat) : Int) ≠ 0)) <|
    Q (Value.bool (decide ((Int.tmod (IntKind.wrap .i64 ((IntKind.wrap .i64 ((IntKind.wrap .i64 (i11 - x1)) - 1)) + ((n15 : Nat) : Int))) ((n15 : Nat) : Int)) < (Int.tmod (IntKind.wrap .i64 ((IntKind.wrap .i64 (x2 - x1)) + ((n15 : Nat) : Int))) ((n15 : Nat) : Int))))) w9.drew)
def F132.an : Ann := ⟨[], []⟩
theorem F132.of (x0 : Option Addr) (x1 : Int) (x2 : Int) (w : World) {Q : Value → World → Prop} (h : F132.vc x0 x1 x2 w Q) : Calls Tryz.prog 132 #[Value.pointer x0, Value.int .i64 x1, Value.int .i64 x2] w (fun e w' => ∃ v, e = .returned v ∧ Q v w') := vcFn_of (A := F132.an) noCount mixed h (by kernel_rfl)
/-! ### function 133: stillage/stillageref19.both -/
def F133.b3c (Q : Value → World → Prop) (C3 : ((Option Addr × Nat × Nat) × (Option Addr × Nat × Nat) × (Option Addr × Nat × Nat) × Int × Unit) → World → Prop) (x0 : (Option Addr × Nat × Nat)) (x1 : (Option Addr × Nat × Nat)) (x5 : (Option Addr × Nat × Nat)) (x6 : Int) (w : World) : Prop :=
  vIf (decide (x6 < ((x0.2.1 : Nat) : Int)))
  (dr x0.1 fun b1 o2 =>
    gd (decide (0 ≤ x6)) <|
    gd (decide (x6 < ((x0.2.1 : Nat) : Int))) <|
    ldI .i64 w b1 (o2 + (x6).toNat * 1) fun i3 =>
    Calls Tryz.prog 134 #[Value.slice x1.1 x1.2.1 x1.2.2, Value.int .i64 i3] w fun e5 w4 =>
    ∃ t6 : Bool, e5 = .returned (Value.bool t6) ∧ (
      vIf t6
      (dr x0.1 fun b7 o8 =>
        gd (decide (0 ≤ x6)) <|
        gd (decide (x6 < ((x0.2.1 : Nat) : Int))) <|
        ldI .i64 w4 b7 (o8 + (x6).toNat * 1) fun i9 =>
        Calls Tryz.prog 129 #[Value.slice x5.1 x5.2.1 x5.2.2, Value.int .i64 i9] w4 fun e11 w10 =>
        ∃ (A12 : Option Addr) (n13 c14 : Nat), e11 = .returned (Value.slice A12 n13 c14) ∧ (
          jnC C3 ((x0.1, x0.2.1, x0.2.2), (x1.1, x1.2.1, x1.2.2), (A12, n13, c14), ((IntKind.wrap .i64 (x6 + 1))), ()) w10))
      (jnC C3 ((x0.1, x0.2.1, x0.2.2), (x1.1, x1.2.1, x1.2.2), (x5.1, x5.2.1, x5.2.2), ((IntKind.wrap .i64 (x6 + 1))), ()) w4)))
  (Q (Value.slice x5.1 x5.2.1 x5.2.2) w)
def F133.b3 (Q : Value → World → Prop) : ((Option Addr × Nat × Nat) × (Option Addr × Nat × Nat) × (Option Addr × Nat × Nat) × Int × Unit) → World → (((Option Addr × Nat × Nat) × (Option Addr × Nat × Nat) × (Option Addr × Nat × Nat) × Int × Unit) → World → Prop) → Prop := fun s w C3 => ∀ _ : Nat → Value, F133.b3c Q C3 s.1 s.2.1 s.2.2.1 s.2.2.2.1 w
def F133.l3 (Q : Value → World → Prop) : ((Option Addr × Nat × Nat) × (Option Addr × Nat × Nat) × (Option Addr × Nat × Nat) × Int × Unit) → World → Prop := fun s w => ∃ n, loopC (F133.b3 Q) n s w
def F133.vc (x0A : Option Addr) (x0n x0c : Nat) (x1A : Option Addr) (x1n x1c : Nat) (w : World) (Q : Value → World → Prop) : Prop :=
  jnC (F133.l3 Q) ((x0A, x0n, x0c), (x1A, x1n, x1c), (none, 0, 0), (0), ()) w
def F133.an : Ann := ⟨[(3, [(0, .kSl), (1, .kSl), (5, .kSl), (6, .kI .i64)])], []⟩
theorem F133.of (x0A : Option Addr) (x0n x0c : Nat) (x1A : Option Addr) (x1n x1c : Nat) (w : World) {Q : Value → World → Prop} (h : F133.vc x0A x0n x0c x1A x1n x1c w Q) : Calls Tryz.prog 133 #[Value.slice x0A x0n x0c, Value.slice x1A x1n x1c] w (fun e w' => ∃ v, e = .returned v ∧ Q v w') := vcFn_of (A := F133.an) noCount mixed h (by kernel_rfl)
/-! ### function 134: stillage/stillageref19.in -/
def F134.b2c (Q : Value → World → Prop) (C2 : ((Option Addr × Nat × Nat) × Int × Int × Unit) → World → Prop) (x0 : (Option Addr × Nat × Nat)) (x1 : Int) (x5 : Int) (w : World) : Prop :=
  vIf (decide (x5 < ((x0.2.1 : Nat) : Int)))
  (dr x0.1 fun b1 o2 =>
    gd (decide (0 ≤ x5)) <|
    gd (decide (x5 < ((x0.2.1 : Nat) : Int))) <|
    ldI .i64 w b1 (o2 + (x5).toNat * 1) fun i3 =>
    vIf (i3 == x1)
    (Q (Value.bool true) w)
    (jnC C2 ((x0.1, x0.2.1, x0.2.2), (x1), ((IntKind.wrap .i64 (x5 + 1))), ()) w))
  (Q (Value.bool false) w)
def F134.b2 (Q : Value → World → Prop) : ((Option Addr × Nat × Nat) × Int × Int × Unit) → World → (((Option Addr × Nat × Nat) × Int × Int × Unit) → World → Prop) → Prop := fun s w C2 => ∀ _ : Nat → Value, F134.b2c Q C2 s.1 s.2.1 s.2.2.1 w
def F134.l2 (Q : Value → World → Prop) : ((Option Addr × Nat × Nat) × Int × Int × Unit) → World → Prop := fun s w => ∃ n, loopC (F134.b2 Q) n s w
def F134.vc (x0A : Option Addr) (x0n x0c : Nat) (x1 : Int) (w : World) (Q : Value → World → Prop) : Prop :=
  jnC (F134.l2 Q) ((x0A, x0n, x0c), (x1), (0), ()) w
def F134.an : Ann := ⟨[(2, [(0, .kSl), (1, .kI .i64), (5, .kI .i64)])], []⟩
theorem F134.of (x0A : Option Addr) (x0n x0c : Nat) (x1 : Int) (w : World) {Q : Value → World → Prop} (h : F134.vc x0A x0n x0c x1 w Q) : Calls Tryz.prog 134 #[Value.slice x0A x0n x0c, Value.int .i64 x1] w (fun e w' => ∃ v, e = .returned v ∧ Q v w') := vcFn_of (A := F134.an) noCount mixed h (by kernel_rfl)
/-! ### function 135: (*stillage/slots.Table[stillage/api.Entry]).home -/
def F135.vc (x0 : Option Addr) (x1 : List Value) (w : World) (Q : Value → World → Prop) : Prop :=
  nw w x1 33 fun b1 w2 =>
  ldI .u8 w2.drew b1 0 fun i3 =>
  ldI .u8 w2.drew b1 (0 + 1) fun i4 =>
  dr x0 fun b5 o6 =>
  ldSl w2.drew b5 o6 fun A7 n8 c9 =>
  gd (decide (((n8 : Nat) : Int) ≠ 0)) <|
  Q (Value.int .i64 (Int.tmod (iOr .i64 (IntKind.wrap .i64 i3) (IntKind.wrap .i64 ((IntKind.wrap .i64 i4) * 2 ^ 8))) ((n8 : Nat) : Int))) w2.drew
def F135.an : Ann := ⟨[], []⟩
theorem F135.of (x0 : Option Addr) (x1 : List Value) (w : World) {Q : Value → World → Prop} (h : F135.vc x0 x1 w Q) : Calls Tryz.prog 135 #[Value.pointer x0, ofL x1] w (fun e w' => ∃ v, e = .returned v ∧ Q v w') := vcFn_of (A := F135.an) noCount mixed h (by kernel_rfl)
/-! ### function 137: slices.Concat[[]int,int] -/
def F137.b11c (Q : Value → World → Prop) (C11 : ((Option Addr × Nat × Nat) × (Option Addr × Nat × Nat) × Int × Int × Unit) → World → Prop) (x6 : (Option Addr × Nat × Nat)) (x25 : (Option Addr × Nat × Nat)) (x26 : Int) (x27 : Int) (w : World) : Prop :=
  vIf (decide (x27 < x26))
  (dr x25.1 fun b11 o12 =>
    gd (decide (0 ≤ x27)) <|
    gd (decide (x27 < ((x25.2.1 : Nat) : Int))) <|
    ldSl w b11 (o12 + (x27).toNat * 1) fun A13 n14 c15 =>
    app w 1 8 [Value.int .i64 0] 3 x6.1 x6.2.1 x6.2.2 (Value.slice A13 n14 c15) fun A16 n17 c18 w19 =>
    jnC C11 ((A16, n17, c18), (x25.1, x25.2.1, x25.2.2), (x26), ((IntKind.wrap .i64 (x27 + 1))), ()) w19)
  (Q (Value.slice x6.1 x6.2.1 x6.2.2) w)
def F137.b11 (Q : Value → World → Prop) : ((Option Addr × Nat × Nat) × (Option Addr × Nat × Nat) × Int × Int × Unit) → World → (((Option Addr × Nat × Nat) × (Option Addr × Nat × Nat) × Int × Int × Unit) → World → Prop) → Prop := fun s w C11 => ∀ _ : Nat → Value, F137.b11c Q C11 s.1 s.2.1 s.2.2.1 s.2.2.2.1 w
def F137.l11 (Q : Value → World → Prop) : ((Option Addr × Nat × Nat) × (Option Addr × Nat × Nat) × Int × Int × Unit) → World → Prop := fun s w => ∃ n, loopC (F137.b11 Q) n s w
def F137.b3c (Q : Value → World → Prop) (C3 : ((Option Addr × Nat × Nat) × Int × (Option Addr × Nat × Nat) × Int × Int × Unit) → World → Prop) (x0 : (Option Addr × Nat × Nat)) (x3 : Int) (x9 : (Option Addr × Nat × Nat)) (x10 : Int) (x11 : Int) (w : World) : Prop :=
  vIf (decide (x11 < x10))
  (dr x9.1 fun b1 o2 =>
    gd (decide (0 ≤ x11)) <|
    gd (decide (x11 < ((x9.2.1 : Nat) : Int))) <|
    ldSl w b1 (o2 + (x11).toNat * 1) fun A3 n4 c5 =>
    vIf (decide ((IntKind.wrap .i64 (x3 + ((n4 : Nat) : Int))) < 0))
    (False)
    (jnC C3 ((x0.1, x0.2.1, x0.2.2), ((IntKind.wrap .i64 (x3 + ((n4 : Nat) : Int)))), (x9.1, x9.2.1, x9.2.2), (x10), ((IntKind.wrap .i64 (x11 + 1))), ()) w))
  (Calls Tryz.prog 151 #[Value.slice none 0 0, Value.int .i64 x3] w fun e7 w6 =>
    ∃ (A8 : Option Addr) (n9 c10 : Nat), e7 = .returned (Value.slice A8 n9 c10) ∧ (
      jnC (F137.l11 Q) ((A8, n9, c10), (x0.1, x0.2.1, x0.2.2), (((x0.2.1 : Nat) : Int)), (0), ()) w6))
def F137.b3 (Q : Value → World → Prop) : ((Option Addr × Nat × Nat) × Int × (Option Addr × Nat × Nat) × Int × Int × Unit) → World → (((Option Addr × Nat × Nat) × Int × (Option Addr × Nat × Nat) × Int × Int × Unit) → World → Prop) → Prop := fun s w C3 => ∀ _ : Nat → Value, F137.b3c Q C3 s.1 s.2.1 s.2.2.1 s.2.2.2.1 s.2.2.2.2.1 w
def F137.l3 (Q : Value → World → Prop) : ((Option Addr × Nat × Nat) × Int × (Option Addr × Nat × Nat) × Int × Int × Unit) → World → Prop := fun s w => ∃ n, loopC (F137.b3 Q) n s w
def F137.vc (x0A : Option Addr) (x0n x0c : Nat) (w : World) (Q : Value → World → Prop) : Prop :=
  jnC (F137.l3 Q) ((x0A, x0n, x0c), (0), (x0A, x0n, x0c), (((x0n : Nat) : Int)), (0), ()) w
def F137.an : Ann := ⟨[(3, [(0, .kSl), (3, .kI .i64), (9, .kSl), (10, .kI .i64), (11, .kI .i64)]), (11, [(6, .kSl), (25, .kSl), (26, .kI .i64), (27, .kI .i64)])], []⟩
theorem F137.of (x0A : Option Addr) (x0n x0c : Nat) (w : World) {Q : Value → World → Prop} (h : F137.vc x0A x0n x0c w Q) : Calls Tryz.prog 137 #[Value.slice x0A x0n x0c] w (fun e w' => ∃ v, e = .returned v ∧ Q v w') := vcFn_of (A := F137.an) noCount mixed h (by kernel_rfl)
/-! ### function 139: slices.Compact[[]int,int] -/
def F139.k15c (Q : Value → World → Prop) (C4 : ((Option Addr × Nat × Nat) × Int × Unit) → World → Prop) (x0 : (Option Addr × Nat × Nat)) (x3 : Int) (w : World) : Prop :=
  gd (decide (0 ≤ x3)) <|
  gd (decide (x3 ≤ ((x0.2.2 : Nat) : Int))) <|
  Q (Value.slice (slA x0.1 x0.2.2 0 1) (x3).toNat x0.2.2) w
def F139.k15 (Q : Value → World → Prop) (C4 : ((Option Addr × Nat × Nat) × Int × Unit) → World → Prop) : ((Option Addr × Nat × Nat) × Int × Unit) → World → Prop := fun s w => ∀ _ : Nat → Value, F139.k15c Q C4 s.1 s.2.1 w
def F139.b9c (Q : Value → World → Prop) (C4 : ((Option Addr × Nat × Nat) × Int × Unit) → World → Prop) (C9 : ((Option Addr × Nat × Nat) × Int × (Option Addr × Nat × Nat) × Int × Unit) → World → Prop) (x0 : (Option Addr × Nat × Nat)) (x3 : Int) (x4 : (Option Addr × Nat × Nat)) (x5 : Int) (w : World) : Prop :=
  vIf (decide (x5 < ((x4.2.1 : Nat) : Int)))
  (dr x4.1 fun b7 o8 =>
    gd (decide (0 ≤ x5)) <|
    gd (decide (x5 < ((x4.2.1 : Nat) : Int))) <|
    ldI .i64 w.drew b7 (o8 + (x5).toNat * 1) fun i9 =>
    dr x4.1 fun b10 o11 =>
    gd (decide (0 ≤ (IntKind.wrap .i64 (x5 - 1)))) <|
    gd (decide ((IntKind.wrap .i64 (x5 - 1)) < ((x4.2.1 : Nat) : Int))) <|
    ldI .i64 w.drew b10 (o11 + ((IntKind.wrap .i64 (x5 - 1))).toNat * 1) fun i12 =>
    vIf (i9 != i12)
    (dr x4.1 fun b13 o14 =>
      gd (decide (0 ≤ x5)) <|
      gd (decide (x5 < ((x4.2.1 : Nat) : Int))) <|
      ldI .i64 w.drew b13 (o14 + (x5).toNat * 1) fun i15 =>
      dr x0.1 fun b16 o17 =>
      gd (decide (0 ≤ x3)) <|
      gd (decide (x3 < ((x0.2.1 : Nat) : Int))) <|
      st w.drew b16 (o17 + (x3).toNat * 1) [Value.int .i64 i15] fun w18 =>
      jnC C9 ((x0.1, x0.2.1, x0.2.2), ((IntKind.wrap .i64 (x3 + 1))), (x4.1, x4.2.1, x4.2.2), ((IntKind.wrap .i64 (x5 + 1))), ()) w18)
    (jnC C9 ((x0.1, x0.2.1, x0.2.2), (x3), (x4.1, x4.2.1, x4.2.2), ((IntKind.wrap .i64 (x5 + 1))), ()) w.drew))
  (gd (decide (0 ≤ x3)) <|
    gd (decide (x3 ≤ ((x0.2.1 : Nat) : Int))) <|
    vIf ((x0.2.1 - (x3).toNat) == 0)
    (jnC (F139.k15 Q C4) ((x0.1, x0.2.1, x0.2.2), (x3), ()) w)
    (dr (slA x0.1 x0.2.2 (x3).toNat 1) fun b20 o21 =>
      st w b20 o21 (zeros (x0.2.1 - (x3).toNat) [Value.int .i64 0]) fun w19 =>
      jnC (F139.k15 Q C4) ((x0.1, x0.2.1, x0.2.2), (x3), ()) w19))
def F139.b9 (Q : Value → World → Prop) (C4 : ((Option Addr × Nat × Nat) × Int × Unit) → World → Prop) : ((Option Addr × Nat × Nat) × Int × (Option Addr × Nat × Nat) × Int × Unit) → World → (((Option Addr × Nat × Nat) × Int × (Option Addr × Nat × Nat) × Int × Unit) → World → Prop) → Prop := fun s w C9 => ∀ _ : Nat → Value, F139.b9c Q C4 C9 s.1 s.2.1 s.2.2.1 s.2.2.2.1 w
def F139.l9 (Q : Value → World → Prop) (C4 : ((Option Addr × Nat × Nat) × Int × Unit) → World → Prop) : ((Option Addr × Nat × Nat) × Int × (Option Addr × Nat × Nat) × Int × Unit) → World → Prop := fun s w => ∃ n, loopC (F139.b9 Q C4) n s w
def F139.b4c (Q : Value → World → Prop) (C4 : ((Option Addr × Nat × Nat) × Int × Unit) → World → Prop) (x0 : (Option Addr × Nat × Nat)) (x3 : Int) (w : World) : Prop :=
  vIf (decide (x3 < ((x0.2.1 : Nat) : Int)))
  (dr x0.1 fun b1 o2 =>
    gd (decide (0 ≤ x3)) <|
    gd (decide (x3 < ((x0.2.1 : Nat) : Int))) <|
    ldI .i64 w.drew b1 (o2 + (x3).toNat * 1) fun i3 =>
    dr x0.1 fun b4 o5 =>
    gd (decide (0 ≤ (IntKind.wrap .i64 (x3 - 1)))) <|
    gd (decide ((IntKind.wrap .i64 (x3 - 1)) < ((x0.2.1 : Nat) : Int))) <|
    ldI .i64 w.drew b4 (o5 + ((IntKind.wrap .i64 (x3 - 1))).toNat * 1) fun i6 =>
    vIf (i3 == i6)
    (gd (decide (0 ≤ x3)) <|
      gd (decide (x3 ≤ ((x0.2.1 : Nat) : Int))) <|
      jnC (F139.l9 Q C4) ((x0.1, x0.2.1, x0.2.2), (x3), ((slA x0.1 x0.2.2 (x3).toNat 1), (x0.2.1 - (x3).toNat), (x0.2.2 - (x3).toNat)), (1), ()) w.drew)
    (jnC C4 ((x0.1, x0.2.1, x0.2.2), ((IntKind.wrap .i64 (x3 + 1))), ()) w.drew))
  (Q (Value.slice x0.1 x0.2.1 x0.2.2) w)
def F139.b4 (Q : Value → World → Prop) : ((Option Addr × Nat × Nat) × Int × Unit) → World → (((Option Addr × Nat × Nat) × Int × Unit) → World → Prop) → Prop := fun s w C4 => ∀ _ : Nat → Value, F139.b4c Q C4 s.1 s.2.1 w
def F139.l4 (Q : Value → World → Prop) : ((Option Addr × Nat × Nat) × Int × Unit) → World → Prop := fun s w => ∃ n, loopC (F139.b4 Q) n s w
def F139.vc (x0A : Option Addr) (x0n x0c : Nat) (w : World) (Q : Value → World → Prop) : Prop :=
  vIf (decide (((x0n : Nat) : Int) < 2))
  (Q (Value.slice x0A x0n x0c) w)
  (jnC (F139.l4 Q) ((x0A, x0n, x0c), (1), ()) w)
def F139.an : Ann := ⟨[(4, [(0, .kSl), (3, .kI .i64)]), (9, [(0, .kSl), (3, .kI .i64), (4, .kSl), (5, .kI .i64)])], [(15, [(0, .kSl), (3, .kI .i64)])]⟩
theorem F139.of (x0A : Option Addr) (x0n x0c : Nat) (w : World) {Q : Value → World → Prop} (h : F139.vc x0A x0n x0c w Q) : Calls Tryz.prog 139 #[Value.slice x0A x0n x0c] w (fun e w' => ∃ v, e = .returned v ∧ Q v w') := vcFn_of (A := F139.an) noCount mixed h (by kernel_rfl)
/-! ### function 140: slices.Clone[[]stillage/api.Digest,stillage/api.Digest] -/
def F140.vc (x0A : Option Addr) (x0n x0c : Nat) (w : World) (Q : Value → World → Prop) : Prop :=
  vIf x0A.isNone
  (Q (Value.slice none 0 0) w)
  (nw w [] 33 fun b1 w2 =>
    app w2 32 32 Z33 33 (some ⟨b1, 0, none⟩) 0 0 (Value.slice x0A x0n x0c) fun A3 n4 c5 w6 =>
    Q (Value.slice A3 n4 c5) w6)
def F140.an : Ann := ⟨[], []⟩
theorem F140.of (x0A : Option Addr) (x0n x0c : Nat) (w : World) {Q : Value → World → Prop} (h : F140.vc x0A x0n x0c w Q) : Calls Tryz.prog 140 #[Value.slice x0A x0n x0c] w (fun e w' => ∃ v, e = .returned v ∧ Q v w') := vcFn_of (A := F140.an) noCount mixed h (by kernel_rfl)
/-! ### function 142: stillage/digest.Cmp -/
def F142.vc (x0 : List Value) (x1 : List Value) (w : World) (Q : Value → World → Prop) : Prop :=
  nw w x0 33 fun b1 w2 =>
  nw w2 x1 33 fun b3 w4 =>
  ldA 32 w4 b1 0 fun a5 =>
  ldA 32 w4 b3 0 fun a6 =>
  eqAB 32 a5 a6 fun t7 =>
  vIf t7
  (Q (Value.int .i64 0) w4)
  (Calls Tryz.prog 155 #[Value.slice (some ⟨b1, 0, none⟩) 32 32, Value.slice (some ⟨b3, 0, none⟩) 32 32] w4.drew fun e9 w8 =>
    ∃ i10 : Int, e9 = .returned (Value.int .i64 i10) ∧ (
      Q (Value.int .i64 i10) w8))
def F142.an : Ann := ⟨[], []⟩
theorem F142.of (x0 : List Value) (x1 : List Value) (w : World) {Q : Value → World → Prop} (h : F142.vc x0 x1 w Q) : Calls Tryz.prog 142 #[ofL x0, ofL x1] w (fun e w' => ∃ v, e = .returned v ∧ Q v w') := vcFn_of (A := F142.an) noCount mixed h (by kernel_rfl)
/-! ### function 143: slices.Compact[[]stillage/api.Digest,stillage/api.Digest] -/
def F143.k15c (Q : Value → World → Prop) (C4 : ((Option Addr × Nat × Nat) × Int × Unit) → World → Prop) (x0 : (Option Addr × Nat × Nat)) (x3 : Int) (w : World) : Prop :=
  gd (decide (0 ≤ x3)) <|
  gd (decide (x3 ≤ ((x0.2.2 : Nat) : Int))) <|
  Q (Value.slice (slA x0.1 x0.2.2 0 32) (x3).toNat x0.2.2) w
def F143.k15 (Q : Value → World → Prop) (C4 : ((Option Addr × Nat × Nat) × Int × Unit) → World → Prop) : ((Option Addr × Nat × Nat) × Int × Unit) → World → Prop := fun s w => ∀ _ : Nat → Value, F143.k15c Q C4 s.1 s.2.1 w
def F143.b9c (Q : Value → World → Prop) (C4 : ((Option Addr × Nat × Nat) × Int × Unit) → World → Prop) (C9 : ((Option Addr × Nat × Nat) × Int × (Option Addr × Nat × Nat) × Int × Unit) → World → Prop) (x0 : (Option Addr × Nat × Nat)) (x3 : Int) (x4 : (Option Addr × Nat × Nat)) (x5 : Int) (w : World) : Prop :=
  vIf (decide (x5 < ((x4.2.1 : Nat) : Int)))
  (dr x4.1 fun b8 o9 =>
    gd (decide (0 ≤ x5)) <|
    gd (decide (x5 < ((x4.2.1 : Nat) : Int))) <|
    ldA 32 w.drew b8 (o9 + (x5).toNat * 32) fun a10 =>
    dr x4.1 fun b11 o12 =>
    gd (decide (0 ≤ (IntKind.wrap .i64 (x5 - 1)))) <|
    gd (decide ((IntKind.wrap .i64 (x5 - 1)) < ((x4.2.1 : Nat) : Int))) <|
    ldA 32 w.drew b11 (o12 + ((IntKind.wrap .i64 (x5 - 1))).toNat * 32) fun a13 =>
    eqAB 32 a10 a13 fun t14 =>
    vIf (!t14)
    (dr x4.1 fun b15 o16 =>
      gd (decide (0 ≤ x5)) <|
      gd (decide (x5 < ((x4.2.1 : Nat) : Int))) <|
      ldA 32 w.drew b15 (o16 + (x5).toNat * 32) fun a17 =>
      dr x0.1 fun b18 o19 =>
      gd (decide (0 ≤ x3)) <|
      gd (decide (x3 < ((x0.2.1 : Nat) : Int))) <|
      gd (a17.length == 32) <|
      st w.drew b18 (o19 + (x3).toNat * 32) a17 fun w20 =>
      jnC C9 ((x0.1, x0.2.1, x0.2.2), ((IntKind.wrap .i64 (x3 + 1))), (x4.1, x4.2.1, x4.2.2), ((IntKind.wrap .i64 (x5 + 1))), ()) w20)
    (jnC C9 ((x0.1, x0.2.1, x0.2.2), (x3), (x4.1, x4.2.1, x4.2.2), ((IntKind.wrap .i64 (x5 + 1))), ()) w.drew))
  (gd (decide (0 ≤ x3)) <|
    gd (decide (x3 ≤ ((x0.2.1 : Nat) : Int))) <|
    vIf ((x0.2.1 - (x3).toNat) == 0)
    (jnC (F143.k15 Q C4) ((x0.1, x0.2.1, x0.2.2), (x3), ()) w)
    (dr (slA x0.1 x0.2.2 (x3).toNat 32) fun b22 o23 =>
      st w b22 o23 (zeros (x0.2.1 - (x3).toNat) Z33) fun w21 =>
      jnC (F143.k15 Q C4) ((x0.1, x0.2.1, x0.2.2), (x3), ()) w21))
def F143.b9 (Q : Value → World → Prop) (C4 : ((Option Addr × Nat × Nat) × Int × Unit) → World → Prop) : ((Option Addr × Nat × Nat) × Int × (Option Addr × Nat × Nat) × Int × Unit) → World → (((Option Addr × Nat × Nat) × Int × (Option Addr × Nat × Nat) × Int × Unit) → World → Prop) → Prop := fun s w C9 => ∀ _ : Nat → Value, F143.b9c Q C4 C9 s.1 s.2.1 s.2.2.1 s.2.2.2.1 w
def F143.l9 (Q : Value → World → Prop) (C4 : ((Option Addr × Nat × Nat) × Int × Unit) → World → Prop) : ((Option Addr × Nat × Nat) × Int × (Option Addr × Nat × Nat) × Int × Unit) → World → Prop := fun s w => ∃ n, loopC (F143.b9 Q C4) n s w
def F143.b4c (Q : Value → World → Prop) (C4 : ((Option Addr × Nat × Nat) × Int × Unit) → World → Prop) (x0 : (Option Addr × Nat × Nat)) (x3 : Int) (w : World) : Prop :=
  vIf (decide (x3 < ((x0.2.1 : Nat) : Int)))
  (dr x0.1 fun b1 o2 =>
    gd (decide (0 ≤ x3)) <|
    gd (decide (x3 < ((x0.2.1 : Nat) : Int))) <|
    ldA 32 w.drew b1 (o2 + (x3).toNat * 32) fun a3 =>
    dr x0.1 fun b4 o5 =>
    gd (decide (0 ≤ (IntKind.wrap .i64 (x3 - 1)))) <|
    gd (decide ((IntKind.wrap .i64 (x3 - 1)) < ((x0.2.1 : Nat) : Int))) <|
    ldA 32 w.drew b4 (o5 + ((IntKind.wrap .i64 (x3 - 1))).toNat * 32) fun a6 =>
    eqAB 32 a3 a6 fun t7 =>
    vIf t7
    (gd (decide (0 ≤ x3)) <|
      gd (decide (x3 ≤ ((x0.2.1 : Nat) : Int))) <|
      jnC (F143.l9 Q C4) ((x0.1, x0.2.1, x0.2.2), (x3), ((slA x0.1 x0.2.2 (x3).toNat 32), (x0.2.1 - (x3).toNat), (x0.2.2 - (x3).toNat)), (1), ()) w.drew)
    (jnC C4 ((x0.1, x0.2.1, x0.2.2), ((IntKind.wrap .i64 (x3 + 1))), ()) w.drew))
  (Q (Value.slice x0.1 x0.2.1 x0.2.2) w)
def F143.b4 (Q : Value → World → Prop) : ((Option Addr × Nat × Nat) × Int × Unit) → World → (((Option Addr × Nat × Nat) × Int × Unit) → World → Prop) → Prop := fun s w C4 => ∀ _ : Nat → Value, F143.b4c Q C4 s.1 s.2.1 w
def F143.l4 (Q : Value → World → Prop) : ((Option Addr × Nat × Nat) × Int × Unit) → World → Prop := fun s w => ∃ n, loopC (F143.b4 Q) n s w
def F143.vc (x0A : Option Addr) (x0n x0c : Nat) (w : World) (Q : Value → World → Prop) : Prop :=
  vIf (decide (((x0n : Nat) : Int) < 2))
  (Q (Value.slice x0A x0n x0c) w)
  (jnC (F143.l4 Q) ((x0A, x0n, x0c), (1), ()) w)
def F143.an : Ann := ⟨[(4, [(0, .kSl), (3, .kI .i64)]), (9, [(0, .kSl), (3, .kI .i64), (4, .kSl), (5, .kI .i64)])], [(15, [(0, .kSl), (3, .kI .i64)])]⟩
theorem F143.of (x0A : Option Addr) (x0n x0c : Nat) (w : World) {Q : Value → World → Prop} (h : F143.vc x0A x0n x0c w Q) : Calls Tryz.prog 143 #[Value.slice x0A x0n x0c] w (fun e w' => ∃ v, e = .returned v ∧ Q v w') := vcFn_of (A := F143.an) noCount mixed h (by kernel_rfl)
/-! ### function 144: slices.IndexFunc[[]int,int] -/
def F144s.b2c (Q : Value → World → Prop) (C2 : ((Option Addr × Nat × Nat) × (Nat × Nat) × Int × Int × Unit) → World → Prop) (x0 : (Option Addr × Nat × Nat)) (x1 : (Nat × Nat)) (x7 : Int) (x8 : Int) (w : World) : Prop :=
  vIf (decide (x8 < x7))
  (dr x0.1 fun b1 o2 =>
    gd (decide (0 ≤ x8)) <|
    gd (decide (x8 < ((x0.2.1 : Nat) : Int))) <|
    ldI .i64 w b1 (o2 + (x8).toNat * 1) fun i3 =>
    Calls Tryz.prog 120 #[Value.int .i64 i3, Value.pointer (some ⟨x1.1, x1.2, none⟩)] w fun e5 w4 =>
    ∃ t6 : Bool, e5 = .returned (Value.bool t6) ∧ (
      vIf t6
      (Q (Value.int .i64 x8) w4)
      (jnC C2 ((x0.1, x0.2.1, x0.2.2), (x1.1, x1.2), (x7), ((IntKind.wrap .i64 (x8 + 1))), ()) w4)))
  (Q (Value.int .i64 (-1)) w)
def F144s.b2 (Q : Value → World → Prop) : ((Option Addr × Nat × Nat) × (Nat × Nat) × Int × Int × Unit) → World → (((Option Addr × Nat × Nat) × (Nat × Nat) × Int × Int × Unit) → World → Prop) → Prop := fun s w C2 => ∀ _ : Nat → Value, F144s.b2c Q C2 s.1 s.2.1 s.2.2.1 s.2.2.2.1 w
def F144s.l2 (Q : Value → World → Prop) : ((Option Addr × Nat × Nat) × (Nat × Nat) × Int × Int × Unit) → World → Prop := fun s w => ∃ n, loopC (F144s.b2 Q) n s w
def F144s.vc (x0A : Option Addr) (x0n x0c : Nat) (x1 : Nat × Nat) (w : World) (Q : Value → World → Prop) : Prop :=
  jnC (F144s.l2 Q) ((x0A, x0n, x0c), (x1.1, x1.2), (((x0n : Nat) : Int)), (0), ()) w
def F144s.an : Ann := ⟨[(2, [(0, .kSl), (1, .kG 120), (7, .kI .i64), (8, .kI .i64)])], []⟩
theorem F144s.of (x0A : Option Addr) (x0n x0c : Nat) (x1 : Nat × Nat) (w : World) {Q : Value → World → Prop} (h : F144s.vc x0A x0n x0c x1 w Q) : Calls Tryz.prog 144 #[Value.slice x0A x0n x0c, Value.func (.func 120) #[] #[Value.pointer (some ⟨x1.1, x1.2, none⟩)]] w (fun e w' => ∃ v, e = .returned v ∧ Q v w') := vcFn_of (A := F144s.an) noCount mixed h (by kernel_rfl)
/-! ### function 145: slices.rotateCmpFunc[stillage/api.Word] -/
def F145s.b2c (Q : Value → World → Prop) (C2 : ((Option Addr × Nat × Nat) × Int × Unit × Int × Int × Unit) → World → Prop) (x0 : (Option Addr × Nat × Nat)) (x2 : Int) (x4 : Unit) (x10 : Int) (x11 : Int) (w : World) : Prop :=
  vIf (x10 != x11)
  (vIf (decide (x10 > x11))
    (Calls Tryz.prog 156 #[Value.slice x0.1 x0.2.1 x0.2.2, Value.int .i64 (IntKind.wrap .i64 (x2 - x10)), Value.int .i64 x2, Value.int .i64 x11, Value.func (.func 52) #[] #[]] w fun e2 w1 =>
      e2 = .returned (Value.tuple #[]) ∧ (
        jnC C2 ((x0.1, x0.2.1, x0.2.2), (x2), (), ((IntKind.wrap .i64 (x10 - x11))), (x11), ()) w1))
    (Calls Tryz.prog 156 #[Value.slice x0.1 x0.2.1 x0.2.2, Value.int .i64 (IntKind.wrap .i64 (x2 - x10)), Value.int .i64 (IntKind.wrap .i64 ((IntKind.wrap .i64 (x2 + x11)) - x10)), Value.int .i64 x10, Value.func (.func 52) #[] #[]] w fun e4 w3 =>
      e4 = .returned (Value.tuple #[]) ∧ (
        jnC C2 ((x0.1, x0.2.1, x0.2.2), (x2), (), (x10), ((IntKind.wrap .i64 (x11 - x10))), ()) w3)))
  (Calls Tryz.prog 156 #[Value.slice x0.1 x0.2.1 x0.2.2, Value.int .i64 (IntKind.wrap .i64 (x2 - x10)), Value.int .i64 x2, Value.int .i64 x10, Value.func (.func 52) #[] #[]] w fun e6 w5 =>
    e6 = .returned (Value.tuple #[]) ∧ (
      Q (Value.tuple #[]) w5))
def F145s.b2 (Q : Value → World → Prop) : ((Option Addr × Nat × Nat) × Int × Unit × Int × Int × Unit) → World → (((Option Addr × Nat × Nat) × Int × Unit × Int × Int × Unit) → World → Prop) → Prop := fun s w C2 => ∀ _ : Nat → Value, F145s.b2c Q C2 s.1 s.2.1 s.2.2.1 s.2.2.2.1 s.2.2.2.2.1 w
def F145s.l2 (Q : Value → World → Prop) : ((Option Addr × Nat × Nat) × Int × Unit × Int × Int × Unit) → World → Prop := fun s w => ∃ n, loopC (F145s.b2 Q) n s w
def F145s.vc (x0A : Option Addr) (x0n x0c : Nat) (x1 : Int) (x2 : Int) (x3 : Int) (w : World) (Q : Value → World → Prop) : Prop :=
  jnC (F145s.l2 Q) ((x0A, x0n, x0c), (x2), (), ((IntKind.wrap .i64 (x2 - x1))), ((IntKind.wrap .i64 (x3 - x2))), ()) w
def F145s.an : Ann := ⟨[(2, [(0, .kSl), (2, .kI .i64), (4, .kF 52), (10, .kI .i64), (11, .kI .i64)])], []⟩
theorem F145s.of (x0A : Option Addr) (x0n x0c : Nat) (x1 : Int) (x2 : Int) (x3 : Int) (w : World) {Q : Value → World → Prop} (h : F145s.vc x0A x0n x0c x1 x2 x3 w Q) : Calls Tryz.prog 145 #[Value.slice x0A x0n x0c, Value.int .i64 x1, Value.int .i64 x2, Value.int .i64 x3, Value.func (.func 52) #[] #[]] w (fun e w' => ∃ v, e = .returned v ∧ Q v w') := vcFn_of (A := F145s.an) noCount mixed h (by kernel_rfl)
/-! ### function 146: internal/bytealg.CompareString -/
def F146.vc (x0 : ByteArray) (x1 : ByteArray) (w : World) (Q : Value → World → Prop) : Prop :=
  extC Tryz.prog 157 #[Value.string x0, Value.string x1] w fun v3 w1 =>
  ∃ i4 : Int, v3 = Value.int .i64 i4 ∧ (
    Q (Value.int .i64 i4) w1)
def F146.an : Ann := ⟨[], []⟩
theorem F146.of (x0 : ByteArray) (x1 : ByteArray) (w : World) {Q : Value → World → Prop} (h : F146.vc x0 x1 w Q) : Calls Tryz.prog 146 #[Value.string x0, Value.string x1] w (fun e w' => ∃ v, e = .returned v ∧ Q v w') := vcFn_of (A := F146.an) noCount mixed h (by kernel_rfl)
/-! ### function 148: slices.DeleteFunc[[]int,int] -/
def F148s.k12c (Q : Value → World → Prop) (x0 : (Option Addr × Nat × Nat)) (x5 : Int) (w : World) : Prop :=
  gd (decide (0 ≤ x5)) <|
  gd (decide (x5 ≤ ((x0.2.2 : Nat) : Int))) <|
  Q (Value.slice (slA x0.1 x0.2.2 0 1) (x5).toNat x0.2.2) w
def F148s.k12 (Q : Value → World → Prop) : ((Option Addr × Nat × Nat) × Int × Unit) → World → Prop := fun s w => ∀ _ : Nat → Value, F148s.k12c Q s.1 s.2.1 w
def F148s.b5c (Q : Value → World → Prop) (C5 : ((Option Addr × Nat × Nat) × (Nat × Nat) × Int × Int × Unit) → World → Prop) (x0 : (Option Addr × Nat × Nat)) (x1 : (Nat × Nat)) (x5 : Int) (x6 : Int) (w : World) : Prop :=
  vIf (decide (x6 < ((x0.2.1 : Nat) : Int)))
  (dr x0.1 fun b4 o5 =>
    gd (decide (0 ≤ x6)) <|
    gd (decide (x6 < ((x0.2.1 : Nat) : Int))) <|
    ldI .i64 w b4 (o5 + (x6).toNat * 1) fun i6 =>
    Calls Tryz.prog 149 #[Value.int .i64 i6, Value.pointer (some ⟨x1.1, x1.2, none⟩)] w fun e8 w7 =>
    ∃ t9 : Bool, e8 = .returned (Value.bool t9) ∧ (
      vIf (!t9)
      (dr x0.1 fun b10 o11 =>
        gd (decide (0 ≤ x5)) <|
        gd (decide (x5 < ((x0.2.1 : Nat) : Int))) <|
        st w7 b10 (o11 + (x5).toNat * 1) [Value.int .i64 i6] fun w12 =>
        jnC C5 ((x0.1, x0.2.1, x0.2.2), (x1.1, x1.2), ((IntKind.wrap .i64 (x5 + 1))), ((IntKind.wrap .i64 (x6 + 1))), ()) w12)
      (jnC C5 ((x0.1, x0.2.1, x0.2.2), (x1.1, x1.2), (x5), ((IntKind.wrap .i64 (x6 + 1))), ()) w7)))
  (gd (decide (0 ≤ x5)) <|
    gd (decide (x5 ≤ ((x0.2.1 : Nat) : Int))) <|
    vIf ((x0.2.1 - (x5).toNat) == 0)
    (jnC (F148s.k12 Q) ((x0.1, x0.2.1, x0.2.2), (x5), ()) w)
    (dr (slA x0.1 x0.2.2 (x5).toNat 1) fun b14 o15 =>
      st w b14 o15 (zeros (x0.2.1 - (x5).toNat) [Value.int .i64 0]) fun w13 =>
      jnC (F148s.k12 Q) ((x0.1, x0.2.1, x0.2.2), (x5), ()) w13))
def F148s.b5 (Q : Value → World → Prop) : ((Option Addr × Nat × Nat) × (Nat × Nat) × Int × Int × Unit) → World → (((Option Addr × Nat × Nat) × (Nat × Nat) × Int × Int × Unit) → World → Prop) → Prop := fun s w C5 => ∀ _ : Nat → Value, F148s.b5c Q C5 s.1 s.2.1 s.2.2.1 s.2.2.2.1 w
def F148s.l5 (Q : Value → World → Prop) : ((Option Addr × Nat × Nat) × (Nat × Nat) × Int × Int × Unit) → World → Prop := fun s w => ∃ n, loopC (F148s.b5 Q) n s w
def F148s.vc (x0A : Option Addr) (x0n x0c : Nat) (x1 : Nat × Nat) (w : World) (Q : Value → World → Prop) : Prop :=
  Calls Tryz.prog 144 #[Value.slice x0A x0n x0c, Value.func (.func 149) #[] #[Value.pointer (some ⟨x1.1, x1.2, none⟩)]] w fun e2 w1 =>
  ∃ i3 : Int, e2 = .returned (Value.int .i64 i3) ∧ (
    vIf (i3 == (-1))
    (Q (Value.slice x0A x0n x0c) w1)
    (jnC (F148s.l5 Q) ((x0A, x0n, x0c), (x1.1, x1.2), (i3), ((IntKind.wrap .i64 (i3 + 1))), ()) w1))
def F148s.an : Ann := ⟨[(5, [(0, .kSl), (1, .kG 149), (5, .kI .i64), (6, .kI .i64)])], [(12, [(0, .kSl), (5, .kI .i64)])]⟩
theorem F148s.of (x0A : Option Addr) (x0n x0c : Nat) (x1 : Nat × Nat) (w : World) {Q : Value → World → Prop} (h : F148s.vc x0A x0n x0c x1 w Q) : Calls Tryz.prog 148 #[Value.slice x0A x0n x0c, Value.func (.func 149) #[] #[Value.pointer (some ⟨x1.1, x1.2, none⟩)]] w (fun e w' => ∃ v, e = .returned v ∧ Q v w') := vcFn_of (A := F148s.an) noCount mixed h (by kernel_rfl)
/-! ### function 149: stillage/entry.left$1 -/
def F149.vc (x0 : Int) (x1 : Nat × Nat) (w : World) (Q : Value → World → Prop) : Prop :=
  ldSl w x1.1 x1.2 fun A1 n2 c3 =>
  Calls Tryz.prog 71 #[Value.slice A1 n2 c3, Value.int .i64 x0] w fun e5 w4 =>
  ∃ t6 : Bool, e5 = .returned (Value.bool t6) ∧ (
    Q (Value.bool (!t6)) w4)
def F149.an : Ann := ⟨[], []⟩
theorem F149.of (x0 : Int) (x1 : Nat × Nat) (w : World) {Q : Value → World → Prop} (h : F149.vc x0 x1 w Q) : Calls Tryz.prog 149 #[Value.int .i64 x0, Value.pointer (some ⟨x1.1, x1.2, none⟩)] w (fun e w' => ∃ v, e = .returned v ∧ Q v w') := vcFn_of (A := F149.an) noCount mixed h (by kernel_rfl)
/-! ### function 151: slices.Grow[[]int,int] -/
def F151.k3c (Q : Value → World → Prop) (x0 : (Option Addr × Nat × Nat)) (x1 : Int) (w : World) : Prop :=
  vIf (decide ((IntKind.wrap .i64 (x1 - (IntKind.wrap .i64 (((x0.2.2 : Nat) : Int) - ((x0.2.1 : Nat) : Int))))) > 0))
  (gd (decide (0 ≤ ((x0.2.2 : Nat) : Int))) <|
    gd (decide (((x0.2.2 : Nat) : Int) ≤ ((x0.2.2 : Nat) : Int))) <|
    appZ w 1 8 [Value.int .i64 0] 3 (slA x0.1 x0.2.2 0 1) ((((x0.2.2 : Nat) : Int)).toNat) x0.2.2 (IntKind.wrap .i64 (x1 - (IntKind.wrap .i64 (((x0.2.2 : Nat) : Int) - ((x0.2.1 : Nat) : Int))))) fun A1 n2 c3 w4 =>
    gd (decide (0 ≤ ((x0.2.1 : Nat) : Int))) <|
    gd (decide (((x0.2.1 : Nat) : Int) ≤ ((c3 : Nat) : Int))) <|
    Q (Value.slice (slA A1 c3 0 1) (((x0.2.1 : Nat) : Int)).toNat c3) w4)
  (Q (Value.slice x0.1 x0.2.1 x0.2.2) w)
def F151.k3 (Q : Value → World → Prop) : ((Option Addr × Nat × Nat) × Int × Unit) → World → Prop := fun s w => ∀ _ : Nat → Value, F151.k3c Q s.1 s.2.1 w
def F151.vc (x0A : Option Addr) (x0n x0c : Nat) (x1 : Int) (w : World) (Q : Value → World → Prop) : Prop :=
  vIf (decide (x1 < 0))
  (False)
  (jnC (F151.k3 Q) ((x0A, x0n, x0c), (x1), ()) w)
def F151.an : Ann := ⟨[], [(3, [(0, .kSl), (1, .kI .i64)])]⟩
theorem F151.of (x0A : Option Addr) (x0n x0c : Nat) (x1 : Int) (w : World) {Q : Value → World → Prop} (h : F151.vc x0A x0n x0c x1 w Q) : Calls Tryz.prog 151 #[Value.slice x0A x0n x0c, Value.int .i64 x1] w (fun e w' => ∃ v, e = .returned v ∧ Q v w') := vcFn_of (A := F151.an) noCount mixed h (by kernel_rfl)
/-! ### function 155: bytes.Compare -/
def F155.vc (x0A : Option Addr) (x0n x0c : Nat) (x1A : Option Addr) (x1n x1c : Nat) (w : World) (Q : Value → World → Prop) : Prop :=
  extC Tryz.prog 177 #[Value.slice x0A x0n x0c, Value.slice x1A x1n x1c] w fun v3 w1 =>
  ∃ i4 : Int, v3 = Value.int .i64 i4 ∧ (
    Q (Value.int .i64 i4) w1)
def F155.an : Ann := ⟨[], []⟩
theorem F155.of (x0A : Option Addr) (x0n x0c : Nat) (x1A : Option Addr) (x1n x1c : Nat) (w : World) {Q : Value → World → Prop} (h : F155.vc x0A x0n x0c x1A x1n x1c w Q) : Calls Tryz.prog 155 #[Value.slice x0A x0n x0c, Value.slice x1A x1n x1c] w (fun e w' => ∃ v, e = .returned v ∧ Q v w') := vcFn_of (A := F155.an) noCount mixed h (by kernel_rfl)
/-! ### function 156: slices.swapRangeCmpFunc[stillage/api.Word] -/
def F156s.b1c (Q : Value → World → Prop) (C1 : ((Option Addr × Nat × Nat) × Int × Int × Int × Int × Unit) → World → Prop) (x0 : (Option Addr × Nat × Nat)) (x1 : Int) (x2 : Int) (x3 : Int) (x10 : Int) (w : World) : Prop :=
  vIf (decide (x10 < x3))
  (dr x0.1 fun b1 o2 =>
    gd (decide (0 ≤ (IntKind.wrap .i64 (x2 + x10)))) <|
    gd (decide ((IntKind.wrap .i64 (x2 + x10)) < ((x0.2.1 : Nat) : Int))) <|
    ldA 39 w.drew b1 (o2 + ((IntKind.wrap .i64 (x2 + x10))).toNat * 39) fun a3 =>
    dr x0.1 fun b4 o5 =>
    gd (decide (0 ≤ (IntKind.wrap .i64 (x1 + x10)))) <|
    gd (decide ((IntKind.wrap .i64 (x1 + x10)) < ((x0.2.1 : Nat) : Int))) <|
    ldA 39 w.drew b4 (o5 + ((IntKind.wrap .i64 (x1 + x10))).toNat * 39) fun a6 =>
    dr x0.1 fun b7 o8 =>
    gd (decide (0 ≤ (IntKind.wrap .i64 (x1 + x10)))) <|
    gd (decide ((IntKind.wrap .i64 (x1 + x10)) < ((x0.2.1 : Nat) : Int))) <|
    gd (a3.length == 39) <|
    st w.drew b7 (o8 + ((IntKind.wrap .i64 (x1 + x10))).toNat * 39) a3 fun w9 =>
    dr x0.1 fun b10 o11 =>
    gd (decide (0 ≤ (IntKind.wrap .i64 (x2 + x10)))) <|
    gd (decide ((IntKind.wrap .i64 (x2 + x10)) < ((x0.2.1 : Nat) : Int))) <|
    gd (a6.length == 39) <|
    st w9 b10 (o11 + ((IntKind.wrap .i64 (x2 + x10))).toNat * 39) a6 fun w12 =>
    jnC C1 ((x0.1, x0.2.1, x0.2.2), (x1), (x2), (x3), ((IntKind.wrap .i64 (x10 + 1))), ()) w12)
  (Q (Value.tuple #[]) w)
def F156s.b1 (Q : Value → World → Prop) : ((Option Addr × Nat × Nat) × Int × Int × Int × Int × Unit) → World → (((Option Addr × Nat × Nat) × Int × Int × Int × Int × Unit) → World → Prop) → Prop := fun s w C1 => ∀ _ : Nat → Value, F156s.b1c Q C1 s.1 s.2.1 s.2.2.1 s.2.2.2.1 s.2.2.2.2.1 w
def F156s.l1 (Q : Value → World → Prop) : ((Option Addr × Nat × Nat) × Int × Int × Int × Int × Unit) → World → Prop := fun s w => ∃ n, loopC (F156s.b1 Q) n s w
def F156s.vc (x0A : Option Addr) (x0n x0c : Nat) (x1 : Int) (x2 : Int) (x3 : Int) (w : World) (Q : Value → World → Prop) : Prop :=
  jnC (F156s.l1 Q) ((x0A, x0n, x0c), (x1), (x2), (x3), (0), ()) w
def F156s.an : Ann := ⟨[(1, [(0, .kSl), (1, .kI .i64), (2, .kI .i64), (3, .kI .i64), (10, .kI .i64)])], []⟩
theorem F156s.of (x0A : Option Addr) (x0n x0c : Nat) (x1 : Int) (x2 : Int) (x3 : Int) (w : World) {Q : Value → World → Prop} (h : F156s.vc x0A x0n x0c x1 x2 x3 w Q) : Calls Tryz.prog 156 #[Value.slice x0A x0n x0c, Value.int .i64 x1, Value.int .i64 x2, Value.int .i64 x3, Value.func (.func 52) #[] #[]] w (fun e w' => ∃ v, e = .returned v ∧ Q v w') := vcFn_of (A := F156s.an) noCount mixed h (by kernel_rfl)
/-! ### function 144: slices.IndexFunc[[]int,int] -/
def F144t.b2c (Q : Value → World → Prop) (C2 : ((Option Addr × Nat × Nat) × (Nat × Nat) × Int × Int × Unit) → World → Prop) (x0 : (Option Addr × Nat × Nat)) (x1 : (Nat × Nat)) (x7 : Int) (x8 : Int) (w : World) : Prop :=
  vIf (decide (x8 < x7))
  (dr x0.1 fun b1 o2 =>
    gd (decide (0 ≤ x8)) <|
    gd (decide (x8 < ((x0.2.1 : Nat) : Int))) <|
    ldI .i64 w b1 (o2 + (x8).toNat * 1) fun i3 =>
    Calls Tryz.prog 149 #[Value.int .i64 i3, Value.pointer (some ⟨x1.1, x1.2, none⟩)] w fun e5 w4 =>
    ∃ t6 : Bool, e5 = .returned (Value.bool t6) ∧ (
      vIf t6
      (Q (Value.int .i64 x8) w4)
      (jnC C2 ((x0.1, x0.2.1, x0.2.2), (x1.1, x1.2), (x7), ((IntKind.wrap .i64 (x8 + 1))), ()) w4)))
  (Q (Value.int .i64 (-1)) w)
def F144t.b2 (Q : Value → World → Prop) : ((Option Addr × Nat × Nat) × (Nat × Nat) × Int × Int × Unit) → World → (((Option Addr × Nat × Nat) × (Nat × Nat) × Int × Int × Unit) → World → Prop) → Prop := fun s w C2 => ∀ _ : Nat → Value, F144t.b2c Q C2 s.1 s.2.1 s.2.2.1 s.2.2.2.1 w
def F144t.l2 (Q : Value → World → Prop) : ((Option Addr × Nat × Nat) × (Nat × Nat) × Int × Int × Unit) → World → Prop := fun s w => ∃ n, loopC (F144t.b2 Q) n s w
def F144t.vc (x0A : Option Addr) (x0n x0c : Nat) (x1 : Nat × Nat) (w : World) (Q : Value → World → Prop) : Prop :=
  jnC (F144t.l2 Q) ((x0A, x0n, x0c), (x1.1, x1.2), (((x0n : Nat) : Int)), (0), ()) w
def F144t.an : Ann := ⟨[(2, [(0, .kSl), (1, .kG 149), (7, .kI .i64), (8, .kI .i64)])], []⟩
theorem F144t.of (x0A : Option Addr) (x0n x0c : Nat) (x1 : Nat × Nat) (w : World) {Q : Value → World → Prop} (h : F144t.vc x0A x0n x0c x1 w Q) : Calls Tryz.prog 144 #[Value.slice x0A x0n x0c, Value.func (.func 149) #[] #[Value.pointer (some ⟨x1.1, x1.2, none⟩)]] w (fun e w' => ∃ v, e = .returned v ∧ Q v w') := vcFn_of (A := F144t.an) noCount mixed h (by kernel_rfl)
end Go.Proofs.YthcclmlbkfadcaaGreat
/- the print of chapter 22 -/
/- rows of ints: how they lie; Contains, in, Ints -/
namespace Go.Proofs.YthcclmlbkfadcaaGreat
open Go.GV Go.RowKit Go.Lib
set_option linter.unusedVariables false
set_option linter.unusedSimpArgs false
def ivs (l : List Int) : List Value := l.map (Value.int .i64)
theorem ivs_len (l : List Int) : (ivs l).length = l.length := by simp [ivs]
theorem ivs_app (a b : List Int) : ivs (a ++ b) = ivs a ++ ivs b := by simp [ivs]
theorem ivs_one (l : List Int) : ∀ v ∈ ivs l, v.oneCell' = true := by
  intro v hv
  simp only [ivs, List.mem_map] at hv
  obtain ⟨x, _, rfl⟩ := hv
  rfl
theorem ivs_at {l : List Int} {i : Nat} {x : Int} (h : l[i]? = some x) : (ivs l)[i]? = some (.int .i64 x) := by simp [ivs, h]
theorem ivs_take (l : List Int) (k : Nat) : (ivs l).take k = ivs (l.take k) := by simp [ivs]
theorem ei (i : Nat) (h : i < 1099511627776) : IntKind.wrap .i64 ((i : Int) + 1) = ((i + 1 : Nat) : Int) := by rw [i64_id (by omega) (by omega)]; rfl
theorem sl_n {w : World} {A : Option Addr} {n : Nat} {l : List Int} (h : Sl w 1 A n (ivs l)) : l.length = n := by
  have := h.1
  rw [ivs_len] at this
  omega
theorem sl_at {w : World} {A : Option Addr} {n : Nat} {l : List Int} (h : Sl w 1 A n (ivs l)) {i : Nat} (hi : i < n) {x : Int} (hx : l[i]? = some x) : ∃ b o, A = some ⟨b, o, none⟩ ∧ ∀ j y, l[j]? = some y → cellAt w b (o + j * 1) = some (.int .i64 y) := by
  obtain ⟨b, o, hA, hc⟩ := h.2 (by omega)
  exact ⟨b, o, hA, fun j y hj => by rw [Nat.mul_one]; exact hc j _ (ivs_at hj)⟩
/-- a step of a loop over a row of ints -/
theorem sl_rd {w : World} {A : Option Addr} {n : Nat} {l : List Int} (h : Sl w 1 A n (ivs l)) {i : Nat} (hi : i < n) {x : Int} (hx : l[i]? = some x) {K : Int → Prop} (hK : K x) :
    dr A fun b o => gd (decide (0 ≤ (i : Int))) (gd (decide ((i : Int) < ((n : Nat) : Int))) (ldI .i64 w b (o + ((i : Int)).toNat * 1) K)) := by
  obtain ⟨b, o, rfl, hc⟩ := sl_at h hi hx
  refine dr_mk (gd_mk (decide_eq_true (by omega)) (gd_mk (decide_eq_true (by omega)) ⟨x, ?_, hK⟩))
  rw [Int.toNat_natCast]
  exact hc i x hx
theorem push_int {w : World} {B : Nat} {A : Option Addr} {n c : Nat} {out : List Int} {x : Int} {K : Option Addr → Nat → Nat → World → Prop} (hr : Row w B 3 1 A n c (ivs out)) (hB : B ≤ w.heap.size) (hn : n ≤ 2199023255552)
    (hK : ∀ A' c' w', Row w' B 3 1 A' (n + 1) c' (ivs (out ++ [x])) → Fr (fun k => blkOf A = some k) w w' → K A' (n + 1) c' w') : nw w ([Value.int .i64 x] ++ []) 3 fun b w' => app w' 1 8 [Value.int .i64 0] 3 A n c (.slice (some ⟨b, 0, none⟩) 1 1) K := by
  refine nw_mk ?_
  rw [List.append_nil]
  have f1 : Fr (fun _ => False) w (w.alloc (.cells [Value.int .i64 x].toArray 3)) := Fr.alloc _ _ _
  have r1 : Row (w.alloc (.cells [Value.int .i64 x].toArray 3)) 0 3 1 (some ⟨w.heap.size, 0, none⟩) 1 1 (ivs [x]) := Row.new (Nat.zero_le _) rfl
  have hs : (w.alloc (.cells [Value.int .i64 x].toArray 3)).heap.size = w.heap.size + 1 := alloc_size _ _
  generalize w.alloc (.cells [Value.int .i64 x].toArray 3) = w1 at f1 r1 hs ⊢
  refine app_row (f1.row hr (fun _ _ h => h)) r1.sl.src (ivs_one [x]) rfl (by omega) (by omega) (by omega) (fun A' c' w' hr' f' => hK A' c' w' (by rw [ivs_app]; exact hr') ?_)
  exact f1.trans f' (fun _ _ h => h.elim) (fun _ _ h => h)
theorem row_low {u : World} {B B' : Nat} {e : TypeId} {sz : Nat} {A : Option Addr} {k c : Nat} {vs : List Value} (hB : B' ≤ B) (hr : Row u B e sz A k c vs) : Row u B' e sz A k c vs := by
  refine ⟨hr.len, hr.le, ?_⟩
  rcases hr.at_ with h' | ⟨b', cs', q1, q2, q3⟩
  · exact .inl h'
  · exact .inr ⟨b', cs', q1, by omega, q3⟩
/-- a frame over a row of one's own -/
theorem own_fr {w u v : World} {e : TypeId} {sz : Nat} {A : Option Addr} {n c : Nat} {vs : List Value} (f : Fr (fun _ => False) w u) (hr : Row u w.heap.size e sz A n c vs) (g : Fr (fun k => blkOf A = some k) u v) : Fr (fun _ => False) w v :=
  f.trans g (fun _ _ h => h) (fun k hk h' => by have := (hr.blt h').1; omega)
theorem mem_of_at {l : List Int} {i : Nat} {x : Int} (h : l[i]? = some x) : x ∈ l := List.mem_of_getElem? h
theorem take_succ_at {l : List Int} {i : Nat} {x : Int} (h : l[i]? = some x) : l.take (i + 1) = l.take i ++ [x] := by rw [List.take_add_one, h]; rfl
theorem at_lt {l : List Int} {i : Nat} (h : i < l.length) : l[i]? = some (l[i]'h) := List.getElem?_eq_getElem h
/-! ### in, Contains -/
theorem in_calls (A : Option Addr) (n c : Nat) (l : List Int) (x : Int) (w : World) (h : Sl w 1 A n (ivs l)) (hn : n ≤ 17179869184) :
    Calls Tryz.prog 134 #[.slice A n c, .int .i64 x] w fun e w' => e = .returned (.bool (decide (x ∈ l))) ∧ w' = w := by
  refine (F134.of A n c x w (Q := fun v w' => v = .bool (decide (x ∈ l)) ∧ w' = w) ?_).mono (fun e w' ⟨v, he, hv, h⟩ => ⟨by rw [he, hv], h⟩)
  have hl := sl_n h
  refine jnC_mk (loop_rule (fun s u => u = w ∧ ∃ i : Nat, i ≤ n ∧ s = ((A, n, c), x, (i : Int), ()) ∧ x ∉ l.take i) (fun s _ => (n - s.2.2.1).toNat) ?_ _ _ ⟨rfl, 0, by omega, rfl, by simp⟩)
  rintro s u C ⟨rfl, i, hi, rfl, hno⟩ hC _
  refine vIf_mk (fun hlt => ?_) (fun hge => ?_)
  · have hlt2 : (i : Int) < (n : Int) := of_decide_eq_true hlt
    have gi := at_lt (l := l) (i := i) (by omega)
    refine sl_rd h (by omega) gi ?_
    refine vIf_mk (fun he => ?_) (fun he => jnC_mk (hC _ _ ⟨rfl, i + 1, by omega, by rw [ei i (by omega)], ?_⟩ ?_))
    · have he : l[i]'(by omega) = x := by simpa using he
      exact ⟨by rw [decide_eq_true]; rw [← he]; exact mem_of_at gi, rfl⟩
    · have he : l[i]'(by omega) ≠ x := by simpa using he
      rw [take_succ_at gi]
      intro hm
      rcases List.mem_append.1 hm with h1 | h1
      · exact hno h1
      · simp at h1; exact he h1.symm
    · show ((n : Int) - IntKind.wrap .i64 ((i : Int) + 1)).toNat < ((n : Int) - (i : Int)).toNat
      rw [ei i (by omega)]; omega
  · have hge2 : ¬ (i : Int) < (n : Int) := of_decide_eq_false hge
    rw [List.take_of_length_le (by omega)] at hno
    exact ⟨by rw [decide_eq_false hno], rfl⟩
theorem index_calls (A : Option Addr) (n c : Nat) (l : List Int) (x : Int) (w : World) (h : Sl w 1 A n (ivs l)) (hn : n ≤ 17179869184) :
    Calls Tryz.prog 107 #[.slice A n c, .int .i64 x] w fun e w' => ∃ k : Int, e = .returned (.int .i64 k) ∧ decide (k ≥ 0) = decide (x ∈ l) ∧ w' = w := by
  refine (F107.of A n c x w (Q := fun v w' => ∃ k : Int, v = .int .i64 k ∧ decide (k ≥ 0) = decide (x ∈ l) ∧ w' = w) ?_).mono (fun e w' ⟨v, he, k, hv, h⟩ => ⟨k, by rw [he, hv], h⟩)
  have hl := sl_n h
  refine jnC_mk (loop_rule (fun s u => u = w ∧ ∃ i : Nat, i ≤ n ∧ s = ((A, n, c), x, (n : Int), (i : Int), ()) ∧ x ∉ l.take i) (fun s _ => (n - s.2.2.2.1).toNat) ?_ _ _ ⟨rfl, 0, by omega, rfl, by simp⟩)
  rintro s u C ⟨rfl, i, hi, rfl, hno⟩ hC _
  refine vIf_mk (fun hlt => ?_) (fun hge => ?_)
  · have hlt2 : (i : Int) < (n : Int) := of_decide_eq_true hlt
    have gi := at_lt (l := l) (i := i) (by omega)
    refine sl_rd h (by omega) gi ?_
    refine vIf_mk (fun he => ?_) (fun he => jnC_mk (hC _ _ ⟨rfl, i + 1, by omega, by rw [ei i (by omega)], ?_⟩ ?_))
    · have he : x = l[i]'(by omega) := by simpa using he
      exact ⟨_, rfl, by rw [decide_eq_true (p := x ∈ l) (by rw [he]; exact mem_of_at gi)]; exact decide_eq_true (by show (i : Int) ≥ 0; omega), rfl⟩
    · have he : x ≠ l[i]'(by omega) := by simpa using he
      rw [take_succ_at gi]
      intro hm
      rcases List.mem_append.1 hm with h1 | h1
      · exact hno h1
      · simp at h1; exact he h1
    · show ((n : Int) - IntKind.wrap .i64 ((i : Int) + 1)).toNat < ((n : Int) - (i : Int)).toNat
      rw [ei i (by omega)]; omega
  · have hge2 : ¬ (i : Int) < (n : Int) := of_decide_eq_false hge
    rw [List.take_of_length_le (by omega)] at hno
    exact ⟨-1, rfl, by rw [decide_eq_false hno]; rfl, rfl⟩
theorem contains_calls (A : Option Addr) (n c : Nat) (l : List Int) (x : Int) (w : World) (h : Sl w 1 A n (ivs l)) (hn : n ≤ 17179869184) :
    Calls Tryz.prog 71 #[.slice A n c, .int .i64 x] w fun e w' => e = .returned (.bool (decide (x ∈ l))) ∧ w' = w := by
  refine (F71.of A n c x w (Q := fun v w' => v = .bool (decide (x ∈ l)) ∧ w' = w) ?_).mono (fun e w' ⟨v, he, hv, h⟩ => ⟨by rw [he, hv], h⟩)
  refine (index_calls A n c l x w h hn).mono ?_
  rintro e w' ⟨k, rfl, hk, rfl⟩
  exact ⟨k, rfl, by rw [hk], rfl⟩
/-! ### Ints: are two rows the same? -/
theorem ints_calls (A : Option Addr) (n c : Nat) (l : List Int) (A' : Option Addr) (n' c' : Nat) (l' : List Int) (w : World) (h : Sl w 1 A n (ivs l)) (h' : Sl w 1 A' n' (ivs l')) (hn : n ≤ 17179869184) :
    Calls Tryz.prog 62 #[.slice A n c, .slice A' n' c'] w fun e w' => e = .returned (.bool (decide (l = l'))) ∧ Fr (fun _ => False) w w' := by
  refine (F62.of A n c A' n' c' w (Q := fun v w' => v = .bool (decide (l = l')) ∧ Fr (fun _ => False) w w') ?_).mono (fun e w' ⟨v, he, hv, h⟩ => ⟨by rw [he, hv], h⟩)
  have hl := sl_n h
  have hl' := sl_n h'
  refine vIf_mk (fun hne => ?_) (fun heq => ?_)
  · have hne : (n : Int) ≠ (n' : Int) := by simpa using hne
    exact ⟨by rw [decide_eq_false (fun h => hne (by rw [← hl, ← hl', h]))], Fr.refl _ _⟩
  have heq : (n : Int) = (n' : Int) := by simpa using heq
  refine jnC_mk (loop_rule (fun s u => Fr (fun _ => False) w u ∧ ∃ i : Nat, i ≤ n ∧ s = ((A, n, c), (A', n', c'), (i : Int), ()) ∧ l.take i = l'.take i) (fun s _ => (n - s.2.2.1).toNat) ?_ _ _ ⟨Fr.refl _ _, 0, by omega, rfl, by simp⟩)
  rintro s u C ⟨hf, i, hi, rfl, hso⟩ hC _
  refine vIf_mk (fun hlt => ?_) (fun hge => ?_)
  · have hlt2 : (i : Int) < (n : Int) := of_decide_eq_true hlt
    have gi := at_lt (l := l) (i := i) (by omega)
    have gi' := at_lt (l := l') (i := i) (by omega)
    have fd : Fr (fun _ => False) u u.drew := Fr.drew _ _
    have hd := ((hf.trans1 fd).sl h (fun _ _ _ h => h))
    have hd' := ((hf.trans1 fd).sl h' (fun _ _ _ h => h))
    refine sl_rd hd (by omega) gi (sl_rd hd' (by omega) gi' ?_)
    refine vIf_mk (fun hx => ?_) (fun hx => jnC_mk (hC _ _ ⟨hf.trans1 fd, i + 1, by omega, by rw [ei i (by omega)], ?_⟩ ?_))
    · have hx : l[i]'(by omega) ≠ l'[i]'(by omega) := by simpa using hx
      refine ⟨by rw [decide_eq_false (fun h => hx (by subst h; rfl))], hf.trans1 fd⟩
    · have hx : l[i]'(by omega) = l'[i]'(by omega) := by simpa using hx
      rw [take_succ_at gi, take_succ_at gi', hso, hx]
    · show ((n : Int) - IntKind.wrap .i64 ((i : Int) + 1)).toNat < ((n : Int) - (i : Int)).toNat
      rw [ei i (by omega)]; omega
  · have hge2 : ¬ (i : Int) < (n : Int) := of_decide_eq_false hge
    rw [List.take_of_length_le (by omega), List.take_of_length_le (by omega)] at hso
    exact ⟨by rw [decide_eq_true hso], hf⟩
end Go.Proofs.YthcclmlbkfadcaaGreat
/- ints: Add, Row, both, as plain functions -/
namespace Go.Proofs.YthcclmlbkfadcaaGreat
open Go.GV Go.RowKit Go.Lib
set_option linter.unusedVariables false
set_option linter.unusedSimpArgs false
/-! ### the plain functions -/
def addS (n : Int) (s : List Int × Bool) (x : Int) : List Int × Bool :=
  if !s.2 && decide (n ≤ x) then ((if n < x then s.1 ++ [n] else s.1) ++ [x], true) else (s.1 ++ [x], s.2)
def addI (l : List Int) (n : Int) : List Int :=
  if (l.foldl (addS n) ([], false)).2 then (l.foldl (addS n) ([], false)).1 else (l.foldl (addS n) ([], false)).1 ++ [n]
def addR (n : Int) : List Int → List Int
  | [] => [n]
  | x :: xs => if n ≤ x then (if n < x then n :: x :: xs else x :: xs) else x :: addR n xs
theorem addS_done (n : Int) : ∀ (l o : List Int), l.foldl (addS n) (o, true) = (o ++ l, true)
  | [], o => by simp
  | x :: xs, o => by
    show xs.foldl (addS n) (addS n (o, true) x) = _
    have : addS n (o, true) x = (o ++ [x], true) := by simp [addS]
    rw [this, addS_done n xs (o ++ [x])]
    simp
theorem addS_fold (n : Int) : ∀ (l o : List Int), (if (l.foldl (addS n) (o, false)).2 then (l.foldl (addS n) (o, false)).1 else (l.foldl (addS n) (o, false)).1 ++ [n]) = o ++ addR n l
  | [], o => by simp [addR]
  | x :: xs, o => by
    show (if (xs.foldl (addS n) (addS n (o, false) x)).2 then (xs.foldl (addS n) (addS n (o, false) x)).1 else (xs.foldl (addS n) (addS n (o, false) x)).1 ++ [n]) = _
    unfold addR
    by_cases h : n ≤ x
    · have e : addS n (o, false) x = ((if n < x then o ++ [n] else o) ++ [x], true) := by simp [addS, h]
      rw [e, addS_done]
      rw [if_pos rfl, if_pos h]
      by_cases h2 : n < x
      · rw [if_pos h2, if_pos h2]; simp
      · rw [if_neg h2, if_neg h2]; simp
    · have e : addS n (o, false) x = (o ++ [x], false) := by simp [addS, h]
      rw [e, addS_fold n xs (o ++ [x]), if_neg h]
      simp
theorem addI_eq (l : List Int) (n : Int) : addI l n = addR n l := addS_fold n l []
theorem addR_mem (n : Int) : ∀ (l : List Int) (y : Int), y ∈ addR n l ↔ y = n ∨ y ∈ l
  | [], y => by simp [addR]
  | x :: xs, y => by
    unfold addR
    by_cases h : n ≤ x
    · rw [if_pos h]
      by_cases h2 : n < x
      · rw [if_pos h2]; simp
      · rw [if_neg h2]
        have : n = x := by omega
        subst this
        simp
    · rw [if_neg h]
      simp only [List.mem_cons, addR_mem n xs y]
      constructor
      · rintro (h1 | h1 | h1)
        · exact .inr (.inl h1)
        · exact .inl h1
        · exact .inr (.inr h1)
      · rintro (h1 | h1 | h1)
        · exact .inr (.inl h1)
        · exact .inl h1
        · exact .inr (.inr h1)
def AscI (l : List Int) : Prop := l.Pairwise (· < ·)
theorem addR_asc (n : Int) : ∀ {l : List Int}, AscI l → AscI (addR n l)
  | [], _ => List.pairwise_singleton _ _
  | x :: xs, h => by
    unfold addR
    have hc := List.pairwise_cons.1 h
    by_cases h1 : n ≤ x
    · rw [if_pos h1]
      by_cases h2 : n < x
      · rw [if_pos h2]
        refine List.pairwise_cons.2 ⟨fun y hy => ?_, h⟩
        rcases List.mem_cons.1 hy with rfl | hy
        · exact h2
        · have := hc.1 y hy; omega
      · rw [if_neg h2]; exact h
    · rw [if_neg h1]
      refine List.pairwise_cons.2 ⟨fun y hy => ?_, addR_asc n hc.2⟩
      rcases (addR_mem n xs y).1 hy with rfl | hy
      · omega
      · exact hc.1 y hy
theorem AscI.unique : ∀ {a b : List Int}, AscI a → AscI b → (∀ x, x ∈ a ↔ x ∈ b) → a = b
  | [], [], _, _, _ => rfl
  | [], y :: ys, _, _, h => absurd ((h y).2 (List.mem_cons_self ..)) (by simp)
  | x :: xs, [], _, _, h => absurd ((h x).1 (List.mem_cons_self ..)) (by simp)
  | x :: xs, y :: ys, ha, hb, h => by
    have ha' := List.pairwise_cons.1 ha
    have hb' := List.pairwise_cons.1 hb
    have hxy : x = y := by
      rcases List.mem_cons.1 ((h x).1 (List.mem_cons_self ..)) with e | e
      · exact e
      · rcases List.mem_cons.1 ((h y).2 (List.mem_cons_self ..)) with e' | e'
        · exact e'.symm
        · have := hb'.1 x e; have := ha'.1 y e'; omega
    subst hxy
    congr 1
    refine AscI.unique ha'.2 hb'.2 (fun z => ?_)
    constructor
    · intro hz
      rcases List.mem_cons.1 ((h z).1 (List.mem_cons_of_mem _ hz)) with e | e
      · subst e; have := ha'.1 z hz; omega
      · exact e
    · intro hz
      rcases List.mem_cons.1 ((h z).2 (List.mem_cons_of_mem _ hz)) with e | e
      · subst e; have := hb'.1 z hz; omega
      · exact e
/-- a row, rising, each once -/
def norm (l : List Int) : List Int := l.foldl addI []
theorem norm_snoc (l : List Int) (x : Int) : norm (l ++ [x]) = addI (norm l) x := by simp [norm]
theorem norm_both : ∀ (l : List Int) (acc : List Int), AscI acc → AscI (l.foldl addI acc) ∧ ∀ y, y ∈ l.foldl addI acc ↔ y ∈ acc ∨ y ∈ l
  | [], acc, h => ⟨h, by simp⟩
  | x :: xs, acc, h => by
    obtain ⟨h1, h2⟩ := norm_both xs (addI acc x) (by rw [addI_eq]; exact addR_asc x h)
    refine ⟨h1, fun y => ?_⟩
    show y ∈ xs.foldl addI (addI acc x) ↔ _
    rw [h2, addI_eq, addR_mem, List.mem_cons]
    constructor
    · rintro ((h3 | h3) | h3)
      · exact .inr (.inl h3)
      · exact .inl h3
      · exact .inr (.inr h3)
    · rintro (h3 | h3 | h3)
      · exact .inl (.inr h3)
      · exact .inl (.inl h3)
      · exact .inr h3
theorem norm_asc (l : List Int) : AscI (norm l) := (norm_both l [] List.Pairwise.nil).1
theorem norm_mem (l : List Int) (y : Int) : y ∈ norm l ↔ y ∈ l := by rw [norm, (norm_both l [] List.Pairwise.nil).2]; simp
theorem norm_eq {l r : List Int} (h : AscI r) (hm : ∀ y, y ∈ r ↔ y ∈ l) : r = norm l := h.unique (norm_asc l) (fun y => by rw [hm, norm_mem])
theorem addS_len (n : Int) : ∀ (l : List Int) (s : List Int × Bool), (l.foldl (addS n) s).1.length ≤ s.1.length + l.length + (if s.2 then 0 else 1)
  | [], s => by simp
  | x :: xs, s => by
    have h := addS_len n xs (addS n s x)
    show (xs.foldl (addS n) (addS n s x)).1.length ≤ _
    refine Nat.le_trans h ?_
    obtain ⟨o, d⟩ := s
    cases d with
    | true => simp [addS]; omega
    | false =>
      by_cases h1 : n ≤ x
      · by_cases h2 : n < x
        · simp [addS, h1, h2]; omega
        · simp [addS, h1, h2]; omega
      · simp [addS, h1]; omega
theorem addR_len (n : Int) : ∀ l : List Int, (addR n l).length ≤ l.length + 1
  | [] => by simp [addR]
  | x :: xs => by
    unfold addR
    split
    · split <;> simp
    · have := addR_len n xs; simp; omega
theorem norm_len (l : List Int) : (norm l).length ≤ l.length := by
  have h : ∀ (l acc : List Int), (l.foldl addI acc).length ≤ acc.length + l.length := by
    intro l
    induction l with
    | nil => intro acc; simp
    | cons x xs ih =>
      intro acc
      have h1 := ih (addI acc x)
      have h2 := addR_len x acc
      rw [← addI_eq] at h2
      show (xs.foldl addI (addI acc x)).length ≤ _
      simp; omega
  have := h l []
  simp only [List.length_nil, Nat.zero_add] at this
  exact this
/-! ### Add -/
set_option maxHeartbeats 1000000 in
theorem add_calls (A : Option Addr) (n c : Nat) (l : List Int) (x : Int) (w : World) (h : Sl w 1 A n (ivs l)) (hn : n ≤ 17179869184) :
    Calls Tryz.prog 129 #[.slice A n c, .int .i64 x] w fun e w' => Fr (fun _ => False) w w' ∧ ∃ A' c', e = .returned (.slice A' (addI l x).length c') ∧ Row w' w.heap.size 3 1 A' (addI l x).length c' (ivs (addI l x)) := by
  refine (F129.of A n c x w (Q := fun v w' => Fr (fun _ => False) w w' ∧ ∃ A' c', v = .slice A' (addI l x).length c' ∧ Row w' w.heap.size 3 1 A' (addI l x).length c' (ivs (addI l x))) ?_).mono (fun e w' ⟨v, he, hf, A', c', hv, h⟩ => ⟨hf, A', c', by rw [he, hv], h⟩)
  have hl := sl_n h
  refine jnC_mk (loop_rule (fun s u => Fr (fun _ => False) w u ∧ ∃ (i : Nat) (out : List Int) (dn : Bool) (A5 : Option Addr) (c5 : Nat), i ≤ n ∧ s = ((A, n, c), x, (A5, out.length, c5), dn, (i : Int), ()) ∧ Row u w.heap.size 3 1 A5 out.length c5 (ivs out) ∧ (l.take i).foldl (addS x) ([], false) = (out, dn))
    (fun s _ => (n - s.2.2.2.2.1).toNat) ?_ _ _ ⟨Fr.refl _ _, 0, [], false, none, 0, by omega, rfl, Row.nil _ _ _ _, by simp⟩)
  rintro s u C ⟨hf, i, out, dn, A5, c5, hi, rfl, hr5, hinv⟩ hC _
  have hol : out.length ≤ i + 1 := by
    have := addS_len x (l.take i) ([], false)
    rw [hinv, List.length_take] at this
    simp at this; omega
  have fsz := hf.size
  refine vIf_mk (fun hlt => ?_) (fun hge => ?_)
  · have hlt2 : (i : Int) < (n : Int) := of_decide_eq_true hlt
    have gi := at_lt (l := l) (i := i) (by omega)
    generalize hy : l[i]'(by omega) = y at gi
    have rd : ∀ {v : World}, Fr (fun _ => False) w v → Sl v 1 A n (ivs l) := fun fv => fv.sl h (fun _ _ _ h => h)
    -- the last step: l[i] is appended
    have last : ∀ (u2 : World) (out2 : List Int) (dn2 : Bool) (A2 : Option Addr) (c2 : Nat), Fr (fun _ => False) w u2 → Row u2 w.heap.size 3 1 A2 out2.length c2 (ivs out2) → out2.length ≤ i + 2 → addS x (out, dn) y = (out2 ++ [y], dn2) →
        jnC (F129.k10 (fun v w' => Fr (fun _ => False) w w' ∧ ∃ A' c', v = .slice A' (addI l x).length c' ∧ Row w' w.heap.size 3 1 A' (addI l x).length c' (ivs (addI l x))) C) ((A, n, c), x, (A2, out2.length, c2), dn2, (i : Int), ()) u2 := by
      intro u2 out2 dn2 A2 c2 fu2 hr2 ho2 hst
      refine jnC_mk (fun _ => sl_rd (rd fu2) (by omega) gi ?_)
      refine push_int (n := out2.length) hr2 fu2.size (by omega) (fun A' c' w' hr' f' => ?_)
      have hl1 : out2.length + 1 = (out2 ++ [y]).length := by simp
      refine jnC_mk (hC _ _ ⟨own_fr fu2 hr2 f', i + 1, out2 ++ [y], dn2, A', c', by omega, ?_, by rw [← hl1]; exact hr', ?_⟩ ?_)
      · show (_, _, _, _, IntKind.wrap .i64 ((i : Int) + 1), ()) = _
        rw [ei i (by omega), hl1]
      · rw [take_succ_at gi, List.foldl_append, hinv]; exact hst
      · show ((n : Int) - IntKind.wrap .i64 ((i : Int) + 1)).toNat < ((n : Int) - (i : Int)).toNat
        rw [ei i (by omega)]; omega
    cases dn with
    | true =>
      refine vIf_f rfl (jnC_mk (fun _ => vIf_f rfl ?_))
      exact last u out true A5 c5 hf hr5 (by omega) (by simp [addS])
    | false =>
      refine vIf_t rfl (sl_rd (rd hf) (by omega) gi (jnC_mk (fun _ => ?_)))
      by_cases hxy : x ≤ y
      · refine vIf_t (decide_eq_true hxy) (sl_rd (rd hf) (by omega) gi ?_)
        refine vIf_mk (fun hlt => ?_) (fun hnl => ?_)
        · have hlt : x < y := of_decide_eq_true hlt
          refine push_int (n := out.length) hr5 fsz (by omega) (fun A' c' w' hr' f' => ?_)
          have hl1 : out.length + 1 = (out ++ [x]).length := by simp
          rw [hl1] at hr' ⊢
          exact last w' (out ++ [x]) true A' c' (own_fr hf hr5 f') hr' (by simp; omega) (by simp [addS, hxy, hlt])
        · have hnl : ¬ x < y := of_decide_eq_false hnl
          exact last u out true A5 c5 hf hr5 (by omega) (by simp [addS, hxy, hnl])
      · exact vIf_f (decide_eq_false hxy) (last u out false A5 c5 hf hr5 (by omega) (by simp [addS, hxy]))
  · have hge2 : ¬ (i : Int) < (n : Int) := of_decide_eq_false hge
    rw [List.take_of_length_le (by omega)] at hinv
    cases dn with
    | true =>
      have he : addI l x = out := by unfold addI; rw [hinv]; rfl
      rw [he]
      exact vIf_f rfl ⟨hf, A5, c5, rfl, hr5⟩
    | false =>
      have he : addI l x = out ++ [x] := by unfold addI; rw [hinv]; rfl
      rw [he]
      refine vIf_t rfl (push_int (n := out.length) hr5 fsz (by omega) (fun A' c' w' hr' f' => ?_))
      have hl1 : out.length + 1 = (out ++ [x]).length := by simp
      rw [hl1] at hr' ⊢
      exact ⟨own_fr hf hr5 f', A', c', rfl, hr'⟩
/-! ### Row -/
theorem norm_step {l : List Int} {i : Nat} {x : Int} (h : l[i]? = some x) : norm (l.take (i + 1)) = addI (norm (l.take i)) x := by rw [take_succ_at h, norm_snoc]
theorem rrow_calls (A : Option Addr) (n c : Nat) (l : List Int) (w : World) (h : Sl w 1 A n (ivs l)) (hn : n ≤ 17179869184) :
    Calls Tryz.prog 130 #[.slice A n c] w fun e w' => Fr (fun _ => False) w w' ∧ ∃ A' c', e = .returned (.slice A' (norm l).length c') ∧ Row w' w.heap.size 3 1 A' (norm l).length c' (ivs (norm l)) := by
  refine (F130.of A n c w (Q := fun v w' => Fr (fun _ => False) w w' ∧ ∃ A' c', v = .slice A' (norm l).length c' ∧ Row w' w.heap.size 3 1 A' (norm l).length c' (ivs (norm l))) ?_).mono (fun e w' ⟨v, he, hf, A', c', hv, h⟩ => ⟨hf, A', c', by rw [he, hv], h⟩)
  have hl := sl_n h
  refine jnC_mk (loop_rule (fun s u => Fr (fun _ => False) w u ∧ ∃ (i : Nat) (A5 : Option Addr) (c5 : Nat), i ≤ n ∧ s = ((A, n, c), (A5, (norm (l.take i)).length, c5), (i : Int), ()) ∧ Row u w.heap.size 3 1 A5 (norm (l.take i)).length c5 (ivs (norm (l.take i))))
    (fun s _ => (n - s.2.2.1).toNat) ?_ _ _ ⟨Fr.refl _ _, 0, none, 0, by omega, rfl, Row.nil _ _ _ _⟩)
  rintro s u C ⟨hf, i, A5, c5, hi, rfl, hr5⟩ hC _
  have hol : (norm (l.take i)).length ≤ i := Nat.le_trans (norm_len _) (by rw [List.length_take]; omega)
  refine vIf_mk (fun hlt => ?_) (fun hge => ?_)
  · have hlt2 : (i : Int) < (n : Int) := of_decide_eq_true hlt
    have gi := at_lt (l := l) (i := i) (by omega)
    refine sl_rd (hf.sl h (fun _ _ _ h => h)) (by omega) gi ?_
    refine (add_calls A5 _ c5 _ _ u hr5.sl (by omega)).mono ?_
    rintro e u2 ⟨f2, A', c', rfl, hr'⟩
    refine ⟨_, _, _, rfl, jnC_mk (hC _ _ ⟨hf.trans1 f2, i + 1, A', c', by omega, ?_, by rw [norm_step gi]; exact row_low hf.size hr'⟩ ?_)⟩
    · rw [norm_step gi, ei i (by omega)]
    · show ((n : Int) - IntKind.wrap .i64 ((i : Int) + 1)).toNat < ((n : Int) - (i : Int)).toNat
      rw [ei i (by omega)]; omega
  · have hge2 : ¬ (i : Int) < (n : Int) := of_decide_eq_false hge
    rw [List.take_of_length_le (by omega)] at hr5 ⊢
    exact ⟨hf, A5, c5, rfl, hr5⟩
/-! ### both -/
def both (a b : List Int) : List Int := norm (a.filter (fun x => decide (x ∈ b)))
theorem both_step {a b : List Int} {i : Nat} {x : Int} (h : a[i]? = some x) : both (a.take (i + 1)) b = if x ∈ b then addI (both (a.take i) b) x else both (a.take i) b := by
  unfold both
  rw [take_succ_at h, List.filter_append]
  by_cases hx : x ∈ b
  · rw [if_pos hx, List.filter_cons_of_pos (by simpa using hx)]
    exact norm_snoc _ _
  · rw [if_neg hx, List.filter_cons_of_neg (by simpa using hx)]
    simp
theorem both_calls (A : Option Addr) (n c : Nat) (l : List Int) (S : Option Addr) (m cs : Nat) (sg : List Int) (w : World) (h : Sl w 1 A n (ivs l)) (hs : Sl w 1 S m (ivs sg)) (hn : n ≤ 17179869184) (hm : m ≤ 17179869184) :
    Calls Tryz.prog 133 #[.slice A n c, .slice S m cs] w fun e w' => Fr (fun _ => False) w w' ∧ ∃ A' c', e = .returned (.slice A' (both l sg).length c') ∧ Row w' w.heap.size 3 1 A' (both l sg).length c' (ivs (both l sg)) := by
  refine (F133.of A n c S m cs w (Q := fun v w' => Fr (fun _ => False) w w' ∧ ∃ A' c', v = .slice A' (both l sg).length c' ∧ Row w' w.heap.size 3 1 A' (both l sg).length c' (ivs (both l sg))) ?_).mono (fun e w' ⟨v, he, hf, A', c', hv, h⟩ => ⟨hf, A', c', by rw [he, hv], h⟩)
  have hl := sl_n h
  refine jnC_mk (loop_rule (fun s u => Fr (fun _ => False) w u ∧ ∃ (i : Nat) (A5 : Option Addr) (c5 : Nat), i ≤ n ∧ s = ((A, n, c), (S, m, cs), (A5, (both (l.take i) sg).length, c5), (i : Int), ()) ∧ Row u w.heap.size 3 1 A5 (both (l.take i) sg).length c5 (ivs (both (l.take i) sg)))
    (fun s _ => (n - s.2.2.2.1).toNat) ?_ _ _ ⟨Fr.refl _ _, 0, none, 0, by omega, rfl, Row.nil _ _ _ _⟩)
  rintro s u C ⟨hf, i, A5, c5, hi, rfl, hr5⟩ hC _
  have hol : (both (l.take i) sg).length ≤ i := Nat.le_trans (norm_len _) (Nat.le_trans (List.length_filter_le _ _) (by rw [List.length_take]; omega))
  refine vIf_mk (fun hlt => ?_) (fun hge => ?_)
  · have hlt2 : (i : Int) < (n : Int) := of_decide_eq_true hlt
    have gi := at_lt (l := l) (i := i) (by omega)
    have hm2 : ((n : Int) - IntKind.wrap .i64 ((i : Int) + 1)).toNat < ((n : Int) - (i : Int)).toNat := by rw [ei i (by omega)]; omega
    refine sl_rd (hf.sl h (fun _ _ _ h => h)) (by omega) gi ?_
    refine (in_calls S m cs sg _ u (hf.sl hs (fun _ _ _ h => h)) hm).mono ?_
    rintro e u2 ⟨rfl, rfl⟩
    have hst := both_step (b := sg) gi
    refine ⟨_, rfl, vIf_mk (fun hx => ?_) (fun hx => jnC_mk (hC _ _ ⟨hf, i + 1, A5, c5, by omega, ?_, ?_⟩ hm2))⟩
    · have hx := of_decide_eq_true hx
      rw [if_pos hx] at hst
      refine sl_rd (hf.sl h (fun _ _ _ h => h)) (by omega) gi ?_
      refine (add_calls A5 _ c5 _ _ u2 hr5.sl (by omega)).mono ?_
      rintro e u3 ⟨f2, A', c', rfl, hr'⟩
      exact ⟨_, _, _, rfl, jnC_mk (hC _ _ ⟨hf.trans1 f2, i + 1, A', c', by omega, by rw [hst, ei i (by omega)], by rw [hst]; exact row_low hf.size hr'⟩ hm2)⟩
    · have hx := of_decide_eq_false hx
      rw [if_neg hx] at hst
      rw [hst, ei i (by omega)]
    · have hx := of_decide_eq_false hx
      rw [if_neg hx] at hst
      rw [hst]; exact hr5
  · have hge2 : ¬ (i : Int) < (n : Int) := of_decide_eq_false hge
    rw [List.take_of_length_le (by omega)] at hr5 ⊢
    exact ⟨hf, A5, c5, rfl, hr5⟩
end Go.Proofs.YthcclmlbkfadcaaGreat
/- Laid by the shelf's tools (plain mode): slices.Sort at this program's ints lies as the shelf's does. -/
namespace Go.Proofs
open Go.Shelf
def Tryz.sortI_ren : Go.Shelf.Ren := ⟨fun | 189 => 138 | 125 => 153 | 257 => 152 | 128 => 167 | 129 => 168 | 294 => 158 | 295 => 159 | 296 => 160 | 297 => 161 | 298 => 162 | 299 => 163 | 216 => 164 | 300 => 165 | 301 => 166 | 328 => 178 | 329 => 179 | 330 => 180 | 331 => 181 | 332 => 182 | 215 => 94 | 343 => 186 | n => n, fun | 28 => 46 | 3 => 3 | 46 => 161 | 0 => 0 | 51 => 196 | 53 => 25 | 4 => 4 | 183 => 190 | 182 => 189 | 131 => 100 | 5 => 5 | 9 => 9 | 218 => 203 | 222 => 207 | 228 => 211 | 229 => 59 | n => n, fun | n => n⟩
theorem Tryz.sortI : Go.Proofs.Lays.n189 Tryz.prog Tryz.sortI_ren := {
  mixed := by kernel_rfl
  f125 := Tryz.func153.trans (congrArg some (by kernel_rfl))
  f128 := Tryz.func167.trans (congrArg some (by kernel_rfl))
  f129 := Tryz.func168.trans (congrArg some (by kernel_rfl))
  f189 := Tryz.func138.trans (congrArg some (by kernel_rfl))
  f215 := Tryz.func94.trans (congrArg some (by kernel_rfl))
  f216 := Tryz.func164.trans (congrArg some (by kernel_rfl))
  f257 := Tryz.func152.trans (congrArg some (by kernel_rfl))
  f294 := Tryz.func158.trans (congrArg some (by kernel_rfl))
  f295 := Tryz.func159.trans (congrArg some (by kernel_rfl))
  f296 := Tryz.func160.trans (congrArg some (by kernel_rfl))
  f297 := Tryz.func161.trans (congrArg some (by kernel_rfl))
  f298 := Tryz.func162.trans (congrArg some (by kernel_rfl))
  f299 := Tryz.func163.trans (congrArg some (by kernel_rfl))
  f300 := Tryz.func165.trans (congrArg some (by kernel_rfl))
  f301 := Tryz.func166.trans (congrArg some (by kernel_rfl))
  f328 := Tryz.func178.trans (congrArg some (by kernel_rfl))
  f329 := Tryz.func179.trans (congrArg some (by kernel_rfl))
  f330 := Tryz.func180.trans (congrArg some (by kernel_rfl))
  f331 := Tryz.func181.trans (congrArg some (by kernel_rfl))
  f332 := Tryz.func182.trans (congrArg some (by kernel_rfl))
  f343 := Tryz.func186.trans (congrArg some (by kernel_rfl))
  t0 := Tryz.underlying0
  a0 := Tryz.isAgg0
  z0 := Tryz.sizeOf0
  v0 := Tryz.zeroValue0
  t3 := Tryz.underlying3
  a3 := Tryz.isAgg3
  z3 := Tryz.sizeOf3
  v3 := Tryz.zeroValue3
  t4 := Tryz.underlying4
  a4 := Tryz.isAgg4
  z4 := Tryz.sizeOf4
  v4 := Tryz.zeroValue4
  t5 := Tryz.underlying5
  a5 := Tryz.isAgg5
  z5 := Tryz.sizeOf5
  v5 := Tryz.zeroValue5
  t9 := Tryz.underlying9
  a9 := Tryz.isAgg9
  z9 := Tryz.sizeOf9
  v9 := Tryz.zeroValue9
  t28 := Tryz.underlying46
  a28 := Tryz.isAgg46
  z28 := Tryz.sizeOf46
  v28 := Tryz.zeroValue46
  t46 := Tryz.underlying161
  a46 := Tryz.isAgg161
  z46 := Tryz.sizeOf161
  v46 := Tryz.zeroValue161
  t51 := Tryz.underlying196
  a51 := Tryz.isAgg196
  z51 := Tryz.sizeOf196
  v51 := Tryz.zeroValue196
  t53 := Tryz.underlying25
  a53 := Tryz.isAgg25
  z53 := Tryz.sizeOf25
  v53 := Tryz.zeroValue25
  t131 := Tryz.underlying100
  a131 := Tryz.isAgg100
  z131 := Tryz.sizeOf100
  v131 := Tryz.zeroValue100
  t182 := Tryz.underlying189
  a182 := Tryz.isAgg189
  z182 := Tryz.sizeOf189
  v182 := Tryz.zeroValue189
  t183 := Tryz.underlying190
  a183 := Tryz.isAgg190
  z183 := Tryz.sizeOf190
  v183 := Tryz.zeroValue190
  t218 := Tryz.underlying203
  a218 := Tryz.isAgg203
  z218 := Tryz.sizeOf203
  v218 := Tryz.zeroValue203
  t222 := Tryz.underlying207
  a222 := Tryz.isAgg207
  z222 := Tryz.sizeOf207
  v222 := Tryz.zeroValue207
  t228 := Tryz.underlying211
  a228 := Tryz.isAgg211
  z228 := Tryz.sizeOf211
  v228 := Tryz.zeroValue211
  t229 := Tryz.underlying59
  a229 := Tryz.isAgg59
  z229 := Tryz.sizeOf59
  v229 := Tryz.zeroValue59 }
end Go.Proofs
/- ints: Grow, Concat, Sort -/
namespace Go.Proofs.YthcclmlbkfadcaaGreat
open Go.GV Go.RowKit Go.Lib
set_option linter.unusedVariables false
set_option linter.unusedSimpArgs false
theorem grow_calls (m : Nat) (w : World) (hm : m ≤ 1099511627776) :
    Calls Tryz.prog 151 #[.slice none 0 0, .int .i64 m] w fun e w' => Fr (fun _ => False) w w' ∧ ∃ A' c', e = .returned (.slice A' 0 c') ∧ Row w' w.heap.size 3 1 A' 0 c' [] := by
  refine (F151.of none 0 0 m w (Q := fun v w' => Fr (fun _ => False) w w' ∧ ∃ A' c', v = .slice A' 0 c' ∧ Row w' w.heap.size 3 1 A' 0 c' []) ?_).mono (fun e w' ⟨v, he, hf, A', c', hv, h⟩ => ⟨hf, A', c', by rw [he, hv], h⟩)
  refine vIf_f (decide_eq_false (by omega)) (jnC_mk (fun _ => ?_))
  have e0 : IntKind.wrap .i64 ((m : Int) - IntKind.wrap .i64 (((0 : Nat) : Int) - ((0 : Nat) : Int))) = m := by
    rw [i64_id (n := ((0 : Nat) : Int) - ((0 : Nat) : Int)) (by omega) (by omega), i64_id (by omega) (by omega)]; omega
  show vIf (decide (IntKind.wrap .i64 ((m : Int) - IntKind.wrap .i64 (((0 : Nat) : Int) - ((0 : Nat) : Int))) > 0)) _ _
  refine vIf_mk (fun h0 => ?_) (fun h0 => ⟨Fr.refl _ _, none, 0, rfl, Row.nil _ _ _ _⟩)
  refine gd_mk rfl (gd_mk rfl ?_)
  show appZ w 1 8 [Value.int .i64 0] 3 none 0 0 (IntKind.wrap .i64 ((m : Int) - IntKind.wrap .i64 (((0 : Nat) : Int) - ((0 : Nat) : Int)))) _
  refine appZ_row (Row.nil w w.heap.size 3 1) (m := m) (by rw [e0, i64_id (by omega) (by omega)]) (by omega) (by intro v hv; simp only [List.mem_singleton] at hv; subst hv; rfl) rfl (by omega) (by omega) (Nat.le_refl _) ?_
  intro A' c' w2 r2 f2
  refine gd_mk rfl (gd_mk (decide_eq_true (by show ((0 : Nat) : Int) ≤ (c' : Int); omega)) ⟨f2.mono (fun _ _ h => by simp [blkOf] at h), _, c', rfl, ?_⟩)
  have hsl : slA A' c' 0 1 = A' := by
    unfold slA
    split
    · rfl
    · cases A' with
      | none => rfl
      | some a => simp [Addr.add]
  show Row w2 w.heap.size 3 1 (slA A' c' 0 1) 0 c' []
  rw [hsl]
  refine ⟨rfl, Nat.zero_le _, ?_⟩
  rcases r2.at_ with ⟨h1, h2, h3⟩ | ⟨b, cs, h1, h2, h3, h4, h5⟩
  · exact .inl ⟨h1, rfl, h3⟩
  · exact .inr ⟨b, cs, h1, h2, h3, h4, by simp⟩
/-- Concat of rows of ints that stay as they are -/
theorem concat_calls (A : Option Addr) (n c : Nat) (vs : List Value) (ls : List (List Int)) (w : World) (h : Sl w 1 A n vs) (hn : n = ls.length) (hs : ∀ (i : Nat) (l : List Int), ls[i]? = some l → ∃ (B : Option Addr) (m k : Nat), vs[i]? = some (Value.slice B m k) ∧ Sl w 1 B m (ivs l))
    (hm : ls.flatten.length ≤ 1099511627776) (hn2 : n ≤ 1099511627776) :
    Calls Tryz.prog 137 #[.slice A n c] w fun e w' => Fr (fun _ => False) w w' ∧ ∃ A' c', e = .returned (.slice A' ls.flatten.length c') ∧ Row w' w.heap.size 3 1 A' ls.flatten.length c' (ivs ls.flatten) := by
  refine (F137.of A n c w (Q := fun v w' => Fr (fun _ => False) w w' ∧ ∃ A' c', v = .slice A' ls.flatten.length c' ∧ Row w' w.heap.size 3 1 A' ls.flatten.length c' (ivs ls.flatten)) ?_).mono (fun e w' ⟨v, he, hf, A', c', hv, h⟩ => ⟨hf, A', c', by rw [he, hv], h⟩)
  have tk : ∀ i l, ls[i]? = some l → (ls.take (i + 1)).flatten = (ls.take i).flatten ++ l := fun i l hi => by rw [List.take_add_one, hi]; simp
  have le : ∀ i, (ls.take i).flatten.length ≤ ls.flatten.length := fun i => by
    have := congrArg (fun x => x.flatten.length) (List.take_append_drop i ls)
    simp only [List.flatten_append, List.length_append] at this
    omega
  refine jnC_mk ?_
  refine loop_rule (fun s u => u = w ∧ ∃ i : Nat, i ≤ n ∧ s = ((A, n, c), (((ls.take i).flatten.length : Nat) : Int), (A, n, c), (n : Int), (i : Int), ()))
    (fun s _ => (n - s.2.2.2.2.1).toNat) ?_ _ _ ⟨rfl, 0, by omega, rfl⟩
  rintro s u C ⟨rfl, i, hi, rfl⟩ hC _
  refine vIf_mk (fun hlt => ?_) (fun hge => ?_)
  · have hlt2 : (i : Int) < n := of_decide_eq_true hlt
    obtain ⟨l, hl⟩ : ∃ l, ls[i]? = some l := ⟨_, List.getElem?_eq_getElem (by omega)⟩
    obtain ⟨B, m, k, hv, hB⟩ := hs i l hl
    obtain ⟨b, o, hA', hc⟩ := h.get (i := i) (by omega) hv
    subst hA'
    have hml : l.length = m := sl_n hB
    have h1 := le (i + 1)
    rw [tk i l hl, List.length_append] at h1
    have e1 : IntKind.wrap .i64 ((((ls.take i).flatten.length : Nat) : Int) + (m : Int)) = (((ls.take (i + 1)).flatten.length : Nat) : Int) := by
      rw [i64_id (by omega) (by omega), tk i l hl, List.length_append]; omega
    refine dr_mk (gd_mk (decide_eq_true (Int.natCast_nonneg i)) (gd_mk (decide_eq_true hlt2) ⟨B, m, k, hc, vIf_f (decide_eq_false ?_) (jnC_mk (hC _ _ ⟨rfl, i + 1, by omega, ?_⟩ ?_))⟩))
    · show ¬ (IntKind.wrap .i64 ((((ls.take i).flatten.length : Nat) : Int) + (m : Int)) < 0)
      rw [e1]; omega
    · show ((_, n, c), IntKind.wrap .i64 ((((ls.take i).flatten.length : Nat) : Int) + (m : Int)), (_, n, c), (n : Int), IntKind.wrap .i64 ((i : Int) + 1), ()) = _
      rw [e1, i64_id (by omega) (by omega)]; rfl
    · show ((n : Int) - IntKind.wrap .i64 ((i : Int) + 1)).toNat < ((n : Int) - i).toNat
      rw [i64_id (by omega) (by omega)]; omega
  · have hge2 : ¬ ((i : Int) < n) := of_decide_eq_false hge
    have hin : i = ls.length := by omega
    subst hin
    show Calls Tryz.prog 151 #[.slice none 0 0, .int .i64 (((ls.take ls.length).flatten.length : Nat) : Int)] u _
    rw [List.take_length]
    refine (grow_calls _ u hm).mono ?_
    rintro e w1 ⟨f1, R, rc, rfl, r1⟩
    refine ⟨R, 0, rc, rfl, jnC_mk ?_⟩
    refine loop_rule (fun s x => Fr (fun _ => False) u x ∧ ∃ (i : Nat) (R : Option Addr) (rc : Nat), i ≤ n ∧ s = ((R, (ls.take i).flatten.length, rc), (A, n, c), (n : Int), (i : Int), ()) ∧ Row x u.heap.size 3 1 R (ls.take i).flatten.length rc (ivs (ls.take i).flatten))
      (fun s _ => (n - s.2.2.2.1).toNat) ?_ _ _ ⟨f1, 0, R, rc, by omega, rfl, r1⟩
    rintro s x C2 ⟨hf, i, R, rc, hi, rfl, hr⟩ hC2 _
    have hRb : ∀ k, k < u.heap.size → blkOf R = some k → False := fun k hk hb => by have := (hr.blt hb).1; omega
    refine vIf_mk (fun hlt => ?_) (fun hge => ?_)
    · have hlt2 : (i : Int) < n := of_decide_eq_true hlt
      obtain ⟨l, hl⟩ : ∃ l, ls[i]? = some l := ⟨_, List.getElem?_eq_getElem (by omega)⟩
      obtain ⟨B, m, k, hv, hB⟩ := hs i l hl
      obtain ⟨b, o, hA', hc⟩ := (hf.sl h (fun _ _ _ h => h)).get (i := i) (by omega) hv
      subst hA'
      have hml : l.length = m := sl_n hB
      have h1 := le (i + 1)
      rw [tk i l hl, List.length_append] at h1
      refine dr_mk (gd_mk (decide_eq_true (Int.natCast_nonneg i)) (gd_mk (decide_eq_true hlt2) ⟨B, m, k, hc, ?_⟩))
      refine app_row hr (hf.sl hB (fun _ _ _ h => h)).src (ivs_one l) rfl (by show ((ls.take i).flatten.length + m) * 8 ≤ _; omega) (by show (ls.take i).flatten.length + m ≤ _; omega) hf.size ?_
      intro R' rc' w4 r4 f4
      have e2 : (ls.take i).flatten.length + m = (ls.take (i + 1)).flatten.length := by rw [tk i l hl, List.length_append, hml]
      refine jnC_mk (hC2 _ _ ⟨hf.trans f4 (fun _ _ h => h) (fun k hk h => hRb k hk h), i + 1, R', rc', by omega, ?_, ?_⟩ ?_)
      · show ((R', (ls.take i).flatten.length + m, rc'), (_, n, c), (n : Int), IntKind.wrap .i64 ((i : Int) + 1), ()) = _
        rw [i64_id (by omega) (by omega), e2]; rfl
      · rw [← e2, tk i l hl, ivs_app]
        exact r4
      · show ((n : Int) - IntKind.wrap .i64 ((i : Int) + 1)).toNat < ((n : Int) - i).toNat
        rw [i64_id (by omega) (by omega)]; omega
    · have hge2 : ¬ ((i : Int) < n) := of_decide_eq_false hge
      have hin : i = ls.length := by omega
      subst hin
      rw [List.take_length] at hr ⊢
      exact ⟨hf, R, rc, rfl, hr⟩
/-! ### the sort -/
theorem sort_nil (c : Nat) (w : World) : Calls Tryz.prog 138 #[.slice none 0 c] w fun e w' => e = .returned (.tuple #[]) ∧ w' = w :=
  Any.slices_Sort_int_none Tryz.sortI none c w
open Go.Sort in
theorem sort_int (B : Nat) (e : TypeId) (b c : Nat) (l : List Int) (n : Nat) (w : World) (h : Row w B e 1 (some ⟨b, 0, none⟩) n c (ivs l)) (hn : n < 4611686018427387904) :
    Calls Tryz.prog 138 #[.slice (some ⟨b, 0, none⟩) n c] w fun e' w' => e' = .returned (.tuple #[]) ∧ Fr (fun k => k = b) w w' ∧ ∃ r, Row w' B e 1 (some ⟨b, 0, none⟩) n c (ivs r) ∧ r.Perm l ∧ r.Pairwise (· ≤ ·) := by
  have hrl := sl_n h.sl
  have hlen := h.len
  rcases h.at_ with ⟨h', _⟩ | ⟨b', cs, hA, hB, hh, hs, ht⟩
  · cases h'
  injection hA with hA
  injection hA with hA
  subst hA
  have hH : Holds (Value.int .i64) w b 0 l.toArray := by
    intro j hj
    have hj2 : j < l.length := by simpa using hj
    have e1 : l.toArray[j]! = l[j]'hj2 := by
      rw [getElem!_pos l.toArray j hj]; simp
    rw [e1]
    constructor
    · exact cellsAt_take hh ht j _ (ivs_at (at_lt hj2))
    · simp [World.frozen?, hh]
  have hcon := Any.slices_Sort_int Tryz.sortI b 0 c l w hH (heap_lt hh) (by omega)
  rw [hrl] at hcon
  refine Calls.mono hcon ?_
  rintro e' w' ⟨rfl, q, os, rfl⟩
  generalize hd : l.mergeSort (fun x y => decide (x ≤ y)) = d
  have hperm : d.Perm l := by rw [← hd]; exact List.mergeSort_perm _ _
  have hsrt : d.Pairwise (· ≤ ·) := by
    have h1 := List.pairwise_mergeSort (le := fun x y : Int => decide (x ≤ y)) (fun a b c h1 h2 => by simp at *; omega) (fun a b => by simp; omega) l
    rw [hd] at h1
    exact h1.imp (fun h => of_decide_eq_true h)
  have hdl : d.length = n := by rw [hperm.length_eq, hrl]
  have hle := h.le
  have heap : ∀ k, k < w.heap.size → (grow (putRow (Value.int .i64) (Go.Sort.ahead w q) b 0 d.toArray) os).heap[k]? = if k = b then some (.cells (putCells (Value.int .i64) 0 d.toArray cs) e) else w.heap[k]? := by
    intro k hk
    show ((putRow (Value.int .i64) (Go.Sort.ahead w q) b 0 d.toArray).heap ++ os)[k]? = _
    have hsz : k < (putRow (Value.int .i64) (Go.Sort.ahead w q) b 0 d.toArray).heap.size := by
      show k < ((Go.Sort.ahead w q).heap.modify b _).size
      rw [Array.size_modify]; exact hk
    rw [Array.getElem?_append_left hsz]
    show ((Go.Sort.ahead w q).heap.modify b (onCells (putCells (Value.int .i64) 0 d.toArray)))[k]? = _
    rw [Array.getElem?_modify]
    by_cases hkb : k = b
    · subst hkb
      rw [if_pos rfl, if_pos rfl]
      show Option.map _ w.heap[k]? = _
      rw [hh]; rfl
    · rw [if_neg (fun h => hkb h.symm), if_neg hkb]; rfl
  refine ⟨rfl, ⟨rfl, rfl, rfl, ?_, fun k hk hn' => ?_⟩, d, ⟨?_, hle, .inr ⟨b, putCells (Value.int .i64) 0 d.toArray cs, rfl, hB, ?_, ?_, ?_⟩⟩, hperm, hsrt⟩
  · show w.heap.size ≤ ((putRow (Value.int .i64) (Go.Sort.ahead w q) b 0 d.toArray).heap ++ os).size
    have : (putRow (Value.int .i64) (Go.Sort.ahead w q) b 0 d.toArray).heap.size = w.heap.size := by
      show ((Go.Sort.ahead w q).heap.modify b _).size = _
      rw [Array.size_modify]; rfl
    rw [Array.size_append]; omega
  · rw [heap k hk, if_neg hn']
  · rw [ivs_len, hdl]; omega
  · rw [heap b (heap_lt hh), if_pos rfl]
  · simp [putCells, hs]
  · apply List.ext_getElem?
    intro j
    have hcsz : n ≤ cs.size := by rw [hs]; omega
    by_cases hj : j < n
    · rw [List.getElem?_take, if_pos (by omega), Array.getElem?_toList]
      unfold putCells
      rw [Array.getElem?_mapIdx, Array.getElem?_eq_getElem (show j < cs.size by omega), Option.map_some, if_pos ⟨Nat.zero_le _, by simp; omega⟩]
      rw [Nat.sub_zero, getElem!_pos d.toArray j (by simp; omega), ivs_at (at_lt (by omega))]
      simp
    · rw [List.getElem?_take, if_neg (by omega), List.getElem?_eq_none (by rw [ivs_len, hdl]; omega)]
/-! ### writing into a row of ints -/
theorem row_put {w : World} {B : Nat} {e : TypeId} {sz : Nat} {A : Option Addr} {n c : Nat} {vs us : List Value} {o' : Nat} {K : World → Prop} (hr : Row w B e sz A n c vs) (hn : n ≠ 0) (hfit : o' + us.length ≤ n * sz) (h1 : ∀ v ∈ us, v.oneCell' = true)
    (hK : ∀ w', Row w' B e sz A n c (splice vs o' us) → Fr (fun k => blkOf A = some k) w w' → K w') : dr A fun b o => st w b (o + o') us K := by
  rcases hr.at_ with ⟨_, h0, _⟩ | ⟨b, cs, rfl, hB, hh, hs, ht⟩
  · exact absurd h0 hn
  · have hle := hr.le
    have hl := hr.len
    have hmul : n * sz ≤ c * sz := Nat.mul_le_mul_right _ hle
    show st w b (0 + o') us K
    rw [Nat.zero_add]
    have hfit2 : o' + us.length ≤ cs.toList.length := by simp; omega
    refine ⟨⟨cs, e, 0, 0, hh, by simpa using hfit2, .inl (Nat.zero_le _)⟩, h1, hK _ ⟨by rw [splice_length (by omega)]; exact hl, hle, .inr ⟨b, _, rfl, hB, stB_heap hh, ?_, ?_⟩⟩ (Fr.st (fun _ => rfl))⟩
    · simp only [List.size_toArray]; rw [splice_length hfit2]; simpa using hs
    · apply List.ext_getElem?
      intro j
      simp only [List.getElem?_take]
      by_cases hj : j < n * sz
      · rw [if_pos hj, splice_get hfit2, splice_get (by omega), ← ht]
        simp only [List.getElem?_take]
        by_cases h2 : j < o'
        · rw [if_pos h2, if_pos h2, if_pos hj]
        · rw [if_neg h2, if_neg h2]
          split
          · rfl
          · first | rfl | rw [if_pos hj]
      · rw [if_neg hj, List.getElem?_eq_none (by rw [splice_length (by omega)]; omega)]
theorem row_cut {w : World} {B : Nat} {e : TypeId} {sz : Nat} {A : Option Addr} {n c k : Nat} {vs : List Value} (hr : Row w B e sz A n c vs) (hk : k ≤ n) : Row w B e sz A k c (vs.take (k * sz)) := by
  have hl := hr.len
  have hle := hr.le
  have hmul : k * sz ≤ n * sz := Nat.mul_le_mul_right _ hk
  refine ⟨by rw [List.length_take]; omega, by omega, ?_⟩
  rcases hr.at_ with ⟨h1, h2, h3⟩ | ⟨b, cs, h1, h2, h3, h4, h5⟩
  · exact .inl ⟨h1, by omega, h3⟩
  · refine .inr ⟨b, cs, h1, h2, h3, h4, ?_⟩
    rw [← h5, List.take_take, Nat.min_eq_left hmul]
theorem ivs_set {P : List Int} {k : Nat} {x : Int} (hk : k < P.length) : ivs (P.set k x) = splice (ivs P) (k * 1) [.int .i64 x] := by
  have hfit : k * 1 + [Value.int .i64 x].length ≤ (ivs P).length := by rw [ivs_len]; simp; omega
  apply List.ext_getElem?
  intro t
  rw [splice_get hfit]
  simp only [Nat.mul_one, List.length_singleton, ivs, List.map_set]
  by_cases h1 : t < k
  · rw [if_pos h1, List.getElem?_set_ne (by omega)]
  · rw [if_neg h1]
    by_cases h2 : t < k + 1
    · have : t = k := by omega
      subst this
      rw [if_pos h2, List.getElem?_set_self (by simpa using hk)]
      simp
    · rw [if_neg h2, List.getElem?_set_ne (by omega)]
/-- the tail of a row is cleared -/
theorem row_clear {w : World} {B : Nat} {e : TypeId} {b n c k : Nat} {P : List Int} {K : World → Prop} (hr : Row w B e 1 (some ⟨b, 0, none⟩) n c (ivs P)) (hk : k < n)
    (hK : ∀ w', Row w' B e 1 (some ⟨b, 0, none⟩) k c (ivs (P.take k)) → Fr (fun j => j = b) w w' → K w') : dr (slA (some (⟨b, 0, none⟩ : Addr)) c k 1) fun b o => st w b o (zeros (n - k) [Value.int .i64 0]) K := by
  have hle := hr.le
  have hPl := sl_n hr.sl
  have hsk : slA (some (⟨b, 0, none⟩ : Addr)) c k 1 = some ⟨b, 0 + k * 1, none⟩ := by
    unfold slA
    rw [if_neg (by omega), Option.map_some, add_none]
  rw [hsk]
  refine row_put (A := some ⟨b, 0, none⟩) (o' := k * 1) hr (by omega) (by rw [zeros_length]; simp; omega) (fun v hv => ?_) (fun u2 hr2 f2 => hK u2 ?_ (f2.mono (fun j _ hj => by simpa [blkOf] using hj.symm)))
  · simp only [zeros, List.mem_flatten, List.mem_replicate] at hv
    obtain ⟨l, ⟨_, rfl⟩, hv⟩ := hv
    simp at hv; subst hv; rfl
  · have hcut := row_cut hr2 (k := k) (by omega)
    have e : (splice (ivs P) (k * 1) (zeros (n - k) [Value.int .i64 0])).take (k * 1) = ivs (P.take k) := by
      unfold splice
      rw [List.append_assoc, List.take_append_of_le_length (by rw [List.length_take, ivs_len]; omega), List.take_take, Nat.min_self, Nat.mul_one, ivs_take]
    rw [e] at hcut
    exact hcut
theorem slA_zero (b c : Nat) : slA (some (⟨b, 0, none⟩ : Addr)) c 0 1 = some ⟨b, 0, none⟩ := by
  unfold slA
  split
  · rfl
  · simp [Addr.add]
end Go.Proofs.YthcclmlbkfadcaaGreat
/- ints: Compact; the program row -/
namespace Go.Proofs.YthcclmlbkfadcaaGreat
open Go.GV Go.RowKit Go.Lib
set_option linter.unusedVariables false
set_option linter.unusedSimpArgs false
/-- without neighbours that are one -/
def cpt (r : List Int) : Nat → List Int
  | 0 => []
  | n + 1 => cpt r n ++ (if n ≠ 0 ∧ r[n]? = r[n - 1]? then [] else r[n]?.toList)
theorem cpt_len (r : List Int) : ∀ n, (cpt r n).length ≤ n
  | 0 => Nat.le_refl _
  | n + 1 => by
    have := cpt_len r n
    simp only [cpt, List.length_append]
    split
    · simp; omega
    · cases r[n]? <;> simp <;> omega
theorem cpt_mem (r : List Int) : ∀ n d, d ∈ cpt r n ↔ d ∈ r.take n
  | 0, d => by simp [cpt]
  | n + 1, d => by
    have ih := cpt_mem r n d
    rw [cpt, List.take_add_one, List.mem_append, List.mem_append, ih]
    by_cases h : n ≠ 0 ∧ r[n]? = r[n - 1]?
    · rw [if_pos h]
      constructor
      · intro h'; exact h'.elim .inl (fun h => by cases h)
      · rintro (h' | h')
        · exact .inl h'
        · left
          rw [h.2] at h'
          cases hr : r[n - 1]? with
          | none => rw [hr] at h'; cases h'
          | some x =>
            rw [hr] at h'
            simp at h'
            subst h'
            exact List.mem_of_getElem? (i := n - 1) (by rw [List.getElem?_take, if_pos (by omega)]; exact hr)
    · rw [if_neg h]
theorem cpt_asc {r : List Int} (h : r.Pairwise (· ≤ ·)) : ∀ n, n ≤ r.length → AscI (cpt r n)
  | 0, _ => List.Pairwise.nil
  | n + 1, hn => by
    have ih := cpt_asc h n (by omega)
    rw [cpt]
    by_cases hc : n ≠ 0 ∧ r[n]? = r[n - 1]?
    · rw [if_pos hc, List.append_nil]; exact ih
    · rw [if_neg hc, List.getElem?_eq_getElem (by omega)]
      refine List.pairwise_append.2 ⟨ih, by simp, fun a ha b hb => ?_⟩
      simp at hb
      subst hb
      have ha' := (cpt_mem r n a).1 ha
      obtain ⟨i, hi, hai⟩ := List.mem_iff_getElem.1 ha'
      rw [List.length_take] at hi
      rw [List.getElem_take] at hai
      have hn0 : n ≠ 0 := by omega
      have hprev : r[n - 1]'(by omega) ≠ r[n]'(by omega) := by
        intro he
        apply hc
        refine ⟨hn0, ?_⟩
        rw [List.getElem?_eq_getElem (by omega), List.getElem?_eq_getElem (by omega), he]
      have hp := List.pairwise_iff_getElem.1 h
      have h2 := hp (n - 1) n (by omega) (by omega) (by omega)
      subst hai
      by_cases hin : i = n - 1
      · subst hin; omega
      · have h3 := hp i (n - 1) (by omega) (by omega) (by omega)
        omega
set_option maxHeartbeats 1000000 in
theorem compact_int (B : Nat) (e : TypeId) (A : Option Addr) (c : Nat) (r : List Int) (n : Nat) (w : World) (h : Row w B e 1 A n c (ivs r)) (hn : n ≤ 1099511627776) :
    Calls Tryz.prog 139 #[.slice A n c] w fun e' w' => e' = .returned (.slice A (cpt r n).length c) ∧ Fr (fun k => blkOf A = some k) w w' ∧ Row w' B e 1 A (cpt r n).length c (ivs (cpt r n)) := by
  refine (F139.of A n c w (Q := fun v w' => v = .slice A (cpt r n).length c ∧ Fr (fun k => blkOf A = some k) w w' ∧ Row w' B e 1 A (cpt r n).length c (ivs (cpt r n))) ?_).mono (fun e w' ⟨v, he, hv, h⟩ => ⟨by rw [he, hv], h⟩)
  have hrl := sl_n h.sl
  have whole : ∀ i, i ≤ n → cpt r i = r.take i → i = n → ∀ u, Fr (fun k => blkOf A = some k) w u → Row u B e 1 A n c (ivs r) → (Value.slice A n c = .slice A (cpt r n).length c ∧ Fr (fun k => blkOf A = some k) w u ∧ Row u B e 1 A (cpt r n).length c (ivs (cpt r n))) := by
    intro i hi hc he u hf hr
    subst he
    rw [hc, List.take_of_length_le (by omega), hrl]
    exact ⟨rfl, hf, hr⟩
  refine vIf_mk (fun h2 => ?_) (fun h2 => jnC_mk ?_)
  · have h2 : (n : Int) < 2 := of_decide_eq_true h2
    refine whole n (Nat.le_refl _) ?_ rfl w (Fr.refl _ _) h
    match n, h2 with
    | 0, _ => rfl
    | 1, _ => simp [cpt, List.take_one, List.head?_eq_getElem?]
    | n + 2, h2 => omega
  have h2 : ¬ (n : Int) < 2 := of_decide_eq_false h2
  have hle := h.le
  obtain ⟨b, hA⟩ : ∃ b, A = some ⟨b, 0, none⟩ := by
    rcases h.at_ with ⟨_, h0, _⟩ | ⟨b, _, hA, _⟩
    · omega
    · exact ⟨b, hA⟩
  subst hA
  refine loop_rule (fun s u => Fr (fun k => blkOf (some (⟨b, 0, none⟩ : Addr)) = some k) w u ∧ Row u B e 1 (some ⟨b, 0, none⟩) n c (ivs r) ∧ ∃ i : Nat, 1 ≤ i ∧ i ≤ n ∧ s = ((some ⟨b, 0, none⟩, n, c), (i : Int), ()) ∧ cpt r i = r.take i)
    (fun s _ => (n - s.2.1).toNat) ?_ _ _ ⟨Fr.refl _ _, h, 1, by omega, by omega, rfl, by simp [cpt, List.take_one, List.head?_eq_getElem?]⟩
  rintro s u C4 ⟨hf, hr, i, hi1, hi, rfl, hc⟩ hC4 _
  refine vIf_mk (fun hlt => ?_) (fun hge => ?_)
  · have hlt2 : (i : Int) < (n : Int) := of_decide_eq_true hlt
    have hrd := (Fr.drew (fun _ => False) u).row hr (fun _ _ h => h)
    have ei1 : IntKind.wrap .i64 ((i : Int) - 1) = ((i - 1 : Nat) : Int) := by rw [i64_id (by omega) (by omega)]; omega
    have gi := at_lt (l := r) (i := i) (by omega)
    have gp := at_lt (l := r) (i := i - 1) (by omega)
    dsimp only
    rw [ei1]
    refine sl_rd hrd.sl (by omega) gi (sl_rd hrd.sl (by omega) gp ?_)
    refine vIf_mk (fun he => ?_) (fun hne => ?_)
    · have he : r[i]'(by omega) = r[i - 1]'(by omega) := by simpa using he
      have hsame : cpt r (i + 1) = r.take i := by
        rw [cpt, if_pos ⟨by omega, by rw [gi, gp, he]⟩, List.append_nil, hc]
      refine gd_mk (decide_eq_true (by omega)) (gd_mk (decide_eq_true (by omega)) (jnC_mk ?_))
      rw [Int.toNat_natCast]
      have hsl : slA (some (⟨b, 0, none⟩ : Addr)) c i 1 = some ⟨b, 0 + i * 1, none⟩ := by
        unfold slA
        rw [if_neg (by omega), Option.map_some, add_none]
      rw [hsl]
      refine loop_rule (fun s u => Fr (fun k => blkOf (some (⟨b, 0, none⟩ : Addr)) = some k) w u ∧ ∃ (j : Nat) (P : List Int), 1 ≤ j ∧ i + j ≤ n ∧ P.length = n ∧ Row u B e 1 (some ⟨b, 0, none⟩) n c (ivs P) ∧ (cpt r (i + j)).length < i + j ∧ P.take (cpt r (i + j)).length = cpt r (i + j) ∧ P.drop (cpt r (i + j)).length = r.drop (cpt r (i + j)).length ∧
          s = ((some ⟨b, 0, none⟩, n, c), (((cpt r (i + j)).length : Nat) : Int), (some ⟨b, 0 + i * 1, none⟩, n - i, c - i), (j : Int), ()))
        (fun s _ => (n - s.2.2.2.1).toNat) ?_ _ _ ⟨hf.trans (Fr.drew (fun _ => False) u) (fun _ _ h => h) (fun _ _ h => h.elim), 1, r, by omega, by omega, hrl, hrd, ?_, ?_, ?_, ?_⟩
      rotate_left
      · rw [hsame, List.length_take]; omega
      · rw [hsame, List.length_take, Nat.min_eq_left (by omega)]
      · rfl
      · rw [hsame, List.length_take, Nat.min_eq_left (by omega)]; rfl
      clear hC4 hf hr hrd
      rintro s u C9 ⟨hf, j, P, hj1, hjn, hPl, hr, hk, htk, hdp, rfl⟩ hC9 _
      generalize hkk : (cpt r (i + j)).length = k at hk htk hdp
      have hrd := (Fr.drew (fun _ => False) u).row hr (fun _ _ h => h)
      have hget : ∀ q, k ≤ q → P[q]? = r[q]? := by
        intro q hq
        have h1 : (P.drop k)[q - k]? = (r.drop k)[q - k]? := by rw [hdp]
        rw [List.getElem?_drop, List.getElem?_drop, show k + (q - k) = q by omega] at h1
        exact h1
      -- the tail of the row, as a slice
      have tail : Sl u.drew 1 (some (⟨b, 0 + i * 1, none⟩ : Addr)) (n - i) (ivs (P.drop i)) := by
        refine ⟨by rw [ivs_len, List.length_drop]; omega, fun _ => ⟨b, 0 + i * 1, rfl, fun q v hq => ?_⟩⟩
        obtain ⟨b', o', hA, hcell⟩ := hrd.sl.2 (by omega)
        cases hA
        have := hcell (i + q) v (by
          unfold ivs at hq ⊢
          rw [List.getElem?_map, List.getElem?_drop] at hq
          rw [List.getElem?_map]; exact hq)
        rw [show 0 + i * 1 + q = 0 + (i + q) by omega]; exact this
      refine vIf_mk (fun hlt => ?_) (fun hge => ?_)
      · have hlt3 : (j : Int) < ((n - i : Nat) : Int) := of_decide_eq_true hlt
        have ej : IntKind.wrap .i64 ((j : Int) - 1) = ((j - 1 : Nat) : Int) := by rw [i64_id (by omega) (by omega)]; omega
        have gi := at_lt (l := r) (i := i + j) (by omega)
        have gp := at_lt (l := r) (i := i + j - 1) (by omega)
        have ti : (P.drop i)[j]? = some (r[i + j]'(by omega)) := by rw [List.getElem?_drop, hget _ (by omega), gi]
        have tp : (P.drop i)[j - 1]? = some (r[i + j - 1]'(by omega)) := by rw [List.getElem?_drop, show i + (j - 1) = i + j - 1 by omega, hget _ (by omega), gp]
        dsimp only
        rw [ej]
        refine sl_rd tail (by omega) ti (sl_rd tail (by omega) tp ?_)
        have enext : IntKind.wrap .i64 ((j : Int) + 1) = ((j + 1 : Nat) : Int) := by rw [i64_id (by omega) (by omega)]; rfl
        refine vIf_mk (fun hne => ?_) (fun he => ?_)
        · have hne2 : r[i + j]'(by omega) ≠ r[i + j - 1]'(by omega) := by simpa using hne
          have hnx : cpt r (i + (j + 1)) = cpt r (i + j) ++ [r[i + j]'(by omega)] := by
            rw [← Nat.add_assoc, cpt, if_neg, gi, Option.toList_some]
            rintro ⟨_, h'⟩
            rw [gi, gp] at h'
            exact hne2 (Option.some.inj h')
          refine sl_rd tail (by omega) ti (dr_mk (gd_mk (decide_eq_true (by omega)) (gd_mk (decide_eq_true (by omega)) ?_)))
          simp only [Int.toNat_natCast]
          refine row_put (A := some ⟨b, 0, none⟩) (o' := k * 1) hrd (by omega) (by simp; omega) (fun v hv => by simp at hv; subst hv; rfl) (fun u2 hr2 f2 => jnC_mk (hC9 _ _ ⟨?_, j + 1, P.set k (r[i + j]'(by omega)), by omega, by omega, by simpa using hPl, ?_, ?_, ?_, ?_, ?_⟩ ?_))
          · exact (hf.trans (Fr.drew (fun _ => False) u) (fun _ _ h => h) (fun _ _ h => h.elim)).trans1 f2
          · rw [ivs_set (by omega)]; exact hr2
          · rw [hnx, List.length_append, hkk]; simp; omega
          · rw [hnx, List.length_append, hkk]
            show (P.set k _).take (k + 1) = _
            rw [List.take_add_one, List.getElem?_set_self (by omega), Option.toList_some, List.take_set_of_le (Nat.le_refl k), htk]
          · rw [hnx, List.length_append, hkk]
            show (P.set k _).drop (k + 1) = r.drop (k + 1)
            rw [List.drop_set_of_lt (by omega)]
            have h3 := congrArg (List.drop 1) hdp
            rw [List.drop_drop, List.drop_drop] at h3
            exact h3
          · rw [hnx, List.length_append, hkk, enext]
            show (_, IntKind.wrap .i64 ((k : Int) + 1), _, _, ()) = _
            rw [i64_id (by omega) (by omega)]; rfl
          · show ((n : Int) - IntKind.wrap .i64 ((j : Int) + 1)).toNat < ((n : Int) - (j : Int)).toNat
            rw [enext]; omega
        · have he2 : r[i + j]'(by omega) = r[i + j - 1]'(by omega) := by simpa using he
          have hnx : cpt r (i + (j + 1)) = cpt r (i + j) := by
            rw [← Nat.add_assoc, cpt, if_pos ⟨by omega, by rw [gi, gp, he2]⟩, List.append_nil]
          refine jnC_mk (hC9 _ _ ⟨hf.trans (Fr.drew (fun _ => False) u) (fun _ _ h => h) (fun _ _ h => h.elim), j + 1, P, by omega, by omega, hPl, hrd, by rw [hnx, hkk]; omega, by rw [hnx, hkk]; exact htk, by rw [hnx, hkk]; exact hdp, ?_⟩ ?_)
          · rw [hnx, hkk, enext]
          · show ((n : Int) - IntKind.wrap .i64 ((j : Int) + 1)).toNat < ((n : Int) - (j : Int)).toNat
            rw [enext]; omega
      · have hge3 : ¬ (j : Int) < ((n - i : Nat) : Int) := of_decide_eq_false hge
        have hij : i + j = n := by omega
        rw [hij] at hkk htk
        dsimp only
        simp only [Int.toNat_natCast]
        refine gd_mk (decide_eq_true (by omega)) (gd_mk (decide_eq_true (by omega)) (vIf_f (by simp; omega) ?_))
        refine row_clear hr (by omega) (fun u2 hr2 f2 => jnC_mk (fun _ => ?_))
        refine gd_mk (decide_eq_true (by show (0 : Int) ≤ (k : Int); omega)) (gd_mk (decide_eq_true (by show (k : Int) ≤ (c : Int); omega)) ⟨?_, hf.trans1 (f2.mono (fun q _ hq => by subst hq; rfl)), ?_⟩)
        · show Value.slice (slA (some ⟨b, 0, none⟩) c 0 1) ((k : Int).toNat) c = _
          rw [Int.toNat_natCast, hkk, slA_zero]
        · rw [hkk]
          rw [htk] at hr2
          exact hr2
    · have hne2 : r[i]'(by omega) ≠ r[i - 1]'(by omega) := by simpa using hne
      refine jnC_mk (hC4 _ _ ⟨hf.trans (Fr.drew (fun _ => False) u) (fun _ _ h => h) (fun _ _ h => h.elim), hrd, i + 1, by omega, by omega, ?_, ?_⟩ ?_)
      · show (_, IntKind.wrap .i64 ((i : Int) + 1), ()) = _
        rw [i64_id (by omega) (by omega)]; rfl
      · rw [cpt, if_neg, hc, List.take_add_one]
        rintro ⟨_, h'⟩
        rw [gi, gp] at h'
        exact hne2 (Option.some.inj h')
      · show ((n : Int) - IntKind.wrap .i64 ((i : Int) + 1)).toNat < ((n : Int) - (i : Int)).toNat
        rw [i64_id (by omega) (by omega)]; omega
  · have hge2 : ¬ (i : Int) < (n : Int) := of_decide_eq_false hge
    exact whole i hi hc (by omega) u hf hr
theorem row_calls (A : Option Addr) (n c : Nat) (vs : List Value) (ls : List (List Int)) (w : World) (h : Sl w 1 A n vs) (hn : n = ls.length) (hs : ∀ (i : Nat) (l : List Int), ls[i]? = some l → ∃ (B : Option Addr) (m k : Nat), vs[i]? = some (Value.slice B m k) ∧ Sl w 1 B m (ivs l))
    (hm : ls.flatten.length ≤ 1099511627776) (hn2 : n ≤ 1099511627776) :
    Calls Tryz.prog 117 #[.slice A n c] w fun e w' => Fr (fun _ => False) w w' ∧ ∃ A' c', e = .returned (.slice A' (norm ls.flatten).length c') ∧ Row w' w.heap.size 3 1 A' (norm ls.flatten).length c' (ivs (norm ls.flatten)) := by
  refine (F117.of A n c w (Q := fun v w' => Fr (fun _ => False) w w' ∧ ∃ A' c', v = .slice A' (norm ls.flatten).length c' ∧ Row w' w.heap.size 3 1 A' (norm ls.flatten).length c' (ivs (norm ls.flatten))) ?_).mono (fun e w' ⟨v, he, hf, A', c', hv, h⟩ => ⟨hf, A', c', by rw [he, hv], h⟩)
  refine (concat_calls A n c vs ls w h hn hs hm hn2).mono ?_
  rintro e w1 ⟨f1, A1, c1, rfl, h1⟩
  refine ⟨_, _, _, rfl, ?_⟩
  generalize ls.flatten = r at *
  have fin : ∀ (u : World) (r1 : List Int), Fr (fun k => blkOf A1 = some k) w1 u → Row u w.heap.size 3 1 A1 r.length c1 (ivs r1) → r1.Perm r → r1.Pairwise (· ≤ ·) →
      Calls Tryz.prog 139 #[.slice A1 r.length c1] u fun e9 w8 => ∃ (A10 : Option Addr) (n11 c12 : Nat), e9 = .returned (.slice A10 n11 c12) ∧ (Fr (fun _ => False) w w8 ∧ ∃ A' c', Value.slice A10 n11 c12 = .slice A' (norm r).length c' ∧ Row w8 w.heap.size 3 1 A' (norm r).length c' (ivs (norm r))) := by
    intro u r1 fu hr1 hp hs
    have hl1 := sl_n hr1.sl
    refine (compact_int w.heap.size _ A1 c1 r1 r.length u hr1 hm).mono ?_
    rintro e w8 ⟨rfl, f8, h8⟩
    have heq : cpt r1 r.length = norm r := norm_eq (cpt_asc hs _ (by omega)) (fun y => by rw [cpt_mem, List.take_of_length_le (by omega)]; exact hp.mem_iff)
    rw [heq] at h8 ⊢
    refine ⟨_, _, _, rfl, ?_, A1, c1, rfl, h8⟩
    have hA : ∀ k, blkOf A1 = some k → w.heap.size ≤ k := fun k hk => (h1.blt hk).1
    exact (f1.trans fu (fun _ _ h => h) (fun k hk h' => by have := hA k h'; omega)).trans f8 (fun _ _ h => h) (fun k hk h' => by have := hA k h'; omega)
  cases A1 with
  | none =>
    have hn0 : r.length = 0 ∧ c1 = 0 := by
      rcases h1.at_ with ⟨_, h', h''⟩ | ⟨_, _, h', _⟩
      · exact ⟨h', h''⟩
      · cases h'
    obtain ⟨hr0, rfl⟩ := hn0
    have : r = [] := List.length_eq_zero_iff.1 hr0
    subst this
    refine (sort_nil 0 w1).mono ?_
    rintro e w2 ⟨rfl, rfl⟩
    exact ⟨rfl, fin w2 [] (Fr.refl _ _) h1 (List.Perm.refl _) List.Pairwise.nil⟩
  | some a =>
    have ha : ∃ b, a = ⟨b, 0, none⟩ := by
      rcases h1.at_ with ⟨h', _⟩ | ⟨b, _, h', _⟩
      · cases h'
      · exact ⟨b, Option.some.inj h'⟩
    obtain ⟨b, rfl⟩ := ha
    refine (sort_int w.heap.size _ b c1 r r.length w1 h1 (by omega)).mono ?_
    rintro e w2 ⟨rfl, f2, r2, hr2, hp, hs⟩
    exact ⟨rfl, fin w2 r2 (f2.mono (fun k _ hk => by subst hk; rfl)) hr2 hp hs⟩
end Go.Proofs.YthcclmlbkfadcaaGreat
/- ints: left -/
namespace Go.Proofs.YthcclmlbkfadcaaGreat
open Go.GV Go.RowKit Go.Lib
set_option linter.unusedVariables false
set_option linter.unusedSimpArgs false
/-! ### left -/
structure SegAt (w : World) (b : Nat) (S : Option Addr) (m cs : Nat) (sg : List Int) : Prop where
  rc : RecAt w b 46 [.slice S m cs]
  sl : Sl w 1 S m (ivs sg)
  hm : m ≤ 17179869184
theorem SegAt.fr {D : Nat → Prop} {w w' : World} {b : Nat} {S : Option Addr} {m cs : Nat} {sg : List Int} (f : Fr D w w') (h : SegAt w b S m cs sg) (h1 : ¬ D b) (h2 : m ≠ 0 → ∀ k, blkOf S = some k → ¬ D k) : SegAt w' b S m cs sg :=
  ⟨h.rc.fr f h1, f.sl h.sl h2, h.hm⟩
theorem lclos_calls (y : Int) (b : Nat) (S : Option Addr) (m cs : Nat) (sg : List Int) (w : World) (h : SegAt w b S m cs sg) :
    Calls Tryz.prog 149 #[.int .i64 y, .pointer (some ⟨b, 0, none⟩)] w fun e w' => e = .returned (.bool (!(decide (y ∈ sg)))) ∧ w' = w := by
  refine (F149.of y (b, 0) w (Q := fun v w' => v = .bool (!(decide (y ∈ sg))) ∧ w' = w) ?_).mono (fun e w' ⟨v, he, hv, h⟩ => ⟨by rw [he, hv], h⟩)
  refine ⟨_, _, _, h.rc.cell rfl, (contains_calls S m cs sg y w h.sl h.hm).mono ?_⟩
  rintro e w2 ⟨rfl, rfl⟩
  exact ⟨_, rfl, rfl, rfl⟩
def keep (sg l : List Int) : List Int := l.filter (fun y => decide (y ∈ sg))
theorem keep_snoc {sg l : List Int} {i : Nat} {x : Int} (h : l[i]? = some x) : keep sg (l.take (i + 1)) = keep sg (l.take i) ++ (if x ∈ sg then [x] else []) := by
  unfold keep
  rw [take_succ_at h, List.filter_append]
  by_cases hx : x ∈ sg
  · rw [if_pos hx, List.filter_cons_of_pos (by simpa using hx)]; rfl
  · rw [if_neg hx, List.filter_cons_of_neg (by simpa using hx)]; rfl
theorem lindex_calls (A : Option Addr) (n c : Nat) (l : List Int) (b : Nat) (S : Option Addr) (m cs : Nat) (sg : List Int) (w : World) (hs : Sl w 1 A n (ivs l)) (h : SegAt w b S m cs sg) (hn : n ≤ 17179869184) :
    Calls Tryz.prog 144 #[.slice A n c, .func (.func 149) #[] #[.pointer (some ⟨b, 0, none⟩)]] w fun e w' => w' = w ∧ ((∃ i : Nat, i < n ∧ e = .returned (.int .i64 i) ∧ keep sg (l.take i) = l.take i ∧ ∃ y, l[i]? = some y ∧ y ∉ sg) ∨ (e = .returned (.int .i64 (-1)) ∧ keep sg l = l)) := by
  refine (F144t.of A n c (b, 0) w (Q := fun v w' => w' = w ∧ ((∃ i : Nat, i < n ∧ v = .int .i64 i ∧ keep sg (l.take i) = l.take i ∧ ∃ y, l[i]? = some y ∧ y ∉ sg) ∨ (v = .int .i64 (-1) ∧ keep sg l = l))) ?_).mono (fun e w' ⟨v, he, hf, hv⟩ => ⟨hf, by
    rcases hv with ⟨i, h1, h2, h3⟩ | ⟨h1, h2⟩
    · exact .inl ⟨i, h1, by rw [he, h2], h3⟩
    · exact .inr ⟨by rw [he, h1], h2⟩⟩)
  have hl := sl_n hs
  refine jnC_mk (loop_rule (fun s u => u = w ∧ ∃ i : Nat, i ≤ n ∧ s = ((A, n, c), (b, 0), (n : Int), (i : Int), ()) ∧ keep sg (l.take i) = l.take i) (fun s _ => (n - s.2.2.2.1).toNat) ?_ _ _ ⟨rfl, 0, by omega, rfl, rfl⟩)
  rintro s u C ⟨rfl, i, hi, rfl, hk⟩ hC _
  refine vIf_mk (fun hlt => ?_) (fun hge => ?_)
  · have hlt2 : (i : Int) < (n : Int) := of_decide_eq_true hlt
    have gi := at_lt (l := l) (i := i) (by omega)
    have hsn := keep_snoc (sg := sg) gi
    refine sl_rd hs (by omega) gi ((lclos_calls _ b S m cs sg u h).mono ?_)
    rintro e u2 ⟨rfl, rfl⟩
    refine ⟨_, rfl, vIf_mk (fun hout => ?_) (fun hin => ?_)⟩
    · have hout : l[i]'(by omega) ∉ sg := by simpa using hout
      exact ⟨rfl, .inl ⟨i, by omega, rfl, hk, _, gi, hout⟩⟩
    · have hin : l[i]'(by omega) ∈ sg := by simpa using hin
      rw [if_pos hin, hk] at hsn
      refine jnC_mk (hC _ _ ⟨rfl, i + 1, by omega, by rw [ei i (by omega)], by rw [hsn, take_succ_at gi]⟩ ?_)
      show ((n : Int) - IntKind.wrap .i64 ((i : Int) + 1)).toNat < ((n : Int) - (i : Int)).toNat
      rw [ei i (by omega)]; omega
  · have hge2 : ¬ (i : Int) < (n : Int) := of_decide_eq_false hge
    rw [List.take_of_length_le (by omega)] at hk
    exact ⟨rfl, .inr ⟨rfl, hk⟩⟩
set_option maxHeartbeats 1000000 in
theorem delete_calls (B : Nat) (e : TypeId) (A : Option Addr) (n c : Nat) (l : List Int) (b : Nat) (S : Option Addr) (m cs : Nat) (sg : List Int) (w : World) (hr : Row w B e 1 A n c (ivs l)) (h : SegAt w b S m cs sg) (hn : n ≤ 17179869184) (hB : b < B) (hB2 : m ≠ 0 → ∀ k, blkOf S = some k → k < B) :
    Calls Tryz.prog 148 #[.slice A n c, .func (.func 149) #[] #[.pointer (some ⟨b, 0, none⟩)]] w fun e' w' => e' = .returned (.slice A (keep sg l).length c) ∧ Fr (fun k => blkOf A = some k) w w' ∧ Row w' B e 1 A (keep sg l).length c (ivs (keep sg l)) := by
  refine (F148s.of A n c (b, 0) w (Q := fun v w' => v = .slice A (keep sg l).length c ∧ Fr (fun k => blkOf A = some k) w w' ∧ Row w' B e 1 A (keep sg l).length c (ivs (keep sg l))) ?_).mono (fun e w' ⟨v, he, hv, h⟩ => ⟨by rw [he, hv], h⟩)
  have hrl := sl_n hr.sl
  have hle := hr.le
  refine (lindex_calls A n c l b S m cs sg w hr.sl h hn).mono ?_
  rintro e1 w1 ⟨rfl, h1⟩
  rcases h1 with ⟨i0, hi0, rfl, hk0, d0, g0, hd0⟩ | ⟨rfl, hk⟩
  rotate_left
  · refine ⟨_, rfl, vIf_t rfl ⟨by rw [hk, hrl], Fr.refl _ _, ?_⟩⟩
    rw [hk, hrl]
    exact hr
  refine ⟨_, rfl, vIf_f (by simp) (jnC_mk ?_)⟩
  obtain ⟨ba, hA⟩ : ∃ ba, A = some ⟨ba, 0, none⟩ := by
    rcases hr.at_ with ⟨_, h0, _⟩ | ⟨ba, _, hA, _⟩
    · omega
    · exact ⟨ba, hA⟩
  subst hA
  have hBa := (hr.blt (b := ba) rfl).1
  have hi1 : keep sg (l.take (i0 + 1)) = l.take i0 := by rw [keep_snoc g0, if_neg hd0, List.append_nil, hk0]
  have hHeld : ∀ v, Fr (fun k => blkOf (some (⟨ba, 0, none⟩ : Addr)) = some k) w1 v → SegAt v b S m cs sg := fun v fv => by
    refine h.fr fv (fun h' => ?_) (fun hm0 k hk h' => ?_)
    · simp only [blkOf, Option.some.injEq] at h'
      omega
    · simp only [blkOf, Option.some.injEq] at h'
      have := hB2 hm0 k hk
      omega
  refine loop_rule (fun s u => Fr (fun k => blkOf (some (⟨ba, 0, none⟩ : Addr)) = some k) w1 u ∧ ∃ (j : Nat) (P : List Int), i0 + 1 ≤ j ∧ j ≤ n ∧ P.length = n ∧ Row u B e 1 (some ⟨ba, 0, none⟩) n c (ivs P) ∧ (keep sg (l.take j)).length < j ∧ P.take (keep sg (l.take j)).length = keep sg (l.take j) ∧ (∀ q, j ≤ q → P[q]? = l[q]?) ∧
      s = ((some ⟨ba, 0, none⟩, n, c), (b, 0), (((keep sg (l.take j)).length : Nat) : Int), (j : Int), ()))
    (fun s _ => (n - s.2.2.2.1).toNat) ?_ _ _ ⟨Fr.refl _ _, i0 + 1, l, by omega, by omega, hrl, hr, ?_, ?_, fun q _ => rfl, ?_⟩
  rotate_left
  · rw [hi1, List.length_take]; omega
  · rw [hi1, List.length_take, Nat.min_eq_left (by omega)]
  · rw [hi1, List.length_take, Nat.min_eq_left (by omega), ei i0 (by omega)]
  rintro s u C ⟨hf, j, P, hj1, hjn, hPl, hru, hk, htk, hdp, rfl⟩ hC _
  generalize hkk : (keep sg (l.take j)).length = k at hk htk
  refine vIf_mk (fun hlt => ?_) (fun hge => ?_)
  · have hlt2 : (j : Int) < (n : Int) := of_decide_eq_true hlt
    have gj := at_lt (l := l) (i := j) (by omega)
    have hsn := keep_snoc (sg := sg) gj
    generalize l[j]'(by omega) = x at gj hsn
    have hmeas : ((n : Int) - IntKind.wrap .i64 ((j : Int) + 1)).toNat < ((n : Int) - (j : Int)).toNat := by rw [ei j (by omega)]; omega
    refine sl_rd hru.sl (by omega) ((hdp j (Nat.le_refl _)).trans gj) ((lclos_calls x b S m cs sg u (hHeld u hf)).mono ?_)
    rintro e4 u4 ⟨rfl, rfl⟩
    refine ⟨_, rfl, vIf_mk (fun hnd => ?_) (fun hde => ?_)⟩
    · have hin : x ∈ sg := by simpa using hnd
      rw [if_pos hin] at hsn
      refine dr_mk (gd_mk (decide_eq_true (by show (0 : Int) ≤ (k : Int); omega)) (gd_mk (decide_eq_true (by show (k : Int) < (n : Int); omega)) ?_))
      show st u4 ba (0 + ((k : Int)).toNat * 1) _ _
      rw [Int.toNat_natCast]
      refine row_put (A := some ⟨ba, 0, none⟩) (o' := k * 1) hru (by omega) (by simp; omega) (fun v hv => by simp at hv; subst hv; rfl) (fun u5 hr5 f5 => jnC_mk (hC _ _ ⟨hf.trans1 f5, j + 1, P.set k x, by omega, by omega, by simpa using hPl, ?_, ?_, ?_, ?_, ?_⟩ hmeas))
      · rw [ivs_set (by omega)]; exact hr5
      · rw [hsn, List.length_append, hkk]; simp; omega
      · rw [hsn, List.length_append, hkk]
        show (P.set k x).take (k + 1) = _
        rw [List.take_add_one, List.getElem?_set_self (by omega), Option.toList_some, List.take_set_of_le (Nat.le_refl k), htk]
      · intro q hq
        rw [List.getElem?_set_ne (by omega)]
        exact hdp q (by omega)
      · rw [hsn, List.length_append, hkk, ei j (by omega)]
        show (_, _, IntKind.wrap .i64 ((k : Int) + 1), _, ()) = _
        rw [ei k (by omega)]; rfl
    · have hout : x ∉ sg := by simpa using hde
      rw [if_neg hout, List.append_nil] at hsn
      refine jnC_mk (hC _ _ ⟨hf, j + 1, P, by omega, by omega, hPl, hru, by rw [hsn, hkk]; omega, by rw [hsn, hkk]; exact htk, fun q hq => hdp q (by omega), by rw [hsn, hkk, ei j (by omega)]⟩ hmeas)
  · have hge2 : ¬ (j : Int) < (n : Int) := of_decide_eq_false hge
    have hjn2 : j = n := by omega
    subst hjn2
    have hta : l.take j = l := List.take_of_length_le (by omega)
    rw [hta] at hkk htk
    dsimp only
    simp only [Int.toNat_natCast]
    refine gd_mk (decide_eq_true (by omega)) (gd_mk (decide_eq_true (by omega)) (vIf_f (by simp; omega) ?_))
    refine row_clear hru (by omega) (fun u2 hr2 f2 => jnC_mk (fun _ => ?_))
    refine gd_mk (decide_eq_true (by show (0 : Int) ≤ (k : Int); omega)) (gd_mk (decide_eq_true (by show (k : Int) ≤ (c : Int); omega)) ⟨?_, hf.trans1 (f2.mono (fun q _ hq => by subst hq; rfl)), ?_⟩)
    · show Value.slice (slA (some ⟨ba, 0, none⟩) c 0 1) ((k : Int).toNat) c = _
      rw [Int.toNat_natCast, hkk, slA_zero]
    · rw [hkk]
      rw [htk] at hr2
      exact hr2
theorem keep_norm (sg l : List Int) : keep sg (norm l) = both l sg := by
  refine AscI.unique ((norm_asc l).sublist List.filter_sublist) (norm_asc _) (fun y => ?_)
  unfold keep both
  rw [norm_mem, List.mem_filter, List.mem_filter, norm_mem]
theorem left_calls (A : Option Addr) (n c : Nat) (l : List Int) (S : Option Addr) (m cs : Nat) (sg : List Int) (w : World) (hs : Sl w 1 A n (ivs l)) (hsg : Sl w 1 S m (ivs sg)) (hn : n ≤ 17179869184) (hm : m ≤ 17179869184) :
    Calls Tryz.prog 131 #[.slice A n c, .slice S m cs] w fun e w' => Fr (fun _ => False) w w' ∧ ∃ A' c', e = .returned (.slice A' (both l sg).length c') ∧ Row w' w.heap.size 3 1 A' (both l sg).length c' (ivs (both l sg)) := by
  refine (F131.of A n c S m cs w (Q := fun v w' => Fr (fun _ => False) w w' ∧ ∃ A' c', v = .slice A' (both l sg).length c' ∧ Row w' w.heap.size 3 1 A' (both l sg).length c' (ivs (both l sg))) ?_).mono (fun e w' ⟨v, he, hf, A', c', hv, h⟩ => ⟨hf, A', c', by rw [he, hv], h⟩)
  have hrl := sl_n hs
  refine nw_mk (nw_mk ?_)
  have f1 : Fr (fun _ => False) w (w.alloc (.cells [Value.slice S m cs].toArray 46)) := Fr.alloc _ _ _
  have r1 := RecAt.new w [Value.slice S m cs] 46
  generalize w.alloc (.cells [Value.slice S m cs].toArray 46) = w1 at f1 r1 ⊢
  rw [List.append_nil]
  have f2 : Fr (fun _ => False) w1 (w1.alloc (.cells [Value.slice A n c].toArray 46)) := Fr.alloc _ _ _
  have r2 : Row (w1.alloc (.cells [Value.slice A n c].toArray 46)) 0 46 1 (some ⟨w1.heap.size, 0, none⟩) 1 1 [Value.slice A n c] := Row.new (Nat.zero_le _) rfl
  have r12 := r1.fr f2 (fun h => h)
  generalize w1.alloc (.cells [Value.slice A n c].toArray 46) = w2 at f2 r2 r12 ⊢
  have g2 := f1.trans1 f2
  have hsg2 : SegAt w2 w.heap.size S m cs sg := ⟨r12, g2.sl hsg (fun _ _ _ h => h), hm⟩
  refine (row_calls _ 1 1 _ [l] w2 r2.sl rfl (fun i x hi => ?_) (by simp; omega) (by omega)).mono ?_
  · cases i with
    | zero =>
      injection hi with hi
      subst hi
      exact ⟨A, n, c, rfl, g2.sl hs (fun _ _ _ h => h)⟩
    | succ i => cases hi
  rintro e w3 ⟨f3, A3, c3, rfl, h3⟩
  have hfl : [l].flatten = l := by simp
  rw [hfl] at h3 ⊢
  refine ⟨_, _, _, rfl, ?_⟩
  have hnl := norm_len l
  refine (delete_calls w2.heap.size _ A3 _ c3 (norm l) w.heap.size S m cs sg w3 h3 (hsg2.fr f3 (fun h => h) (fun _ _ _ h => h)) (by omega) r12.lt (fun hm0 k hk => hsg2.sl.blt (by decide) hm0 hk)).mono ?_
  rintro e w4 ⟨rfl, f4, h4⟩
  rw [keep_norm] at h4 ⊢
  exact ⟨_, _, _, rfl, g2.trans1 (own_fr f3 h3 f4), A3, c3, rfl, row_low g2.size h4⟩
end Go.Proofs.YthcclmlbkfadcaaGreat
/- words; blocks and how they are read -/
namespace Go.Proofs.YthcclmlbkfadcaaGreat
open Go.GV Go.RowKit Go.Lib
set_option linter.unusedVariables false
set_option linter.unusedSimpArgs false
structure Wd where
  k : Int
  sq : Int
  d : List UInt8
  nm : ByteArray
  z : Int
  s : Int
  o : Int
  q : Int
def Wd.cs (e : Wd) : List Value := [.int .i64 e.k, .int .u64 e.sq] ++ (e.d.map bv ++ [.string e.nm, .int .i64 e.z, .int .i64 e.s, .int .i64 e.o, .int .i64 e.q])
/-! ### reading them -/
theorem rec_mid {w : World} {b : Nat} {t : TypeId} {x m y : List Value} (h : RecAt w b t (x ++ (m ++ y))) : cellsAt w b (0 + x.length) m :=
  h.cells (fun j v hj => by
    have hm := (List.getElem?_eq_some_iff.1 hj).1
    rw [Nat.zero_add, List.getElem?_append_right (by omega), Nat.add_sub_cancel_left, List.getElem?_append_left hm]; exact hj)
theorem rec_end {w : World} {b : Nat} {t : TypeId} {x m y : List Value} (h : RecAt w b t (x ++ (m ++ y))) {k : Nat} (hm : m.length = k) {j : Nat} {v : Value} (hj : y[j]? = some v) {i : Nat} (hi : i = x.length + k + j) : cellAt w b i = some v :=
  h.cell (by
    subst hi
    rw [List.getElem?_append_right (by omega), List.getElem?_append_right (by omega), show x.length + k + j - x.length - m.length = j by omega]; exact hj)
theorem rec_loc {w : World} {b : Nat} {t : TypeId} {x m y : List Value} (h : RecAt w b t (x ++ (m ++ y))) {k : Nat} (hm : m.length = k) {j : Nat} {a c d : Value} (h0 : y[j]? = some a) (h1 : y[j + 1]? = some c) (h2 : y[j + 2]? = some d) {i : Nat} (hi : i = x.length + k + j) : cellsAt w b i [a, c, d] := by
  intro q v hq
  match q, hq with
  | 0, hq => injection hq with hq; subst hq; exact rec_end h hm h0 hi
  | 1, hq => injection hq with hq; subst hq; exact rec_end h hm h1 (by omega)
  | 2, hq => injection hq with hq; subst hq; exact rec_end h hm h2 (by omega)
  | q + 3, hq => simp at hq
theorem rec_all {w : World} {b : Nat} {t : TypeId} {cs : List Value} (h : RecAt w b t cs) : cellsAt w b 0 cs := h.cells (o := 0) (fun q v hq => by rw [Nat.zero_add]; exact hq)
/-- three blocks -/
theorem nw3 {w : World} {c1 c3 c5 : List Value} {t1 t3 t5 : TypeId} {K : Nat → Nat → Nat → World → Prop}
    (hK : ∀ b1 b3 b5 u, Fr (fun _ => False) w u → RecAt u b1 t1 c1 → RecAt u b3 t3 c3 → RecAt u b5 t5 c5 → w.heap.size ≤ b5 → b1 ≠ b5 → b3 ≠ b5 → K b1 b3 b5 u) :
    nw w c1 t1 fun b1 w2 => nw w2 c3 t3 fun b3 w4 => nw w4 c5 t5 fun b5 w6 => K b1 b3 b5 w6 := by
  refine nw_mk (nw_mk (nw_mk ?_))
  have f1 : Fr (fun _ => False) w (w.alloc (.cells c1.toArray t1)) := Fr.alloc _ _ _
  have r1 := RecAt.new w c1 t1
  have s1 : (w.alloc (.cells c1.toArray t1)).heap.size = w.heap.size + 1 := alloc_size _ _
  generalize w.alloc (.cells c1.toArray t1) = w1 at f1 r1 s1 ⊢
  have f2 : Fr (fun _ => False) w1 (w1.alloc (.cells c3.toArray t3)) := Fr.alloc _ _ _
  have r2 := RecAt.new w1 c3 t3
  have s2 : (w1.alloc (.cells c3.toArray t3)).heap.size = w1.heap.size + 1 := alloc_size _ _
  generalize w1.alloc (.cells c3.toArray t3) = w2 at f2 r2 s2 ⊢
  have f3 : Fr (fun _ => False) w2 (w2.alloc (.cells c5.toArray t5)) := Fr.alloc _ _ _
  have r3 := RecAt.new w2 c5 t5
  exact hK _ _ _ _ ((f1.trans1 f2).trans1 f3) ((r1.fr f2 (fun h => h)).fr f3 (fun h => h)) (r2.fr f3 (fun h => h)) r3 (by omega) (by omega) (by omega)
theorem nw2 {w : World} {c1 c5 : List Value} {t1 t5 : TypeId} {K : Nat → Nat → World → Prop}
    (hK : ∀ b1 b5 u, Fr (fun _ => False) w u → RecAt u b1 t1 c1 → RecAt u b5 t5 c5 → w.heap.size ≤ b1 → w.heap.size ≤ b5 → b1 ≠ b5 → K b1 b5 u) :
    nw w c1 t1 fun b1 w2 => nw w2 c5 t5 fun b5 w6 => K b1 b5 w6 := by
  refine nw_mk (nw_mk ?_)
  have f1 : Fr (fun _ => False) w (w.alloc (.cells c1.toArray t1)) := Fr.alloc _ _ _
  have r1 := RecAt.new w c1 t1
  have s1 : (w.alloc (.cells c1.toArray t1)).heap.size = w.heap.size + 1 := alloc_size _ _
  generalize w.alloc (.cells c1.toArray t1) = w1 at f1 r1 s1 ⊢
  have f2 : Fr (fun _ => False) w1 (w1.alloc (.cells c5.toArray t5)) := Fr.alloc _ _ _
  have r2 := RecAt.new w1 c5 t5
  exact hK _ _ _ (f1.trans1 f2) (r1.fr f2 (fun h => h)) r2 (Nat.le_refl _) (by omega) (by omega)
/-- a block is written whole, and read -/
theorem st_all {w : World} {b k : Nat} {t : TypeId} {z vs : List Value} {K : List Value → World → Prop} (h : RecAt w b t z) (hz : z.length = k) (hl : vs.length = k) (h1 : ∀ v ∈ vs, v.oneCell' = true)
    (hK : ∀ w', Fr (fun j => j = b) w w' → RecAt w' b t vs → K vs w') : st w b 0 vs fun w' => ldA k w' b 0 fun a => K a w' := by
  refine h.st_mk (o := 0) (by omega) h1 (fun r f => ?_)
  rw [splice_full (by omega)] at r
  exact ⟨vs, hl, rec_all r, hK _ f r⟩
theorem bvl {d : List UInt8} {k : Nat} (h : d.length = k) : (d.map bv).length = k := by rw [List.length_map]; exact h
theorem len1 {d : List UInt8} {k : Nat} (h : d.length = k) : ((d.map bv).length == k) = true := by rw [bvl h]; simp
/-- the row of two rows, or of one -/
theorem row2_calls (A : Option Addr) (n c : Nat) (l : List Int) (b15 : Nat) (x : Int) (b17 : Nat) (w : World) (hs : Sl w 1 A n (ivs l)) (h15 : RecAt w b15 3 [.int .i64 x]) (h17 : RecAt w b17 46 [.slice A n c, .slice (some ⟨b15, 0, none⟩) 1 1]) (hn : l.length ≤ 8589934592) :
    Calls Tryz.prog 117 #[.slice (some ⟨b17, 0, none⟩) 2 2] w fun e w' => Fr (fun _ => False) w w' ∧ ∃ A' c', e = .returned (.slice A' (norm (l ++ [x])).length c') ∧ Row w' w.heap.size 3 1 A' (norm (l ++ [x])).length c' (ivs (norm (l ++ [x]))) := by
  have h := row_calls (some ⟨b17, 0, none⟩) 2 2 [.slice A n c, .slice (some ⟨b15, 0, none⟩) 1 1] [l, [x]] w ⟨rfl, fun _ => ⟨b17, 0, rfl, rec_all h17⟩⟩ rfl (fun i y hi => by
    match i, hi with
    | 0, hi => injection hi with hi; subst hi; exact ⟨A, n, c, rfl, hs⟩
    | 1, hi => injection hi with hi; subst hi; exact ⟨_, 1, 1, rfl, rfl, fun _ => ⟨b15, 0, rfl, rec_all h15⟩⟩
    | i + 2, hi => simp at hi) (by simp; omega) (by omega)
  have e : [l, [x]].flatten = l ++ [x] := by simp
  rw [e] at h
  exact h
theorem row1_calls (A : Option Addr) (n c : Nat) (l : List Int) (b17 : Nat) (w : World) (hs : Sl w 1 A n (ivs l)) (h17 : RecAt w b17 46 [.slice A n c]) (hn : l.length ≤ 8589934592) :
    Calls Tryz.prog 117 #[.slice (some ⟨b17, 0, none⟩) 1 1] w fun e w' => Fr (fun _ => False) w w' ∧ ∃ A' c', e = .returned (.slice A' (norm l).length c') ∧ Row w' w.heap.size 3 1 A' (norm l).length c' (ivs (norm l)) := by
  have h := row_calls (some ⟨b17, 0, none⟩) 1 1 [.slice A n c] [l] w ⟨rfl, fun _ => ⟨b17, 0, rfl, rec_all h17⟩⟩ rfl (fun i y hi => by
    match i, hi with
    | 0, hi => injection hi with hi; subst hi; exact ⟨A, n, c, rfl, hs⟩
    | i + 1, hi => simp at hi) (by simp; omega) (by omega)
  have e : [l].flatten = l := by simp
  rw [e] at h
  exact h
/-- a slice in a new world, behind a frame -/
theorem sl_fr {w w' : World} {A : Option Addr} {n : Nat} {l : List Int} (h : Sl w 1 A n (ivs l)) (f : Fr (fun _ => False) w w') : Sl w' 1 A n (ivs l) := f.sl h (fun _ _ _ h => h)
theorem sl_fr1 {w w' : World} {B b : Nat} {e : TypeId} {A : Option Addr} {n c : Nat} {l : List Int} (h : Row w B e 1 A n c (ivs l)) (f : Fr (fun j => j = b) w w') (hb : b < B) : Sl w' 1 A n (ivs l) := (f.row h (fun k hk h' => by have := (h.blt hk).1; omega)).sl
theorem fr_own {w u v : World} {b : Nat} (f : Fr (fun _ => False) w u) (g : Fr (fun j => j = b) u v) (hb : w.heap.size ≤ b) : Fr (fun _ => False) w v := f.trans g (fun _ _ h => h) (fun k hk h' => by omega)
theorem splice_last {p : List Value} {v v' : Value} {k : Nat} (hk : p.length = k) : splice (p ++ [v]) k [v'] = p ++ [v'] := by
  unfold splice
  rw [List.take_left' hk, List.drop_of_length_le (by simp; omega)]
  simp
theorem both_len (l sg : List Int) : (both l sg).length ≤ l.length := Nat.le_trans (norm_len _) (List.length_filter_le _ _)
/-- a variable that takes what a call handed back -/
theorem var_mk {w : World} {t : TypeId} {z cs : List Value} {K : Nat → World → Prop} (hz : z.length = 38) (hl : cs.length = 38) (h1 : ∀ v ∈ cs, v.oneCell' = true)
    (hK : ∀ b u, Fr (fun _ => False) w u → RecAt u b t cs → K b u) : nw w z t fun b w' => gd (cs.length == 38) (st w' b 0 cs fun w'' => K b w'') := by
  refine nw_mk (gd_mk (by rw [hl]; rfl) ?_)
  have f1 : Fr (fun _ => False) w (w.alloc (.cells z.toArray t)) := Fr.alloc _ _ _
  refine (RecAt.new w z t).st_mk (o := 0) (by omega) h1 (fun r f => ?_)
  rw [splice_full (by omega)] at r
  exact hK _ _ (f1.trans f (fun _ _ h => h) (fun k hk h' => by omega)) r
/-! ### what is behind words -/
theorem norm_one_le (l : List Int) (x : Int) : (norm (l ++ [x])).length ≤ l.length + 1 := Nat.le_trans (norm_len _) (by simp)
end Go.Proofs.YthcclmlbkfadcaaGreat
/- entries, as they lie; Put, Delete, Keep, Same -/
namespace Go.Proofs.YthcclmlbkfadcaaGreat
open Go.GV Go.RowKit Go.Lib
set_option linter.unusedVariables false
set_option linter.unusedSimpArgs false
structure En where
  d : List UInt8
  k : Int
  z : Int
  s : Int
  o : Int
  q : Int
  l : List Int
def En.cs (e : En) (A : Option Addr) (n c : Nat) : List Value := e.d.map bv ++ [.int .i64 e.k, .int .i64 e.z, .int .i64 e.s, .int .i64 e.o, .int .i64 e.q, .slice A n c]
def EnAt (w : World) (cs : List Value) (e : En) : Prop := ∃ A n c, cs = e.cs A n c ∧ Sl w 1 A n (ivs e.l) ∧ e.d.length = 32
/-- .. whose row of numbers, if any, lies in a block of P -/
def EnP (P : Nat → Prop) (w : World) (cs : List Value) (e : En) : Prop := ∃ A n c, cs = e.cs A n c ∧ Sl w 1 A n (ivs e.l) ∧ e.d.length = 32 ∧ (n ≠ 0 → ∀ k, blkOf A = some k → P k)
theorem EnP.at {P : Nat → Prop} {w : World} {cs : List Value} {e : En} (h : EnP P w cs e) : EnAt w cs e := by
  obtain ⟨A, n, c, h1, h2, h3, _⟩ := h
  exact ⟨A, n, c, h1, h2, h3⟩
theorem EnAt.fr {w w' : World} {cs : List Value} {e : En} (h : EnAt w cs e) (f : Fr (fun _ => False) w w') : EnAt w' cs e := by
  obtain ⟨A, n, c, h1, h2, h3⟩ := h
  exact ⟨A, n, c, h1, f.sl h2 (fun _ _ _ h => h), h3⟩
theorem EnAt.len {w : World} {cs : List Value} {e : En} (h : EnAt w cs e) : cs.length = 38 := by
  obtain ⟨A, n, c, h1, h2, h3⟩ := h
  rw [h1]; simp [En.cs, h3]
theorem En.one (e : En) (A : Option Addr) (n c : Nat) : ∀ v ∈ e.cs A n c, v.oneCell' = true := by
  intro v hv
  rcases List.mem_append.1 hv with h | h
  · exact bvs_one _ v h
  · simp at h; rcases h with rfl | rfl | rfl | rfl | rfl | rfl <;> rfl
theorem EnAt.one {w : World} {cs : List Value} {e : En} (h : EnAt w cs e) : ∀ v ∈ cs, v.oneCell' = true := by
  obtain ⟨A, n, c, rfl, _⟩ := h
  exact e.one A n c
def putE (e : En) (x : Wd) : En := ⟨x.d, x.k, x.z, x.s, x.o, x.q, norm (e.l ++ [x.s])⟩
def delE (e : En) (x : Wd) : En := ⟨e.d, 5, 0, x.s, x.o, x.q, norm e.l⟩
theorem z28 : Z48.length = 38 := rfl
set_option maxHeartbeats 1000000 in
theorem put_calls (e : En) (x : Wd) (x0 : List Value) (w : World) (h : EnAt w x0 e) (hx : x.d.length = 32) (hn : e.l.length ≤ 4294967296) :
    Calls Tryz.prog 85 #[ofL x0, ofL x.cs] w fun r w' => Fr (fun _ => False) w w' ∧ ∃ cs, r = .returned (ofL cs) ∧ EnP (fun k => w.heap.size ≤ k) w' cs (putE e x) := by
  refine (F85.of x0 x.cs w (Q := fun v w' => Fr (fun _ => False) w w' ∧ ∃ cs, v = ofL cs ∧ EnP (fun k => w.heap.size ≤ k) w' cs (putE e x)) ?_).mono (fun e w' ⟨v, he, hf, cs, hv, h⟩ => ⟨hf, cs, by rw [he, hv], h⟩)
  obtain ⟨A, n, c, rfl, hs, hd⟩ := h
  have hl := sl_n hs
  refine nw3 (fun b1 b3 b5 u f r1 r3 r5 hb5 n15 n35 => ?_)
  have f := f.trans1 (Fr.drew _ u)
  have r1 : RecAt u.drew b1 _ ([] ++ (e.d.map bv ++ [.int .i64 e.k, .int .i64 e.z, .int .i64 e.s, .int .i64 e.o, .int .i64 e.q, .slice A n c])) := r1
  have r3 : RecAt u.drew b3 _ ([.int .i64 x.k, .int .u64 x.sq] ++ (x.d.map bv ++ [.string x.nm, .int .i64 x.z, .int .i64 x.s, .int .i64 x.o, .int .i64 x.q])) := r3
  have r5 : RecAt u.drew b5 _ _ := r5
  generalize u.drew = u at f r1 r3 r5 ⊢
  have hb1 := r1.lt
  have hb3 := r3.lt
  refine ⟨x.d.map bv, bvl hx, rec_mid r3, x.k, r3.cell rfl, x.z, rec_end r3 (bvl hx) (j := 1) rfl rfl, [.int .i64 x.s, .int .i64 x.o, .int .i64 x.q], rfl, rec_loc r3 (bvl hx) (j := 2) rfl rfl rfl rfl, A, n, c, rec_end r1 (bvl hd) (j := 5) rfl rfl, x.s, rec_end r3 (bvl hx) (j := 2) rfl rfl, ?_⟩
  refine nw_mk (cs := [Value.int .i64 x.s]) ?_
  have f2 : Fr (fun _ => False) u (u.alloc (.cells [Value.int .i64 x.s].toArray 3)) := Fr.alloc _ _ _
  have q2 := RecAt.new u [Value.int .i64 x.s] 3
  generalize u.alloc (.cells [Value.int .i64 x.s].toArray 3) = u2 at f2 q2 ⊢
  refine kp_mk f2 hb1 (fun h => h) (kp_mk f2 hb3 (fun h => h) (kp_mk f2 hb3 (fun h => h) (kp_mk f2 hb3 (fun h => h) (kp_mk f2 hb3 (fun h => h) (nw_mk (cs := [Value.slice A n c, .slice (some ⟨u.heap.size, 0, none⟩) 1 1]) ?_)))))
  have f3 : Fr (fun _ => False) u2 (u2.alloc (.cells [Value.slice A n c, .slice (some ⟨u.heap.size, 0, none⟩) 1 1].toArray 46)) := Fr.alloc _ _ _
  have q3 := RecAt.new u2 [Value.slice A n c, .slice (some ⟨u.heap.size, 0, none⟩) 1 1] 46
  generalize u2.alloc (.cells [Value.slice A n c, .slice (some ⟨u.heap.size, 0, none⟩) 1 1].toArray 46) = u3 at f3 q3 ⊢
  have g3 := f2.trans1 f3
  refine kp_mk g3 hb3 (fun h => h) (kp_mk g3 hb3 (fun h => h) (kp_mk g3 hb3 (fun h => h) (kp_mk g3 hb3 (fun h => h) ?_)))
  refine (row2_calls A n c e.l _ x.s _ u3 (sl_fr hs (f.trans1 g3)) (q2.fr f3 (fun h => h)) q3 (by omega)).mono ?_
  rintro r u4 ⟨f4, A', c', rfl, h4⟩
  have g4 := g3.trans1 f4
  refine ⟨_, _, _, rfl, kp_mk g4 hb3 (fun h => h) (kp_mk g4 hb3 (fun h => h) (kp_mk g4 hb3 (fun h => h) (kp_mk g4 hb3 (fun h => h) (gd_mk (len1 hx) (gd_mk rfl (gd_mk (by simp [hx]) ?_))))))⟩
  refine st_all (r5.fr g4 (fun h => h)) z28 (by simp [hx]) ((putE e x).one A' _ c') (fun u5 f5 r5' => ⟨?_, _, rfl, A', _, c', rfl, ?_, hx, fun _ k hk => ?_⟩)
  · exact fr_own (f.trans1 g4) f5 hb5
  · exact sl_fr1 h4 f5 (by have := g3.size; have := r5.lt; omega)
  · have := (h4.blt hk).1; have := f.size; have := g3.size; omega
set_option maxHeartbeats 1000000 in
theorem rput_calls (e : En) (x : Wd) (x0 : List Value) (w : World) (h : EnAt w x0 e) (hx : x.d.length = 32) (hn : e.l.length ≤ 4294967296) :
    Calls Tryz.prog 99 #[ofL x0, ofL x.cs] w fun r w' => Fr (fun _ => False) w w' ∧ ∃ cs, r = .returned (ofL cs) ∧ EnP (fun k => w.heap.size ≤ k) w' cs (putE e x) := by
  refine (F99.of x0 x.cs w (Q := fun v w' => Fr (fun _ => False) w w' ∧ ∃ cs, v = ofL cs ∧ EnP (fun k => w.heap.size ≤ k) w' cs (putE e x)) ?_).mono (fun e w' ⟨v, he, hf, cs, hv, h⟩ => ⟨hf, cs, by rw [he, hv], h⟩)
  obtain ⟨A, n, c, rfl, hs, hd⟩ := h
  have hl := sl_n hs
  refine nw3 (fun b1 b3 b5 u f r1 r3 r5 hb5 n15 n35 => ?_)
  have f := f.trans1 (Fr.drew _ u)
  have r1 : RecAt u.drew b1 _ ([] ++ (e.d.map bv ++ [.int .i64 e.k, .int .i64 e.z, .int .i64 e.s, .int .i64 e.o, .int .i64 e.q, .slice A n c])) := r1
  have r3 : RecAt u.drew b3 _ ([.int .i64 x.k, .int .u64 x.sq] ++ (x.d.map bv ++ [.string x.nm, .int .i64 x.z, .int .i64 x.s, .int .i64 x.o, .int .i64 x.q])) := r3
  have r5 : RecAt u.drew b5 _ _ := r5
  generalize u.drew = u at f r1 r3 r5 ⊢
  have hb1 := r1.lt
  have hb3 := r3.lt
  refine ⟨x.d.map bv, bvl hx, rec_mid r3, x.k, r3.cell rfl, x.z, rec_end r3 (bvl hx) (j := 1) rfl rfl, [.int .i64 x.s, .int .i64 x.o, .int .i64 x.q], rfl, rec_loc r3 (bvl hx) (j := 2) rfl rfl rfl rfl, A, n, c, rec_end r1 (bvl hd) (j := 5) rfl rfl, x.s, rec_end r3 (bvl hx) (j := 2) rfl rfl, ?_⟩
  refine (rrow_calls A n c e.l u (sl_fr hs f) (by omega)).mono ?_
  rintro r u3 ⟨g3, A3, c3, rfl, h3⟩
  refine ⟨_, _, _, rfl, kp_mk g3 hb3 (fun h => h) (kp_mk g3 hb3 (fun h => h) (kp_mk g3 hb3 (fun h => h) (kp_mk g3 hb3 (fun h => h) (kp_mk g3 hb3 (fun h => h) ?_))))⟩
  have hnl := norm_len e.l
  refine (add_calls A3 _ c3 _ x.s u3 h3.sl (by omega)).mono ?_
  rintro r u4 ⟨f4, A', c', rfl, h4⟩
  rw [← norm_snoc] at h4 ⊢
  have g4 := g3.trans1 f4
  refine ⟨_, _, _, rfl, kp_mk g4 hb3 (fun h => h) (kp_mk g4 hb3 (fun h => h) (kp_mk g4 hb3 (fun h => h) (kp_mk g4 hb3 (fun h => h) (gd_mk (len1 hx) (gd_mk rfl (gd_mk (by simp [hx]) ?_))))))⟩
  refine st_all (r5.fr g4 (fun h => h)) z28 (by simp [hx]) ((putE e x).one A' _ c') (fun u5 f5 r5' => ⟨?_, _, rfl, A', _, c', rfl, ?_, hx, fun _ k hk => ?_⟩)
  · exact fr_own (f.trans1 g4) f5 hb5
  · exact sl_fr1 h4 f5 (by have := g3.size; have := r5.lt; omega)
  · have := (h4.blt hk).1; have := f.size; have := g3.size; omega
set_option maxHeartbeats 1000000 in
theorem del_calls (e : En) (x : Wd) (x0 : List Value) (w : World) (h : EnAt w x0 e) (hx : x.d.length = 32) (hn : e.l.length ≤ 4294967296) :
    Calls Tryz.prog 86 #[ofL x0, ofL x.cs] w fun r w' => Fr (fun _ => False) w w' ∧ ∃ cs, r = .returned (ofL cs) ∧ EnP (fun k => w.heap.size ≤ k) w' cs (delE e x) := by
  refine (F86.of x0 x.cs w (Q := fun v w' => Fr (fun _ => False) w w' ∧ ∃ cs, v = ofL cs ∧ EnP (fun k => w.heap.size ≤ k) w' cs (delE e x)) ?_).mono (fun e w' ⟨v, he, hf, cs, hv, h⟩ => ⟨hf, cs, by rw [he, hv], h⟩)
  obtain ⟨A, n, c, rfl, hs, hd⟩ := h
  have hl := sl_n hs
  refine nw3 (fun b1 b3 b5 u f r1 r3 r5 hb5 n15 n35 => ?_)
  have f := f.trans1 (Fr.drew _ u)
  have r1 : RecAt u.drew b1 _ ([] ++ (e.d.map bv ++ [.int .i64 e.k, .int .i64 e.z, .int .i64 e.s, .int .i64 e.o, .int .i64 e.q, .slice A n c])) := r1
  have r3 : RecAt u.drew b3 _ ([.int .i64 x.k, .int .u64 x.sq] ++ (x.d.map bv ++ [.string x.nm, .int .i64 x.z, .int .i64 x.s, .int .i64 x.o, .int .i64 x.q])) := r3
  have r5 : RecAt u.drew b5 _ _ := r5
  generalize u.drew = u at f r1 r3 r5 ⊢
  have hb1 := r1.lt
  have hb3 := r3.lt
  refine ⟨e.d.map bv, bvl hd, rec_mid r1, [.int .i64 x.s, .int .i64 x.o, .int .i64 x.q], rfl, rec_loc r3 (bvl hx) (j := 2) rfl rfl rfl rfl, A, n, c, rec_end r1 (bvl hd) (j := 5) rfl rfl, ?_⟩
  refine nw_mk (cs := [Value.slice A n c]) ?_
  have g3 : Fr (fun _ => False) u (u.alloc (.cells [Value.slice A n c].toArray 46)) := Fr.alloc _ _ _
  have q3 := RecAt.new u [Value.slice A n c] 46
  generalize u.alloc (.cells [Value.slice A n c].toArray 46) = u3 at g3 q3 ⊢
  refine kp_mk g3 hb3 (fun h => h) (kp_mk g3 hb1 (fun h => h) (?_))
  refine (row1_calls A n c e.l _ u3 (sl_fr hs (f.trans1 g3)) q3 (by omega)).mono ?_
  rintro r u4 ⟨f4, A', c', rfl, h4⟩
  have g4 := g3.trans1 f4
  refine ⟨_, _, _, rfl, kp_mk g4 hb3 (fun h => h) (kp_mk g4 hb1 (fun h => h) (gd_mk (len1 hd) (gd_mk rfl (gd_mk (by simp [hd]) ?_))))⟩
  refine st_all (r5.fr g4 (fun h => h)) z28 (by simp [hd]) ((delE e x).one A' _ c') (fun u5 f5 r5' => ⟨?_, _, rfl, A', _, c', rfl, ?_, hd, fun _ k hk => ?_⟩)
  · exact fr_own (f.trans1 g4) f5 hb5
  · exact sl_fr1 h4 f5 (by have := g3.size; have := r5.lt; omega)
  · have := (h4.blt hk).1; have := f.size; have := g3.size; omega
set_option maxHeartbeats 1000000 in
theorem rdel_calls (e : En) (x : Wd) (x0 : List Value) (w : World) (h : EnAt w x0 e) (hx : x.d.length = 32) (hn : e.l.length ≤ 4294967296) :
    Calls Tryz.prog 100 #[ofL x0, ofL x.cs] w fun r w' => Fr (fun _ => False) w w' ∧ ∃ cs, r = .returned (ofL cs) ∧ EnP (fun k => w.heap.size ≤ k) w' cs (delE e x) := by
  refine (F100.of x0 x.cs w (Q := fun v w' => Fr (fun _ => False) w w' ∧ ∃ cs, v = ofL cs ∧ EnP (fun k => w.heap.size ≤ k) w' cs (delE e x)) ?_).mono (fun e w' ⟨v, he, hf, cs, hv, h⟩ => ⟨hf, cs, by rw [he, hv], h⟩)
  obtain ⟨A, n, c, rfl, hs, hd⟩ := h
  have hl := sl_n hs
  refine nw3 (fun b1 b3 b5 u f r1 r3 r5 hb5 n15 n35 => ?_)
  have f := f.trans1 (Fr.drew _ u)
  have r1 : RecAt u.drew b1 _ ([] ++ (e.d.map bv ++ [.int .i64 e.k, .int .i64 e.z, .int .i64 e.s, .int .i64 e.o, .int .i64 e.q, .slice A n c])) := r1
  have r3 : RecAt u.drew b3 _ ([.int .i64 x.k, .int .u64 x.sq] ++ (x.d.map bv ++ [.string x.nm, .int .i64 x.z, .int .i64 x.s, .int .i64 x.o, .int .i64 x.q])) := r3
  have r5 : RecAt u.drew b5 _ _ := r5
  generalize u.drew = u at f r1 r3 r5 ⊢
  have hb1 := r1.lt
  have hb3 := r3.lt
  refine ⟨e.d.map bv, bvl hd, rec_mid r1, [.int .i64 x.s, .int .i64 x.o, .int .i64 x.q], rfl, rec_loc r3 (bvl hx) (j := 2) rfl rfl rfl rfl, A, n, c, rec_end r1 (bvl hd) (j := 5) rfl rfl, ?_⟩
  refine (rrow_calls A n c e.l u (sl_fr hs f) (by omega)).mono ?_
  rintro r u4 ⟨g4, A', c', rfl, h4⟩
  refine ⟨_, _, _, rfl, kp_mk g4 hb3 (fun h => h) (kp_mk g4 hb1 (fun h => h) (gd_mk (len1 hd) (gd_mk rfl (gd_mk (by simp [hd]) ?_))))⟩
  refine st_all (r5.fr g4 (fun h => h)) z28 (by simp [hd]) ((delE e x).one A' _ c') (fun u5 f5 r5' => ⟨?_, _, rfl, A', _, c', rfl, ?_, hd, fun _ k hk => ?_⟩)
  · exact fr_own (f.trans1 g4) f5 hb5
  · exact sl_fr1 h4 f5 r5.lt
  · have := (h4.blt hk).1; have := f.size; omega
def zE : En := ⟨List.replicate 32 0, 0, 0, 0, 0, 0, []⟩
def keepE (e : En) (sg : List Int) : En × Bool :=
  if both e.l sg = [] ∧ (e.s ∉ sg ∨ e.k = 5) then (zE, false)
  else if e.s ∉ sg then (⟨e.d, 5, 0, 0, 0, 0, both e.l sg⟩, true) else (⟨e.d, e.k, e.z, e.s, e.o, e.q, both e.l sg⟩, true)
theorem splice_lastE {p : List Value} {v v' : Value} {k : Nat} (hk : p.length = k) : splice (p ++ [v]) k [v'] = p ++ [v'] := by
  unfold splice
  rw [List.take_left' hk, List.drop_of_length_le (by simp; omega)]
  simp
theorem En.splice_l (e : En) (A A' : Option Addr) (n n' c c' : Nat) (l : List Int) (hd : e.d.length = 32) : splice (e.cs A n c) 37 [.slice A' n' c'] = (⟨e.d, e.k, e.z, e.s, e.o, e.q, l⟩ : En).cs A' n' c' := by
  have h : ∀ (B : Option Addr) (m k : Nat), e.d.map bv ++ [Value.int .i64 e.k, .int .i64 e.z, .int .i64 e.s, .int .i64 e.o, .int .i64 e.q, .slice B m k] = (e.d.map bv ++ [Value.int .i64 e.k, .int .i64 e.z, .int .i64 e.s, .int .i64 e.o, .int .i64 e.q]) ++ [.slice B m k] := fun B m k => by simp
  unfold En.cs
  rw [h, h, splice_lastE (by simp [hd])]
theorem both_lenE (l sg : List Int) : (both l sg).length ≤ l.length := Nat.le_trans (norm_len _) (List.length_filter_le _ _)
set_option maxHeartbeats 1000000 in
theorem keep_calls (e : En) (x0 : List Value) (S : Option Addr) (m k : Nat) (sg : List Int) (w : World) (h : EnAt w x0 e) (hsg : Sl w 1 S m (ivs sg)) (hn : e.l.length ≤ 4294967296) (hm : m ≤ 8589934592) :
    Calls Tryz.prog 103 #[ofL x0, .slice S m k] w fun r w' => Fr (fun _ => False) w w' ∧ ∃ cs, r = .returned (.tuple #[ofL cs, .bool (keepE e sg).2]) ∧ EnP (fun k => w.heap.size ≤ k) w' cs (keepE e sg).1 := by
  refine (F103.of x0 S m k w (Q := fun v w' => Fr (fun _ => False) w w' ∧ ∃ cs, v = .tuple #[ofL cs, .bool (keepE e sg).2] ∧ EnP (fun k => w.heap.size ≤ k) w' cs (keepE e sg).1) ?_).mono (fun e w' ⟨v, he, hf, cs, hv, h⟩ => ⟨hf, cs, by rw [he, hv], h⟩)
  obtain ⟨A, n, c, rfl, hs, hd⟩ := h
  have hl := sl_n hs
  have hbl := both_lenE e.l sg
  refine nw2 (fun b1 b5 u f r1 r5 hb1w hb5w n15 => ?_)
  have f := f.trans1 (Fr.drew _ u)
  have r1 : RecAt u.drew b1 _ ([] ++ (e.d.map bv ++ [.int .i64 e.k, .int .i64 e.z, .int .i64 e.s, .int .i64 e.o, .int .i64 e.q, .slice A n c])) := r1
  have r5 : RecAt u.drew b5 _ _ := r5
  generalize u.drew = u at f r1 r5 ⊢
  have hb1 := r1.lt
  have hb5 := r5.lt
  -- the three ends
  have e1 : ∀ (v : World), Fr (fun _ => False) u v → (both e.l sg = [] ∧ (e.s ∉ sg ∨ e.k = 5)) → st v b5 0 (zE.cs none 0 0) fun w' => ldA 38 w' b5 0 fun a => Fr (fun _ => False) w w' ∧ ∃ cs, Value.tuple #[ofL a, .bool false] = .tuple #[ofL cs, .bool (keepE e sg).2] ∧ EnP (fun k => w.heap.size ≤ k) w' cs (keepE e sg).1 := by
    intro v g hc
    have hk : keepE e sg = (zE, false) := if_pos hc
    rw [hk]
    exact st_all (r5.fr g (fun h => h)) z28 rfl (zE.one none 0 0) (fun w' f5 r5' => ⟨fr_own (f.trans1 g) f5 hb5w, _, rfl, none, 0, 0, rfl, Sl.nil _ _ _, rfl, fun h => absurd rfl h⟩)
  have e2 : ∀ (v : World) (A' : Option Addr) (c' : Nat), Fr (fun _ => False) u v → Row v u.heap.size 3 1 A' (both e.l sg).length c' (ivs (both e.l sg)) → ¬ (both e.l sg = [] ∧ (e.s ∉ sg ∨ e.k = 5)) → e.s ∉ sg → st v b5 0 ((⟨e.d, 5, 0, 0, 0, 0, both e.l sg⟩ : En).cs A' (both e.l sg).length c') fun w' => ldA 38 w' b5 0 fun a => Fr (fun _ => False) w w' ∧ ∃ cs, Value.tuple #[ofL a, .bool true] = .tuple #[ofL cs, .bool (keepE e sg).2] ∧ EnP (fun k => w.heap.size ≤ k) w' cs (keepE e sg).1 := by
    intro v A' c' g hr hc hn
    have hk : keepE e sg = ((⟨e.d, 5, 0, 0, 0, 0, both e.l sg⟩ : En), true) := by unfold keepE; rw [if_neg hc, if_pos hn]
    rw [hk]
    exact st_all (r5.fr g (fun h => h)) z28 (by simp [En.cs, hd]) ((⟨e.d, 5, 0, 0, 0, 0, both e.l sg⟩ : En).one A' _ c') (fun w' f5 r5' => ⟨fr_own (f.trans1 g) f5 hb5w, _, rfl, A', _, c', rfl, sl_fr1 hr f5 hb5, hd, fun _ k hk => Nat.le_trans f.size (hr.blt hk).1⟩)
  have e3 : ∀ (v : World) (A' : Option Addr) (c' : Nat), Fr (fun _ => False) u v → Row v u.heap.size 3 1 A' (both e.l sg).length c' (ivs (both e.l sg)) → ¬ (both e.l sg = [] ∧ (e.s ∉ sg ∨ e.k = 5)) → e.s ∈ sg →
      st v b1 (0 + 37) [Value.slice A' (both e.l sg).length c'] fun w22 => ldA 38 w22 b1 0 fun a23 => gd (a23.length == 38) <| st w22 b5 0 a23 fun w' => ldA 38 w' b5 0 fun a => Fr (fun _ => False) w w' ∧ ∃ cs, Value.tuple #[ofL a, .bool true] = .tuple #[ofL cs, .bool (keepE e sg).2] ∧ EnP (fun k => w.heap.size ≤ k) w' cs (keepE e sg).1 := by
    intro v A' c' g hr hc hn
    have hk : keepE e sg = ((⟨e.d, e.k, e.z, e.s, e.o, e.q, both e.l sg⟩ : En), true) := by unfold keepE; rw [if_neg hc, if_neg (not_not_intro hn)]
    rw [hk]
    have r1v := r1.fr g (fun h => h)
    refine r1v.st_mk (o := 0 + 37) (by simp [hd]) (fun v hv => by simp at hv; subst hv; rfl) (fun r f1 => ?_)
    have hsp := En.splice_l e A A' n (both e.l sg).length c c' (both e.l sg) hd
    have r : RecAt (stB v b1 (0 + 37) [Value.slice A' (both e.l sg).length c']) b1 48 ((⟨e.d, e.k, e.z, e.s, e.o, e.q, both e.l sg⟩ : En).cs A' (both e.l sg).length c') := by rw [← hsp]; exact r
    generalize stB v b1 (0 + 37) [Value.slice A' (both e.l sg).length c'] = v2 at r f1 ⊢
    refine ⟨_, by simp [En.cs, hd], rec_all r, gd_mk (by simp [En.cs, hd]) ?_⟩
    have r5v := (r5.fr g (fun h => h)).fr f1 (fun h => n15 h.symm)
    have hr2 := f1.row hr (fun k hk h' => by have := (hr.blt hk).1; omega)
    exact st_all r5v z28 (by simp [En.cs, hd]) ((⟨e.d, e.k, e.z, e.s, e.o, e.q, both e.l sg⟩ : En).one A' _ c') (fun w' f5 r5' => ⟨fr_own (fr_own (f.trans1 g) f1 hb1w) f5 hb5w, _, rfl, A', _, c', rfl, sl_fr1 hr2 f5 hb5, hd, fun _ k hk => Nat.le_trans f.size (hr.blt hk).1⟩)
  refine ⟨A, n, c, rec_end r1 (bvl hd) (j := 5) rfl rfl, e.s, rec_end r1 (bvl hd) (j := 2) rfl rfl, (left_calls A n c e.l S m k sg u (sl_fr hs f) (sl_fr hsg f) (by omega) (by omega)).mono ?_⟩
  rintro r u4 ⟨g4, A', c', rfl, h4⟩
  refine ⟨_, _, _, rfl, kp_mk g4 hb1 (fun h => h) ((contains_calls S m k sg e.s u4 (sl_fr hsg (f.trans1 g4)) (by omega)).mono ?_)⟩
  rintro r u5 ⟨rfl, rfl⟩
  refine ⟨_, rfl, ?_⟩
  have fin : ∀ t17 : Bool, t17 = decide (both e.l sg = [] ∧ (e.s ∉ sg ∨ e.k = 5)) → jnC (F103.k3 (fun v w' => Fr (fun _ => False) w w' ∧ ∃ cs, v = .tuple #[ofL cs, .bool (keepE e sg).2] ∧ EnP (fun k => w.heap.size ≤ k) w' cs (keepE e sg).1)) ((b1, 0), (b5, 0), (A', (both e.l sg).length, c'), decide (e.s ∈ sg), t17, ()) u5 := by
    intro t17 ht
    refine jnC_mk (fun _ => vIf_mk (fun h1 => gd_mk rfl ?_) (fun h1 => ?_))
    · have h1 : t17 = true := h1
      rw [h1] at ht
      exact e1 u5 g4 (of_decide_eq_true ht.symm)
    · have h1 : t17 = false := h1
      rw [h1] at ht
      have hc := of_decide_eq_false ht.symm
      refine vIf_mk (fun h2 => ⟨e.d.map bv, bvl hd, rec_mid (r1.fr g4 (fun h => h)), gd_mk (len1 hd) (gd_mk (by simp [hd]) ?_)⟩) (fun h2 => jnC_mk (fun _ => ?_))
      · exact e2 u5 A' c' g4 h4 hc (by simpa using h2)
      · exact e3 u5 A' c' g4 h4 hc (by simpa using h2)
  refine vIf_mk (fun h0 => vIf_mk (fun h1 => fin true ?_) (fun h1 => ?_)) (fun h0 => fin false ?_)
  · have h0 : both e.l sg = [] := List.length_eq_zero_iff.1 (by simpa using h0)
    have h1 : e.s ∉ sg := by simpa using h1
    rw [decide_eq_true ⟨h0, .inl h1⟩]
  · have h0 : both e.l sg = [] := List.length_eq_zero_iff.1 (by simpa using h0)
    have h1 : e.s ∈ sg := by simpa using h1
    refine ⟨e.k, rec_end (r1.fr g4 (fun h => h)) (bvl hd) (j := 0) rfl rfl, fin _ ?_⟩
    rw [Bool.eq_iff_iff]
    simp [h0, h1]
  · have h0 : both e.l sg ≠ [] := fun h => by rw [h] at h0; simp at h0
    rw [decide_eq_false (fun h => h0 h.1)]
set_option maxHeartbeats 1000000 in
theorem rkeep_calls (e : En) (x0 : List Value) (S : Option Addr) (m k : Nat) (sg : List Int) (w : World) (h : EnAt w x0 e) (hsg : Sl w 1 S m (ivs sg)) (hn : e.l.length ≤ 4294967296) (hm : m ≤ 8589934592) :
    Calls Tryz.prog 108 #[ofL x0, .slice S m k] w fun r w' => Fr (fun _ => False) w w' ∧ ∃ cs, r = .returned (.tuple #[ofL cs, .bool (keepE e sg).2]) ∧ EnP (fun k => w.heap.size ≤ k) w' cs (keepE e sg).1 := by
  refine (F108.of x0 S m k w (Q := fun v w' => Fr (fun _ => False) w w' ∧ ∃ cs, v = .tuple #[ofL cs, .bool (keepE e sg).2] ∧ EnP (fun k => w.heap.size ≤ k) w' cs (keepE e sg).1) ?_).mono (fun e w' ⟨v, he, hf, cs, hv, h⟩ => ⟨hf, cs, by rw [he, hv], h⟩)
  obtain ⟨A, n, c, rfl, hs, hd⟩ := h
  have hl := sl_n hs
  have hbl := both_lenE e.l sg
  refine nw2 (fun b1 b5 u f r1 r5 hb1w hb5w n15 => ?_)
  have r1 : RecAt u b1 _ ([] ++ (e.d.map bv ++ [.int .i64 e.k, .int .i64 e.z, .int .i64 e.s, .int .i64 e.o, .int .i64 e.q, .slice A n c])) := r1
  have hb1 := r1.lt
  have hb5 := r5.lt
  -- the three ends
  have e1 : ∀ (v : World), Fr (fun _ => False) u v → (both e.l sg = [] ∧ (e.s ∉ sg ∨ e.k = 5)) → st v b5 0 (zE.cs none 0 0) fun w' => ldA 38 w' b5 0 fun a => Fr (fun _ => False) w w' ∧ ∃ cs, Value.tuple #[ofL a, .bool false] = .tuple #[ofL cs, .bool (keepE e sg).2] ∧ EnP (fun k => w.heap.size ≤ k) w' cs (keepE e sg).1 := by
    intro v g hc
    have hk : keepE e sg = (zE, false) := if_pos hc
    rw [hk]
    exact st_all (r5.fr g (fun h => h)) z28 rfl (zE.one none 0 0) (fun w' f5 r5' => ⟨fr_own (f.trans1 g) f5 hb5w, _, rfl, none, 0, 0, rfl, Sl.nil _ _ _, rfl, fun h => absurd rfl h⟩)
  have e2 : ∀ (v : World) (A' : Option Addr) (c' : Nat), Fr (fun _ => False) u v → Row v u.heap.size 3 1 A' (both e.l sg).length c' (ivs (both e.l sg)) → ¬ (both e.l sg = [] ∧ (e.s ∉ sg ∨ e.k = 5)) → e.s ∉ sg → st v b5 0 ((⟨e.d, 5, 0, 0, 0, 0, both e.l sg⟩ : En).cs A' (both e.l sg).length c') fun w' => ldA 38 w' b5 0 fun a => Fr (fun _ => False) w w' ∧ ∃ cs, Value.tuple #[ofL a, .bool true] = .tuple #[ofL cs, .bool (keepE e sg).2] ∧ EnP (fun k => w.heap.size ≤ k) w' cs (keepE e sg).1 := by
    intro v A' c' g hr hc hn
    have hk : keepE e sg = ((⟨e.d, 5, 0, 0, 0, 0, both e.l sg⟩ : En), true) := by unfold keepE; rw [if_neg hc, if_pos hn]
    rw [hk]
    exact st_all (r5.fr g (fun h => h)) z28 (by simp [En.cs, hd]) ((⟨e.d, 5, 0, 0, 0, 0, both e.l sg⟩ : En).one A' _ c') (fun w' f5 r5' => ⟨fr_own (f.trans1 g) f5 hb5w, _, rfl, A', _, c', rfl, sl_fr1 hr f5 hb5, hd, fun _ k hk => Nat.le_trans f.size (hr.blt hk).1⟩)
  have e3 : ∀ (v : World) (A' : Option Addr) (c' : Nat), Fr (fun _ => False) u v → Row v u.heap.size 3 1 A' (both e.l sg).length c' (ivs (both e.l sg)) → ¬ (both e.l sg = [] ∧ (e.s ∉ sg ∨ e.k = 5)) → e.s ∈ sg →
      st v b1 (0 + 37) [Value.slice A' (both e.l sg).length c'] fun w22 => ldA 38 w22 b1 0 fun a23 => gd (a23.length == 38) <| st w22 b5 0 a23 fun w' => ldA 38 w' b5 0 fun a => Fr (fun _ => False) w w' ∧ ∃ cs, Value.tuple #[ofL a, .bool true] = .tuple #[ofL cs, .bool (keepE e sg).2] ∧ EnP (fun k => w.heap.size ≤ k) w' cs (keepE e sg).1 := by
    intro v A' c' g hr hc hn
    have hk : keepE e sg = ((⟨e.d, e.k, e.z, e.s, e.o, e.q, both e.l sg⟩ : En), true) := by unfold keepE; rw [if_neg hc, if_neg (not_not_intro hn)]
    rw [hk]
    have r1v := r1.fr g (fun h => h)
    refine r1v.st_mk (o := 0 + 37) (by simp [hd]) (fun v hv => by simp at hv; subst hv; rfl) (fun r f1 => ?_)
    have hsp := En.splice_l e A A' n (both e.l sg).length c c' (both e.l sg) hd
    have r : RecAt (stB v b1 (0 + 37) [Value.slice A' (both e.l sg).length c']) b1 48 ((⟨e.d, e.k, e.z, e.s, e.o, e.q, both e.l sg⟩ : En).cs A' (both e.l sg).length c') := by rw [← hsp]; exact r
    generalize stB v b1 (0 + 37) [Value.slice A' (both e.l sg).length c'] = v2 at r f1 ⊢
    refine ⟨_, by simp [En.cs, hd], rec_all r, gd_mk (by simp [En.cs, hd]) ?_⟩
    have r5v := (r5.fr g (fun h => h)).fr f1 (fun h => n15 h.symm)
    have hr2 := f1.row hr (fun k hk h' => by have := (hr.blt hk).1; omega)
    exact st_all r5v z28 (by simp [En.cs, hd]) ((⟨e.d, e.k, e.z, e.s, e.o, e.q, both e.l sg⟩ : En).one A' _ c') (fun w' f5 r5' => ⟨fr_own (fr_own (f.trans1 g) f1 hb1w) f5 hb5w, _, rfl, A', _, c', rfl, sl_fr1 hr2 f5 hb5, hd, fun _ k hk => Nat.le_trans f.size (hr.blt hk).1⟩)
  refine ⟨A, n, c, rec_end r1 (bvl hd) (j := 5) rfl rfl, (both_calls A n c e.l S m k sg u (sl_fr hs f) (sl_fr hsg f) (by omega) (by omega)).mono ?_⟩
  rintro r u4 ⟨g4, A', c', rfl, h4⟩
  refine ⟨_, _, _, rfl, e.s, rec_end (r1.fr g4 (fun h => h)) (bvl hd) (j := 2) rfl rfl, (in_calls S m k sg e.s u4 (sl_fr hsg (f.trans1 g4)) (by omega)).mono ?_⟩
  rintro r u5 ⟨rfl, rfl⟩
  refine ⟨_, rfl, ?_⟩
  have fin : ∀ t17 : Bool, t17 = decide (e.s ∈ sg ∧ (¬ e.k = 5 ∨ both e.l sg ≠ [])) → jnC (F108.k3 (fun v w' => Fr (fun _ => False) w w' ∧ ∃ cs, v = .tuple #[ofL cs, .bool (keepE e sg).2] ∧ EnP (fun k => w.heap.size ≤ k) w' cs (keepE e sg).1)) ((b1, 0), (b5, 0), (A', (both e.l sg).length, c'), t17, ()) u5 := by
    intro t17 ht
    refine jnC_mk (fun _ => vIf_mk (fun h1 => ?_) (fun h1 => jnC_mk (fun _ => ?_)))
    · have h1 : t17 = true := h1
      rw [h1] at ht
      have hc := of_decide_eq_true ht.symm
      exact e3 u5 A' c' g4 h4 (fun h => h.2.elim (fun h' => h' hc.1) (fun h' => hc.2.elim (fun h'' => h'' h') (fun h'' => h'' h.1))) hc.1
    · have h1 : t17 = false := h1
      rw [h1] at ht
      have hc := of_decide_eq_false ht.symm
      refine vIf_mk (fun h2 => ⟨e.d.map bv, bvl hd, rec_mid (r1.fr g4 (fun h => h)), gd_mk (len1 hd) (gd_mk (by simp [hd]) ?_)⟩) (fun h2 => gd_mk rfl ?_)
      · have h2 : both e.l sg ≠ [] := fun h => by rw [h] at h2; simp at h2
        exact e2 u5 A' c' g4 h4 (fun h => h2 h.1) (fun h => hc ⟨h, .inr h2⟩)
      · have h2 : both e.l sg = [] := List.length_eq_zero_iff.1 (by have h2 := of_decide_eq_false h2; dsimp only at h2; omega)
        refine e1 u5 g4 ⟨h2, ?_⟩
        by_cases hs : e.s ∈ sg
        · by_cases hk : e.k = 5
          · exact .inr hk
          · exact absurd ⟨hs, .inl hk⟩ hc
        · exact .inl hs
  refine vIf_mk (fun h0 => ⟨e.k, rec_end (r1.fr g4 (fun h => h)) (bvl hd) (j := 0) rfl rfl, vIf_mk (fun h1 => fin true ?_) (fun h1 => fin _ ?_)⟩) (fun h0 => fin false ?_)
  · have h0 : e.s ∈ sg := by simpa using h0
    have h1 : ¬ e.k = 5 := by simpa using h1
    rw [decide_eq_true ⟨h0, .inl h1⟩]
  · have h0 : e.s ∈ sg := by simpa using h0
    have h1 : e.k = 5 := by simpa using h1
    rw [Bool.eq_iff_iff, decide_eq_true_iff, decide_eq_true_iff]
    constructor
    · intro h
      exact ⟨h0, .inr (fun h' => by rw [h'] at h; simp at h)⟩
    · rintro ⟨_, h | h⟩
      · exact absurd h1 h
      · have : (both e.l sg).length ≠ 0 := fun h' => h (List.length_eq_zero_iff.1 h')
        omega
  · have h0 : e.s ∉ sg := by simpa using h0
    rw [decide_eq_false (fun h => h0 h.1)]
theorem same_calls (e : En) (x0 x1 : List Value) (w : World) (h0 : EnAt w x0 e) (h1 : EnAt w x1 e) (hn : e.l.length ≤ 8589934592) :
    Calls Tryz.prog 21 #[ofL x0, ofL x1] w fun r w' => r = .returned (.bool true) ∧ Fr (fun _ => False) w w' := by
  refine (F21.of x0 x1 w (Q := fun v w' => v = .bool true ∧ Fr (fun _ => False) w w') ?_).mono (fun e w' ⟨v, he, hv, h⟩ => ⟨by rw [he, hv], h⟩)
  obtain ⟨A, n, c, rfl, hs, hd⟩ := h0
  obtain ⟨A', n', c', rfl, hs', _⟩ := h1
  have hl := sl_n hs
  refine nw2 (fun b1 b3 u f r1 r3 _ _ _ => ?_)
  have r1 : RecAt u b1 _ ([] ++ (e.d.map bv ++ [.int .i64 e.k, .int .i64 e.z, .int .i64 e.s, .int .i64 e.o, .int .i64 e.q, .slice A n c])) := r1
  have r3 : RecAt u b3 _ ([] ++ (e.d.map bv ++ [.int .i64 e.k, .int .i64 e.z, .int .i64 e.s, .int .i64 e.o, .int .i64 e.q, .slice A' n' c'])) := r3
  refine ⟨_, bvl hd, rec_mid r1, _, bvl hd, rec_mid r3, e.d, e.d, hd, hd, rfl, rfl, vIf_t (by simp) ⟨e.k, rec_end r1 (bvl hd) (j := 0) rfl rfl, e.k, rec_end r3 (bvl hd) (j := 0) rfl rfl, vIf_t (by simp) ⟨e.z, rec_end r1 (bvl hd) (j := 1) rfl rfl, e.z, rec_end r3 (bvl hd) (j := 1) rfl rfl, vIf_t (by simp) ?_⟩⟩⟩
  refine ⟨[.int .i64 e.s, .int .i64 e.o, .int .i64 e.q], rfl, rec_loc r1 (bvl hd) (j := 2) rfl rfl rfl rfl, [.int .i64 e.s, .int .i64 e.o, .int .i64 e.q], rfl, rec_loc r3 (bvl hd) (j := 2) rfl rfl rfl rfl, [e.s, e.o, e.q], [e.s, e.o, e.q], rfl, rfl, rfl, rfl, vIf_t (by simp) ?_⟩
  refine ⟨A, n, c, rec_end r1 (bvl hd) (j := 5) rfl rfl, A', n', c', rec_end r3 (bvl hd) (j := 5) rfl rfl, (ints_calls A n c e.l A' n' c' e.l u (sl_fr hs f) (sl_fr hs' f) (by omega)).mono ?_⟩
  rintro r u2 ⟨rfl, f2⟩
  exact ⟨_, rfl, by rw [decide_eq_true rfl], f.trans1 f2⟩
theorem keepE_len (e : En) (sg : List Int) : (keepE e sg).1.l.length ≤ e.l.length := by
  have := both_lenE e.l sg
  unfold keepE
  split
  · exact Nat.zero_le _
  · split <;> exact this
end Go.Proofs.YthcclmlbkfadcaaGreat
/- a row of cells as chunks of 38 -/
namespace Go.Proofs.YthcclmlbkfadcaaGreat
open Go.GV Go.RowKit Go.Lib
set_option linter.unusedVariables false
set_option linter.unusedSimpArgs false
/-! ### a row of cells as chunks -/
def chunk (vs : List Value) (i : Nat) : List Value := (vs.drop (i * 38)).take 38
theorem chunk_l {vs us : List Value} {i : Nat} (h : (i + 1) * 38 ≤ vs.length) : chunk (vs ++ us) i = chunk vs i := by
  unfold chunk
  rw [List.drop_append_of_le_length (by omega), List.take_append_of_le_length (by rw [List.length_drop]; omega)]
theorem chunk_r {vs us : List Value} {n j : Nat} (h : vs.length = n * 38) : chunk (vs ++ us) (n + j) = chunk us j := by
  unfold chunk
  rw [Nat.add_mul, ← h, List.drop_append, List.drop_of_length_le (by omega), List.nil_append]
  congr 2; omega
theorem chunk_take {vs : List Value} {k i : Nat} (h : i < k) : chunk (vs.take (k * 38)) i = chunk vs i := by
  unfold chunk
  rw [List.drop_take, List.take_take, Nat.min_eq_left (by omega)]
theorem chunk_drop {vs : List Value} {k i : Nat} : chunk (vs.drop (k * 38)) i = chunk vs (k + i) := by
  unfold chunk
  rw [List.drop_drop, Nat.add_mul]
theorem chunk_one {cs : List Value} (h : cs.length = 38) : chunk cs 0 = cs := by
  unfold chunk
  rw [Nat.zero_mul, List.drop_zero, List.take_of_length_le (by omega)]
theorem chunk_get {vs : List Value} {i j : Nat} (hj : j < 38) : (chunk vs i)[j]? = vs[i * 38 + j]? := by
  unfold chunk
  rw [List.getElem?_take, if_pos hj, List.getElem?_drop]
theorem chunk_set {vs cs : List Value} {k i : Nat} (hl : cs.length = 38) (hk : (k + 1) * 38 ≤ vs.length) : chunk (splice vs (k * 38) cs) i = if i = k then cs else chunk vs i := by
  have hfit : k * 38 + cs.length ≤ vs.length := by omega
  apply List.ext_getElem?
  intro j
  by_cases hj : j < 38
  · rw [chunk_get hj, splice_get hfit, hl]
    by_cases hik : i = k
    · subst hik
      rw [if_pos rfl, if_neg (by omega), if_pos (by omega)]
      congr 1; omega
    · rw [if_neg hik, chunk_get hj]
      by_cases h1 : i < k
      · rw [if_pos (by omega)]
      · rw [if_neg (by omega), if_neg (by omega)]
  · have hlen : ∀ x : List Value, (chunk x i)[j]? = none := fun x => by
      unfold chunk
      rw [List.getElem?_take, if_neg hj]
    rw [hlen]
    split
    · rw [List.getElem?_eq_none (by omega)]
    · rw [hlen]
end Go.Proofs.YthcclmlbkfadcaaGreat
/- rows of entries, as they lie -/
namespace Go.Proofs.YthcclmlbkfadcaaGreat
open Go.GV Go.RowKit Go.Lib
set_option linter.unusedVariables false
set_option linter.unusedSimpArgs false
theorem EnP.mono {P P' : Nat → Prop} {w : World} {cs : List Value} {e : En} (h : EnP P w cs e) (hP : ∀ k, k < w.heap.size → P k → P' k) : EnP P' w cs e := by
  obtain ⟨A, n, c, h1, h2, h3, h4⟩ := h
  exact ⟨A, n, c, h1, h2, h3, fun h0 k hk => hP k (h2.blt (by decide) h0 hk) (h4 h0 k hk)⟩
theorem EnP.fr {P D : Nat → Prop} {w w' : World} {cs : List Value} {e : En} (h : EnP P w cs e) (f : Fr D w w') (hD : ∀ k, P k → ¬ D k) : EnP P w' cs e := by
  obtain ⟨A, n, c, h1, h2, h3, h4⟩ := h
  exact ⟨A, n, c, h1, f.sl h2 (fun h0 k hk => hD k (h4 h0 k hk)), h3, h4⟩
theorem EnP.fr0 {P : Nat → Prop} {w w' : World} {cs : List Value} {e : En} (h : EnP P w cs e) (f : Fr (fun _ => False) w w') : EnP P w' cs e := h.fr f (fun _ _ h => h)
theorem EnP.len {P : Nat → Prop} {w : World} {cs : List Value} {e : En} (h : EnP P w cs e) : cs.length = 38 := h.at.len
theorem EnP.one {P : Nat → Prop} {w : World} {cs : List Value} {e : En} (h : EnP P w cs e) : ∀ v ∈ cs, v.oneCell' = true := h.at.one
structure ERow (P : Nat → Prop) (w : World) (vs : List Value) (l : List En) : Prop where
  len : vs.length = l.length * 38
  at_ : ∀ (i : Nat) (e : En), l[i]? = some e → EnP P w (chunk vs i) e
theorem ERow.nil (P : Nat → Prop) (w : World) : ERow P w [] [] := ⟨rfl, fun i e h => by simp at h⟩
theorem ERow.mono {P P' : Nat → Prop} {w : World} {vs : List Value} {l : List En} (h : ERow P w vs l) (hP : ∀ k, k < w.heap.size → P k → P' k) : ERow P' w vs l := ⟨h.len, fun i e hi => (h.at_ i e hi).mono hP⟩
theorem ERow.fr {P D : Nat → Prop} {w w' : World} {vs : List Value} {l : List En} (h : ERow P w vs l) (f : Fr D w w') (hD : ∀ k, P k → ¬ D k) : ERow P w' vs l := ⟨h.len, fun i e hi => (h.at_ i e hi).fr f hD⟩
theorem ERow.one {P : Nat → Prop} {w : World} {cs : List Value} {e : En} (h : EnP P w cs e) : ERow P w cs [e] := by
  refine ⟨by rw [h.len]; rfl, fun i x hi => ?_⟩
  match i, hi with
  | 0, hi => injection hi with hi; subst hi; rw [chunk_one h.len]; exact h
  | i + 1, hi => simp at hi
theorem ERow.app {P : Nat → Prop} {w : World} {vs us : List Value} {l m : List En} (h : ERow P w vs l) (h' : ERow P w us m) : ERow P w (vs ++ us) (l ++ m) := by
  refine ⟨by rw [List.length_append, List.length_append, h.len, h'.len, Nat.add_mul], fun i e hi => ?_⟩
  by_cases hil : i < l.length
  · rw [List.getElem?_append_left hil] at hi
    rw [chunk_l (by rw [h.len]; exact Nat.mul_le_mul_right _ hil)]
    exact h.at_ i e hi
  · rw [List.getElem?_append_right (by omega)] at hi
    have : i = l.length + (i - l.length) := by omega
    rw [this, chunk_r h.len]
    exact h'.at_ _ e hi
theorem ERow.take {P : Nat → Prop} {w : World} {vs : List Value} {l : List En} (h : ERow P w vs l) (k : Nat) : ERow P w (vs.take (k * 38)) (l.take k) := by
  refine ⟨by rw [List.length_take, List.length_take, h.len]; omega, fun i e hi => ?_⟩
  rw [List.getElem?_take] at hi
  split at hi
  · rw [chunk_take (by assumption)]; exact h.at_ i e hi
  · cases hi
theorem ERow.drop {P : Nat → Prop} {w : World} {vs : List Value} {l : List En} (h : ERow P w vs l) (k : Nat) : ERow P w (vs.drop (k * 38)) (l.drop k) := by
  refine ⟨by rw [List.length_drop, List.length_drop, h.len]; omega, fun i e hi => ?_⟩
  rw [List.getElem?_drop] at hi
  rw [chunk_drop]; exact h.at_ _ e hi
theorem ERow.set {P : Nat → Prop} {w : World} {vs cs : List Value} {l : List En} {k : Nat} {e : En} (h : ERow P w vs l) (he : EnP P w cs e) (hk : k < l.length) : ERow P w (splice vs (k * 38) cs) (l.set k e) := by
  have hfit : (k + 1) * 38 ≤ vs.length := by rw [h.len]; exact Nat.mul_le_mul_right _ hk
  have hl := he.len
  refine ⟨by rw [splice_length (by omega), List.length_set]; exact h.len, fun i x hi => ?_⟩
  rw [chunk_set hl hfit]
  by_cases hik : i = k
  · subst hik
    rw [if_pos rfl]
    rw [List.getElem?_set_self hk] at hi
    injection hi with hi; subst hi; exact he
  · rw [if_neg hik]
    rw [List.getElem?_set_ne (fun h => hik h.symm)] at hi
    exact h.at_ i x hi
theorem ERow.ones {P : Nat → Prop} {w : World} {vs : List Value} {l : List En} (h : ERow P w vs l) : ∀ v ∈ vs, v.oneCell' = true := by
  intro v hv
  obtain ⟨j, hj, rfl⟩ := List.mem_iff_getElem.1 hv
  have hi : j / 38 < l.length := by
    have := h.len
    omega
  have h1 := h.at_ (j / 38) _ (List.getElem?_eq_getElem hi)
  refine h1.one _ (List.mem_of_getElem? (i := j % 38) ?_)
  rw [chunk_get (by omega), List.getElem?_eq_some_iff]
  refine ⟨by omega, ?_⟩
  congr 1; omega
/-- a table that can be read -/
def RE (P : Nat → Prop) (w : World) (A : Option Addr) (n : Nat) (l : List En) : Prop := ∃ vs, Sl w 38 A n vs ∧ ERow P w vs l
theorem RE.len {P : Nat → Prop} {w : World} {A : Option Addr} {n : Nat} {l : List En} (h : RE P w A n l) : l.length = n := by
  obtain ⟨vs, h1, h2⟩ := h
  have := h1.1
  rw [h2.len] at this
  omega
theorem RE.fr {P D : Nat → Prop} {w w' : World} {A : Option Addr} {n : Nat} {l : List En} (h : RE P w A n l) (f : Fr D w w') (hD : ∀ k, P k → ¬ D k) (hA : n ≠ 0 → ∀ k, blkOf A = some k → ¬ D k) : RE P w' A n l := by
  obtain ⟨vs, h1, h2⟩ := h
  exact ⟨vs, f.sl h1 hA, h2.fr f hD⟩
theorem RE.fr0 {P : Nat → Prop} {w w' : World} {A : Option Addr} {n : Nat} {l : List En} (h : RE P w A n l) (f : Fr (fun _ => False) w w') : RE P w' A n l := h.fr f (fun _ _ h => h) (fun _ _ _ h => h)
theorem RE.mono {P P' : Nat → Prop} {w : World} {A : Option Addr} {n : Nat} {l : List En} (h : RE P w A n l) (hP : ∀ k, k < w.heap.size → P k → P' k) : RE P' w A n l := by
  obtain ⟨vs, h1, h2⟩ := h
  exact ⟨vs, h1, h2.mono hP⟩
theorem RE.nil (P : Nat → Prop) (w : World) (A : Option Addr) : RE P w A 0 [] := ⟨[], Sl.nil _ _ _, ERow.nil _ _⟩
/-- a step of a loop over a table -/
theorem e_rd {P : Nat → Prop} {w : World} {A : Option Addr} {n : Nat} {l : List En} (h : RE P w A n l) {i : Nat} {e : En} (hi : l[i]? = some e) {X : Nat → Nat → Prop}
    (hX : ∀ b o cs, A = some ⟨b, o, none⟩ → EnP P w cs e → cellsAt w b (o + ((i : Int)).toNat * 38) cs → X b o) : dr A fun b o => gd (decide (0 ≤ (i : Int))) (gd (decide ((i : Int) < ((n : Nat) : Int))) (X b o)) := by
  have hl := h.len
  have hil := (List.getElem?_eq_some_iff.1 hi).1
  obtain ⟨vs, h1, h2⟩ := h
  obtain ⟨b, o, rfl, hc⟩ := h1.2 (by omega)
  have ht := h2.at_ i e hi
  refine dr_mk (gd_mk (decide_eq_true (by omega)) (gd_mk (decide_eq_true (by omega)) (hX b o _ rfl ht ?_)))
  rw [Int.toNat_natCast]
  intro j v hj
  have hj38 : j < 38 := by have := (List.getElem?_eq_some_iff.1 hj).1; rw [ht.len] at this; exact this
  rw [chunk_get hj38] at hj
  rw [Nat.add_assoc]
  exact hc _ v hj
theorem e_dig {P : Nat → Prop} {w w' : World} {cs : List Value} {e : En} {b p : Nat} (h : EnP P w' cs e) (hc : cellsAt w b p cs) : cellsAt w b p (e.d.map bv) := by
  obtain ⟨A, n, c, rfl, _⟩ := h
  intro j v hj
  have hj' := (List.getElem?_eq_some_iff.1 hj).1
  refine hc j v ?_
  unfold En.cs
  rw [List.getElem?_append_left hj']; exact hj
theorem e_fld {P : Nat → Prop} {w w' : World} {cs : List Value} {e : En} {b p : Nat} (h : EnP P w' cs e) (hc : cellsAt w b p cs) {j : Nat} {v : Value} (hj : [Value.int .i64 e.k, .int .i64 e.z, .int .i64 e.s, .int .i64 e.o, .int .i64 e.q][j]? = some v) : cellAt w b (p + (32 + j)) = some v := by
  obtain ⟨A, n, c, rfl, _, hd, _⟩ := h
  have hj' := (List.getElem?_eq_some_iff.1 hj).1
  refine hc (32 + j) v ?_
  unfold En.cs
  rw [List.getElem?_append_right (by simp [hd])]
  rw [show 32 + j - (e.d.map bv).length = j by simp [hd]]
  have : [Value.int .i64 e.k, .int .i64 e.z, .int .i64 e.s, .int .i64 e.o, .int .i64 e.q, .slice A n c] = [Value.int .i64 e.k, .int .i64 e.z, .int .i64 e.s, .int .i64 e.o, .int .i64 e.q] ++ [.slice A n c] := rfl
  rw [this, List.getElem?_append_left hj']; exact hj
theorem EnP.dl {P : Nat → Prop} {w : World} {cs : List Value} {e : En} (h : EnP P w cs e) : e.d.length = 32 := by
  obtain ⟨A, n, c, _, _, hd, _⟩ := h
  exact hd
/-- a table of one's own -/
def OE (P : Nat → Prop) (w : World) (B : Nat) (A : Option Addr) (n c : Nat) (l : List En) : Prop := ∃ vs, Row w B 48 38 A n c vs ∧ ERow (fun k => blkOf A ≠ some k ∧ P k) w vs l
theorem OE.rt {P : Nat → Prop} {w : World} {B : Nat} {A : Option Addr} {n c : Nat} {l : List En} (h : OE P w B A n c l) : RE P w A n l := by
  obtain ⟨vs, h1, h2⟩ := h
  exact ⟨vs, h1.sl, h2.mono (fun _ _ h => h.2)⟩
theorem OE.nil (P : Nat → Prop) (w : World) (B : Nat) : OE P w B none 0 0 [] := ⟨[], Row.nil _ _ _ _, ERow.nil _ _⟩
theorem OE.fr {P D : Nat → Prop} {w w' : World} {B : Nat} {A : Option Addr} {n c : Nat} {l : List En} (h : OE P w B A n c l) (f : Fr D w w') (hD : ∀ k, P k → ¬ D k) (hA : ∀ k, blkOf A = some k → ¬ D k) : OE P w' B A n c l := by
  obtain ⟨vs, h1, h2⟩ := h
  exact ⟨vs, f.row h1 hA, h2.fr f (fun k hk => hD k hk.2)⟩
theorem OE.fr0 {P : Nat → Prop} {w w' : World} {B : Nat} {A : Option Addr} {n c : Nat} {l : List En} (h : OE P w B A n c l) (f : Fr (fun _ => False) w w') : OE P w' B A n c l := h.fr f (fun _ _ h => h) (fun _ _ h => h)
theorem OE.mono {P P' : Nat → Prop} {w : World} {B B' : Nat} {A : Option Addr} {n c : Nat} {l : List En} (h : OE P w B A n c l) (hB : B' ≤ B) (hP : ∀ k, k < w.heap.size → P k → P' k) : OE P' w B' A n c l := by
  obtain ⟨vs, h1, h2⟩ := h
  exact ⟨vs, row_low hB h1, h2.mono (fun k hk h => ⟨h.1, hP k hk h.2⟩)⟩
theorem OE.blt {P : Nat → Prop} {w : World} {B : Nat} {A : Option Addr} {n c : Nat} {l : List En} (h : OE P w B A n c l) {k : Nat} (hk : blkOf A = some k) : B ≤ k ∧ k < w.heap.size := by
  obtain ⟨vs, h1, h2⟩ := h
  exact h1.blt hk
set_option maxRecDepth 10000 in
theorem pushE {P : Nat → Prop} {w : World} {B : Nat} {A : Option Addr} {n c : Nat} {l : List En} {cs : List Value} {e : En} {K : Option Addr → Nat → Nat → World → Prop} (hr : OE P w B A n c l) (he : EnP (fun k => blkOf A ≠ some k ∧ P k) w cs e) (hB : B ≤ w.heap.size) (hn : n ≤ 1073741824)
    (hK : ∀ A' c' w', OE P w' B A' (n + 1) c' (l ++ [e]) → Fr (fun k => blkOf A = some k) w w' → (∀ k, blkOf A' = some k → blkOf A = some k ∨ w.heap.size ≤ k) → K A' (n + 1) c' w') :
    gd (cs.length == 38) (nw w (cs ++ []) 48 fun b w' => app w' 38 96 Z48 48 A n c (.slice (some ⟨b, 0, none⟩) 1 1) K) := by
  refine gd_mk (by rw [he.len]; rfl) (nw_mk ?_)
  rw [List.append_nil]
  have hl := he.len
  have f1 : Fr (fun _ => False) w (w.alloc (.cells cs.toArray 48)) := Fr.alloc _ _ _
  have r1 : Row (w.alloc (.cells cs.toArray 48)) 0 48 38 (some ⟨w.heap.size, 0, none⟩) 1 1 cs := Row.new (Nat.zero_le _) (by rw [hl])
  have hs : (w.alloc (.cells cs.toArray 48)).heap.size = w.heap.size + 1 := alloc_size _ _
  have h1 := he.one
  obtain ⟨vs, hv, ht⟩ := hr
  have hA : ∀ k, blkOf A = some k → k < w.heap.size := fun k hk => (hv.blt hk).2
  have ht1 := (ht.app (ERow.one he)).mono (P' := fun k => (blkOf A ≠ some k ∧ P k) ∧ k < w.heap.size) (fun k hk h => ⟨h, hk⟩)
  have ht1 := ht1.fr f1 (fun _ _ h => h)
  generalize w.alloc (.cells cs.toArray 48) = w1 at f1 r1 hs ht1 ⊢
  refine app_row2 (f1.row hv (fun _ _ h => h)) r1.sl.src h1 rfl (by omega) (by omega) (by omega) (fun A' c' w' hr' f' hnew => hK A' c' w' ⟨_, hr', ?_⟩ ?_ ?_)
  · refine (ht1.fr f' (fun k hk h => hk.1.1 h)).mono (fun k _ hk => ⟨fun h => ?_, hk.1.2⟩)
    rcases hnew k h with h' | h'
    · exact hk.1.1 h'
    · have := hk.2; omega
  · exact f1.trans f' (fun _ _ h => h.elim) (fun _ _ h => h)
  · intro k hk
    rcases hnew k hk with h' | h'
    · exact .inl h'
    · exact .inr (by omega)
end Go.Proofs.YthcclmlbkfadcaaGreat
/- Clone of rows of ints -/
namespace Go.Proofs.YthcclmlbkfadcaaGreat
open Go.GV Go.RowKit Go.Lib
set_option linter.unusedVariables false
set_option linter.unusedSimpArgs false
/-! ### copies -/
theorem clI_calls (A : Option Addr) (n c : Nat) (l : List Int) (w : World) (h : Sl w 1 A n (ivs l)) (hn : n ≤ 17179869184) :
    Calls Tryz.prog 113 #[.slice A n c] w fun e w' => Fr (fun _ => False) w w' ∧ ∃ A' c', e = .returned (.slice A' n c') ∧ Row w' w.heap.size 3 1 A' n c' (ivs l) := by
  refine (F113.of A n c w (Q := fun v w' => Fr (fun _ => False) w w' ∧ ∃ A' c', v = .slice A' n c' ∧ Row w' w.heap.size 3 1 A' n c' (ivs l)) ?_).mono (fun e w' ⟨v, he, hf, A', c', hv, h⟩ => ⟨hf, A', c', by rw [he, hv], h⟩)
  have hl := sl_n h
  refine vIf_mk (fun h0 => ?_) (fun h0 => nw_mk ?_)
  · have : n = 0 := by
      refine Classical.byContradiction fun hn0 => ?_
      obtain ⟨b, o, hA, _⟩ := h.2 hn0
      rw [hA] at h0; cases h0
    subst this
    have : l = [] := List.length_eq_zero_iff.1 hl
    subst this
    exact ⟨Fr.refl _ _, none, 0, rfl, Row.nil _ _ _ _⟩
  · have f1 : Fr (fun _ => False) w (w.alloc (.cells ([] : List Value).toArray 3)) := Fr.alloc _ _ _
    have r1 : Row (w.alloc (.cells ([] : List Value).toArray 3)) w.heap.size 3 1 (some ⟨w.heap.size, 0, none⟩) 0 0 [] := Row.new (Nat.le_refl _) rfl
    have hs : (w.alloc (.cells ([] : List Value).toArray 3)).heap.size = w.heap.size + 1 := alloc_size _ _
    generalize w.alloc (.cells ([] : List Value).toArray 3) = w1 at f1 r1 hs ⊢
    refine app_row r1 (sl_fr h f1).src (ivs_one l) rfl (by omega) (by omega) (by omega) (fun A' c' w' hr' f' => ⟨?_, A', c', ?_, ?_⟩)
    · exact f1.trans f' (fun _ _ h => h) (fun k hk h' => by simp only [blkOf, Option.some.injEq] at h'; omega)
    · rw [Nat.zero_add]
    · rw [Nat.zero_add, List.nil_append] at hr'; exact hr'
end Go.Proofs.YthcclmlbkfadcaaGreat
/- Open addressing, plainly: a round row of places; each key stands behind its home with no free place between. No program in sight. -/
namespace Go.Slots
set_option linter.unusedVariables false
def dist (N a b : Nat) : Nat := if a ≤ b then b - a else b + N - a
def adv (N a t : Nat) : Nat := if a + t < N then a + t else a + t - N
theorem adv_lt {N a t : Nat} (ha : a < N) (ht : t < N) : adv N a t < N := by unfold adv; split <;> omega
theorem dist_lt {N a b : Nat} (ha : a < N) (hb : b < N) : dist N a b < N := by unfold dist; split <;> omega
theorem adv_dist {N a b : Nat} (ha : a < N) (hb : b < N) : adv N a (dist N a b) = b := by unfold adv dist; split <;> split <;> omega
theorem dist_adv {N a t : Nat} (ha : a < N) (ht : t < N) : dist N a (adv N a t) = t := by unfold adv dist; split <;> split <;> omega
theorem mod_adv {N a t : Nat} (ha : a < N) (ht : t ≤ N) : (a + t) % N = if t = N then a else adv N a t := by
  unfold adv
  by_cases h : t = N
  · subst h; rw [if_pos rfl, Nat.add_mod_right, Nat.mod_eq_of_lt ha]
  · rw [if_neg h]
    split
    · rw [Nat.mod_eq_of_lt (by omega)]
    · rw [Nat.mod_eq_sub_mod (by omega), Nat.mod_eq_of_lt (by omega)]
section
variable {K V : Type} {home : K → Nat} {S : List (Option (K × V))} {N i : Nat} {k k' : K} {v v' : V}
/-- the place holds this key and value -/
def At (S : List (Option (K × V))) (i : Nat) (k : K) (v : V) : Prop := S[i]? = some (some (k, v))
def Full (S : List (Option (K × V))) (i : Nat) : Prop := ∃ k v, At S i k v
def Free (S : List (Option (K × V))) (i : Nat) : Prop := S[i]? = some none
structure Inv (home : K → Nat) (N : Nat) (S : List (Option (K × V))) : Prop where
  len : S.length = N
  hom : ∀ k, home k < N
  chain : ∀ p k v, At S p k v → ∀ t, t < dist N (home k) p → Full S (adv N (home k) t)
  one : ∀ p q k v v', At S p k v → At S q k v' → p = q
theorem At.lt (h : At S i k v) (hl : S.length = N) : i < N := by
  have := (List.getElem?_eq_some_iff.1 h).1; omega
theorem Full.lt (h : Full S i) (hl : S.length = N) : i < N := by obtain ⟨k, v, h⟩ := h; exact h.lt hl
theorem full_or_free (hl : S.length = N) (hi : i < N) : Full S i ∨ Free S i := by
  have h := List.getElem?_eq_getElem (l := S) (i := i) (by omega)
  cases hs : S[i]'(by omega) with
  | none => rw [hs] at h; exact .inr h
  | some x => rw [hs] at h; obtain ⟨k, v⟩ := x; exact .inl ⟨k, v, h⟩
theorem Full.not_free (h : Full S i) : ¬ Free S i := by
  obtain ⟨k, v, h⟩ := h
  intro hf
  unfold At at h; unfold Free at hf
  rw [h] at hf; cases hf
theorem At.uniq (h : At S i k v) (h' : At S i k' v') : k = k' ∧ v = v' := by
  unfold At at h h'
  rw [h] at h'
  injection h' with h'; injection h' with h'
  exact ⟨(Prod.mk.inj h').1, (Prod.mk.inj h').2⟩
/-- where a search for a key ends: t places behind the home -/
structure Ends (home : K → Nat) (N : Nat) (S : List (Option (K × V))) (k : K) (t : Nat) : Prop where
  lt : t < N
  before : ∀ t', t' < t → ∃ k' v', At S (adv N (home k) t') k' v' ∧ k' ≠ k
theorem Ends.absent (hI : Inv home N S) {k : K} {t : Nat} (h : Ends home N S k t) (hf : Free S (adv N (home k) t)) : ∀ p v, ¬ At S p k v := by
  intro p v hp
  have hpl := hp.lt hI.len
  have hh := hI.hom k
  have hd := dist_lt hh hpl
  rcases Nat.lt_trichotomy t (dist N (home k) p) with h1 | h1 | h1
  · exact (hI.chain p k v hp t h1).not_free hf
  · subst h1
    rw [adv_dist hh hpl] at hf
    exact Full.not_free ⟨k, v, hp⟩ hf
  · obtain ⟨k', v', h2, h3⟩ := h.before _ h1
    rw [adv_dist hh hpl] at h2
    exact h3 (h2.uniq hp).1
theorem set_at {i j : Nat} {o : Option (K × V)} (hi : i < S.length) : (S.set i o)[j]? = if i = j then some o else S[j]? := by
  rw [List.getElem?_set]
  by_cases h : i = j
  · rw [if_pos h, if_pos h, if_pos hi]
  · rw [if_neg h, if_neg h]
/-- a new key, put where its search ended -/
theorem Ends.put (hI : Inv home N S) {k : K} {t : Nat} (v : V) (h : Ends home N S k t) (hf : Free S (adv N (home k) t)) : Inv home N (S.set (adv N (home k) t) (some (k, v))) := by
  have hab := h.absent hI hf
  have hh := hI.hom k
  have hil : adv N (home k) t < S.length := by rw [hI.len]; exact adv_lt hh h.lt
  have keep : ∀ q, Full S q → Full (S.set (adv N (home k) t) (some (k, v))) q := fun q ⟨k', v', hq⟩ => by
    refine ⟨k', v', ?_⟩
    unfold At
    rw [set_at hil, if_neg]
    · exact hq
    · intro e; subst e; exact Full.not_free ⟨k', v', hq⟩ hf
  have old : ∀ p k' v', At (S.set (adv N (home k) t) (some (k, v))) p k' v' → (p = adv N (home k) t ∧ k' = k ∧ v' = v) ∨ At S p k' v' := fun p k' v' hp => by
    unfold At at hp
    rw [set_at hil] at hp
    split at hp
    · rename_i e
      injection hp with hp; injection hp with hp
      exact .inl ⟨e.symm, (Prod.mk.inj hp).1.symm, (Prod.mk.inj hp).2.symm⟩
    · exact .inr hp
  refine ⟨by rw [List.length_set]; exact hI.len, hI.hom, fun p k' v' hp s hs => ?_, fun p q k' v' v'' hp hq => ?_⟩
  · rcases old p k' v' hp with ⟨rfl, rfl, rfl⟩ | hp
    · rw [dist_adv hh h.lt] at hs
      obtain ⟨k2, v2, h2, _⟩ := h.before s hs
      exact keep _ ⟨k2, v2, h2⟩
    · exact keep _ (hI.chain p k' v' hp s hs)
  · rcases old p k' v' hp with ⟨a1, a2, a3⟩ | hp2 <;> rcases old q k' v'' hq with ⟨b1, b2, b3⟩ | hq2
    · rw [a1, b1]
    · rw [a2] at hq2; exact absurd hq2 (hab q v'')
    · rw [b2] at hp2; exact absurd hp2 (hab p v')
    · exact hI.one p q k' v' v'' hp2 hq2
/-- another value for a key that is there -/
theorem Inv.over (hI : Inv home N S) {i : Nat} {k : K} {v0 : V} (v : V) (h : At S i k v0) : Inv home N (S.set i (some (k, v))) := by
  have hil : i < S.length := by rw [hI.len]; exact h.lt hI.len
  have keep : ∀ q, Full S q → Full (S.set i (some (k, v))) q := fun q ⟨k', v', hq⟩ => by
    by_cases e : i = q
    · subst e; exact ⟨k, v, by unfold At; rw [set_at hil, if_pos rfl]⟩
    · exact ⟨k', v', by unfold At; rw [set_at hil, if_neg e]; exact hq⟩
  have old : ∀ p k' v', At (S.set i (some (k, v))) p k' v' → ∃ v2, At S p k' v2 := fun p k' v' hp => by
    unfold At at hp
    rw [set_at hil] at hp
    split at hp
    · rename_i e; subst e
      injection hp with hp; injection hp with hp
      obtain ⟨rfl, _⟩ := Prod.mk.inj hp
      exact ⟨v0, h⟩
    · exact ⟨v', hp⟩
  refine ⟨by rw [List.length_set]; exact hI.len, hI.hom, fun p k' v' hp s hs => ?_, fun p q k' v' v'' hp hq => ?_⟩
  · obtain ⟨v2, h2⟩ := old p k' v' hp
    exact keep _ (hI.chain p k' v2 h2 s hs)
  · obtain ⟨v2, h2⟩ := old p k' v' hp
    obtain ⟨v3, h3⟩ := old q k' v'' hq
    exact hI.one p q k' v2 v3 h2 h3
/-! ### taking a key away: the hole wanders -/
/-- the row with a hole: as if nothing stood there -/
structure Hole (home : K → Nat) (N : Nat) (S : List (Option (K × V))) (hole s e : Nat) : Prop where
  len : S.length = N
  hom : ∀ k, home k < N
  hlt : hole < N
  free : Free S hole
  elt : Free S e ∧ e ≠ hole
  s1 : 1 ≤ s
  sN : s ≤ dist N hole e
  chain : ∀ p k v, At S p k v → ∀ t, t < dist N (home k) p → Full S (adv N (home k) t) ∨ adv N (home k) t = hole
  scan : ∀ t, 1 ≤ t → t < s → ∃ k v, At S (adv N hole t) k v ∧ dist N (home k) (adv N hole t) < t
  one : ∀ p q k v v', At S p k v → At S q k v' → p = q
theorem Free.lt (h : Free S i) (hl : S.length = N) : i < N := by have := (List.getElem?_eq_some_iff.1 h).1; omega
theorem Hole.start (hI : Inv home N S) {i e : Nat} {k : K} {v : V} (h : At S i k v) (he : Free S e) : Hole home N (S.set i none) i 1 e := by
  have hil := h.lt hI.len
  have hil' : i < S.length := by rw [hI.len]; exact hil
  have hei : i ≠ e := by intro e'; subst e'; exact Full.not_free ⟨k, v, h⟩ he
  have helt := he.lt hI.len
  have old : ∀ p k' v', At (S.set i none) p k' v' → At S p k' v' := fun p k' v' hp => by
    unfold At at hp; rw [set_at hil'] at hp
    split at hp
    · cases hp
    · exact hp
  refine ⟨by rw [List.length_set]; exact hI.len, hI.hom, hil, by unfold Free; rw [set_at hil', if_pos rfl], ⟨by unfold Free; rw [set_at hil', if_neg hei]; exact he, fun h => hei h.symm⟩, by omega, ?_, fun p k' v' hp t ht => ?_, fun t h1 h2 => by omega, fun p q k' v' v'' hp hq => hI.one p q k' v' v'' (old p k' v' hp) (old q k' v'' hq)⟩
  · unfold dist; split <;> omega
  · obtain ⟨k2, v2, h2⟩ := hI.chain p k' v' (old p k' v' hp) t ht
    by_cases e2 : i = adv N (home k') t
    · exact .inr e2.symm
    · exact .inl ⟨k2, v2, by unfold At; rw [set_at hil', if_neg e2]; exact h2⟩
/-- the place that is looked at stays -/
theorem Hole.stay {hole s e : Nat} (h : Hole home N S hole s e) {k : K} {v : V} (hat : At S (adv N hole s) k v) (hb : dist N (home k) (adv N hole s) < s) : Hole home N S hole (s + 1) e := by
  have helt := h.elt.1.lt h.len
  have hd := dist_lt h.hlt helt
  have hne : s ≠ dist N hole e := by
    intro hs
    rw [hs, adv_dist h.hlt helt] at hat
    exact Full.not_free ⟨k, v, hat⟩ h.elt.1
  have := h.sN
  refine ⟨h.len, h.hom, h.hlt, h.free, h.elt, by omega, by omega, h.chain, fun t h1 h2 => ?_, h.one⟩
  by_cases ht : t = s
  · subst ht; exact ⟨k, v, hat, hb⟩
  · exact h.scan t h1 (by omega)
/-- it moves into the hole, and leaves one -/
theorem Hole.move {hole s e : Nat} (h : Hole home N S hole s e) {k : K} {v : V} (hat : At S (adv N hole s) k v) (hb : s ≤ dist N (home k) (adv N hole s)) : Hole home N ((S.set hole (some (k, v))).set (adv N hole s) none) (adv N hole s) 1 e := by
  have helt := h.elt.1.lt h.len
  have hd := dist_lt h.hlt helt
  have hsN := h.sN
  have hs1 := h.s1
  have hlt := h.hlt
  have hil := hat.lt h.len
  have hne : s ≠ dist N hole e := by
    intro hs
    rw [hs, adv_dist h.hlt helt] at hat
    exact Full.not_free ⟨k, v, hat⟩ h.elt.1
  have hih : adv N hole s ≠ hole := by unfold adv; split <;> omega
  have hie : adv N hole s ≠ e := by
    intro he; rw [he] at hat; exact Full.not_free ⟨k, v, hat⟩ h.elt.1
  have hl1 : hole < S.length := by rw [h.len]; exact hlt
  have hl2 : adv N hole s < (S.set hole (some (k, v))).length := by rw [List.length_set, h.len]; exact hil
  have get : ∀ j, ((S.set hole (some (k, v))).set (adv N hole s) none)[j]? = if adv N hole s = j then some none else if hole = j then some (some (k, v)) else S[j]? := fun j => by
    rw [set_at hl2]
    split
    · rfl
    · rw [set_at hl1]
  have old : ∀ p k' v', At ((S.set hole (some (k, v))).set (adv N hole s) none) p k' v' → (p = hole ∧ k' = k ∧ v' = v) ∨ (At S p k' v' ∧ p ≠ adv N hole s ∧ p ≠ hole) := fun p k' v' hp => by
    unfold At at hp
    rw [get] at hp
    split at hp
    · cases hp
    · rename_i e1
      split at hp
      · rename_i e2
        injection hp with hp; injection hp with hp
        exact .inl ⟨e2.symm, (Prod.mk.inj hp).1.symm, (Prod.mk.inj hp).2.symm⟩
      · rename_i e2
        exact .inr ⟨hp, fun h => e1 h.symm, fun h => e2 h.symm⟩
  have keep : ∀ q, Full S q → q ≠ adv N hole s → Full ((S.set hole (some (k, v))).set (adv N hole s) none) q := fun q ⟨k', v', hq⟩ hqi => by
    by_cases e2 : hole = q
    · exact ⟨k, v, by unfold At; rw [get, if_neg (fun h => hqi h.symm), if_pos e2]⟩
    · exact ⟨k', v', by unfold At; rw [get, if_neg (fun h => hqi h.symm), if_neg e2]; exact hq⟩
  have hfull : Full ((S.set hole (some (k, v))).set (adv N hole s) none) hole := ⟨k, v, by unfold At; rw [get, if_neg hih, if_pos rfl]⟩
  have hh := h.hom k
  refine ⟨by rw [List.length_set, List.length_set]; exact h.len, h.hom, hil, by unfold Free; rw [get, if_pos rfl], ⟨by unfold Free; rw [get, if_neg hie, if_neg (fun h' => h.elt.2 h'.symm)]; exact h.elt.1, fun h' => hie h'.symm⟩, by omega, ?_, fun p k' v' hp t ht => ?_, fun t h1 h2 => by omega, fun p q k' v' v'' hp hq => ?_⟩
  · unfold dist; split <;> omega
  · rcases old p k' v' hp with ⟨rfl, rfl, rfl⟩ | ⟨hp, hp1, hp2⟩
    · have hdd : dist N (home k') (adv N p s) = dist N (home k') p + s := by
        revert hb
        unfold dist adv
        split <;> split <;> split <;> omega
      have hne2 : adv N (home k') t ≠ p := by
        intro he
        have := dist_adv hh (show t < N by have := dist_lt hh hlt; omega)
        rw [he] at this; omega
      have hne3 : adv N (home k') t ≠ adv N p s := by
        intro he
        have := dist_adv hh (show t < N by have := dist_lt hh hlt; omega)
        rw [he, hdd] at this; omega
      rcases h.chain _ k' v' hat t (by omega) with h3 | h3
      · exact .inl (keep _ h3 hne3)
      · exact absurd h3 hne2
    · rcases h.chain p k' v' hp t ht with h3 | h3
      · by_cases e3 : adv N (home k') t = adv N hole s
        · exact .inr e3
        · exact .inl (keep _ h3 e3)
      · rw [h3]; exact .inl hfull
  · rcases old p k' v' hp with ⟨a1, a2, a3⟩ | ⟨hp2, hp3, hp4⟩ <;> rcases old q k' v'' hq with ⟨b1, b2, b3⟩ | ⟨hq2, hq3, hq4⟩
    · rw [a1, b1]
    · rw [a2] at hq2; exact absurd (h.one _ _ _ _ _ hat hq2) (fun h => hq3 h.symm)
    · rw [b2] at hp2; exact absurd (h.one _ _ _ _ _ hp2 hat) hp3
    · exact h.one p q k' v' v'' hp2 hq2
/-- a free place behind the hole: the row is whole -/
theorem Hole.done {hole s e : Nat} (h : Hole home N S hole s e) (hf : Free S (adv N hole s)) : Inv home N S := by
  have helt := h.elt.1.lt h.len
  have hd := dist_lt h.hlt helt
  have hsN := h.sN
  have hs1 := h.s1
  have hlt := h.hlt
  refine ⟨h.len, h.hom, fun p k v hp t ht => ?_, h.one⟩
  rcases h.chain p k v hp t ht with h1 | h1
  · exact h1
  · exfalso
    have hpl := hp.lt h.len
    have hh := h.hom k
    have hdp := dist_lt hh hpl
    have hph : p ≠ hole := by intro he; subst he; exact Full.not_free ⟨k, v, hp⟩ h.free
    have hu : dist N (home k) p = t + dist N hole p := by
      revert h1 ht
      unfold dist adv
      split <;> split <;> split <;> omega
    have hup := dist_lt hlt hpl
    have hu1 : dist N hole p ≠ 0 := by unfold dist; split <;> omega
    rcases Nat.lt_trichotomy (dist N hole p) s with h2 | h2 | h2
    · obtain ⟨k', v', h3, h4⟩ := h.scan (dist N hole p) (by omega) h2
      rw [adv_dist hlt hpl] at h3 h4
      obtain ⟨rfl, rfl⟩ := h3.uniq hp
      omega
    · rw [← h2, adv_dist hlt hpl] at hf
      exact Full.not_free ⟨k, v, hp⟩ hf
    · have ha : adv N (home k) (t + s) = adv N hole s := by
        revert h1
        unfold adv
        have := hu
        split <;> split <;> split <;> omega
      rcases h.chain p k v hp (t + s) (by omega) with h3 | h3
      · rw [ha] at h3; exact h3.not_free hf
      · rw [ha] at h3
        revert h3
        unfold adv
        split <;> omega
end
end Go.Slots
/- a table of slots with entries: home, find. -/
namespace Go.Proofs.YthcclmlbkfadcaaGreat.Slo
open Go.GV Go.RowKit Go.Slots
set_option linter.unusedVariables false
abbrev Key := List UInt8
abbrev SRow := List (Option (Key × List Value))
def slotC (k : Key) (v : List Value) : List Value := [Value.bool true] ++ (k.map bv ++ (v ++ []))
def SlotAt (cs : List Value) (i : Nat) : Option (Key × List Value) → Prop
  | none => cs[i * 71]? = some (.bool false)
  | some (k, v) => (k.length = 32 ∧ v.length = 38) ∧ ∀ j u, (slotC k v)[j]? = some u → cs[i * 71 + j]? = some u
structure TabC (N : Nat) (S : SRow) (cs : List Value) : Prop where
  len : cs.length = N * 71
  slen : S.length = N
  slot : ∀ i o, S[i]? = some o → SlotAt cs i o
  one : ∀ v ∈ cs, v.oneCell' = true
def rawHome (k : Key) : Nat := (k.getD 0 0).toNat + 256 * (k.getD 1 0).toNat
def homeOf (N : Nat) (k : Key) : Nat := rawHome k % N
/-- the table's two blocks -/
structure TabIn (w : World) (bt bs : Nat) (N : Nat) (S : SRow) (cnt : Int) (e e' : TypeId) (cs : List Value) : Prop where
  hd : RecAt w bt e [.slice (some ⟨bs, 0, none⟩) N N, .int .i64 cnt]
  sl : RecAt w bs e' cs
  ne : bt ≠ bs
  tab : TabC N S cs
def TabAt (w : World) (bt bs : Nat) (N : Nat) (S : SRow) (cnt : Int) : Prop := ∃ e e' cs, TabIn w bt bs N S cnt e e' cs
theorem TabAt.fr {D : Nat → Prop} {w w' : World} {bt bs N : Nat} {S : SRow} {cnt : Int} (f : Fr D w w') (h : TabAt w bt bs N S cnt) (h1 : ¬ D bt) (h2 : ¬ D bs) : TabAt w' bt bs N S cnt := by
  obtain ⟨e, e', cs, h⟩ := h
  exact ⟨e, e', cs, h.hd.fr f h1, h.sl.fr f h2, h.ne, h.tab⟩
theorem or8 (a b : Nat) (ha : a < 256) (hb : b < 256) : iOr .i64 (a : Int) ((b : Int) * 2 ^ 8) = ((a + 256 * b : Nat) : Int) := by
  have e1 : ((b : Int) * 2 ^ 8) = ((b * 256 : Nat) : Int) := by omega
  rw [e1]
  unfold iOr
  have e2 : ∀ n : Nat, n < 2 ^ 64 → (BitVec.ofInt 64 (n : Int)).toNat = n := fun n hn => by simp; omega
  have e3 : (BitVec.ofInt (IntKind.bits .i64) (a : Int) ||| BitVec.ofInt (IntKind.bits .i64) ((b * 256 : Nat) : Int)).toNat = a ||| (b * 256) := by
    show (BitVec.ofInt 64 (a : Int) ||| BitVec.ofInt 64 ((b * 256 : Nat) : Int)).toNat = _
    rw [BitVec.toNat_or, e2 a (by omega), e2 (b * 256) (by omega)]
  rw [e3]
  have e4 : a ||| (b * 256) = a + 256 * b := by
    have := Nat.shiftLeft_add_eq_or_of_lt (a := b) (b := a) (i := 8) (by omega)
    rw [Nat.shiftLeft_eq, show (2 : Nat) ^ 8 = 256 from rfl] at this
    rw [Nat.or_comm]
    omega
  rw [e4, i64_id (by omega) (by omega)]
theorem key_at {k : Key} {i : Nat} (h : i < k.length) : (k.map bv)[i]? = some (bv (k.getD i 0)) := by
  rw [List.getElem?_map, List.getElem?_eq_getElem h, List.getD_eq_getElem?_getD, List.getElem?_eq_getElem h]; rfl
theorem home_calls (bt bs N : Nat) (S : SRow) (cnt : Int) (k : Key) (w : World) (h : TabAt w bt bs N S cnt) (hk : k.length = 32) (hN : 0 < N) (hN2 : N < 1099511627776) :
    Calls Tryz.prog 135 #[.pointer (some ⟨bt, 0, none⟩), ofL (k.map bv)] w fun e w' => e = .returned (.int .i64 (homeOf N k)) ∧ Fr (fun _ => False) w w' := by
  refine (F135.of (some ⟨bt, 0, none⟩) (k.map bv) w (Q := fun v w' => v = .int .i64 (homeOf N k) ∧ Fr (fun _ => False) w w') ?_).mono (fun e w' ⟨v, he, hv, h⟩ => ⟨by rw [he, hv], h⟩)
  obtain ⟨e, e', cs, ht⟩ := h
  refine nw_mk ?_
  have f1 : Fr (fun _ => False) w (w.alloc (.cells (k.map bv).toArray 33)).drew := (Fr.alloc _ _ _).trans1 (Fr.drew _ _)
  have hr : RecAt (w.alloc (.cells (k.map bv).toArray 33)).drew w.heap.size 33 (k.map bv) := RecAt.new w _ _
  refine ⟨_, hr.cell (key_at (i := 0) (by omega)), _, hr.cell (key_at (i := 1) (by omega)), dr_mk ⟨_, _, _, (ht.hd.fr f1 (fun h => h)).cell rfl, gd_mk (decide_eq_true (by omega)) ⟨?_, f1⟩⟩⟩
  have h0 := (k.getD 0 0).toNat_lt
  have h1 := (k.getD 1 0).toNat_lt
  rw [i64_id (by omega) (by omega), i64_id (n := (((k.getD 1 0).toNat : Nat) : Int)) (by omega) (by omega), i64_id (by omega) (by omega), or8 _ _ (by omega) (by omega), tmod_nat]
  rfl
theorem homeOf_lt {N : Nat} (hN : 0 < N) (k : Key) : homeOf N k < N := Nat.mod_lt _ hN
theorem TabC.full {N : Nat} {S : SRow} {cs : List Value} (h : TabC N S cs) {i : Nat} (hi : i < N) : (Full S i ∧ cs[i * 71]? = some (.bool true)) ∨ (Free S i ∧ cs[i * 71]? = some (.bool false)) := by
  rcases full_or_free h.slen hi with ⟨k, v, hf⟩ | hf
  · left
    obtain ⟨_, h2⟩ := h.slot i _ hf
    exact ⟨⟨k, v, hf⟩, h2 0 _ rfl⟩
  · right
    exact ⟨hf, h.slot i _ hf⟩
theorem TabC.key {N : Nat} {S : SRow} {cs : List Value} (h : TabC N S cs) {i : Nat} {k : Key} {v : List Value} (hat : At S i k v) : k.length = 32 ∧ (∀ j u, (k.map bv)[j]? = some u → cs[i * 71 + 1 + j]? = some u) ∧ (v.length = 38 ∧ ∀ j u, v[j]? = some u → cs[i * 71 + 33 + j]? = some u) ∧ ∀ j u, (slotC k v)[j]? = some u → cs[i * 71 + j]? = some u := by
  obtain ⟨⟨h1, h3⟩, h2⟩ := h.slot i _ hat
  refine ⟨h1, fun j u hj => ?_, ⟨h3, fun j u hj => ?_⟩, h2⟩
  · have hjl := (List.getElem?_eq_some_iff.1 hj).1
    rw [Nat.add_assoc]
    refine h2 (1 + j) u ?_
    unfold slotC
    rw [List.getElem?_append_right (by simp), List.getElem?_append_left (by simp at hjl ⊢; omega)]
    simpa using hj
  · have hjl := (List.getElem?_eq_some_iff.1 hj).1
    rw [Nat.add_assoc]
    refine h2 (33 + j) u ?_
    unfold slotC
    rw [List.getElem?_append_right (by simp; omega), List.getElem?_append_right (by simp [h1]), List.append_nil]
    have : 33 + j - [Value.bool true].length - (k.map bv).length = j := by simp [h1]
    rw [this]; exact hj
theorem tmod1 {N i : Nat} (hN : 2 ≤ N) (hN2 : N < 1099511627776) (hi : i < N) : Int.tmod (IntKind.wrap .i64 ((i : Int) + 1)) (N : Int) = ((adv N i 1 : Nat) : Int) := by
  rw [i64_id (by omega) (by omega), show ((i : Int) + 1) = ((i + 1 : Nat) : Int) from rfl, tmod_nat, mod_adv hi (by omega), if_neg (by omega)]
theorem adv_adv {N h t : Nat} (hh : h < N) (ht : t + 1 < N) : adv N (adv N h t) 1 = adv N h (t + 1) := by unfold adv; split <;> split <;> split <;> omega
/-- find: where the search ends, and whether the key is there -/
theorem find_calls (bt bs N : Nat) (S : SRow) (cnt : Int) (k : Key) (w : World) (h : TabAt w bt bs N S cnt) (hk : k.length = 32) (hN : 2 ≤ N) (hN2 : N < 1099511627776) {f : Nat} (hfree : Free S f) :
    Calls Tryz.prog 111 #[.pointer (some ⟨bt, 0, none⟩), ofL (k.map bv)] w fun e w' => Fr (fun _ => False) w w' ∧ ∃ (t : Nat) (b : Bool), Slots.Ends (homeOf N) N S k t ∧ e = .returned (.tuple #[.int .i64 (adv N (homeOf N k) t : Nat), .bool b]) ∧ ((b = false ∧ Free S (adv N (homeOf N k) t)) ∨ (b = true ∧ ∃ v, At S (adv N (homeOf N k) t) k v)) := by
  refine (F111.of (some ⟨bt, 0, none⟩) (k.map bv) w (Q := fun v w' => Fr (fun _ => False) w w' ∧ ∃ (t : Nat) (b : Bool), Slots.Ends (homeOf N) N S k t ∧ v = .tuple #[.int .i64 (adv N (homeOf N k) t : Nat), .bool b] ∧ ((b = false ∧ Free S (adv N (homeOf N k) t)) ∨ (b = true ∧ ∃ v, At S (adv N (homeOf N k) t) k v))) ?_).mono (fun e w' ⟨v, he, hf, t, b, h1, hv, h2⟩ => ⟨hf, t, b, h1, by rw [he, hv], h2⟩)
  have hh := homeOf_lt (N := N) (by omega) k
  refine nw_mk ?_
  have f1 : Fr (fun _ => False) w (w.alloc (.cells (k.map bv).toArray 33)) := Fr.alloc _ _ _
  have hr : RecAt (w.alloc (.cells (k.map bv).toArray 33)) w.heap.size 33 (k.map bv) := RecAt.new w _ _
  have hs1 : w.heap.size < (w.alloc (.cells (k.map bv).toArray 33)).heap.size := by rw [alloc_size]; omega
  generalize w.alloc (.cells (k.map bv).toArray 33) = w1 at f1 hr hs1 ⊢
  refine ⟨k.map bv, by simp [hk], hr.cells (fun j v hj => by simpa using hj), (home_calls bt bs N S cnt k w1 (h.fr f1 (fun h => h) (fun h => h)) hk (by omega) hN2).mono ?_⟩
  rintro e w2 ⟨rfl, f2⟩
  have f12 := f1.trans1 f2
  have hr2 := hr.fr f2 (fun h => h)
  have hfl := hfree.lt (S := S) (by obtain ⟨_, _, _, ht⟩ := h; exact ht.tab.slen)
  refine ⟨_, rfl, jnC_mk ?_⟩
  refine loop_rule (fun s u => Fr (fun _ => False) w u ∧ RecAt u w.heap.size 33 (k.map bv) ∧ ∃ t : Nat, Slots.Ends (homeOf N) N S k t ∧ t ≤ dist N (homeOf N k) f ∧ s = (some ⟨bt, 0, none⟩, (w.heap.size, 0), ((adv N (homeOf N k) t : Nat) : Int), ()))
    (fun s _ => dist N (s.2.2.1).toNat f) ?_ _ _ ⟨f12, hr2, 0, ⟨by omega, fun t' h => by omega⟩, Nat.zero_le _, by
      have : adv N (homeOf N k) 0 = homeOf N k := by unfold adv; rw [if_pos (by omega), Nat.add_zero]
      rw [this]⟩
  rintro s u C ⟨hf, hru, t, hE, htf, rfl⟩ hC _
  obtain ⟨ty, ty', cs, ht⟩ := h.fr hf (fun h => h) (fun h => h)
  have hdl := dist_lt hh hfl
  have hil := adv_lt hh hE.lt
  generalize hi : adv N (homeOf N k) t = i at hil
  have hcs := ht.tab.full hil
  have hcell : ∃ b, cellAt u bs (0 + ((i : Int)).toNat * 71) = some (.bool b) ∧ ((b = true ∧ Full S i) ∨ (b = false ∧ Free S i)) := by
    rw [Int.toNat_natCast, Nat.zero_add]
    rcases hcs with ⟨h1, h2⟩ | ⟨h1, h2⟩
    · exact ⟨true, ht.sl.cell h2, .inl ⟨rfl, h1⟩⟩
    · exact ⟨false, ht.sl.cell h2, .inr ⟨rfl, h1⟩⟩
  obtain ⟨b, hb, hbb⟩ := hcell
  refine dr_mk ⟨_, _, _, ht.hd.cell rfl, dr_mk (gd_mk (decide_eq_true (Int.natCast_nonneg i)) (gd_mk (decide_eq_true (by show (i : Int) < (N : Int); omega)) ⟨b, hb, ?_⟩))⟩
  refine vIf_mk (fun hb0 => ?_) (fun hb1 => ?_)
  · have hb0 : b = false := by simpa using hb0
    rcases hbb with ⟨h1, _⟩ | ⟨_, h1⟩
    · rw [hb0] at h1; cases h1
    · exact ⟨hf, t, false, hE, by rw [hi], .inl ⟨rfl, by rw [hi]; exact h1⟩⟩
  · have hb1 : b = true := by simpa using hb1
    rcases hbb with ⟨_, h1⟩ | ⟨h1, _⟩
    · obtain ⟨k', v', hat⟩ := h1
      obtain ⟨hk', hkc, _, _⟩ := ht.tab.key hat
      refine ⟨k'.map bv, by simp [hk'], ht.sl.cells (o := 0 + i * 71 + 1) (fun j v hj => by rw [Nat.zero_add]; exact hkc j v hj), k.map bv, by simp [hk], hru.cells (fun j v hj => by simpa using hj), k', k, hk', hk, rfl, rfl, ?_⟩
      refine vIf_mk (fun he => ?_) (fun he => ?_)
      · have he : k' = k := by simpa using he
        subst he
        exact ⟨hf.trans1 (Fr.drew _ _), t, true, hE, by rw [hi], .inr ⟨rfl, v', by rw [hi]; exact hat⟩⟩
      · have he : k' ≠ k := by simpa using he
        have htne : t ≠ dist N (homeOf N k) f := by
          intro h1
          rw [h1, adv_dist hh hfl] at hi
          subst hi
          exact Full.not_free ⟨k', v', hat⟩ hfree
        refine dr_mk ⟨_, _, _, (show RecAt u.drew bt ty _ from ht.hd).cell rfl, gd_mk (decide_eq_true (by show (N : Int) ≠ 0; omega)) (jnC_mk (hC _ _ ⟨hf.trans1 (Fr.drew _ _), hru, t + 1, ⟨by omega, fun t' h1 => ?_⟩, by omega, ?_⟩ ?_))⟩
        · by_cases h2 : t' = t
          · subst h2; rw [hi]; exact ⟨k', v', hat, he⟩
          · exact hE.before t' (by omega)
        · show (_, (w.heap.size, 0), Int.tmod (IntKind.wrap .i64 ((i : Int) + 1)) (N : Int), ()) = _
          rw [tmod1 hN hN2 hil, ← hi, adv_adv hh (by omega)]
        · show dist N (Int.tmod (IntKind.wrap .i64 ((i : Int) + 1)) (N : Int)).toNat f < dist N (((adv N (homeOf N k) t : Nat) : Int)).toNat f
          rw [tmod1 hN hN2 hil, Int.toNat_natCast, Int.toNat_natCast, hi]
          have hif : i ≠ f := by
            intro h1; subst h1
            exact Full.not_free ⟨k', v', hat⟩ hfree
          unfold adv dist
          split <;> split <;> split <;> omega
    · rw [hb1] at h1; cases h1
end Go.Proofs.YthcclmlbkfadcaaGreat.Slo
/- a table of slots with entries: counting, Get. -/
namespace Go.Proofs.YthcclmlbkfadcaaGreat.Slo
open Go.GV Go.RowKit Go.Slots
set_option linter.unusedVariables false
/-! ### counting -/
def cntF (S : SRow) : Nat := (S.filter Option.isSome).length
theorem cntF_set : ∀ (S : SRow) (i : Nat) (o o' : Option (Key × List Value)), S[i]? = some o → cntF (S.set i o') + (if o.isSome then 1 else 0) = cntF S + (if o'.isSome then 1 else 0)
  | [], i, o, o', h => by simp at h
  | x :: r, 0, o, o', h => by
    simp only [List.getElem?_cons_zero, Option.some.injEq] at h
    subst h
    simp only [List.set_cons_zero, cntF, List.filter_cons]
    cases x <;> cases o' <;> simp
  | x :: r, i + 1, o, o', h => by
    have := cntF_set r i o o' (by simpa using h)
    simp only [List.set_cons_succ, cntF, List.filter_cons] at this ⊢
    cases x <;> simp at this ⊢ <;> omega
theorem cntF_free : ∀ (S : SRow), cntF S < S.length → ∃ f, Free S f
  | [], h => by simp [cntF] at h
  | none :: r, h => ⟨0, rfl⟩
  | some x :: r, h => by
    obtain ⟨f, hf⟩ := cntF_free r (by simp [cntF] at h ⊢; omega)
    exact ⟨f + 1, by unfold Free at hf ⊢; simpa using hf⟩
theorem cntF_none (n : Nat) : cntF (List.replicate n none) = 0 := by
  unfold cntF
  rw [List.filter_replicate]
  rfl
def Has (S : SRow) (k : Key) (v : List Value) : Prop := ∃ p, At S p k v
/-- one slot is written -/
theorem TabC.put {N : Nat} {S : SRow} {cs vs : List Value} {i : Nat} {o : Option (Key × List Value)} (h : TabC N S cs) (hi : i < N) (hl : vs.length = 71) (ho : SlotAt vs 0 o) (h1 : ∀ v ∈ vs, v.oneCell' = true) : TabC N (S.set i o) (splice cs (i * 71) vs) := by
  have hfit : i * 71 + vs.length ≤ cs.length := by rw [h.len, hl]; omega
  refine ⟨by rw [splice_len hfit]; exact h.len, by rw [List.length_set]; exact h.slen, fun j o' hj => ?_, fun v hv => ?_⟩
  rotate_left
  · unfold splice at hv
    simp only [List.mem_append] at hv
    rcases hv with (hv | hv) | hv
    · exact h.one v (List.mem_of_mem_take hv)
    · exact h1 v hv
    · exact h.one v (List.mem_of_mem_drop hv)
  have hjl := (List.getElem?_eq_some_iff.1 hj).1
  rw [List.length_set, h.slen] at hjl
  rw [set_at (by rw [h.slen]; exact hi)] at hj
  by_cases hij : i = j
  · subst hij
    rw [if_pos rfl] at hj
    injection hj with hj
    subst hj
    have get : ∀ q, q < 71 → (splice cs (i * 71) vs)[i * 71 + q]? = vs[q]? := fun q hq => by
      rw [splice_get hfit, if_neg (by omega), if_pos (by omega)]
      congr 1; omega
    cases o with
    | none =>
      have h0 : vs[0]? = some (.bool false) := by simpa [SlotAt] using ho
      show (splice cs (i * 71) vs)[i * 71]? = _
      have := get 0 (by omega)
      rw [Nat.add_zero] at this
      rw [this, h0]
    | some x =>
      obtain ⟨k, v⟩ := x
      obtain ⟨h1, h2⟩ := ho
      refine ⟨h1, fun q u hq => ?_⟩
      have hql : q < 71 := by
        have := (List.getElem?_eq_some_iff.1 hq).1
        simp [slotC, h1.1, h1.2] at this; omega
      rw [get q hql]
      have := h2 q u hq
      simpa using this
  · rw [if_neg hij] at hj
    have hold := h.slot j o' hj
    have get : ∀ q, q < 71 → (splice cs (i * 71) vs)[j * 71 + q]? = cs[j * 71 + q]? := fun q hq => by
      rw [splice_get hfit]
      by_cases h1 : j * 71 + q < i * 71
      · rw [if_pos h1]
      · rw [if_neg h1, if_neg (by rw [hl]; omega)]
    cases o' with
    | none =>
      have := get 0 (by omega)
      rw [Nat.add_zero] at this
      show (splice cs (i * 71) vs)[j * 71]? = _
      rw [this]; exact hold
    | some x =>
      obtain ⟨k, v⟩ := x
      obtain ⟨h1, h2⟩ := hold
      refine ⟨h1, fun q u hq => ?_⟩
      have hql : q < 71 := by
        have := (List.getElem?_eq_some_iff.1 hq).1
        simp [slotC, h1.1, h1.2] at this; omega
      rw [get q hql]
      exact h2 q u hq
theorem slotAt_C {k : Key} {v : List Value} (hk : k.length = 32) (hv : v.length = 38) : SlotAt (slotC k v) 0 (some (k, v)) := ⟨⟨hk, hv⟩, fun j u h => by simpa using h⟩
theorem slotC_len {k : Key} {v : List Value} (hk : k.length = 32) (hv : v.length = 38) : (slotC k v).length = 71 := by simp [slotC, hk, hv]
/-- the cells of a slot, cut out -/
theorem slotAt_cut {cs : List Value} {i : Nat} {o : Option (Key × List Value)} (h : SlotAt cs i o) : SlotAt ((cs.drop (i * 71)).take 71) 0 o := by
  have get : ∀ q, q < 71 → ((cs.drop (i * 71)).take 71)[q]? = cs[i * 71 + q]? := fun q hq => by rw [List.getElem?_take, if_pos hq, List.getElem?_drop]
  cases o with
  | none =>
    show ((cs.drop (i * 71)).take 71)[0 * 71]? = _
    rw [Nat.zero_mul, get 0 (by omega)]
    exact h
  | some x =>
    obtain ⟨k, v⟩ := x
    obtain ⟨h1, h2⟩ := h
    refine ⟨h1, fun q u hq => ?_⟩
    have hql : q < 71 := by
      have := (List.getElem?_eq_some_iff.1 hq).1
      simp [slotC, h1.1, h1.2] at this; omega
    rw [Nat.zero_mul, Nat.zero_add, get q hql]
    exact h2 q u hq
theorem cut_len {N : Nat} {S : SRow} {cs : List Value} (h : TabC N S cs) {i : Nat} (hi : i < N) : ((cs.drop (i * 71)).take 71).length = 71 := by
  rw [List.length_take, List.length_drop, h.len]; omega
theorem cut_cells {w : World} {b : Nat} {e : TypeId} {cs : List Value} (h : RecAt w b e cs) (o n : Nat) : cellsAt w b o ((cs.drop o).take n) := h.cells (fun j v hj => by
  rw [List.getElem?_take] at hj
  split at hj
  · rwa [List.getElem?_drop] at hj
  · cases hj)
theorem slotC_one {k : Key} {v : List Value} (hv : ∀ u ∈ v, u.oneCell' = true) : ∀ u ∈ slotC k v, u.oneCell' = true := by
  intro u hu
  simp only [slotC, List.mem_append, List.mem_singleton, List.not_mem_nil, or_false] at hu
  rcases hu with rfl | hu | hu
  · rfl
  · exact bvs_one k u hu
  · exact hv u hu
/-- a table as it should be; all its blocks are from B on -/
structure Tab (w : World) (B bt bs N : Nat) (S : SRow) : Prop where
  at_ : TabAt w bt bs N S (cntF S)
  inv : Inv (homeOf N) N S
  n8 : 8 ≤ N
  load : 4 * cntF S ≤ 3 * N
  big : N < 1099511627776
  bt_ : B ≤ bt
  bs_ : B ≤ bs
theorem Tab.free {w : World} {B bt bs N : Nat} {S : SRow} (h : Tab w B bt bs N S) : ∃ f, Free S f := by
  have hl := h.inv.len
  have := h.load
  have := h.n8
  exact cntF_free S (by omega)
theorem Tab.fr {D : Nat → Prop} {w w' : World} {B bt bs N : Nat} {S : SRow} (f : Fr D w w') (h : Tab w B bt bs N S) (hD : ∀ k, D k → k < B) : Tab w' B bt bs N S :=
  ⟨h.at_.fr f (fun hk => by have := hD _ hk; have := h.bt_; omega) (fun hk => by have := hD _ hk; have := h.bs_; omega), h.inv, h.n8, h.load, h.big, h.bt_, h.bs_⟩
/-- Get: the cells that the digest has -/
theorem get_calls (B bt bs N : Nat) (S : SRow) (k : Key) (w : World) (h : Tab w B bt bs N S) (hk : k.length = 32) :
    Calls Tryz.prog 84 #[.pointer (some ⟨bt, 0, none⟩), ofL (k.map bv)] w fun e w' => Fr (fun _ => False) w w' ∧ ((∃ cs, Has S k cs ∧ e = .returned (.tuple #[ofL cs, .bool true])) ∨ ((∀ v, ¬ Has S k v) ∧ e = .returned (.tuple #[ofL Z48, .bool false]))) := by
  refine (F84.of (some ⟨bt, 0, none⟩) (k.map bv) w (Q := fun v w' => Fr (fun _ => False) w w' ∧ ((∃ cs, Has S k cs ∧ v = .tuple #[ofL cs, .bool true]) ∨ ((∀ v, ¬ Has S k v) ∧ v = .tuple #[ofL Z48, .bool false]))) ?_).mono (fun e w' ⟨v, he, hf, hv⟩ => ⟨hf, by
    rcases hv with ⟨x, h1, h2⟩ | ⟨h1, h2⟩
    · exact .inl ⟨x, h1, by rw [he, h2]⟩
    · exact .inr ⟨h1, by rw [he, h2]⟩⟩)
  obtain ⟨f, hfree⟩ := h.free
  have zl : Z48.length = 38 := rfl
  have z1 : ∀ v ∈ Z48, v.oneCell' = true := by decide +kernel
  refine nw_mk (nw_mk (nw_mk (vIf_f rfl ?_)))
  have f1 : Fr (fun _ => False) w (w.alloc (.cells (k.map bv).toArray 33)) := Fr.alloc _ _ _
  have r1 : RecAt (w.alloc (.cells (k.map bv).toArray 33)) w.heap.size 33 (k.map bv) := RecAt.new w _ _
  have s1 : (w.alloc (.cells (k.map bv).toArray 33)).heap.size = w.heap.size + 1 := alloc_size _ _
  generalize w.alloc (.cells (k.map bv).toArray 33) = w1 at f1 r1 s1 ⊢
  have f2 : Fr (fun _ => False) w1 (w1.alloc (.cells Z48.toArray 48)) := Fr.alloc _ _ _
  have r2 : RecAt (w1.alloc (.cells Z48.toArray 48)) w1.heap.size 48 Z48 := RecAt.new w1 _ _
  have s2 : (w1.alloc (.cells Z48.toArray 48)).heap.size = w1.heap.size + 1 := alloc_size _ _
  have g2 := f1.trans1 f2
  have r1 := r1.fr f2 (fun h => h)
  generalize w1.alloc (.cells Z48.toArray 48) = w2 at g2 r1 r2 s2 ⊢
  have f3 : Fr (fun _ => False) w2 (w2.alloc (.cells Z48.toArray 48)) := Fr.alloc _ _ _
  have r3 : RecAt (w2.alloc (.cells Z48.toArray 48)) w2.heap.size 48 Z48 := RecAt.new w2 _ _
  have g3 := g2.trans1 f3
  have r1 := r1.fr f3 (fun h => h)
  have r2 := r2.fr f3 (fun h => h)
  have h1 := h.at_.fr g3 (fun h => h) (fun h => h)
  generalize w2.alloc (.cells Z48.toArray 48) = w3 at g3 r1 r2 r3 h1 ⊢
  refine ⟨k.map bv, by simp [hk], r1.cells (fun j v hj => by simpa using hj), (find_calls bt bs N S _ k _ h1 hk (by have := h.n8; omega) h.big hfree).mono ?_⟩
  rintro e w4 ⟨f4, t, b, hE, rfl, hb⟩
  have g4 := g3.trans1 f4
  have r2 := r2.fr f4 (fun h => h)
  have r3 := r3.fr f4 (fun h => h)
  obtain ⟨ty, ty', cs, ht⟩ := h1.fr f4 (fun h => h) (fun h => h)
  have hh := h.inv.hom k
  refine ⟨_, _, rfl, ?_⟩
  have fin : ∀ (vs : List Value) (b : Bool), vs.length = 38 → (∀ v ∈ vs, v.oneCell' = true) → ((∃ cs, Has S k cs ∧ Value.tuple #[ofL vs, .bool b] = .tuple #[ofL cs, .bool true]) ∨ ((∀ v, ¬ Has S k v) ∧ Value.tuple #[ofL vs, .bool b] = .tuple #[ofL Z48, .bool false])) →
      st w4 w1.heap.size 0 vs fun w26 => ldA 38 w26 w1.heap.size 0 fun a27 => Fr (fun _ => False) w w26 ∧ ((∃ cs, Has S k cs ∧ Value.tuple #[ofL a27, .bool b] = .tuple #[ofL cs, .bool true]) ∨ ((∀ v, ¬ Has S k v) ∧ Value.tuple #[ofL a27, .bool b] = .tuple #[ofL Z48, .bool false])) := by
    intro vs b hl h1 hq
    refine r2.st_mk (o := 0) (by rw [zl, hl]; omega) h1 (fun r f => ?_)
    rw [splice_full (by rw [hl, zl])] at r
    exact ⟨vs, hl, r.cells (fun j v hj => by simpa using hj), g4.trans f (fun _ _ h => h) (fun j hj h => by omega), hq⟩
  rcases hb with ⟨rfl, hf⟩ | ⟨rfl, v, hv⟩
  · exact vIf_t rfl ⟨_, zl, r3.cells (fun j v hj => by simpa using hj), gd_mk rfl (fin _ _ zl z1 (.inr ⟨fun v ⟨p, hp⟩ => hE.absent h.inv hf p v hp, rfl⟩))⟩
  · have hil := adv_lt hh hE.lt
    obtain ⟨_, _, ⟨hv38, h33⟩, _⟩ := ht.tab.key hv
    refine vIf_f rfl (dr_mk ⟨_, _, _, ht.hd.cell rfl, dr_mk (gd_mk (decide_eq_true (Int.natCast_nonneg _)) (gd_mk (decide_eq_true (by show ((adv N (homeOf N k) t : Nat) : Int) < (N : Int); omega)) ⟨v, hv38, ?_, gd_mk (by simp [hv38]) (fin v true hv38 (fun u hu => ?_) (.inl ⟨v, ⟨_, hv⟩, rfl⟩))⟩))⟩)
    · rw [Int.toNat_natCast, Nat.zero_add]
      exact ht.sl.cells h33
    · obtain ⟨j, hj⟩ := List.mem_iff_getElem?.1 hu
      exact ht.tab.one u (List.mem_of_getElem? (h33 j u hj))
end Go.Proofs.YthcclmlbkfadcaaGreat.Slo
/- a table of slots with entries: grow. -/
namespace Go.Proofs.YthcclmlbkfadcaaGreat.Slo
open Go.GV Go.RowKit Go.Slots
set_option linter.unusedVariables false
set_option linter.unusedSimpArgs false
theorem splice_all {c vs : List Value} (h : vs.length = c.length) : splice c 0 vs = vs := by
  unfold splice
  rw [List.take_zero, List.nil_append, Nat.zero_add, h, List.drop_length, List.append_nil]
theorem slot_one {cs : List Value} {i : Nat} {k : Key} {v : List Value} (h : SlotAt cs i (some (k, v))) (hl : cs.length = 71) (hi : i = 0) : cs = slotC k v := by
  subst hi
  obtain ⟨h1, h2⟩ := h
  apply List.ext_getElem?
  intro j
  by_cases hj : j < 71
  · have hs : (slotC k v)[j]? = some ((slotC k v)[j]'(by rw [slotC_len h1.1 h1.2]; exact hj)) := List.getElem?_eq_getElem _
    have := h2 j _ hs
    rw [hs, ← this]; congr 1; omega
  · rw [List.getElem?_eq_none (by omega), List.getElem?_eq_none (by rw [slotC_len h1.1 h1.2]; omega)]
theorem TabAt.set {w : World} {bt bs N : Nat} {S : SRow} {cnt : Int} (h : TabAt w bt bs N S cnt) {i : Nat} (hi : i < N) {o : Option (Key × List Value)} {vs : List Value} (hl : vs.length = 71) (ho : SlotAt vs 0 o) (h1 : ∀ v ∈ vs, v.oneCell' = true) {K : World → Prop}
    (hK : ∀ w', TabAt w' bt bs N (S.set i o) cnt → Fr (fun k => k = bs) w w' → K w') : st w bs (0 + i * 71) vs K := by
  obtain ⟨ty, ty', cs, ht⟩ := h
  rw [Nat.zero_add]
  refine ht.sl.st_mk (by rw [ht.tab.len, hl]; omega) h1 (fun r f => hK _ ⟨ty, ty', _, ht.hd.fr f ht.ne, r, ht.ne, ht.tab.put hi hl ho h1⟩ f)
theorem cntF_take (S : SRow) (j : Nat) (o : Option (Key × List Value)) (h : S[j]? = some o) : cntF (S.take (j + 1)) = cntF (S.take j) + (if o.isSome then 1 else 0) := by
  unfold cntF
  rw [List.take_add_one, h]
  simp only [Option.toList_some, List.filter_append, List.length_append]
  cases o <;> simp
theorem grow_calls (B bt bs N : Nat) (S : SRow) (cnt : Int) (w : World) (h : TabAt w bt bs N S cnt) (hI : Inv (homeOf N) N S) (hN : 8 ≤ N) (hN2 : N < 549755813888) (hB : B ≤ w.heap.size) :
    Calls Tryz.prog 112 #[.pointer (some ⟨bt, 0, none⟩)] w fun e w' => e = .returned (.tuple #[]) ∧ Fr (fun k => k = bt) w w' ∧ ∃ bs' S', TabAt w' bt bs' (2 * N) S' cnt ∧ Inv (homeOf (2 * N)) (2 * N) S' ∧ cntF S' = cntF S ∧ (∀ k v, Has S' k v ↔ Has S k v) ∧ B ≤ bs' := by
  refine (F112.of (some ⟨bt, 0, none⟩) w (Q := fun v w' => v = .tuple #[] ∧ Fr (fun k => k = bt) w w' ∧ ∃ bs' S', TabAt w' bt bs' (2 * N) S' cnt ∧ Inv (homeOf (2 * N)) (2 * N) S' ∧ cntF S' = cntF S ∧ (∀ k v, Has S' k v ↔ Has S k v) ∧ B ≤ bs') ?_).mono (fun e w' ⟨v, he, hv, h⟩ => ⟨by rw [he, hv], h⟩)
  obtain ⟨ty, ty', cs, ht⟩ := h
  have hSl := ht.tab.slen
  have w2 : IntKind.wrap .i64 (2 * (N : Int)) = ((2 * N : Nat) : Int) := by rw [i64_id (by omega) (by omega)]; omega
  refine dr_mk ⟨_, _, _, ht.hd.cell rfl, ?_⟩
  dsimp only
  rw [w2]
  refine gd_mk (decide_eq_true (by omega)) (gd_mk (decide_eq_true (by omega)) (gd_mk (decide_eq_true (by omega)) (nw_mk (dr_mk ?_))))
  rw [Int.toNat_natCast]
  have f1 : Fr (fun _ => False) w (w.alloc (.cells (zeros (2 * N) Z157).toArray 157)) := Fr.alloc _ _ _
  have hd1 := ht.hd.fr f1 (fun h => h)
  have sl1 := ht.sl.fr f1 (fun h => h)
  have nw1 : RecAt (w.alloc (.cells (zeros (2 * N) Z157).toArray 157)) w.heap.size 157 (zeros (2 * N) Z157) := RecAt.new w _ _
  have hbt := ht.hd.lt
  have hbs := ht.sl.lt
  have hs1 : w.heap.size < (w.alloc (.cells (zeros (2 * N) Z157).toArray 157)).heap.size := by rw [alloc_size]; omega
  generalize w.alloc (.cells (zeros (2 * N) Z157).toArray 157) = w1 at f1 hd1 sl1 nw1 hs1 ⊢
  generalize hbn : w.heap.size = bn at *
  refine hd1.st_mk (o := 0) (by simp) (by intro v hv; simp only [List.mem_singleton] at hv; subst hv; rfl) (fun hd2 f2 => ?_)
  have f12 : Fr (fun k => k = bt) w (stB w1 bt 0 [Value.slice (some ⟨bn, 0, none⟩) (2 * N) (2 * N)]) := f1.trans f2 (fun _ _ h => h.elim) (fun k _ h => h)
  have sl2 := sl1.fr f2 (fun h => ht.ne h.symm)
  have nw2 := nw1.fr f2 (fun h => by omega)
  have hs2 : bn < (stB w1 bt 0 [Value.slice (some ⟨bn, 0, none⟩) (2 * N) (2 * N)]).heap.size := by rw [stB_size]; exact hs1
  generalize stB w1 bt 0 [Value.slice (some ⟨bn, 0, none⟩) (2 * N) (2 * N)] = w2' at hd2 f12 sl2 nw2 hs2 ⊢
  have Zl : Z157.length = 71 := rfl
  have T0 : TabAt w2' bt bn (2 * N) (List.replicate (2 * N) none) cnt := by
    refine ⟨ty, 157, _, ?_, nw2, by omega, ⟨by rw [zeros_length, Zl], by simp, fun i o hi => ?_, fun v hv => ?_⟩⟩
    · exact hd2
    · have hil := (List.getElem?_eq_some_iff.1 hi).1
      rw [List.length_replicate] at hil
      have : o = none := by
        have := List.mem_of_getElem? hi
        exact (List.mem_replicate.1 this).2
      subst this
      show (zeros (2 * N) Z157)[i * 71]? = some (.bool false)
      have := zeros_get Z157 (2 * N) (i * 71) (by rw [Zl]; omega)
      rw [this, Zl, Nat.mul_mod_left]
      rfl
    · simp only [zeros, List.mem_flatten, List.mem_replicate] at hv
      obtain ⟨l, ⟨_, rfl⟩, hv⟩ := hv
      revert v
      decide +kernel
  have I0 : Inv (homeOf (2 * N)) (2 * N) (List.replicate (2 * N) (none : Option (Key × List Value))) := by
    have no : ∀ p k v, ¬ At (List.replicate (2 * N) (none : Option (Key × List Value))) p k v := fun p k v h => by
      have := List.mem_of_getElem? h
      have := (List.mem_replicate.1 this).2
      cases this
    exact ⟨by simp, fun k => homeOf_lt (by omega) k, fun p k v h => absurd h (no p k v), fun p q k v v' h => absurd h (no p k v)⟩
  have no0 : ∀ p k v, ¬ At (List.replicate (2 * N) (none : Option (Key × List Value))) p k v := fun p k v h => by
    have h1 := List.mem_of_getElem? h
    have h2 := (List.mem_replicate.1 h1).2
    cases h2
  refine jnC_mk ?_
  refine loop_rule (fun s u => Fr (fun k => k = bt) w u ∧ bn < u.heap.size ∧ RecAt u bs ty' cs ∧ ∃ (j : Nat) (S' : SRow), j ≤ N ∧ s = (some ⟨bt, 0, none⟩, (some ⟨bs, 0, none⟩, N, N), (N : Int), (j : Int), ()) ∧ TabAt u bt bn (2 * N) S' cnt ∧ Inv (homeOf (2 * N)) (2 * N) S' ∧ cntF S' = cntF (S.take j) ∧ ∀ k v, Has S' k v ↔ ∃ p, p < j ∧ At S p k v)
    (fun s _ => (N - s.2.2.2.1).toNat) ?_ _ _ ⟨f12, hs2, sl2, 0, _, by omega, rfl, T0, I0, by rw [cntF_none]; rfl, fun k v => Iff.intro (fun ⟨p, hp⟩ => absurd hp (no0 p k v)) (fun ⟨p, hp, _⟩ => absurd hp (Nat.not_lt_zero p))⟩
  rintro s u C ⟨hf, hus, hsl, j, S', hj, rfl, hT, hI', hcnt, hHas⟩ hC _
  have hub : B ≤ u.heap.size := by have := hf.size; omega
  refine vIf_mk (fun hlt => ?_) (fun hge => ?_)
  · have hlt2 : (j : Int) < (N : Int) := of_decide_eq_true hlt
    obtain ⟨o, ho⟩ : ∃ o, S[j]? = some o := ⟨_, List.getElem?_eq_getElem (by omega)⟩
    have hcl := cut_len ht.tab (i := j) (by omega)
    have hsc := slotAt_cut (ht.tab.slot j o ho)
    refine dr_mk (gd_mk (decide_eq_true (Int.natCast_nonneg j)) (gd_mk (decide_eq_true hlt2) ⟨(cs.drop (j * 71)).take 71, hcl, ?_, nw_mk (gd_mk (by simpa using hcl) ?_)⟩))
    · rw [Int.toNat_natCast, Nat.zero_add]; exact cut_cells hsl _ _
    generalize hvs : (cs.drop (j * 71)).take 71 = vs at hcl hsc ⊢
    have g1 : Fr (fun _ => False) u (u.alloc (.cells Z157.toArray 157)) := Fr.alloc _ _ _
    have rz : RecAt (u.alloc (.cells Z157.toArray 157)) u.heap.size 157 Z157 := RecAt.new u _ _
    have hone : ∀ x ∈ vs, x.oneCell' = true := by
      intro x hx
      have hx2 : x ∈ cs := by
        rw [← hvs] at hx
        exact List.mem_of_mem_drop (List.mem_of_mem_take hx)
      exact ht.tab.one x hx2
    refine rz.st_mk (o := 0) (by rw [Zl, hcl]; omega) hone (fun rv g2 => ?_)
    rw [splice_all (by rw [hcl, Zl])] at rv
    have g12 : Fr (fun _ => False) u (stB (u.alloc (.cells Z157.toArray 157)) u.heap.size 0 vs) := g1.trans g2 (fun _ _ h => h) (fun k hk h => by omega)
    have hs3 : u.heap.size < (stB (u.alloc (.cells Z157.toArray 157)) u.heap.size 0 vs).heap.size := by rw [stB_size, alloc_size]; omega
    generalize stB (u.alloc (.cells Z157.toArray 157)) u.heap.size 0 vs = u2 at rv g12 hs3 ⊢
    have hT2 := hT.fr g12 (fun h => h) (fun h => h)
    have hsl2 := hsl.fr g12 (fun h => h)
    have hf2 := hf.trans1 (g12.mono (fun _ _ h => h.elim))
    have next : ∀ (u3 : World) (S3 : SRow), Fr (fun k => k = bt) w u3 → bn < u3.heap.size → RecAt u3 bs ty' cs → TabAt u3 bt bn (2 * N) S3 cnt → Inv (homeOf (2 * N)) (2 * N) S3 → cntF S3 = cntF (S.take (j + 1)) → (∀ k v, Has S3 k v ↔ ∃ p, p < j + 1 ∧ At S p k v) →
        C (some ⟨bt, 0, none⟩, (some ⟨bs, 0, none⟩, N, N), (N : Int), IntKind.wrap .i64 ((j : Int) + 1), ()) u3 := fun u3 S3 a1 a2 a3 a4 a5 a6 a7 => by
      refine hC _ _ ⟨a1, a2, a3, j + 1, S3, by omega, ?_, a4, a5, a6, a7⟩ ?_
      · rw [i64_id (by omega) (by omega)]; rfl
      · show ((N : Int) - IntKind.wrap .i64 ((j : Int) + 1)).toNat < ((N : Int) - (j : Int)).toNat
        rw [i64_id (by omega) (by omega)]; omega
    cases o with
    | none =>
      have h0 : vs[0]? = some (.bool false) := by simpa [SlotAt] using hsc
      refine ⟨false, rv.cell h0, vIf_f rfl (jnC_mk (next u2 S' hf2 (by omega) hsl2 hT2 hI' ?_ (fun k v => ?_)))⟩
      · rw [cntF_take S j none ho, hcnt]; rfl
      · rw [hHas]
        refine ⟨fun ⟨p, h1, h2⟩ => ⟨p, by omega, h2⟩, fun ⟨p, h1, h2⟩ => ⟨p, ?_, h2⟩⟩
        by_cases hpj : p = j
        · subst hpj; unfold At at h2; rw [ho] at h2; cases h2
        · omega
    | some x =>
      obtain ⟨k, v⟩ := x
      have hat : At S j k v := ho
      obtain ⟨hk, hv38⟩ : k.length = 32 ∧ v.length = 38 := hsc.1
      have hve := slot_one hsc hcl rfl
      subst hve
      have hkc : ∀ q y, (k.map bv)[q]? = some y → (slotC k v)[0 + 1 + q]? = some y := fun q y hq => by
        have hql := (List.getElem?_eq_some_iff.1 hq).1
        unfold slotC
        rw [List.getElem?_append_right (by simp), List.getElem?_append_left (by simp at hql ⊢; omega)]
        simpa using hq
      obtain ⟨fr, hfr⟩ : ∃ f, Free S' f := cntF_free S' (by
        rw [hcnt, hI'.len]
        have : cntF (S.take j) ≤ (S.take j).length := List.length_filter_le _ _
        rw [List.length_take] at this
        omega)
      refine ⟨true, rv.cell rfl, vIf_t rfl ⟨k.map bv, by simp [hk], rv.cells (o := 0 + 1) hkc, ?_⟩⟩
      refine (find_calls bt bn (2 * N) S' cnt k u2 hT2 hk (by omega) (by omega) hfr).mono ?_
      rintro e u3 ⟨g3, t, b, hE, rfl, hb⟩
      rcases hb with ⟨rfl, hfree⟩ | ⟨_, v', hv'⟩
      · have hT3 := hT2.fr g3 (fun h => h) (fun h => h)
        have rv3 := rv.fr g3 (fun h => h)
        have hT3' := hT3
        obtain ⟨ty2, ty3, cs3, ht3⟩ := hT3'
        have hil := adv_lt (hI'.hom k) hE.lt
        refine ⟨_, _, rfl, dr_mk ⟨_, _, _, (show RecAt u3.drew bt ty2 _ from ht3.hd).cell rfl, slotC k v, slotC_len hk hv38, (show RecAt u3.drew u.heap.size 157 _ from rv3).cells (fun q y hq => by simpa using hq), ?_⟩⟩
        refine dr_mk (gd_mk (decide_eq_true (Int.natCast_nonneg _)) (gd_mk (decide_eq_true ?_) (gd_mk (by simp [slotC_len hk hv38]) ?_)))
        · show ((adv (2 * N) (homeOf (2 * N) k) t : Nat) : Int) < ((2 * N : Nat) : Int)
          omega
        rw [Int.toNat_natCast]
        refine TabAt.set (w := u3.drew) (S := S') (hT3.fr (Fr.drew (fun _ => False) u3) (fun h => h) (fun h => h)) hil (slotC_len hk hv38) (slotAt_C hk hv38) (fun x hx => hone x hx) (fun u4 hT4 g4 => ?_)
        have hbnB : B ≤ bn := by omega
        refine jnC_mk (next u4 _ ?_ ?_ ?_ hT4 (hE.put hI' v hfree) ?_ (fun k2 v2 => ?_))
        · exact ((hf2.trans1 (g3.mono (fun _ _ h => h.elim))).trans1 (Fr.drew _ _)).trans g4 (fun _ _ h => h) (fun q hq h => by omega)
        · have := g3.size; have := g4.size; show bn < _; have : u3.drew.heap.size = u3.heap.size := rfl; omega
        · have hsl3 : RecAt u3.drew bs ty' cs := RecAt.fr (S := fun _ => False) (g3.trans1 (Fr.drew _ _)) hsl2 (fun h => h)
          exact hsl3.fr g4 (fun h => by omega)
        · have h5 := cntF_set S' _ none (some (k, v)) hfree
          rw [cntF_take S j _ ho]
          simp at h5 ⊢
          omega
        · constructor
          · rintro ⟨p, hp⟩
            unfold At at hp
            rw [set_at (by rw [hI'.len]; exact hil)] at hp
            split at hp
            · injection hp with hp; injection hp with hp
              obtain ⟨rfl, rfl⟩ := Prod.mk.inj hp
              exact ⟨j, by omega, hat⟩
            · obtain ⟨q, h6, h7⟩ := (hHas k2 v2).1 ⟨p, hp⟩
              exact ⟨q, by omega, h7⟩
          · rintro ⟨p, h6, h7⟩
            by_cases hpj : p = j
            · subst hpj
              obtain ⟨rfl, rfl⟩ := hat.uniq h7
              exact ⟨_, by unfold At; rw [set_at (by rw [hI'.len]; exact hil), if_pos rfl]⟩
            · obtain ⟨q, hq⟩ := (hHas k2 v2).2 ⟨p, by omega, h7⟩
              refine ⟨q, ?_⟩
              unfold At
              rw [set_at (by rw [hI'.len]; exact hil), if_neg]
              · exact hq
              · intro he; subst he; exact Full.not_free ⟨k2, v2, hq⟩ hfree
      · exfalso
        obtain ⟨p, h6, h7⟩ := (hHas k v').1 ⟨_, hv'⟩
        have := hI.one _ _ _ _ _ h7 hat
        omega
  · have hge2 : ¬ ((j : Int) < (N : Int)) := of_decide_eq_false hge
    have hjN : j = N := by omega
    subst hjN
    rw [List.take_of_length_le (by omega)] at hcnt
    refine ⟨rfl, hf, bn, S', hT, hI', hcnt, fun k v => ?_, by omega⟩
    rw [hHas]
    exact ⟨fun ⟨p, _, hp⟩ => ⟨p, hp⟩, fun ⟨p, hp⟩ => ⟨p, hp.lt hI.len, hp⟩⟩
end Go.Proofs.YthcclmlbkfadcaaGreat.Slo
/- a table of slots with entries: Put. -/
namespace Go.Proofs.YthcclmlbkfadcaaGreat.Slo
open Go.GV Go.RowKit Go.Slots
set_option linter.unusedVariables false
set_option linter.unusedSimpArgs false
/-- the last step of Put: the slot is written -/
theorem put_slot {w : World} {bt bs N : Nat} {S : SRow} {cnt : Int} {b1 b3 : Nat} {k : Key} {x : List Value} {i : Nat} {Q : Value → World → Prop} (h : TabAt w bt bs N S cnt) (hr : RecAt w b1 33 (k.map bv)) (hr3 : RecAt w b3 48 x) (hk : k.length = 32) (hx : x.length = 38) (hx1 : ∀ u ∈ x, u.oneCell' = true) (hi : i < N)
    (hQ : ∀ w', TabAt w' bt bs N (S.set i (some (k, x))) cnt → Fr (fun j => j = bs) w w' → Q (.tuple #[]) w') : F79.k8 Q (some ⟨bt, 0, none⟩, (b1, 0), (b3, 0), (i : Int), ()) w := by
  intro _
  have hd : Fr (fun _ => False) w w.drew := Fr.drew _ _
  have hT := h.fr hd (fun h => h) (fun h => h)
  obtain ⟨ty, ty', cs, ht⟩ := id hT
  have hr' := hr.fr hd (fun h => h)
  have hr3' := hr3.fr hd (fun h => h)
  refine dr_mk ⟨_, _, _, ht.hd.cell rfl, k.map bv, by simp [hk], hr'.cells (o := 0) (fun j v hj => by rw [Nat.zero_add]; exact hj), x, hx, hr3'.cells (o := 0) (fun j v hj => by rw [Nat.zero_add]; exact hj), gd_mk (by simp [hk]) (gd_mk (by simp [hx]) (dr_mk (gd_mk (decide_eq_true (Int.natCast_nonneg i)) (gd_mk (decide_eq_true (by show (i : Int) < (N : Int); omega)) (gd_mk (by simp [hk, hx]) ?_)))))⟩
  rw [Int.toNat_natCast]
  exact TabAt.set (w := w.drew) (S := S) hT hi (slotC_len hk hx) (slotAt_C hk hx) (slotC_one hx1) (fun w' h1 f1 => hQ w' h1 ((Fr.drew _ _).trans1 f1))
theorem has_over {N : Nat} {S : SRow} {k : Key} {v0 v : List Value} {i : Nat} (hI : Inv (homeOf N) N S) (h : At S i k v0) : (∀ k' v', Has (S.set i (some (k, v))) k' v' ↔ if k' = k then v' = v else Has S k' v') ∧ cntF (S.set i (some (k, v))) = cntF S := by
  have hil : i < S.length := by rw [hI.len]; exact h.lt hI.len
  refine ⟨fun k' v' => ?_, ?_⟩
  · by_cases hk : k' = k
    · subst hk
      rw [if_pos rfl]
      constructor
      · rintro ⟨p, hp⟩
        unfold At at hp
        rw [set_at hil] at hp
        split at hp
        · injection hp with hp; injection hp with hp
          exact (Prod.mk.inj hp).2.symm
        · rename_i hne
          exact absurd (hI.one _ _ _ _ _ h hp) hne
      · rintro rfl
        exact ⟨i, by unfold At; rw [set_at hil, if_pos rfl]⟩
    · rw [if_neg hk]
      constructor
      · rintro ⟨p, hp⟩
        unfold At at hp
        rw [set_at hil] at hp
        split at hp
        · injection hp with hp; injection hp with hp
          exact absurd (Prod.mk.inj hp).1.symm hk
        · exact ⟨p, hp⟩
      · rintro ⟨p, hp⟩
        refine ⟨p, ?_⟩
        unfold At
        rw [set_at hil, if_neg]
        · exact hp
        · intro he; subst he; exact hk (h.uniq hp).1.symm
  · have := cntF_set S i _ (some (k, v)) h
    simp at this; omega
theorem has_new {N : Nat} {S : SRow} {k : Key} {v : List Value} {i : Nat} (hI : Inv (homeOf N) N S) (hf : Free S i) (hab : ∀ v, ¬ Has S k v) : (∀ k' v', Has (S.set i (some (k, v))) k' v' ↔ if k' = k then v' = v else Has S k' v') ∧ cntF (S.set i (some (k, v))) = cntF S + 1 := by
  have hil : i < S.length := by rw [hI.len]; exact hf.lt hI.len
  refine ⟨fun k' v' => ?_, ?_⟩
  · by_cases hk : k' = k
    · subst hk
      rw [if_pos rfl]
      constructor
      · rintro ⟨p, hp⟩
        unfold At at hp
        rw [set_at hil] at hp
        split at hp
        · injection hp with hp; injection hp with hp
          exact (Prod.mk.inj hp).2.symm
        · exact absurd ⟨p, hp⟩ (hab v')
      · rintro rfl
        exact ⟨i, by unfold At; rw [set_at hil, if_pos rfl]⟩
    · rw [if_neg hk]
      constructor
      · rintro ⟨p, hp⟩
        unfold At at hp
        rw [set_at hil] at hp
        split at hp
        · injection hp with hp; injection hp with hp
          exact absurd (Prod.mk.inj hp).1.symm hk
        · exact ⟨p, hp⟩
      · rintro ⟨p, hp⟩
        refine ⟨p, ?_⟩
        unfold At
        rw [set_at hil, if_neg]
        · exact hp
        · intro he; subst he; exact Full.not_free ⟨k', v', hp⟩ hf
  · have := cntF_set S i none (some (k, v)) hf
    simp at this; omega
/-- what a table is behind Put -/
structure PutAns (w' : World) (B bt : Nat) (S : SRow) (N : Nat) (k : Key) (v : List Value) (bs' N' : Nat) (S' : SRow) : Prop where
  tab : Tab w' B bt bs' N' S'
  has : ∀ k' v', Has S' k' v' ↔ if k' = k then v' = v else Has S k' v'
  cnt : ((∃ v0, Has S k v0) ∧ cntF S' = cntF S ∧ N' = N) ∨ ((∀ v0, ¬ Has S k v0) ∧ cntF S' = cntF S + 1 ∧ N' = if 4 * (cntF S + 1) > 3 * N then 2 * N else N)
theorem cnt_st {w : World} {bt bs N : Nat} {S : SRow} {cnt cnt' : Int} (h : TabAt w bt bs N S cnt) {K : World → Prop} (hK : ∀ w', TabAt w' bt bs N S cnt' → Fr (fun j => j = bt) w w' → K w') : st w bt (0 + 1) [.int .i64 cnt'] K := by
  obtain ⟨ty, ty', cs, ht⟩ := h
  refine ht.hd.st_mk (o := 0 + 1) (by simp) (by intro v hv; simp only [List.mem_singleton] at hv; subst hv; rfl) (fun r f => hK _ ⟨ty, ty', cs, r, ht.sl.fr f (fun h => ht.ne h.symm), ht.ne, ht.tab⟩ f)
theorem tput_calls' (B bt bs N : Nat) (S : SRow) (k : Key) (x : List Value) (w : World) (h : Tab w B bt bs N S) (hk : k.length = 32) (hx : x.length = 38) (hx1 : ∀ u ∈ x, u.oneCell' = true) (hN : N < 274877906944) (hB : B ≤ w.heap.size) :
    Calls Tryz.prog 79 #[.pointer (some ⟨bt, 0, none⟩), ofL (k.map bv), ofL x] w fun e w' => e = .returned (.tuple #[]) ∧ Fr (fun j => j = bt ∨ j = bs) w w' ∧ ∃ bs' N' S', (bs' = bs ∨ w.heap.size ≤ bs') ∧ PutAns w' B bt S N k x bs' N' S' := by
  refine (F79.of (some ⟨bt, 0, none⟩) (k.map bv) x w (Q := fun v w' => v = .tuple #[] ∧ Fr (fun j => j = bt ∨ j = bs) w w' ∧ ∃ bs' N' S', (bs' = bs ∨ w.heap.size ≤ bs') ∧ PutAns w' B bt S N k x bs' N' S') ?_).mono (fun e w' ⟨v, he, hv, h⟩ => ⟨by rw [he, hv], h⟩)
  obtain ⟨f, hfree⟩ := h.free
  have hN8 := h.n8
  refine nw_mk (nw_mk (vIf_f rfl ?_))
  have f0 : Fr (fun _ => False) w (w.alloc (.cells (k.map bv).toArray 33)) := Fr.alloc _ _ _
  have hr0 : RecAt (w.alloc (.cells (k.map bv).toArray 33)) w.heap.size 33 (k.map bv) := RecAt.new w _ _
  have hs0 : (w.alloc (.cells (k.map bv).toArray 33)).heap.size = w.heap.size + 1 := alloc_size _ _
  generalize w.alloc (.cells (k.map bv).toArray 33) = w0 at f0 hr0 hs0 ⊢
  have f1 : Fr (fun _ => False) w0 (w0.alloc (.cells x.toArray 48)) := Fr.alloc _ _ _
  have hr3 : RecAt (w0.alloc (.cells x.toArray 48)) w0.heap.size 48 x := RecAt.new w0 _ _
  have hr := hr0.fr f1 (fun h => h)
  have f1 := f0.trans1 f1
  have hs1 : (w0.alloc (.cells x.toArray 48)).heap.size = w0.heap.size + 1 := alloc_size _ _
  have hT1 := h.at_.fr f1 (fun h => h) (fun h => h)
  have hbt1 : bt < w.heap.size := by obtain ⟨_, _, _, ht⟩ := h.at_; exact ht.hd.lt
  have hbs1 : bs < w.heap.size := by obtain ⟨_, _, _, ht⟩ := h.at_; exact ht.sl.lt
  generalize w0.alloc (.cells x.toArray 48) = w1 at f1 hr hr3 hs1 hT1 ⊢
  have hb3 : w.heap.size < w0.heap.size := by omega
  generalize w0.heap.size = b3 at hr3 hs1 hb3 ⊢
  generalize hb1 : w.heap.size = b1 at hr hb3 hbt1 hbs1 ⊢
  refine ⟨k.map bv, by simp [hk], hr.cells (fun j v hj => by simpa using hj), (find_calls bt bs N S _ k _ hT1 hk (by omega) h.big hfree).mono ?_⟩
  rintro e w2 ⟨f2, t, b, hE, rfl, hb⟩
  have f12 : Fr (fun j => j = bt ∨ j = bs) w w2 := (f1.trans1 f2).mono (fun _ _ h => h.elim)
  have hT2 := hT1.fr f2 (fun h => h) (fun h => h)
  have hr2 := hr.fr f2 (fun h => h)
  have hr32 := hr3.fr f2 (fun h => h)
  have hs2 : b3 < w2.heap.size := by have := f2.size; omega
  have hil := adv_lt (h.inv.hom k) hE.lt
  refine ⟨_, _, rfl, ?_⟩
  rcases hb with ⟨rfl, hf⟩ | ⟨rfl, v0, hv0⟩
  · have hab : ∀ v, ¬ Has S k v := fun v ⟨p, hp⟩ => hE.absent h.inv hf p v hp
    have hd : Fr (fun _ => False) w2 w2.drew := Fr.drew _ _
    have hT3 := hT2.fr hd (fun h => h) (fun h => h)
    have hr3 := hr2.fr hd (fun h => h)
    have hr33 := hr32.fr hd (fun h => h)
    have f13 : Fr (fun j => j = bt ∨ j = bs) w w2.drew := f12.trans1 (Fr.drew _ _)
    obtain ⟨ty, ty', cs, ht⟩ := id hT3
    have hc := h.load
    have e1 : IntKind.wrap .i64 (((cntF S : Nat) : Int) + 1) = ((cntF S + 1 : Nat) : Int) := by rw [i64_id (by omega) (by omega)]; rfl
    have e2 : IntKind.wrap .i64 (4 * ((cntF S + 1 : Nat) : Int)) = ((4 * (cntF S + 1) : Nat) : Int) := by rw [i64_id (by omega) (by omega)]; omega
    have e3 : IntKind.wrap .i64 (3 * (N : Int)) = ((3 * N : Nat) : Int) := by rw [i64_id (by omega) (by omega)]; omega
    refine vIf_t rfl (dr_mk ⟨_, ht.hd.cell rfl, dr_mk ⟨_, _, _, ht.hd.cell rfl, ?_⟩⟩)
    dsimp only
    rw [e1, e2, e3]
    -- behind: the count goes up, the slot is written
    have fin : ∀ (w5 : World) (bs5 N5 : Nat) (S5 : SRow) (t5 : Nat), Fr (fun j => j = bt ∨ j = bs) w w5 → RecAt w5 b3 48 x → TabAt w5 bt bs5 N5 S5 (cntF S : Nat) → RecAt w5 b1 33 (k.map bv) → Inv (homeOf N5) N5 S5 → cntF S5 = cntF S → (∀ k v, Has S5 k v ↔ Has S k v) → (bs5 = bs ∨ b1 ≤ bs5) → 8 ≤ N5 → N5 < 1099511627776 →
        4 * (cntF S + 1) ≤ 3 * N5 → N5 = (if 4 * (cntF S + 1) > 3 * N then 2 * N else N) → Slots.Ends (homeOf N5) N5 S5 k t5 → Free S5 (adv N5 (homeOf N5 k) t5) →
        F79.k7 (fun v w' => v = .tuple #[] ∧ Fr (fun j => j = bt ∨ j = bs) w w' ∧ ∃ bs' N' S', (bs' = bs ∨ b1 ≤ bs') ∧ PutAns w' B bt S N k x bs' N' S') (some ⟨bt, 0, none⟩, (b1, 0), (b3, 0), ((adv N5 (homeOf N5 k) t5 : Nat) : Int), ()) w5 := by
      intro w5 bs5 N5 S5 t5 a1 a2 a3 a4 a5 a6 a7 a8 a9 a10 a11 a12 a13 a14 _
      obtain ⟨ty5, ty5', cs5, ht5⟩ := id a3
      have hBs5 : B ≤ bs5 := by
        rcases a8 with h8 | h8
        · rw [h8]; exact h.bs_
        · omega
      refine dr_mk ⟨_, ht5.hd.cell rfl, dr_mk ?_⟩
      rw [e1]
      refine cnt_st a3 (fun w6 h6 f6 => jnC_mk ?_)
      have hr6 := a4.fr f6 (fun he => by omega)
      have hr36 := a2.fr f6 (fun he => by omega)
      refine put_slot h6 hr6 hr36 hk hx hx1 (adv_lt (a5.hom k) a13.lt) (fun w7 h7 f7 => ⟨rfl, ?_, bs5, N5, S5.set (adv N5 (homeOf N5 k) t5) (some (k, x)), a8, ?_⟩)
      · exact (a1.trans1 (f6.mono (fun j _ hj => .inl hj))).trans f7 (fun _ _ h => h) (fun j hj h' => by
          rcases a8 with h8 | h8
          · exact .inr (h'.trans h8)
          · omega)
      · have hab5 : ∀ v, ¬ Has S5 k v := fun v hv => hab v ((a7 k v).1 hv)
        obtain ⟨g1, g2⟩ := has_new (v := x) a5 a14 hab5
        refine ⟨⟨?_, a13.put a5 _ a14, a9, by rw [g2, a6]; exact a11, a10, h.bt_, hBs5⟩, fun k' v' => ?_, .inr ⟨hab, by rw [g2, a6], a12⟩⟩
        · rw [g2, a6]; exact h7
        · rw [g1]
          split
          · exact Iff.rfl
          · exact a7 k' v'
    refine vIf_mk (fun hg => ?_) (fun hg => ?_)
    · have hg : ((4 * (cntF S + 1) : Nat) : Int) > ((3 * N : Nat) : Int) := of_decide_eq_true hg
      refine (grow_calls w2.drew.heap.size bt bs N S _ w2.drew hT3 h.inv hN8 (by omega) (Nat.le_refl _)).mono ?_
      rintro e w3 ⟨rfl, f3, bs', S', hT4, hI4, hc4, hh4, hb4⟩
      have hr4 : RecAt w3 b1 33 (k.map bv) := hr3.fr f3 (fun he => by omega)
      have hr34 : RecAt w3 b3 48 x := hr33.fr f3 (fun he => by omega)
      obtain ⟨f', hfree'⟩ : ∃ f, Free S' f := cntF_free S' (by rw [hc4, hI4.len]; omega)
      refine ⟨rfl, k.map bv, by simp [hk], hr4.cells (fun j v hj => by simpa using hj), (find_calls bt bs' (2 * N) S' _ k w3 hT4 hk (by omega) (by omega) hfree').mono ?_⟩
      rintro e w4 ⟨f4, t4, b4, hE4, rfl, hb4'⟩
      have f14 : Fr (fun j => j = bt ∨ j = bs) w w4 := (f13.trans1 (f3.mono (fun j _ hj => .inl hj))).trans1 (f4.mono (fun _ _ h => h.elim))
      rcases hb4' with ⟨rfl, hf4⟩ | ⟨_, v4, hv4⟩
      · exact ⟨_, _, rfl, jnC_mk (fin w4 bs' (2 * N) S' t4 f14 (hr34.fr f4 (fun h => h)) (hT4.fr f4 (fun h => h) (fun h => h)) (hr4.fr f4 (fun h => h)) hI4 hc4 hh4 (.inr (by have : w2.drew.heap.size = w2.heap.size := rfl; omega)) (by omega) (by omega) (by omega) (by rw [if_pos (by omega)]) hE4 hf4)⟩
      · exact absurd ((hh4 k v4).1 ⟨_, hv4⟩) (hab v4)
    · have hg : ¬ ((4 * (cntF S + 1) : Nat) : Int) > ((3 * N : Nat) : Int) := of_decide_eq_false hg
      exact jnC_mk (fin w2.drew bs N S t f13 hr33 hT3 hr3 h.inv rfl (fun _ _ => Iff.rfl) (.inl rfl) hN8 h.big (by omega) (by rw [if_neg (by omega)]) hE hf)
  · refine vIf_f rfl (jnC_mk (put_slot hT2 hr2 hr32 hk hx hx1 hil (fun w3 h3 f3 => ⟨rfl, f12.trans1 (f3.mono (fun j _ hj => .inr hj)), bs, N, S.set (adv N (homeOf N k) t) (some (k, x)), .inl rfl, ?_⟩)))
    obtain ⟨g1, g2⟩ := has_over (v := x) h.inv hv0
    refine ⟨⟨by rw [g2]; exact h3, h.inv.over _ hv0, hN8, by rw [g2]; exact h.load, h.big, h.bt_, h.bs_⟩, g1, .inl ⟨⟨v0, _, hv0⟩, g2, rfl⟩⟩
end Go.Proofs.YthcclmlbkfadcaaGreat.Slo
/- a table of slots with entries: Cut. -/
namespace Go.Proofs.YthcclmlbkfadcaaGreat.Slo
open Go.GV Go.RowKit Go.Slots
set_option linter.unusedVariables false
set_option linter.unusedSimpArgs false
theorem between_calls (bt bs N : Nat) (S : SRow) (cnt : Int) (k : Key) (v : List Value) (hole i : Nat) (w : World) (h : TabAt w bt bs N S cnt) (hat : At S i k v) (hN : 2 ≤ N) (hN2 : N < 1099511627776) (hh : hole < N) (hi : i < N) (hne : i ≠ hole) :
    Calls Tryz.prog 132 #[.pointer (some ⟨bt, 0, none⟩), .int .i64 hole, .int .i64 i] w fun e w' => e = .returned (.bool (decide (dist N (homeOf N k) i < dist N hole i))) ∧ Fr (fun _ => False) w w' := by
  refine (F132.of (some ⟨bt, 0, none⟩) hole i w (Q := fun v w' => v = .bool (decide (dist N (homeOf N k) i < dist N hole i)) ∧ Fr (fun _ => False) w w') ?_).mono (fun e w' ⟨v, he, hv, h⟩ => ⟨by rw [he, hv], h⟩)
  obtain ⟨ty, ty', cs, ht⟩ := id h
  obtain ⟨hk, hkc, _, _⟩ := ht.tab.key hat
  refine dr_mk ⟨_, _, _, ht.hd.cell rfl, dr_mk (gd_mk (decide_eq_true (Int.natCast_nonneg i)) (gd_mk (decide_eq_true (by show (i : Int) < (N : Int); omega)) ⟨k.map bv, by simp [hk], ?_, (home_calls bt bs N S cnt k w h hk (by omega) hN2).mono ?_⟩))⟩
  · rw [Int.toNat_natCast, Nat.zero_add]; exact ht.sl.cells (fun j v hj => hkc j v hj)
  rintro e w2 ⟨rfl, f2⟩
  have hd2 := ht.hd.fr f2 (fun h => h)
  refine ⟨_, rfl, dr_mk ⟨_, _, _, hd2.cell rfl, gd_mk (decide_eq_true (by omega)) (gd_mk (decide_eq_true (by omega)) ⟨?_, f2.trans1 (Fr.drew _ _)⟩)⟩⟩
  have hm := homeOf_lt (N := N) (by omega) k
  generalize homeOf N k = m at hm
  have e1 : IntKind.wrap .i64 (IntKind.wrap .i64 (IntKind.wrap .i64 ((m : Int) - (hole : Int)) - 1) + (N : Int)) = ((m + N - hole - 1 : Nat) : Int) := by
    rw [i64_id (n := (m : Int) - (hole : Int)) (by omega) (by omega), i64_id (n := (m : Int) - (hole : Int) - 1) (by omega) (by omega), i64_id (by omega) (by omega)]; omega
  have e2 : IntKind.wrap .i64 (IntKind.wrap .i64 ((i : Int) - (hole : Int)) + (N : Int)) = ((i + N - hole : Nat) : Int) := by
    rw [i64_id (n := (i : Int) - (hole : Int)) (by omega) (by omega), i64_id (by omega) (by omega)]; omega
  rw [e1, e2, tmod_nat, tmod_nat]
  have md : ∀ x, x < 2 * N → x % N = if x < N then x else x - N := fun x hx => by
    split
    · exact Nat.mod_eq_of_lt (by omega)
    · rw [Nat.mod_eq_sub_mod (by omega), Nat.mod_eq_of_lt (by omega)]
  rw [md _ (by omega), md _ (by omega)]
  congr 1
  apply decide_eq_decide.2
  unfold dist
  split <;> split <;> split <;> split <;> omega
theorem has_move {N : Nat} {L : SRow} {hole i : Nat} {k : Key} {v : List Value} (h1 : Free L hole) (h2 : At L i k v) : (∀ k' v', Has ((L.set hole (some (k, v))).set i none) k' v' ↔ Has L k' v') ∧ cntF ((L.set hole (some (k, v))).set i none) = cntF L := by
  have hl1 : hole < L.length := (List.getElem?_eq_some_iff.1 h1).1
  have hl2 : i < (L.set hole (some (k, v))).length := by rw [List.length_set]; exact (List.getElem?_eq_some_iff.1 h2).1
  have hne : hole ≠ i := by intro he; subst he; exact Full.not_free ⟨k, v, h2⟩ h1
  have get : ∀ j, ((L.set hole (some (k, v))).set i none)[j]? = if i = j then some none else if hole = j then some (some (k, v)) else L[j]? := fun j => by
    rw [set_at hl2]
    split
    · rfl
    · rw [set_at hl1]
  refine ⟨fun k' v' => ⟨?_, ?_⟩, ?_⟩
  · rintro ⟨p, hp⟩
    unfold At at hp
    rw [get] at hp
    split at hp
    · cases hp
    · split at hp
      · injection hp with hp; injection hp with hp
        obtain ⟨rfl, rfl⟩ := Prod.mk.inj hp
        exact ⟨i, h2⟩
      · exact ⟨p, hp⟩
  · rintro ⟨p, hp⟩
    by_cases hpi : i = p
    · subst hpi
      obtain ⟨rfl, rfl⟩ := h2.uniq hp
      exact ⟨hole, by unfold At; rw [get, if_neg (fun h => hne h.symm), if_pos rfl]⟩
    · refine ⟨p, ?_⟩
      unfold At
      rw [get, if_neg hpi, if_neg]
      · exact hp
      · intro he; subst he; exact Full.not_free ⟨k', v', hp⟩ h1
  · have a1 := cntF_set L hole none (some (k, v)) h1
    have a2 := cntF_set (L.set hole (some (k, v))) i (some (k, v)) none (by rw [set_at hl1, if_neg hne]; exact h2)
    simp at a1 a2
    omega
theorem has_none {N : Nat} {S : SRow} {k : Key} {v0 : List Value} {i : Nat} (hI : Inv (homeOf N) N S) (h : At S i k v0) : (∀ k' v', Has (S.set i none) k' v' ↔ k' ≠ k ∧ Has S k' v') ∧ cntF (S.set i none) + 1 = cntF S := by
  have hil : i < S.length := by rw [hI.len]; exact h.lt hI.len
  refine ⟨fun k' v' => ⟨?_, ?_⟩, ?_⟩
  · rintro ⟨p, hp⟩
    unfold At at hp
    rw [set_at hil] at hp
    split at hp
    · cases hp
    · rename_i hne
      refine ⟨?_, p, hp⟩
      rintro rfl
      exact hne (hI.one _ _ _ _ _ h hp)
  · rintro ⟨hk, p, hp⟩
    refine ⟨p, ?_⟩
    unfold At
    rw [set_at hil, if_neg]
    · exact hp
    · intro he; subst he; exact hk (h.uniq hp).1.symm
  · have := cntF_set S i _ none h
    simp at this; omega
theorem set_same (S : SRow) (i : Nat) (a b : Option (Key × List Value)) : (S.set i a).set i b = S.set i b := by
  apply List.ext_getElem?
  intro j
  simp only [List.getElem?_set, List.length_set]
  split <;> rfl
theorem cut_calls' (B bt bs N : Nat) (S : SRow) (k : Key) (w : World) (h : Tab w B bt bs N S) (hk : k.length = 32) :
    Calls Tryz.prog 104 #[.pointer (some ⟨bt, 0, none⟩), ofL (k.map bv)] w fun e w' => Fr (fun j => j = bt ∨ j = bs) w w' ∧ ∃ S', Tab w' B bt bs N S' ∧
      ((e = .returned (.bool true) ∧ (∃ v0, Has S k v0) ∧ cntF S' + 1 = cntF S ∧ ∀ k' v', Has S' k' v' ↔ k' ≠ k ∧ Has S k' v') ∨ (e = .returned (.bool false) ∧ (∀ v, ¬ Has S k v) ∧ S' = S)) := by
  refine (F104.of (some ⟨bt, 0, none⟩) (k.map bv) w (Q := fun v w' => Fr (fun j => j = bt ∨ j = bs) w w' ∧ ∃ S', Tab w' B bt bs N S' ∧
      ((v = .bool true ∧ (∃ v0, Has S k v0) ∧ cntF S' + 1 = cntF S ∧ ∀ k' v', Has S' k' v' ↔ k' ≠ k ∧ Has S k' v') ∨ (v = .bool false ∧ (∀ v, ¬ Has S k v) ∧ S' = S))) ?_).mono (fun e w' ⟨v, he, hf, S', hT, hv⟩ => ⟨hf, S', hT, by
    rcases hv with ⟨h1, h2⟩ | ⟨h1, h2⟩
    · exact .inl ⟨by rw [he, h1], h2⟩
    · exact .inr ⟨by rw [he, h1], h2⟩⟩)
  obtain ⟨f, hfree⟩ := h.free
  have hN8 := h.n8
  have hbig := h.big
  have hB1 := h.bt_
  have hB2 := h.bs_
  refine nw_mk (vIf_f rfl ?_)
  have f1 : Fr (fun _ => False) w (w.alloc (.cells (k.map bv).toArray 33)) := Fr.alloc _ _ _
  have hr : RecAt (w.alloc (.cells (k.map bv).toArray 33)) w.heap.size 33 (k.map bv) := RecAt.new w _ _
  have hT1 := h.at_.fr f1 (fun h => h) (fun h => h)
  generalize w.alloc (.cells (k.map bv).toArray 33) = w1 at f1 hr hT1 ⊢
  refine ⟨k.map bv, by simp [hk], hr.cells (fun j v hj => by simpa using hj), (find_calls bt bs N S _ k _ hT1 hk (by omega) h.big hfree).mono ?_⟩
  rintro e w2 ⟨f2, t, b, hE, rfl, hb⟩
  have f12 : Fr (fun j => j = bt ∨ j = bs) w w2 := (f1.trans1 f2).mono (fun _ _ h => h.elim)
  have hT2 := hT1.fr f2 (fun h => h) (fun h => h)
  have hil := adv_lt (h.inv.hom k) hE.lt
  refine ⟨_, _, rfl, ?_⟩
  rcases hb with ⟨rfl, hf⟩ | ⟨rfl, v0, hv0⟩
  · exact vIf_t rfl ⟨f12, S, ⟨hT2, h.inv, h.n8, h.load, h.big, h.bt_, h.bs_⟩, .inr ⟨rfl, fun v ⟨p, hp⟩ => hE.absent h.inv hf p v hp, rfl⟩⟩
  generalize adv N (homeOf N k) t = i0 at hil hv0
  obtain ⟨ty, ty', cs, ht⟩ := id hT2
  refine vIf_f rfl (dr_mk ⟨_, _, _, ht.hd.cell rfl, gd_mk (decide_eq_true (by omega)) (jnC_mk ?_)⟩)
  obtain ⟨hn1, hn2⟩ := has_none h.inv hv0
  have hfl := hfree.lt h.inv.len
  have hlen : S.length = N := h.inv.len
  refine loop_rule (fun s u => Fr (fun j => j = bt ∨ j = bs) w u ∧ ∃ (P : SRow) (hole d : Nat), s = (some ⟨bt, 0, none⟩, (hole : Int), (N : Int), ((adv N hole d : Nat) : Int), ()) ∧ TabAt u bt bs N P (cntF S : Nat) ∧ Hole (homeOf N) N (P.set hole none) hole d f ∧ (∀ k' v', Has (P.set hole none) k' v' ↔ k' ≠ k ∧ Has S k' v') ∧ cntF (P.set hole none) + 1 = cntF S)
    (fun s _ => dist N (s.2.2.2.1).toNat f) ?_ _ _ ⟨f12, S, i0, 1, ?_, hT2, Hole.start h.inv hv0 hfree, hn1, hn2⟩
  rotate_left
  · rw [tmod1 (by omega) hbig hil]
  rintro s u C ⟨hf, P, hole, d, rfl, hT, hH, hHas, hcnt⟩ hC _
  have hole_lt := hH.hlt
  have hd1 := hH.s1
  have hdN := hH.sN
  have hdl := dist_lt hole_lt hfl
  have hPl : P.length = N := by have := hH.len; rwa [List.length_set] at this
  have hilt : adv N hole d < N := adv_lt hole_lt (by omega)
  have hine : adv N hole d ≠ hole := by unfold adv; split <;> omega
  have hPi : (P.set hole none)[adv N hole d]? = P[adv N hole d]? := by rw [set_at (by omega), if_neg (fun h => hine h.symm)]
  obtain ⟨ty2, ty2', cs2, ht2⟩ := id hT
  have hcs := ht2.tab.full hilt
  generalize hi : adv N hole d = i at *
  have hcell : ∃ b, cellAt u bs (0 + ((i : Int)).toNat * 71) = some (.bool b) ∧ ((b = true ∧ Full P i) ∨ (b = false ∧ Free P i)) := by
    rw [Int.toNat_natCast, Nat.zero_add]
    rcases hcs with ⟨h1, h2⟩ | ⟨h1, h2⟩
    · exact ⟨true, ht2.sl.cell h2, .inl ⟨rfl, h1⟩⟩
    · exact ⟨false, ht2.sl.cell h2, .inr ⟨rfl, h1⟩⟩
  obtain ⟨b, hb, hbb⟩ := hcell
  refine dr_mk ⟨_, _, _, ht2.hd.cell rfl, dr_mk (gd_mk (decide_eq_true (Int.natCast_nonneg i)) (gd_mk (decide_eq_true (by show (i : Int) < (N : Int); omega)) ⟨b, hb, ?_⟩))⟩
  rcases hbb with ⟨rfl, k2, v2, hat⟩ | ⟨rfl, hfr⟩
  · refine vIf_t rfl ?_
    have hatL : At (P.set hole none) i k2 v2 := by unfold At; rw [hPi]; exact hat
    have hdist : dist N hole i = d := by rw [← hi, dist_adv hole_lt (by omega)]
    have hif : i ≠ f := by
      intro he; subst he
      exact Full.not_free ⟨k2, v2, hatL⟩ hH.elt.1
    have hmeas : dist N (adv N i 1) f < dist N i f := by
      unfold adv dist
      split <;> split <;> split <;> omega
    refine (between_calls bt bs N P _ k2 v2 hole i u hT hat (by omega) hbig hole_lt hilt hine).mono ?_
    rintro e w3 ⟨rfl, f3⟩
    rw [hdist]
    refine ⟨_, rfl, ?_⟩
    have hT3 := hT.fr f3 (fun h => h) (fun h => h)
    refine vIf_mk (fun hm => ?_) (fun hm => ?_)
    · have hm2 : d ≤ dist N (homeOf N k2) i := by
        have : decide (dist N (homeOf N k2) i < d) = false := by simpa using hm
        have := of_decide_eq_false this
        omega
      have hT4 := hT3.fr (Fr.drew (fun _ => False) w3) (fun h => h) (fun h => h)
      obtain ⟨ty4, ty4', cs4, ht4⟩ := id hT4
      have hcl := cut_len ht4.tab hilt
      have hsc := slotAt_cut (ht4.tab.slot i _ hat)
      have hone : ∀ x ∈ (cs4.drop (i * 71)).take 71, x.oneCell' = true := fun x hx => ht4.tab.one x (List.mem_of_mem_drop (List.mem_of_mem_take hx))
      refine dr_mk ⟨_, _, _, ht4.hd.cell rfl, dr_mk ⟨_, _, _, ht4.hd.cell rfl, dr_mk (gd_mk (decide_eq_true (Int.natCast_nonneg i)) (gd_mk (decide_eq_true (by show (i : Int) < (N : Int); omega)) ⟨(cs4.drop (i * 71)).take 71, hcl, ?_, dr_mk (gd_mk (decide_eq_true (Int.natCast_nonneg hole)) (gd_mk (decide_eq_true (by show (hole : Int) < (N : Int); omega)) (gd_mk (by simpa using hcl) ?_)))⟩))⟩⟩
      · rw [Int.toNat_natCast, Nat.zero_add]; exact cut_cells ht4.sl _ _
      rw [Int.toNat_natCast]
      refine TabAt.set (w := w3.drew) (S := P) hT4 hole_lt hcl hsc hone (fun w5 h5 f5 => gd_mk (decide_eq_true (by show (N : Int) ≠ 0; omega)) (jnC_mk (hC _ _ ⟨?_, P.set hole (some (k2, v2)), i, 1, ?_, h5, ?_, ?_⟩ ?_)))
      · exact ((hf.trans1 (f3.mono (fun _ _ h => h.elim))).trans1 (Fr.drew _ _)).trans1 (f5.mono (fun j _ hj => .inr hj))
      · rw [tmod1 (by omega) hbig hilt]
      · have := hH.move (k := k2) (v := v2) (by rw [hi]; exact hatL) (by rw [hi]; exact hm2)
        rw [hi, set_same] at this
        exact this
      · have hmv := has_move (N := N) hH.free hatL
        rw [set_same] at hmv
        exact ⟨fun k' v' => by rw [hmv.1]; exact hHas k' v', by rw [hmv.2]; exact hcnt⟩
      · show dist N (Int.tmod (IntKind.wrap .i64 ((i : Int) + 1)) (N : Int)).toNat f < dist N ((i : Int)).toNat f
        rw [tmod1 (by omega) hbig hilt, Int.toNat_natCast, Int.toNat_natCast]
        exact hmeas
    · have hm2 : dist N (homeOf N k2) i < d := by
        have : decide (dist N (homeOf N k2) i < d) = true := by simpa using hm
        exact of_decide_eq_true this
      have hst := hH.stay (k := k2) (v := v2) (by rw [hi]; exact hatL) (by rw [hi]; exact hm2)
      have hadv : adv N i 1 = adv N hole (d + 1) := by
        have h1 := hst.sN
        rw [← hi]; unfold adv; split <;> split <;> split <;> omega
      refine gd_mk (decide_eq_true (by show (N : Int) ≠ 0; omega)) (jnC_mk (hC _ _ ⟨hf.trans1 (f3.mono (fun _ _ h => h.elim)), P, hole, d + 1, ?_, hT3, hst, hHas, hcnt⟩ ?_))
      · rw [tmod1 (by omega) hbig hilt, hadv]
      · show dist N (Int.tmod (IntKind.wrap .i64 ((i : Int) + 1)) (N : Int)).toNat f < dist N ((i : Int)).toNat f
        rw [tmod1 (by omega) hbig hilt, Int.toNat_natCast, Int.toNat_natCast]
        exact hmeas
  · refine vIf_f rfl (dr_mk ⟨_, _, _, ht2.hd.cell rfl, dr_mk (gd_mk (decide_eq_true (Int.natCast_nonneg hole)) (gd_mk (decide_eq_true (by show (hole : Int) < (N : Int); omega)) (gd_mk (by decide +kernel) ?_)))⟩)
    rw [Int.toNat_natCast]
    refine TabAt.set (w := u) (S := P) hT hole_lt (o := none) (by decide +kernel) (show _ = some (Value.bool false) from rfl) (by decide +kernel) (fun w5 h5 f5 => ?_)
    obtain ⟨ty5, ty5', cs5, ht5⟩ := id h5
    refine dr_mk ⟨_, ht5.hd.cell rfl, dr_mk ?_⟩
    have e1 : IntKind.wrap .i64 (((cntF S : Nat) : Int) - 1) = ((cntF (P.set hole none) : Nat) : Int) := by
      have := h.load
      rw [i64_id (by omega) (by omega)]; omega
    rw [e1]
    refine cnt_st h5 (fun w6 h6 f6 => ⟨?_, P.set hole none, ⟨h6, ?_, h.n8, ?_, h.big, h.bt_, h.bs_⟩, .inl ⟨rfl, ⟨v0, _, hv0⟩, hcnt, hHas⟩⟩)
    · exact (hf.trans1 (f5.mono (fun j _ hj => .inr hj))).trans1 (f6.mono (fun j _ hj => .inl hj))
    · exact hH.done (by rw [hi]; unfold Free; rw [hPi]; exact hfr)
    · have := h.load; omega
end Go.Proofs.YthcclmlbkfadcaaGreat.Slo
/- digest: the order of two -/
namespace Go.Proofs.YthcclmlbkfadcaaGreat.Dg
open Go.GV Go.RowKit
set_option linter.unusedVariables false
set_option linter.unusedSimpArgs false
theorem eqAB_bytes {n : Nat} {a b : List UInt8} {K : Bool → Prop} (ha : a.length = n) (hb : b.length = n) (hK : K (a == b)) : eqAB n (a.map bv) (b.map bv) K := ⟨a, b, ha, hb, rfl, rfl, hK⟩
end Go.Proofs.YthcclmlbkfadcaaGreat.Dg
/- the document's order of digests -/
namespace Go.Proofs.YthcclmlbkfadcaaGreat.Dg
open Go.GV Go.RowKit Go.Lib
set_option linter.unusedVariables false
set_option linter.unusedSimpArgs false
theorem less_calls (a b : List UInt8) (w : World) (ha : a.length = 32) (hb : b.length = 32) :
    Calls Tryz.prog 123 #[ofL (a.map bv), ofL (b.map bv)] w fun e w' => e = .returned (.bool (decide (compareBytes a b < 0))) ∧ Fr (fun _ => False) w w' := by
  refine (F123.of (a.map bv) (b.map bv) w (Q := fun v w' => v = .bool (decide (compareBytes a b < 0)) ∧ Fr (fun _ => False) w w') ?_).mono (fun e w' ⟨v, he, hv, h⟩ => ⟨by rw [he, hv], h⟩)
  refine nw_mk (nw_mk (jnC_mk ?_))
  have f1 : Fr (fun _ => False) w (w.alloc (.cells (a.map bv).toArray 33)) := Fr.alloc _ _ _
  have r1 : RecAt (w.alloc (.cells (a.map bv).toArray 33)) w.heap.size 33 (a.map bv) := RecAt.new w _ _
  generalize w.alloc (.cells (a.map bv).toArray 33) = w1 at f1 r1 ⊢
  have f2 : Fr (fun _ => False) w1 (w1.alloc (.cells (b.map bv).toArray 33)) := Fr.alloc _ _ _
  have r2 : RecAt (w1.alloc (.cells (b.map bv).toArray 33)) w1.heap.size 33 (b.map bv) := RecAt.new w1 _ _
  have r12 := r1.fr f2 (fun h => h)
  generalize w1.alloc (.cells (b.map bv).toArray 33) = w2 at f2 r2 r12 ⊢
  generalize w.heap.size = b1 at *
  generalize w1.heap.size = b3 at *
  refine loop_rule (fun s u => Fr (fun _ => False) w u ∧ RecAt u b1 33 (a.map bv) ∧ RecAt u b3 33 (b.map bv) ∧ ∃ i : Nat, i ≤ 32 ∧ s = ((b1, 0), (b3, 0), (i : Int), ()) ∧ a.take i = b.take i)
    (fun s _ => (32 - s.2.2.1).toNat) ?_ _ _ ⟨f1.trans1 f2, r12, r2, 0, by omega, rfl, rfl⟩
  rintro s u C ⟨hf, hr1, hr3, i, hi, rfl, hp⟩ hC _
  have hat := cmp_at i a b hp
  refine vIf_mk (fun hlt => ?_) (fun hge => ?_)
  · have hlt2 : (i : Int) < 32 := of_decide_eq_true hlt
    have ca : cellAt u.drew b1 (0 + (i : Int).toNat * 1) = some (.int .u8 (a[i]'(by omega)).toNat) := by
      rw [Int.toNat_natCast, Nat.mul_one, Nat.zero_add]
      exact (show RecAt u.drew b1 _ _ from hr1).cell (by rw [List.getElem?_map, List.getElem?_eq_getElem (by omega)]; rfl)
    have cb : cellAt u.drew b3 (0 + (i : Int).toNat * 1) = some (.int .u8 (b[i]'(by omega)).toNat) := by
      rw [Int.toNat_natCast, Nat.mul_one, Nat.zero_add]
      exact (show RecAt u.drew b3 _ _ from hr3).cell (by rw [List.getElem?_map, List.getElem?_eq_getElem (by omega)]; rfl)
    rw [List.drop_eq_getElem_cons (show i < a.length by omega), List.drop_eq_getElem_cons (show i < b.length by omega)] at hat
    have h0 : decide (0 ≤ (i : Int)) = true := decide_eq_true (Int.natCast_nonneg i)
    refine gd_mk h0 (gd_mk (decide_eq_true hlt2) ⟨_, ca, gd_mk h0 (gd_mk (decide_eq_true hlt2) ⟨_, cb, ?_⟩)⟩)
    refine vIf_mk (fun hne => ?_) (fun heq => ?_)
    · have hne2 : a[i]'(by omega) ≠ b[i]'(by omega) := by
        intro h; rw [h] at hne; simp at hne
      refine gd_mk h0 (gd_mk (decide_eq_true hlt2) ⟨_, ca, gd_mk h0 (gd_mk (decide_eq_true hlt2) ⟨_, cb, ?_, hf.trans1 ((Fr.drew _ _).trans1 (Fr.drew _ _))⟩)⟩)
      congr 1
      apply decide_eq_decide.2
      rw [hat]
      unfold compareBytes
      constructor
      · intro h
        have : a[i]'(by omega) < b[i]'(by omega) := UInt8.lt_iff_toNat_lt.2 (by omega)
        rw [if_pos this]; decide
      · intro h
        by_cases h1 : a[i]'(by omega) < b[i]'(by omega)
        · have := UInt8.lt_iff_toNat_lt.1 h1; omega
        · rw [if_neg h1] at h
          by_cases h2 : b[i]'(by omega) < a[i]'(by omega)
          · rw [if_pos h2] at h; omega
          · exact absurd (UInt8.le_antisymm (UInt8.not_lt.1 h2) (UInt8.not_lt.1 h1)) hne2
    · have heq2 : a[i]'(by omega) = b[i]'(by omega) := by
        apply UInt8.toNat_inj.1
        have : ((a[i]'(by omega)).toNat : Int) = ((b[i]'(by omega)).toNat : Int) := by simpa using heq
        omega
      refine jnC_mk (hC _ _ ⟨hf.trans1 (Fr.drew _ _), hr1, hr3, i + 1, by omega, ?_, ?_⟩ ?_)
      · show (_, _, IntKind.wrap .i64 ((i : Int) + 1), ()) = _
        rw [i64_id (by omega) (by omega)]; rfl
      · rw [List.take_add_one, List.take_add_one, hp, List.getElem?_eq_getElem (by omega), List.getElem?_eq_getElem (by omega), heq2]
      · show (32 - IntKind.wrap .i64 ((i : Int) + 1)).toNat < (32 - (i : Int)).toNat
        rw [i64_id (by omega) (by omega)]; omega
  · have hge2 : ¬ (i : Int) < 32 := of_decide_eq_false hge
    have hab : a = b := by
      rw [← List.take_of_length_le (l := a) (i := i) (by omega), ← List.take_of_length_le (l := b) (i := i) (by omega)]; exact hp
    refine ⟨?_, hf⟩
    subst hab
    rw [cmp_self]; rfl
end Go.Proofs.YthcclmlbkfadcaaGreat.Dg
/- rows of digests: how they lie; a row that rises -/
namespace Go.Proofs.YthcclmlbkfadcaaGreat.Dg
open Go.GV Go.RowKit Go.Lib
set_option linter.unusedVariables false
set_option linter.unusedSimpArgs false
abbrev Dig := List UInt8
def dcs (r : List Dig) : List Value := (r.map (fun d => d.map bv)).flatten
def W32 (r : List Dig) : Prop := ∀ d ∈ r, d.length = 32
theorem W32.at {r : List Dig} (h : W32 r) {i : Nat} {d : Dig} (hi : r[i]? = some d) : d.length = 32 := h d (List.mem_of_getElem? hi)
theorem dcs_flat {r : List Dig} (h : W32 r) : (dcs r).length = r.length * 32 ∧ ∀ (i : Nat) (d : Dig) (j : Nat), r[i]? = some d → j < 32 → (dcs r)[i * 32 + j]? = (d.map bv)[j]? := by
  obtain ⟨h1, h2⟩ := flatten_get (vss := r.map (fun d => d.map bv)) (k := 32) (fun i v hv => by
    rw [List.getElem?_map] at hv
    cases hr : r[i]? with
    | none => rw [hr] at hv; cases hv
    | some d => rw [hr] at hv; injection hv with hv; subst hv; rw [List.length_map]; exact h.at hr)
  refine ⟨by unfold dcs; rw [h1, List.length_map], fun i d j hi hj => ?_⟩
  exact h2 i _ j (by rw [List.getElem?_map, hi]; rfl) hj
theorem dcs_len {r : List Dig} (h : W32 r) : (dcs r).length = r.length * 32 := (dcs_flat h).1
theorem dcs_at {r : List Dig} (h : W32 r) {i : Nat} {d : Dig} (hi : r[i]? = some d) (j : Nat) (v : Value) (hv : (d.map bv)[j]? = some v) : (dcs r)[i * 32 + j]? = some v := by
  have hj := (List.getElem?_eq_some_iff.1 hv).1
  rw [List.length_map, h.at hi] at hj
  rw [(dcs_flat h).2 i d j hi hj]; exact hv
theorem dcs_append (a b : List Dig) : dcs (a ++ b) = dcs a ++ dcs b := by simp [dcs]
theorem dcs_one (d : Dig) : dcs [d] = d.map bv := by simp [dcs]
theorem dcs_oneCell (r : List Dig) : ∀ v ∈ dcs r, v.oneCell' = true := by
  intro v hv
  simp only [dcs, List.mem_flatten, List.mem_map] at hv
  obtain ⟨l, ⟨d, _, rfl⟩, hv⟩ := hv
  exact bvs_one d v hv
theorem dcs_take {r : List Dig} (h : W32 r) (k : Nat) : dcs (r.take k) = (dcs r).take (k * 32) := by
  by_cases hk : k ≤ r.length
  · have e : dcs r = dcs (r.take k) ++ dcs (r.drop k) := by rw [← dcs_append, List.take_append_drop]
    have hl : (dcs (r.take k)).length = k * 32 := by rw [dcs_len (fun d hd => h d (List.mem_of_mem_take hd)), List.length_take]; congr 1; omega
    rw [e, List.take_append_of_le_length (by omega), List.take_of_length_le (l := dcs (r.take k)) (by omega)]
  · rw [List.take_of_length_le (by omega), List.take_of_length_le (by rw [dcs_len h]; omega)]
/-- an element of a slice of digests -/
theorem sl_dig {w : World} {A : Option Addr} {n : Nat} {r : List Dig} (hs : Sl w 32 A n (dcs r)) (hw : W32 r) {i : Nat} (hi : i < n) : ∃ b o, A = some ⟨b, o, none⟩ ∧ ∀ j d, r[j]? = some d → cellsAt w b (o + j * 32) (d.map bv) := by
  obtain ⟨b, o, hA, hc⟩ := hs.2 (by omega)
  refine ⟨b, o, hA, fun j d hj q v hq => ?_⟩
  rw [Nat.add_assoc]
  exact hc _ v (dcs_at hw hj q v hq)
theorem sl_len {w : World} {A : Option Addr} {n : Nat} {r : List Dig} (hs : Sl w 32 A n (dcs r)) (hw : W32 r) : r.length = n := by
  have := hs.1
  rw [dcs_len hw] at this
  omega
/-! ### rows that rise -/
def LeD (a b : Dig) : Prop := compareBytes a b ≤ 0
def LtD (a b : Dig) : Prop := compareBytes a b < 0
theorem LtD.trans {a b c : Dig} (h1 : LtD a b) (h2 : LtD b c) : LtD a c := by
  have h := cmp_trans a b c (by unfold LtD at h1; omega) (by unfold LtD at h2; omega)
  unfold LtD at *
  rcases cmp_range a c with h' | h' | h'
  · omega
  · have := (cmp_zero a c).1 h'
    subst this
    have := cmp_anti a b
    omega
  · omega
theorem LtD.irrefl {a : Dig} : ¬ LtD a a := by unfold LtD; rw [cmp_self]; omega
theorem LeD.lt {a b : Dig} (h : LeD a b) (hn : a ≠ b) : LtD a b := by
  unfold LeD LtD at *
  have : compareBytes a b ≠ 0 := fun h' => hn ((cmp_zero a b).1 h')
  omega
theorem LeD.trans {a b c : Dig} (h1 : LeD a b) (h2 : LeD b c) : LeD a c := cmp_trans a b c h1 h2
theorem LeD.refl (a : Dig) : LeD a a := by unfold LeD; rw [cmp_self]; omega
theorem leD_lt {a b c : Dig} (h1 : LeD a b) (h2 : LtD b c) : LtD a c := by
  by_cases h : a = b
  · subst h; exact h2
  · exact (h1.lt h).trans h2
def Asc (r : List Dig) : Prop := r.Pairwise LtD
/-- a row that rises is told by its members -/
theorem Asc.unique : ∀ {r s : List Dig}, Asc r → Asc s → (∀ d, d ∈ r ↔ d ∈ s) → r = s
  | [], [], _, _, _ => rfl
  | [], b :: s, _, _, h => by have := (h b).2 (List.mem_cons_self ..); cases this
  | a :: r, [], _, _, h => by have := (h a).1 (List.mem_cons_self ..); cases this
  | a :: r, b :: s, hr, hs, h => by
    obtain ⟨hr1, hr2⟩ := List.pairwise_cons.1 hr
    obtain ⟨hs1, hs2⟩ := List.pairwise_cons.1 hs
    have hab : a = b := by
      rcases List.mem_cons.1 ((h a).1 (List.mem_cons_self ..)) with e | h1
      · exact e
      · rcases List.mem_cons.1 ((h b).2 (List.mem_cons_self ..)) with e | h2
        · exact e.symm
        · exact absurd ((hs1 a h1).trans (hr1 b h2)) LtD.irrefl
    subst hab
    congr 1
    refine Asc.unique hr2 hs2 (fun d => ⟨fun hd => ?_, fun hd => ?_⟩)
    · rcases List.mem_cons.1 ((h d).1 (List.mem_cons_of_mem _ hd)) with e | h1
      · subst e; exact absurd (hr1 d hd) LtD.irrefl
      · exact h1
    · rcases List.mem_cons.1 ((h d).2 (List.mem_cons_of_mem _ hd)) with e | h1
      · subst e; exact absurd (hs1 d hd) LtD.irrefl
      · exact h1
/-- without neighbours that are one -/
def cpt (r : List Dig) : Nat → List Dig
  | 0 => []
  | n + 1 => cpt r n ++ (if n ≠ 0 ∧ r[n]? = r[n - 1]? then [] else r[n]?.toList)
theorem cpt_len (r : List Dig) : ∀ n, (cpt r n).length ≤ n
  | 0 => Nat.le_refl _
  | n + 1 => by
    have := cpt_len r n
    simp only [cpt, List.length_append]
    split
    · simp; omega
    · cases r[n]? <;> simp <;> omega
theorem cpt_mem (r : List Dig) : ∀ n d, d ∈ cpt r n ↔ d ∈ r.take n
  | 0, d => by simp [cpt]
  | n + 1, d => by
    have ih := cpt_mem r n d
    rw [cpt, List.take_add_one, List.mem_append, List.mem_append, ih]
    by_cases h : n ≠ 0 ∧ r[n]? = r[n - 1]?
    · rw [if_pos h]
      constructor
      · intro h'; exact h'.elim .inl (fun h => by cases h)
      · rintro (h' | h')
        · exact .inl h'
        · left
          rw [h.2] at h'
          cases hr : r[n - 1]? with
          | none => rw [hr] at h'; cases h'
          | some x =>
            rw [hr] at h'
            simp at h'
            subst h'
            exact List.mem_of_getElem? (i := n - 1) (by rw [List.getElem?_take, if_pos (by omega)]; exact hr)
    · rw [if_neg h]
theorem cpt_asc {r : List Dig} (h : r.Pairwise LeD) : ∀ n, n ≤ r.length → Asc (cpt r n)
  | 0, _ => List.Pairwise.nil
  | n + 1, hn => by
    have ih := cpt_asc h n (by omega)
    rw [cpt]
    by_cases hc : n ≠ 0 ∧ r[n]? = r[n - 1]?
    · rw [if_pos hc, List.append_nil]; exact ih
    · rw [if_neg hc, List.getElem?_eq_getElem (by omega)]
      refine List.pairwise_append.2 ⟨ih, by simp, fun a ha b hb => ?_⟩
      simp at hb
      subst hb
      have ha' := (cpt_mem r n a).1 ha
      obtain ⟨i, hi, hai⟩ := List.mem_iff_getElem.1 ha'
      rw [List.length_take] at hi
      rw [List.getElem_take] at hai
      have hn0 : n ≠ 0 := by omega
      have hprev : r[n - 1]'(by omega) ≠ r[n]'(by omega) := by
        intro he
        apply hc
        refine ⟨hn0, ?_⟩
        rw [List.getElem?_eq_getElem (by omega), List.getElem?_eq_getElem (by omega), he]
      have hp := List.pairwise_iff_getElem.1 h
      have h2 : LtD (r[n - 1]'(by omega)) (r[n]'(by omega)) := (hp (n - 1) n (by omega) (by omega) (by omega)).lt hprev
      subst hai
      by_cases hin : i = n - 1
      · subst hin; exact h2
      · exact leD_lt (hp i (n - 1) (by omega) (by omega) (by omega)) h2
theorem cpt_W32 {r : List Dig} (h : W32 r) (n : Nat) : W32 (cpt r n) := fun d hd => h d (List.mem_of_mem_take ((cpt_mem r n d).1 hd))
end Go.Proofs.YthcclmlbkfadcaaGreat.Dg
/- Laid by the shelf's tools (plain mode): slices.SortFunc at this program's digests lies as the shelf's does. -/
namespace Go.Proofs
open Go.Shelf
def Tryz.sortD_ren : Go.Shelf.Ren := ⟨fun | 6 => 141 | 15 => 153 | 14 => 154 | 28 => 167 | 29 => 168 | 20 => 169 | 21 => 170 | 22 => 171 | 23 => 172 | 24 => 173 | 25 => 174 | 26 => 175 | 27 => 176 | 46 => 183 | 47 => 179 | 48 => 180 | 49 => 184 | 50 => 185 | 57 => 187 | n => n, fun | 22 => 63 | 24 => 33 | 25 => 178 | 3 => 3 | 39 => 161 | 0 => 0 | 53 => 196 | 55 => 25 | 4 => 4 | 46 => 190 | 45 => 189 | 50 => 100 | 5 => 5 | 9 => 9 | 66 => 203 | 70 => 207 | 76 => 211 | 77 => 59 | n => n, fun | n => n⟩
theorem Tryz.sortD : Go.Proofs.SlLaysF0.n6 Tryz.prog Tryz.sortD_ren := {
  mixed := by kernel_rfl
  f6 := ⟨Tryz.f141.name, by decide, Tryz.func141.trans (congrArg some (by kernel_rfl))⟩
  f14 := ⟨Tryz.f154.name, by decide, Tryz.func154.trans (congrArg some (by kernel_rfl))⟩
  f15 := Tryz.func153.trans (congrArg some (by kernel_rfl))
  f20 := ⟨Tryz.f169.name, by decide, Tryz.func169.trans (congrArg some (by kernel_rfl))⟩
  f21 := ⟨Tryz.f170.name, by decide, Tryz.func170.trans (congrArg some (by kernel_rfl))⟩
  f22 := ⟨Tryz.f171.name, by decide, Tryz.func171.trans (congrArg some (by kernel_rfl))⟩
  f23 := ⟨Tryz.f172.name, by decide, Tryz.func172.trans (congrArg some (by kernel_rfl))⟩
  f24 := ⟨Tryz.f173.name, by decide, Tryz.func173.trans (congrArg some (by kernel_rfl))⟩
  f25 := ⟨Tryz.f174.name, by decide, Tryz.func174.trans (congrArg some (by kernel_rfl))⟩
  f26 := ⟨Tryz.f175.name, by decide, Tryz.func175.trans (congrArg some (by kernel_rfl))⟩
  f27 := ⟨Tryz.f176.name, by decide, Tryz.func176.trans (congrArg some (by kernel_rfl))⟩
  f28 := Tryz.func167.trans (congrArg some (by kernel_rfl))
  f29 := Tryz.func168.trans (congrArg some (by kernel_rfl))
  f46 := ⟨Tryz.f183.name, by decide, Tryz.func183.trans (congrArg some (by kernel_rfl))⟩
  f47 := Tryz.func179.trans (congrArg some (by kernel_rfl))
  f48 := Tryz.func180.trans (congrArg some (by kernel_rfl))
  f49 := ⟨Tryz.f184.name, by decide, Tryz.func184.trans (congrArg some (by kernel_rfl))⟩
  f50 := ⟨Tryz.f185.name, by decide, Tryz.func185.trans (congrArg some (by kernel_rfl))⟩
  f57 := ⟨Tryz.f187.name, by decide, Tryz.func187.trans (congrArg some (by kernel_rfl))⟩
  t0 := Tryz.underlying0
  a0 := Tryz.isAgg0
  z0 := Tryz.sizeOf0
  v0 := Tryz.zeroValue0
  t3 := Tryz.underlying3
  a3 := Tryz.isAgg3
  z3 := Tryz.sizeOf3
  v3 := Tryz.zeroValue3
  t4 := Tryz.underlying4
  a4 := Tryz.isAgg4
  z4 := Tryz.sizeOf4
  v4 := Tryz.zeroValue4
  t5 := Tryz.underlying5
  a5 := Tryz.isAgg5
  z5 := Tryz.sizeOf5
  v5 := Tryz.zeroValue5
  t9 := Tryz.underlying9
  a9 := Tryz.isAgg9
  z9 := Tryz.sizeOf9
  v9 := Tryz.zeroValue9
  t22 := Tryz.underlying63
  a22 := Tryz.isAgg63
  z22 := Tryz.sizeOf63
  v22 := Tryz.zeroValue63
  t25 := Tryz.underlying178
  a25 := Tryz.isAgg178
  z25 := Tryz.sizeOf178
  v25 := Tryz.zeroValue178
  t39 := Tryz.underlying161
  a39 := Tryz.isAgg161
  z39 := Tryz.sizeOf161
  v39 := Tryz.zeroValue161
  t45 := Tryz.underlying189
  a45 := Tryz.isAgg189
  z45 := Tryz.sizeOf189
  v45 := Tryz.zeroValue189
  t46 := Tryz.underlying190
  a46 := Tryz.isAgg190
  z46 := Tryz.sizeOf190
  v46 := Tryz.zeroValue190
  t50 := Tryz.underlying100
  a50 := Tryz.isAgg100
  z50 := Tryz.sizeOf100
  v50 := Tryz.zeroValue100
  t53 := Tryz.underlying196
  a53 := Tryz.isAgg196
  z53 := Tryz.sizeOf196
  v53 := Tryz.zeroValue196
  t55 := Tryz.underlying25
  a55 := Tryz.isAgg25
  z55 := Tryz.sizeOf25
  v55 := Tryz.zeroValue25
  t66 := Tryz.underlying203
  a66 := Tryz.isAgg203
  z66 := Tryz.sizeOf203
  v66 := Tryz.zeroValue203
  t70 := Tryz.underlying207
  a70 := Tryz.isAgg207
  z70 := Tryz.sizeOf207
  v70 := Tryz.zeroValue207
  t76 := Tryz.underlying211
  a76 := Tryz.isAgg211
  z76 := Tryz.sizeOf211
  v76 := Tryz.zeroValue211
  t77 := Tryz.underlying59
  a77 := Tryz.isAgg59
  z77 := Tryz.sizeOf59
  v77 := Tryz.zeroValue59 }
end Go.Proofs
