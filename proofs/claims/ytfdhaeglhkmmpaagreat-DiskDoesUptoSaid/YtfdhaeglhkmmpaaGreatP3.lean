import Derived.Lib.Bytealg
import Derived.Test.YtfdhaeglhkmmpaaGreatP2
/- PRINTED BY MY OWN gen.py out of the translation: each function as a proposition. -/
namespace Go.Proofs.YtfdhaeglhkmmpaaGreat
open Go.GV
set_option linter.unusedVariables false
set_option maxRecDepth 100000
/-! ### function 99: slices.Concat[[]stillage/api.Write,stillage/api.Write] -/
def F99.b11c (Q : Value → World → Prop) (C11 : ((Option Addr × Nat × Nat) × (Option Addr × Nat × Nat) × Int × Int × Unit) → World → Prop) (x6 : (Option Addr × Nat × Nat)) (x25 : (Option Addr × Nat × Nat)) (x26 : Int) (x27 : Int) (w : World) : Prop :=
  vIf (decide (x27 < x26))
  (dr x25.1 fun b11 o12 =>
    gd (decide (0 ≤ x27)) <|
    gd (decide (x27 < ((x25.2.1 : Nat) : Int))) <|
    ldSl w b11 (o12 + (x27).toNat * 1) fun A13 n14 c15 =>
    app w 3 40 [Value.bool false, Value.int .i64 0, Value.slice none 0 0] 124 x6.1 x6.2.1 x6.2.2 (Value.slice A13 n14 c15) fun A16 n17 c18 w19 =>
    jnC C11 ((A16, n17, c18), (x25.1, x25.2.1, x25.2.2), (x26), ((IntKind.wrap .i64 (x27 + 1))), ()) w19)
  (Q (Value.slice x6.1 x6.2.1 x6.2.2) w)
def F99.b11 (Q : Value → World → Prop) : ((Option Addr × Nat × Nat) × (Option Addr × Nat × Nat) × Int × Int × Unit) → World → (((Option Addr × Nat × Nat) × (Option Addr × Nat × Nat) × Int × Int × Unit) → World → Prop) → Prop := fun s w C11 => ∀ _ : Nat → Value, F99.b11c Q C11 s.1 s.2.1 s.2.2.1 s.2.2.2.1 w
def F99.l11 (Q : Value → World → Prop) : ((Option Addr × Nat × Nat) × (Option Addr × Nat × Nat) × Int × Int × Unit) → World → Prop := fun s w => ∃ n, loopC (F99.b11 Q) n s w
def F99.b3c (Q : Value → World → Prop) (C3 : ((Option Addr × Nat × Nat) × Int × (Option Addr × Nat × Nat) × Int × Int × Unit) → World → Prop) (x0 : (Option Addr × Nat × Nat)) (x3 : Int) (x9 : (Option Addr × Nat × Nat)) (x10 : Int) (x11 : Int) (w : World) : Prop :=
  vIf (decide (x11 < x10))
  (dr x9.1 fun b1 o2 =>
    gd (decide (0 ≤ x11)) <|
    gd (decide (x11 < ((x9.2.1 : Nat) : Int))) <|
    ldSl w b1 (o2 + (x11).toNat * 1) fun A3 n4 c5 =>
    vIf (decide ((IntKind.wrap .i64 (x3 + ((n4 : Nat) : Int))) < 0))
    (False)
    (jnC C3 ((x0.1, x0.2.1, x0.2.2), ((IntKind.wrap .i64 (x3 + ((n4 : Nat) : Int)))), (x9.1, x9.2.1, x9.2.2), (x10), ((IntKind.wrap .i64 (x11 + 1))), ()) w))
  (Calls Tryz.prog 131 #[Value.slice none 0 0, Value.int .i64 x3] w fun e7 w6 =>
    ∃ (A8 : Option Addr) (n9 c10 : Nat), e7 = .returned (Value.slice A8 n9 c10) ∧ (
      jnC (F99.l11 Q) ((A8, n9, c10), (x0.1, x0.2.1, x0.2.2), (((x0.2.1 : Nat) : Int)), (0), ()) w6))
def F99.b3 (Q : Value → World → Prop) : ((Option Addr × Nat × Nat) × Int × (Option Addr × Nat × Nat) × Int × Int × Unit) → World → (((Option Addr × Nat × Nat) × Int × (Option Addr × Nat × Nat) × Int × Int × Unit) → World → Prop) → Prop := fun s w C3 => ∀ _ : Nat → Value, F99.b3c Q C3 s.1 s.2.1 s.2.2.1 s.2.2.2.1 s.2.2.2.2.1 w
def F99.l3 (Q : Value → World → Prop) : ((Option Addr × Nat × Nat) × Int × (Option Addr × Nat × Nat) × Int × Int × Unit) → World → Prop := fun s w => ∃ n, loopC (F99.b3 Q) n s w
def F99.vc (x0A : Option Addr) (x0n x0c : Nat) (w : World) (Q : Value → World → Prop) : Prop :=
  jnC (F99.l3 Q) ((x0A, x0n, x0c), (0), (x0A, x0n, x0c), (((x0n : Nat) : Int)), (0), ()) w
def F99.an : Ann := ⟨[(3, [(0, .kSl), (3, .kI .i64), (9, .kSl), (10, .kI .i64), (11, .kI .i64)]), (11, [(6, .kSl), (25, .kSl), (26, .kI .i64), (27, .kI .i64)])], []⟩
theorem F99.of (x0A : Option Addr) (x0n x0c : Nat) (w : World) {Q : Value → World → Prop} (h : F99.vc x0A x0n x0c w Q) : Calls Tryz.prog 99 #[Value.slice x0A x0n x0c] w (fun e w' => ∃ v, e = .returned v ∧ Q v w') := vcFn_of (A := F99.an) noCount mixed h (by kernel_rfl)
/-! ### function 100: stillage/writes.All$1 -/
def F100.vc (x0 : Int) (x1 : List Value) (w : World) (Q : Value → World → Prop) : Prop :=
  nw w x1 124 fun b1 w2 =>
  nw w2 [Value.bool false, Value.int .i64 0, Value.slice none 0 0] 124 fun b3 w4 =>
  ldA 3 w4 b1 0 fun a5 =>
  gd (a5.length == 3) <|
  st w4 b3 0 a5 fun w6 =>
  ldA 3 w6 b3 0 fun a7 =>
  Q (Value.tuple #[ofL a7, Value.bool true]) w6
def F100.an : Ann := ⟨[], []⟩
theorem F100.of (x0 : Int) (x1 : List Value) (w : World) {Q : Value → World → Prop} (h : F100.vc x0 x1 w Q) : Calls Tryz.prog 100 #[Value.int .i64 x0, ofL x1] w (fun e w' => ∃ v, e = .returned v ∧ Q v w') := vcFn_of (A := F100.an) noCount mixed h (by kernel_rfl)
/-! ### function 101: strings.Compare -/
def F101.vc (x0 : ByteArray) (x1 : ByteArray) (w : World) (Q : Value → World → Prop) : Prop :=
  Calls Tryz.prog 132 #[Value.string x0, Value.string x1] w fun e2 w1 =>
  ∃ i3 : Int, e2 = .returned (Value.int .i64 i3) ∧ (
    Q (Value.int .i64 i3) w1)
def F101.an : Ann := ⟨[], []⟩
theorem F101.of (x0 : ByteArray) (x1 : ByteArray) (w : World) {Q : Value → World → Prop} (h : F101.vc x0 x1 w Q) : Calls Tryz.prog 101 #[Value.string x0, Value.string x1] w (fun e w' => ∃ v, e = .returned v ∧ Q v w') := vcFn_of (A := F101.an) noCount mixed h (by kernel_rfl)
/-! ### function 102: stillage/stillageref11.put -/
def F102.k9c (Q : Value → World → Prop) (C4 : ((Option Addr × Nat × Nat) × (Nat × Nat) × (Option Addr × Nat × Nat) × Bool × Int × Unit) → World → Prop) (x0 : (Option Addr × Nat × Nat)) (x3 : (Nat × Nat)) (x5 : (Option Addr × Nat × Nat)) (x6 : Bool) (x7 : Int) (w : World) : Prop :=
  dr x0.1 fun b14 o15 =>
  gd (decide (0 ≤ x7)) <|
  gd (decide (x7 < ((x0.2.1 : Nat) : Int))) <|
  ldS w.drew b14 (o15 + (x7).toNat * 2) fun s16 =>
  ldS w.drew x3.1 x3.2 fun s17 =>
  vIf (!(s16.toList == s17.toList))
  (dr x0.1 fun b18 o19 =>
    gd (decide (0 ≤ x7)) <|
    gd (decide (x7 < ((x0.2.1 : Nat) : Int))) <|
    ldA 2 w.drew b18 (o19 + (x7).toNat * 2) fun a20 =>
    gd (a20.length == 2) <|
    nw w.drew (a20 ++ []) 94 fun b21 w22 =>
    app w22 2 24 [Value.string (⟨#[]⟩ : ByteArray), Value.int .i64 0] 94 x5.1 x5.2.1 x5.2.2 (Value.slice (some ⟨b21, 0, none⟩) 1 1) fun A23 n24 c25 w26 =>
    jnC C4 ((x0.1, x0.2.1, x0.2.2), (x3.1, x3.2), (A23, n24, c25), x6, ((IntKind.wrap .i64 (x7 + 1))), ()) w26)
  (jnC C4 ((x0.1, x0.2.1, x0.2.2), (x3.1, x3.2), (x5.1, x5.2.1, x5.2.2), x6, ((IntKind.wrap .i64 (x7 + 1))), ()) w.drew)
def F102.k9 (Q : Value → World → Prop) (C4 : ((Option Addr × Nat × Nat) × (Nat × Nat) × (Option Addr × Nat × Nat) × Bool × Int × Unit) → World → Prop) : ((Option Addr × Nat × Nat) × (Nat × Nat) × (Option Addr × Nat × Nat) × Bool × Int × Unit) → World → Prop := fun s w => ∀ _ : Nat → Value, F102.k9c Q C4 s.1 s.2.1 s.2.2.1 s.2.2.2.1 s.2.2.2.2.1 w
def F102.k7c (Q : Value → World → Prop) (C4 : ((Option Addr × Nat × Nat) × (Nat × Nat) × (Option Addr × Nat × Nat) × Bool × Int × Unit) → World → Prop) (x0 : (Option Addr × Nat × Nat)) (x3 : (Nat × Nat)) (x5 : (Option Addr × Nat × Nat)) (x6 : Bool) (x7 : Int) (x25 : Bool) (w : World) : Prop :=
  vIf x25
  (ldA 2 w x3.1 x3.2 fun a7 =>
    gd (a7.length == 2) <|
    nw w (a7 ++ []) 94 fun b8 w9 =>
    app w9 2 24 [Value.string (⟨#[]⟩ : ByteArray), Value.int .i64 0] 94 x5.1 x5.2.1 x5.2.2 (Value.slice (some ⟨b8, 0, none⟩) 1 1) fun A10 n11 c12 w13 =>
    jnC (F102.k9 Q C4) ((x0.1, x0.2.1, x0.2.2), (x3.1, x3.2), (A10, n11, c12), true, (x7), ()) w13)
  (jnC (F102.k9 Q C4) ((x0.1, x0.2.1, x0.2.2), (x3.1, x3.2), (x5.1, x5.2.1, x5.2.2), x6, (x7), ()) w)
def F102.k7 (Q : Value → World → Prop) (C4 : ((Option Addr × Nat × Nat) × (Nat × Nat) × (Option Addr × Nat × Nat) × Bool × Int × Unit) → World → Prop) : ((Option Addr × Nat × Nat) × (Nat × Nat) × (Option Addr × Nat × Nat) × Bool × Int × Bool × Unit) → World → Prop := fun s w => ∀ _ : Nat → Value, F102.k7c Q C4 s.1 s.2.1 s.2.2.1 s.2.2.2.1 s.2.2.2.2.1 s.2.2.2.2.2.1 w
def F102.b4c (Q : Value → World → Prop) (C4 : ((Option Addr × Nat × Nat) × (Nat × Nat) × (Option Addr × Nat × Nat) × Bool × Int × Unit) → World → Prop) (x0 : (Option Addr × Nat × Nat)) (x3 : (Nat × Nat)) (x5 : (Option Addr × Nat × Nat)) (x6 : Bool) (x7 : Int) (w : World) : Prop :=
  vIf (decide (x7 < ((x0.2.1 : Nat) : Int)))
  (vIf (!x6)
    (dr x0.1 fun b3 o4 =>
      gd (decide (0 ≤ x7)) <|
      gd (decide (x7 < ((x0.2.1 : Nat) : Int))) <|
      ldS w.drew b3 (o4 + (x7).toNat * 2) fun s5 =>
      ldS w.drew x3.1 x3.2 fun s6 =>
      jnC (F102.k7 Q C4) ((x0.1, x0.2.1, x0.2.2), (x3.1, x3.2), (x5.1, x5.2.1, x5.2.2), x6, (x7), (!((Op.bytesLess s5.toList s6.toList) || (s5.toList == s6.toList))), ()) w.drew)
    (jnC (F102.k7 Q C4) ((x0.1, x0.2.1, x0.2.2), (x3.1, x3.2), (x5.1, x5.2.1, x5.2.2), x6, (x7), false, ()) w.drew))
  (vIf (!x6)
    (ldA 2 w x3.1 x3.2 fun a27 =>
      gd (a27.length == 2) <|
      nw w (a27 ++ []) 94 fun b28 w29 =>
      app w29 2 24 [Value.string (⟨#[]⟩ : ByteArray), Value.int .i64 0] 94 x5.1 x5.2.1 x5.2.2 (Value.slice (some ⟨b28, 0, none⟩) 1 1) fun A30 n31 c32 w33 =>
      Q (Value.slice A30 n31 c32) w33)
    (Q (Value.slice x5.1 x5.2.1 x5.2.2) w))
def F102.b4 (Q : Value → World → Prop) : ((Option Addr × Nat × Nat) × (Nat × Nat) × (Option Addr × Nat × Nat) × Bool × Int × Unit) → World → (((Option Addr × Nat × Nat) × (Nat × Nat) × (Option Addr × Nat × Nat) × Bool × Int × Unit) → World → Prop) → Prop := fun s w C4 => ∀ _ : Nat → Value, F102.b4c Q C4 s.1 s.2.1 s.2.2.1 s.2.2.2.1 s.2.2.2.2.1 w
def F102.l4 (Q : Value → World → Prop) : ((Option Addr × Nat × Nat) × (Nat × Nat) × (Option Addr × Nat × Nat) × Bool × Int × Unit) → World → Prop := fun s w => ∃ n, loopC (F102.b4 Q) n s w
def F102.vc (x0A : Option Addr) (x0n x0c : Nat) (x1 : List Value) (w : World) (Q : Value → World → Prop) : Prop :=
  nw w x1 94 fun b1 w2 =>
  jnC (F102.l4 Q) ((x0A, x0n, x0c), (b1, 0), (none, 0, 0), false, (0), ()) w2
def F102.an : Ann := ⟨[(4, [(0, .kSl), (3, .kL), (5, .kSl), (6, .kB), (7, .kI .i64)])], [(7, [(0, .kSl), (3, .kL), (5, .kSl), (6, .kB), (7, .kI .i64), (25, .kB)]), (9, [(0, .kSl), (3, .kL), (5, .kSl), (6, .kB), (7, .kI .i64)])]⟩
theorem F102.of (x0A : Option Addr) (x0n x0c : Nat) (x1 : List Value) (w : World) {Q : Value → World → Prop} (h : F102.vc x0A x0n x0c x1 w Q) : Calls Tryz.prog 102 #[Value.slice x0A x0n x0c, ofL x1] w (fun e w' => ∃ v, e = .returned v ∧ Q v w') := vcFn_of (A := F102.an) noCount mixed h (by kernel_rfl)
/-! ### function 103: stillage/stillageref11.without -/
def F103.b3c (Q : Value → World → Prop) (C3 : ((Option Addr × Nat × Nat) × ByteArray × (Option Addr × Nat × Nat) × Int × Unit) → World → Prop) (x0 : (Option Addr × Nat × Nat)) (x1 : ByteArray) (x5 : (Option Addr × Nat × Nat)) (x6 : Int) (w : World) : Prop :=
  vIf (decide (x6 < ((x0.2.1 : Nat) : Int)))
  (dr x0.1 fun b1 o2 =>
    gd (decide (0 ≤ x6)) <|
    gd (decide (x6 < ((x0.2.1 : Nat) : Int))) <|
    ldS w b1 (o2 + (x6).toNat * 2) fun s3 =>
    vIf (!(s3.toList == x1.toList))
    (dr x0.1 fun b4 o5 =>
      gd (decide (0 ≤ x6)) <|
      gd (decide (x6 < ((x0.2.1 : Nat) : Int))) <|
      ldA 2 w b4 (o5 + (x6).toNat * 2) fun a6 =>
      gd (a6.length == 2) <|
      nw w (a6 ++ []) 94 fun b7 w8 =>
      app w8 2 24 [Value.string (⟨#[]⟩ : ByteArray), Value.int .i64 0] 94 x5.1 x5.2.1 x5.2.2 (Value.slice (some ⟨b7, 0, none⟩) 1 1) fun A9 n10 c11 w12 =>
      jnC C3 ((x0.1, x0.2.1, x0.2.2), x1, (A9, n10, c11), ((IntKind.wrap .i64 (x6 + 1))), ()) w12)
    (jnC C3 ((x0.1, x0.2.1, x0.2.2), x1, (x5.1, x5.2.1, x5.2.2), ((IntKind.wrap .i64 (x6 + 1))), ()) w))
  (Q (Value.slice x5.1 x5.2.1 x5.2.2) w)
def F103.b3 (Q : Value → World → Prop) : ((Option Addr × Nat × Nat) × ByteArray × (Option Addr × Nat × Nat) × Int × Unit) → World → (((Option Addr × Nat × Nat) × ByteArray × (Option Addr × Nat × Nat) × Int × Unit) → World → Prop) → Prop := fun s w C3 => ∀ _ : Nat → Value, F103.b3c Q C3 s.1 s.2.1 s.2.2.1 s.2.2.2.1 w
def F103.l3 (Q : Value → World → Prop) : ((Option Addr × Nat × Nat) × ByteArray × (Option Addr × Nat × Nat) × Int × Unit) → World → Prop := fun s w => ∃ n, loopC (F103.b3 Q) n s w
def F103.vc (x0A : Option Addr) (x0n x0c : Nat) (x1 : ByteArray) (w : World) (Q : Value → World → Prop) : Prop :=
  jnC (F103.l3 Q) ((x0A, x0n, x0c), x1, (none, 0, 0), (0), ()) w
def F103.an : Ann := ⟨[(3, [(0, .kSl), (1, .kS), (5, .kSl), (6, .kI .i64)])], []⟩
theorem F103.of (x0A : Option Addr) (x0n x0c : Nat) (x1 : ByteArray) (w : World) {Q : Value → World → Prop} (h : F103.vc x0A x0n x0c x1 w Q) : Calls Tryz.prog 103 #[Value.slice x0A x0n x0c, Value.string x1] w (fun e w' => ∃ v, e = .returned v ∧ Q v w') := vcFn_of (A := F103.an) noCount mixed h (by kernel_rfl)
/-! ### function 104: stillage/stillageref11.Do -/
def F104.k12c (Q : Value → World → Prop) (x2 : (Nat × Nat)) (x3 : (Nat × Nat)) (x4 : (Nat × Nat)) (w : World) : Prop :=
  ldSl w x2.1 (x2.2 + 1) fun A41 n42 c43 =>
  app w 4 48 Z82 82 none 0 0 (Value.slice A41 n42 c43) fun A44 n45 c46 w47 =>
  ldSl w47.drew x2.1 x2.2 fun A48 n49 c50 =>
  ldA 4 w47.drew x3.1 x3.2 fun a51 =>
  gd (a51.length == 4) <|
  nw w47.drew (a51 ++ []) 82 fun b52 w53 =>
  kp w47.drew x2.1 x2.2 1 w53 <|
  app w53 4 48 Z82 82 A44 n45 c46 (Value.slice (some ⟨b52, 0, none⟩) 1 1) fun A54 n55 c56 w57 =>
  kp w47.drew x2.1 x2.2 1 w57 <|
  gd (([Value.slice A48 n49 c50] ++ ([Value.slice A54 n55 c56] ++ [])).length == 2) <|
  st w57 x4.1 x4.2 ([Value.slice A48 n49 c50] ++ ([Value.slice A54 n55 c56] ++ [])) fun w58 =>
  ldA 2 w58 x4.1 x4.2 fun a59 =>
  Q (Value.tuple #[ofL a59, Value.int .i64 0]) w58
def F104.k12 (Q : Value → World → Prop) : ((Nat × Nat) × (Nat × Nat) × (Nat × Nat) × Unit) → World → Prop := fun s w => ∀ _ : Nat → Value, F104.k12c Q s.1 s.2.1 s.2.2.1 w
def F104.k11c (Q : Value → World → Prop) (x2 : (Nat × Nat)) (x3 : (Nat × Nat)) (x4 : (Nat × Nat)) (x58 : Bool) (w : World) : Prop :=
  vIf x58
  (ldA 2 w x2.1 x2.2 fun a38 =>
    gd (a38.length == 2) <|
    st w x4.1 x4.2 a38 fun w39 =>
    ldA 2 w39 x4.1 x4.2 fun a40 =>
    Q (Value.tuple #[ofL a40, Value.int .i64 12]) w39)
  (jnC (F104.k12 Q) ((x2.1, x2.2), (x3.1, x3.2), (x4.1, x4.2), ()) w)
def F104.k11 (Q : Value → World → Prop) : ((Nat × Nat) × (Nat × Nat) × (Nat × Nat) × Bool × Unit) → World → Prop := fun s w => ∀ _ : Nat → Value, F104.k11c Q s.1 s.2.1 s.2.2.1 s.2.2.2.1 w
def F104.k10c (Q : Value → World → Prop) (x2 : (Nat × Nat)) (x3 : (Nat × Nat)) (x4 : (Nat × Nat)) (w : World) : Prop :=
  ldI .i64 w x3.1 x3.2 fun i33 =>
  vIf (i33 == 2)
  (ldS w x3.1 (x3.2 + 2) fun s34 =>
    Calls Tryz.prog 56 #[Value.string s34] w fun e36 w35 =>
    ∃ t37 : Bool, e36 = .returned (Value.bool t37) ∧ (
      jnC (F104.k11 Q) ((x2.1, x2.2), (x3.1, x3.2), (x4.1, x4.2), (!t37), ()) w35))
  (jnC (F104.k11 Q) ((x2.1, x2.2), (x3.1, x3.2), (x4.1, x4.2), false, ()) w)
def F104.k10 (Q : Value → World → Prop) : ((Nat × Nat) × (Nat × Nat) × (Nat × Nat) × Unit) → World → Prop := fun s w => ∀ _ : Nat → Value, F104.k10c Q s.1 s.2.1 s.2.2.1 w
def F104.k9c (Q : Value → World → Prop) (x2 : (Nat × Nat)) (x3 : (Nat × Nat)) (x4 : (Nat × Nat)) (x48 : Bool) (w : World) : Prop :=
  vIf x48
  (ldA 2 w x2.1 x2.2 fun a30 =>
    gd (a30.length == 2) <|
    st w x4.1 x4.2 a30 fun w31 =>
    ldA 2 w31 x4.1 x4.2 fun a32 =>
    Q (Value.tuple #[ofL a32, Value.int .i64 6]) w31)
  (jnC (F104.k10 Q) ((x2.1, x2.2), (x3.1, x3.2), (x4.1, x4.2), ()) w)
def F104.k9 (Q : Value → World → Prop) : ((Nat × Nat) × (Nat × Nat) × (Nat × Nat) × Bool × Unit) → World → Prop := fun s w => ∀ _ : Nat → Value, F104.k9c Q s.1 s.2.1 s.2.2.1 s.2.2.2.1 w
def F104.k8c (Q : Value → World → Prop) (x2 : (Nat × Nat)) (x3 : (Nat × Nat)) (x4 : (Nat × Nat)) (x7 : Bool) (w : World) : Prop :=
  ldI .i64 w x3.1 x3.2 fun i29 =>
  vIf (decide (i29 > 1))
  (jnC (F104.k9 Q) ((x2.1, x2.2), (x3.1, x3.2), (x4.1, x4.2), (!x7), ()) w)
  (jnC (F104.k9 Q) ((x2.1, x2.2), (x3.1, x3.2), (x4.1, x4.2), false, ()) w)
def F104.k8 (Q : Value → World → Prop) : ((Nat × Nat) × (Nat × Nat) × (Nat × Nat) × Bool × Unit) → World → Prop := fun s w => ∀ _ : Nat → Value, F104.k8c Q s.1 s.2.1 s.2.2.1 s.2.2.2.1 w
def F104.k7c (Q : Value → World → Prop) (x2 : (Nat × Nat)) (x3 : (Nat × Nat)) (x4 : (Nat × Nat)) (x7 : Bool) (x40 : Bool) (w : World) : Prop :=
  vIf x40
  (ldA 2 w x2.1 x2.2 fun a26 =>
    gd (a26.length == 2) <|
    st w x4.1 x4.2 a26 fun w27 =>
    ldA 2 w27 x4.1 x4.2 fun a28 =>
    Q (Value.tuple #[ofL a28, Value.int .i64 7]) w27)
  (jnC (F104.k8 Q) ((x2.1, x2.2), (x3.1, x3.2), (x4.1, x4.2), x7, ()) w)
def F104.k7 (Q : Value → World → Prop) : ((Nat × Nat) × (Nat × Nat) × (Nat × Nat) × Bool × Bool × Unit) → World → Prop := fun s w => ∀ _ : Nat → Value, F104.k7c Q s.1 s.2.1 s.2.2.1 s.2.2.2.1 s.2.2.2.2.1 w
def F104.k6c (Q : Value → World → Prop) (x2 : (Nat × Nat)) (x3 : (Nat × Nat)) (x4 : (Nat × Nat)) (x7 : Bool) (w : World) : Prop :=
  ldI .i64 w x3.1 x3.2 fun i25 =>
  vIf (i25 == 1)
  (jnC (F104.k7 Q) ((x2.1, x2.2), (x3.1, x3.2), (x4.1, x4.2), x7, x7, ()) w)
  (jnC (F104.k7 Q) ((x2.1, x2.2), (x3.1, x3.2), (x4.1, x4.2), x7, false, ()) w)
def F104.k6 (Q : Value → World → Prop) : ((Nat × Nat) × (Nat × Nat) × (Nat × Nat) × Bool × Unit) → World → Prop := fun s w => ∀ _ : Nat → Value, F104.k6c Q s.1 s.2.1 s.2.2.1 s.2.2.2.1 w
def F104.k5c (Q : Value → World → Prop) (x2 : (Nat × Nat)) (x3 : (Nat × Nat)) (x4 : (Nat × Nat)) (x7 : Bool) (x33 : Bool) (w : World) : Prop :=
  vIf x33
  (ldA 2 w x2.1 x2.2 fun a22 =>
    gd (a22.length == 2) <|
    st w x4.1 x4.2 a22 fun w23 =>
    ldA 2 w23 x4.1 x4.2 fun a24 =>
    Q (Value.tuple #[ofL a24, Value.int .i64 12]) w23)
  (jnC (F104.k6 Q) ((x2.1, x2.2), (x3.1, x3.2), (x4.1, x4.2), x7, ()) w)
def F104.k5 (Q : Value → World → Prop) : ((Nat × Nat) × (Nat × Nat) × (Nat × Nat) × Bool × Bool × Unit) → World → Prop := fun s w => ∀ _ : Nat → Value, F104.k5c Q s.1 s.2.1 s.2.2.1 s.2.2.2.1 s.2.2.2.2.1 w
def F104.k4c (Q : Value → World → Prop) (x2 : (Nat × Nat)) (x3 : (Nat × Nat)) (x4 : (Nat × Nat)) (x7 : Bool) (w : World) : Prop :=
  ldI .i64 w x3.1 x3.2 fun i17 =>
  vIf (i17 == 1)
  (ldS w x3.1 (x3.2 + 1) fun s18 =>
    Calls Tryz.prog 56 #[Value.string s18] w fun e20 w19 =>
    ∃ t21 : Bool, e20 = .returned (Value.bool t21) ∧ (
      jnC (F104.k5 Q) ((x2.1, x2.2), (x3.1, x3.2), (x4.1, x4.2), x7, (!t21), ()) w19))
  (jnC (F104.k5 Q) ((x2.1, x2.2), (x3.1, x3.2), (x4.1, x4.2), x7, false, ()) w)
def F104.k4 (Q : Value → World → Prop) : ((Nat × Nat) × (Nat × Nat) × (Nat × Nat) × Bool × Unit) → World → Prop := fun s w => ∀ _ : Nat → Value, F104.k4c Q s.1 s.2.1 s.2.2.1 s.2.2.2.1 w
def F104.k3c (Q : Value → World → Prop) (x2 : (Nat × Nat)) (x3 : (Nat × Nat)) (x4 : (Nat × Nat)) (x7 : Bool) (x23 : Bool) (w : World) : Prop :=
  vIf x23
  (ldA 2 w x2.1 x2.2 fun a14 =>
    gd (a14.length == 2) <|
    st w x4.1 x4.2 a14 fun w15 =>
    ldA 2 w15 x4.1 x4.2 fun a16 =>
    Q (Value.tuple #[ofL a16, Value.int .i64 2]) w15)
  (jnC (F104.k4 Q) ((x2.1, x2.2), (x3.1, x3.2), (x4.1, x4.2), x7, ()) w)
def F104.k3 (Q : Value → World → Prop) : ((Nat × Nat) × (Nat × Nat) × (Nat × Nat) × Bool × Bool × Unit) → World → Prop := fun s w => ∀ _ : Nat → Value, F104.k3c Q s.1 s.2.1 s.2.2.1 s.2.2.2.1 s.2.2.2.2.1 w
def F104.vc (x0 : List Value) (x1 : List Value) (w : World) (Q : Value → World → Prop) : Prop :=
  nw w x0 64 fun b1 w2 =>
  nw w2 x1 82 fun b3 w4 =>
  nw w4 [Value.slice none 0 0, Value.slice none 0 0] 64 fun b5 w6 =>
  ldA 2 w6 b1 0 fun a7 =>
  ldS w6 b3 (0 + 1) fun s8 =>
  Calls Tryz.prog 55 #[ofL a7, Value.string s8] w6 fun e10 w9 =>
  ∃ i11 : Int, ∃ t12 : Bool, e10 = .returned (Value.tuple #[Value.int .i64 i11, Value.bool t12]) ∧ (
    ldI .i64 w9 b3 0 fun i13 =>
    vIf (decide (i13 < 1))
    (jnC (F104.k3 Q) ((b1, 0), (b3, 0), (b5, 0), t12, true, ()) w9)
    (ldI .i64 w9 b3 0 fun i60 =>
      jnC (F104.k3 Q) ((b1, 0), (b3, 0), (b5, 0), t12, (decide (i60 > 3)), ()) w9))
def F104.an : Ann := ⟨[], [(3, [(2, .kL), (3, .kL), (4, .kL), (7, .kB), (23, .kB)]), (4, [(2, .kL), (3, .kL), (4, .kL), (7, .kB)]), (5, [(2, .kL), (3, .kL), (4, .kL), (7, .kB), (33, .kB)]), (6, [(2, .kL), (3, .kL), (4, .kL), (7, .kB)]), (7, [(2, .kL), (3, .kL), (4, .kL), (7, .kB), (40, .kB)]), (8, [(2, .kL), (3, .kL), (4, .kL), (7, .kB)]), (9, [(2, .kL), (3, .kL), (4, .kL), (48, .kB)]), (10, [(2, .kL), (3, .kL), (4, .kL)]), (11, [(2, .kL), (3, .kL), (4, .kL), (58, .kB)]), (12, [(2, .kL), (3, .kL), (4, .kL)])]⟩
theorem F104.of (x0 : List Value) (x1 : List Value) (w : World) {Q : Value → World → Prop} (h : F104.vc x0 x1 w Q) : Calls Tryz.prog 104 #[ofL x0, ofL x1] w (fun e w' => ∃ v, e = .returned v ∧ Q v w') := vcFn_of (A := F104.an) noCount mixed h (by kernel_rfl)
/-! ### function 105: stillage/stillageref11.Ids -/
def F105.b7c (Q : Value → World → Prop) (C3 : ((Nat × Nat) × (Option Addr × Nat × Nat) × Int × Unit) → World → Prop) (C7 : ((Nat × Nat) × (Option Addr × Nat × Nat) × Int × (Option Addr × Nat × Nat) × Int × Unit) → World → Prop) (x1 : (Nat × Nat)) (x3 : (Option Addr × Nat × Nat)) (x4 : Int) (x5 : (Option Addr × Nat × Nat)) (x6 : Int) (w : World) : Prop :=
  vIf (decide (x6 < ((x5.2.1 : Nat) : Int)))
  (dr x5.1 fun b12 o13 =>
    gd (decide (0 ≤ x6)) <|
    gd (decide (x6 < ((x5.2.1 : Nat) : Int))) <|
    ldI .i64 w b12 ((o13 + (x6).toNat * 2) + 1) fun i14 =>
    Calls Tryz.prog 133 #[Value.slice x3.1 x3.2.1 x3.2.2, Value.int .i64 i14] w fun e16 w15 =>
    ∃ (A17 : Option Addr) (n18 c19 : Nat), e16 = .returned (Value.slice A17 n18 c19) ∧ (
      jnC C7 ((x1.1, x1.2), (A17, n18, c19), (x4), (x5.1, x5.2.1, x5.2.2), ((IntKind.wrap .i64 (x6 + 1))), ()) w15))
  (jnC C3 ((x1.1, x1.2), (x3.1, x3.2.1, x3.2.2), ((IntKind.wrap .i64 (x4 + 1))), ()) w)
def F105.b7 (Q : Value → World → Prop) (C3 : ((Nat × Nat) × (Option Addr × Nat × Nat) × Int × Unit) → World → Prop) : ((Nat × Nat) × (Option Addr × Nat × Nat) × Int × (Option Addr × Nat × Nat) × Int × Unit) → World → (((Nat × Nat) × (Option Addr × Nat × Nat) × Int × (Option Addr × Nat × Nat) × Int × Unit) → World → Prop) → Prop := fun s w C7 => ∀ _ : Nat → Value, F105.b7c Q C3 C7 s.1 s.2.1 s.2.2.1 s.2.2.2.1 s.2.2.2.2.1 w
def F105.l7 (Q : Value → World → Prop) (C3 : ((Nat × Nat) × (Option Addr × Nat × Nat) × Int × Unit) → World → Prop) : ((Nat × Nat) × (Option Addr × Nat × Nat) × Int × (Option Addr × Nat × Nat) × Int × Unit) → World → Prop := fun s w => ∃ n, loopC (F105.b7 Q C3) n s w
def F105.b3c (Q : Value → World → Prop) (C3 : ((Nat × Nat) × (Option Addr × Nat × Nat) × Int × Unit) → World → Prop) (x1 : (Nat × Nat)) (x3 : (Option Addr × Nat × Nat)) (x4 : Int) (w : World) : Prop :=
  ldSl w x1.1 (x1.2 + 1) fun A3 n4 c5 =>
  vIf (decide (x4 ≤ ((n4 : Nat) : Int)))
  (ldA 2 w x1.1 x1.2 fun a6 =>
    Calls Tryz.prog 81 #[ofL a6, Value.int .i64 x4] w fun e8 w7 =>
    ∃ (A9 : Option Addr) (n10 c11 : Nat), e8 = .returned (Value.slice A9 n10 c11) ∧ (
      jnC (F105.l7 Q C3) ((x1.1, x1.2), (x3.1, x3.2.1, x3.2.2), (x4), (A9, n10, c11), (0), ()) w7))
  (Q (Value.slice x3.1 x3.2.1 x3.2.2) w)
def F105.b3 (Q : Value → World → Prop) : ((Nat × Nat) × (Option Addr × Nat × Nat) × Int × Unit) → World → (((Nat × Nat) × (Option Addr × Nat × Nat) × Int × Unit) → World → Prop) → Prop := fun s w C3 => ∀ _ : Nat → Value, F105.b3c Q C3 s.1 s.2.1 s.2.2.1 w
def F105.l3 (Q : Value → World → Prop) : ((Nat × Nat) × (Option Addr × Nat × Nat) × Int × Unit) → World → Prop := fun s w => ∃ n, loopC (F105.b3 Q) n s w
def F105.vc (x0 : List Value) (w : World) (Q : Value → World → Prop) : Prop :=
  nw w x0 64 fun b1 w2 =>
  jnC (F105.l3 Q) ((b1, 0), (none, 0, 0), (0), ()) w2
def F105.an : Ann := ⟨[(3, [(1, .kL), (3, .kSl), (4, .kI .i64)]), (7, [(1, .kL), (3, .kSl), (4, .kI .i64), (5, .kSl), (6, .kI .i64)])], []⟩
theorem F105.of (x0 : List Value) (w : World) {Q : Value → World → Prop} (h : F105.vc x0 w Q) : Calls Tryz.prog 105 #[ofL x0] w (fun e w' => ∃ v, e = .returned v ∧ Q v w') := vcFn_of (A := F105.an) noCount mixed h (by kernel_rfl)
/-! ### function 106: stillage/stillageref10.Append -/
def F106.vc (x0 : List Value) (x1A : Option Addr) (x1n x1c : Nat) (w : World) (Q : Value → World → Prop) : Prop :=
  nw w x0 74 fun b1 w2 =>
  nw w2 [Value.slice none 0 0, Value.slice none 0 0] 74 fun b3 w4 =>
  ldSl w4 b1 0 fun A5 n6 c7 =>
  ldSl w4 b1 (0 + 1) fun A8 n9 c10 =>
  Calls Tryz.prog 88 #[Value.slice A5 n6 c7, Value.slice A8 n9 c10] w4 fun e12 w11 =>
  ∃ (A13 : Option Addr) (n14 c15 : Nat), e12 = .returned (Value.slice A13 n14 c15) ∧ (
    vIf (decide ((IntKind.wrap .i64 (((n14 : Nat) : Int) + ((x1n : Nat) : Int))) > 1048576))
    (ldA 2 w11 b1 0 fun a16 =>
      gd (a16.length == 2) <|
      st w11 b3 0 a16 fun w17 =>
      ldA 2 w17 b3 0 fun a18 =>
      Q (Value.tuple #[ofL a18, Value.int .i64 18]) w17)
    (vIf (((x1n : Nat) : Int) == 0)
      (ldA 2 w11 b1 0 fun a19 =>
        gd (a19.length == 2) <|
        st w11 b3 0 a19 fun w20 =>
        ldA 2 w20 b3 0 fun a21 =>
        Q (Value.tuple #[ofL a21, Value.int .i64 0]) w20)
      (ldA 2 w11 b1 0 fun a22 =>
        Calls Tryz.prog 134 #[ofL a22, ofL ([Value.bool false] ++ ([Value.int .i64 ((n14 : Nat) : Int)] ++ ([Value.slice x1A x1n x1c] ++ [])))] w11 fun e24 w23 =>
        ∃ a25 : List Value, e24 = .returned (ofL a25) ∧ (
          gd (a25.length == 2) <|
          st w23 b3 0 a25 fun w26 =>
          ldA 2 w26 b3 0 fun a27 =>
          Q (Value.tuple #[ofL a27, Value.int .i64 0]) w26))))
def F106.an : Ann := ⟨[], []⟩
theorem F106.of (x0 : List Value) (x1A : Option Addr) (x1n x1c : Nat) (w : World) {Q : Value → World → Prop} (h : F106.vc x0 x1A x1n x1c w Q) : Calls Tryz.prog 106 #[ofL x0, Value.slice x1A x1n x1c] w (fun e w' => ∃ v, e = .returned v ∧ Q v w') := vcFn_of (A := F106.an) noCount mixed h (by kernel_rfl)
/-! ### function 107: stillage/stillageref10.Cut -/
def F107.k3c (Q : Value → World → Prop) (x1 : Int) (x2 : (Nat × Nat)) (x4 : (Nat × Nat)) (w : World) : Prop :=
  ldA 2 w x2.1 x2.2 fun a8 =>
  Calls Tryz.prog 134 #[ofL a8, ofL ([Value.bool true] ++ ([Value.int .i64 x1] ++ ([Value.slice none 0 0] ++ [])))] w fun e10 w9 =>
  ∃ a11 : List Value, e10 = .returned (ofL a11) ∧ (
    gd (a11.length == 2) <|
    st w9 x4.1 x4.2 a11 fun w12 =>
    ldA 2 w12 x4.1 x4.2 fun a13 =>
    Q (Value.tuple #[ofL a13, Value.int .i64 0]) w12)
def F107.k3 (Q : Value → World → Prop) : (Int × (Nat × Nat) × (Nat × Nat) × Unit) → World → Prop := fun s w => ∀ _ : Nat → Value, F107.k3c Q s.1 s.2.1 s.2.2.1 w
def F107.k2c (Q : Value → World → Prop) (x1 : Int) (x2 : (Nat × Nat)) (x4 : (Nat × Nat)) (x17 : Bool) (w : World) : Prop :=
  vIf x17
  (ldA 2 w x2.1 x2.2 fun a5 =>
    gd (a5.length == 2) <|
    st w x4.1 x4.2 a5 fun w6 =>
    ldA 2 w6 x4.1 x4.2 fun a7 =>
    Q (Value.tuple #[ofL a7, Value.int .i64 20]) w6)
  (jnC (F107.k3 Q) ((x1), (x2.1, x2.2), (x4.1, x4.2), ()) w)
def F107.k2 (Q : Value → World → Prop) : (Int × (Nat × Nat) × (Nat × Nat) × Bool × Unit) → World → Prop := fun s w => ∀ _ : Nat → Value, F107.k2c Q s.1 s.2.1 s.2.2.1 s.2.2.2.1 w
def F107.vc (x0 : List Value) (x1 : Int) (w : World) (Q : Value → World → Prop) : Prop :=
  nw w x0 74 fun b1 w2 =>
  nw w2 [Value.slice none 0 0, Value.slice none 0 0] 74 fun b3 w4 =>
  vIf (decide (x1 < 0))
  (jnC (F107.k2 Q) ((x1), (b1, 0), (b3, 0), true, ()) w4)
  (ldSl w4 b1 0 fun A14 n15 c16 =>
    ldSl w4 b1 (0 + 1) fun A17 n18 c19 =>
    Calls Tryz.prog 88 #[Value.slice A14 n15 c16, Value.slice A17 n18 c19] w4 fun e21 w20 =>
    ∃ (A22 : Option Addr) (n23 c24 : Nat), e21 = .returned (Value.slice A22 n23 c24) ∧ (
      jnC (F107.k2 Q) ((x1), (b1, 0), (b3, 0), (decide (x1 > ((n23 : Nat) : Int))), ()) w20))
def F107.an : Ann := ⟨[], [(2, [(1, .kI .i64), (2, .kL), (4, .kL), (17, .kB)]), (3, [(1, .kI .i64), (2, .kL), (4, .kL)])]⟩
theorem F107.of (x0 : List Value) (x1 : Int) (w : World) {Q : Value → World → Prop} (h : F107.vc x0 x1 w Q) : Calls Tryz.prog 107 #[ofL x0, Value.int .i64 x1] w (fun e w' => ∃ v, e = .returned v ∧ Q v w') := vcFn_of (A := F107.an) noCount mixed h (by kernel_rfl)
/-! ### function 108: stillage/stillageref09.Peak -/
def F108.k6c (Q : Value → World → Prop) (C2 : (Int × (Option Addr × Nat × Nat) × Int × Unit) → World → Prop) (x0 : Int) (x1 : (Option Addr × Nat × Nat)) (x5 : Int) (x6 : (Nat × Nat)) (x39 : Bool) (w : World) : Prop :=
  vIf x39
  (ldI .i64 w x6.1 (x6.2 + 1) fun i19 =>
    ldSl w x6.1 (x6.2 + 2) fun A20 n21 c22 =>
    jnC C2 (((IntKind.wrap .i64 (i19 + ((n21 : Nat) : Int)))), (x1.1, x1.2.1, x1.2.2), ((IntKind.wrap .i64 (x5 + 1))), ()) w)
  (jnC C2 ((x0), (x1.1, x1.2.1, x1.2.2), ((IntKind.wrap .i64 (x5 + 1))), ()) w)
def F108.k6 (Q : Value → World → Prop) (C2 : (Int × (Option Addr × Nat × Nat) × Int × Unit) → World → Prop) : (Int × (Option Addr × Nat × Nat) × Int × (Nat × Nat) × Bool × Unit) → World → Prop := fun s w => ∀ _ : Nat → Value, F108.k6c Q C2 s.1 s.2.1 s.2.2.1 s.2.2.2.1 s.2.2.2.2.1 w
def F108.b2c (Q : Value → World → Prop) (C2 : (Int × (Option Addr × Nat × Nat) × Int × Unit) → World → Prop) (x0 : Int) (x1 : (Option Addr × Nat × Nat)) (x5 : Int) (w : World) : Prop :=
  vIf (decide (x5 < ((x1.2.1 : Nat) : Int)))
  (dr x1.1 fun b1 o2 =>
    gd (decide (0 ≤ x5)) <|
    gd (decide (x5 < ((x1.2.1 : Nat) : Int))) <|
    ldA 3 w b1 (o2 + (x5).toNat * 3) fun a3 =>
    nw w [Value.bool false, Value.int .i64 0, Value.slice none 0 0] 124 fun b4 w5 =>
    gd (a3.length == 3) <|
    st w5 b4 0 a3 fun w6 =>
    ldA 3 w6 b4 0 fun a7 =>
    Calls Tryz.prog 135 #[ofL a7] w6 fun e9 w8 =>
    ∃ t10 : Bool, e9 = .returned (Value.bool t10) ∧ (
      vIf t10
      (ldB w8 b4 0 fun t11 =>
        vIf (!t11)
        (ldSl w8 b4 (0 + 2) fun A12 n13 c14 =>
          vIf (decide (((n13 : Nat) : Int) > 0))
          (ldI .i64 w8 b4 (0 + 1) fun i15 =>
            ldSl w8 b4 (0 + 2) fun A16 n17 c18 =>
            jnC (F108.k6 Q C2) ((x0), (x1.1, x1.2.1, x1.2.2), (x5), (b4, 0), (decide ((IntKind.wrap .i64 (i15 + ((n17 : Nat) : Int))) > x0)), ()) w8)
          (jnC (F108.k6 Q C2) ((x0), (x1.1, x1.2.1, x1.2.2), (x5), (b4, 0), false, ()) w8))
        (jnC (F108.k6 Q C2) ((x0), (x1.1, x1.2.1, x1.2.2), (x5), (b4, 0), false, ()) w8))
      (jnC (F108.k6 Q C2) ((x0), (x1.1, x1.2.1, x1.2.2), (x5), (b4, 0), false, ()) w8)))
  (Q (Value.int .i64 x0) w)
def F108.b2 (Q : Value → World → Prop) : (Int × (Option Addr × Nat × Nat) × Int × Unit) → World → ((Int × (Option Addr × Nat × Nat) × Int × Unit) → World → Prop) → Prop := fun s w C2 => ∀ _ : Nat → Value, F108.b2c Q C2 s.1 s.2.1 s.2.2.1 w
def F108.l2 (Q : Value → World → Prop) : (Int × (Option Addr × Nat × Nat) × Int × Unit) → World → Prop := fun s w => ∃ n, loopC (F108.b2 Q) n s w
def F108.vc (x0 : Int) (x1A : Option Addr) (x1n x1c : Nat) (w : World) (Q : Value → World → Prop) : Prop :=
  jnC (F108.l2 Q) ((x0), (x1A, x1n, x1c), (0), ()) w
def F108.an : Ann := ⟨[(2, [(0, .kI .i64), (1, .kSl), (5, .kI .i64)])], [(6, [(0, .kI .i64), (1, .kSl), (5, .kI .i64), (6, .kL), (39, .kB)])]⟩
theorem F108.of (x0 : Int) (x1A : Option Addr) (x1n x1c : Nat) (w : World) {Q : Value → World → Prop} (h : F108.vc x0 x1A x1n x1c w Q) : Calls Tryz.prog 108 #[Value.int .i64 x0, Value.slice x1A x1n x1c] w (fun e w' => ∃ v, e = .returned v ∧ Q v w') := vcFn_of (A := F108.an) noCount mixed h (by kernel_rfl)
/-! ### function 109: stillage/stillageref12.set -/
def F109.b3c (Q : Value → World → Prop) (C3 : (Option Addr × Int × (Nat × Nat) × (Option Addr × Nat × Nat) × Int × Unit) → World → Prop) (x0 : Option Addr) (x1 : Int) (x5 : (Nat × Nat)) (x6 : (Option Addr × Nat × Nat)) (x7 : Int) (w : World) : Prop :=
  vIf (decide (x7 < ((x6.2.1 : Nat) : Int)))
  (dr x6.1 fun b12 o13 =>
    gd (decide (0 ≤ x7)) <|
    gd (decide (x7 < ((x6.2.1 : Nat) : Int))) <|
    ldI .i64 w b12 (o13 + (x7).toNat * 3) fun i14 =>
    vIf (i14 == x1)
    (ldA 2 w x5.1 x5.2 fun a15 =>
      dr x6.1 fun b16 o17 =>
      gd (decide (0 ≤ x7)) <|
      gd (decide (x7 < ((x6.2.1 : Nat) : Int))) <|
      gd (a15.length == 2) <|
      st w b16 ((o17 + (x7).toNat * 3) + 1) a15 fun w18 =>
      jnC C3 (x0, (x1), (x5.1, x5.2), (x6.1, x6.2.1, x6.2.2), ((IntKind.wrap .i64 (x7 + 1))), ()) w18)
    (jnC C3 (x0, (x1), (x5.1, x5.2), (x6.1, x6.2.1, x6.2.2), ((IntKind.wrap .i64 (x7 + 1))), ()) w))
  (dr x0 fun b19 o20 =>
    st w b19 (o20 + 4) [Value.slice x6.1 x6.2.1 x6.2.2] fun w21 =>
    Q (Value.tuple #[]) w21)
def F109.b3 (Q : Value → World → Prop) : (Option Addr × Int × (Nat × Nat) × (Option Addr × Nat × Nat) × Int × Unit) → World → ((Option Addr × Int × (Nat × Nat) × (Option Addr × Nat × Nat) × Int × Unit) → World → Prop) → Prop := fun s w C3 => ∀ _ : Nat → Value, F109.b3c Q C3 s.1 s.2.1 s.2.2.1 s.2.2.2.1 s.2.2.2.2.1 w
def F109.l3 (Q : Value → World → Prop) : (Option Addr × Int × (Nat × Nat) × (Option Addr × Nat × Nat) × Int × Unit) → World → Prop := fun s w => ∃ n, loopC (F109.b3 Q) n s w
def F109.vc (x0 : Option Addr) (x1 : Int) (x2 : List Value) (w : World) (Q : Value → World → Prop) : Prop :=
  nw w x2 74 fun b1 w2 =>
  dr x0 fun b3 o4 =>
  ldSl w2 b3 (o4 + 4) fun A5 n6 c7 =>
  app w2 3 56 [Value.int .i64 0, Value.slice none 0 0, Value.slice none 0 0] 106 none 0 0 (Value.slice A5 n6 c7) fun A8 n9 c10 w11 =>
  jnC (F109.l3 Q) (x0, (x1), (b1, 0), (A8, n9, c10), (0), ()) w11
def F109.an : Ann := ⟨[(3, [(0, .kP), (1, .kI .i64), (5, .kL), (6, .kSl), (7, .kI .i64)])], []⟩
theorem F109.of (x0 : Option Addr) (x1 : Int) (x2 : List Value) (w : World) {Q : Value → World → Prop} (h : F109.vc x0 x1 x2 w Q) : Calls Tryz.prog 109 #[Value.pointer x0, Value.int .i64 x1, ofL x2] w (fun e w' => ∃ v, e = .returned v ∧ Q v w') := vcFn_of (A := F109.an) noCount mixed h (by kernel_rfl)
/-! ### function 110: stillage/stillageref09.Survive -/
def F110.k8c (Q : Value → World → Prop) (C3 : ((Option Addr × Nat × Nat) × (Option Addr × Nat × Nat) × (Option Addr × Nat × Nat) × Int × Unit) → World → Prop) (x1 : (Option Addr × Nat × Nat)) (x2 : (Option Addr × Nat × Nat)) (x7 : (Option Addr × Nat × Nat)) (x8 : Int) (x9 : Int) (w : World) : Prop :=
  dr x2.1 fun b13 o14 =>
  gd (decide (0 ≤ x8)) <|
  gd (decide (x8 < ((x2.2.1 : Nat) : Int))) <|
  ldI .u8 w b13 (o14 + (x8).toNat * 1) fun i15 =>
  vIf (decide (i15 > 0))
  (dr x1.1 fun b16 o17 =>
    gd (decide (0 ≤ x8)) <|
    gd (decide (x8 < ((x1.2.1 : Nat) : Int))) <|
    ldA 3 w b16 (o17 + (x8).toNat * 3) fun a18 =>
    Calls Tryz.prog 111 #[Value.slice x7.1 x7.2.1 x7.2.2, ofL a18, Value.int .i64 x9] w fun e20 w19 =>
    ∃ (A21 : Option Addr) (n22 c23 : Nat), e20 = .returned (Value.slice A21 n22 c23) ∧ (
      jnC C3 ((x1.1, x1.2.1, x1.2.2), (x2.1, x2.2.1, x2.2.2), (A21, n22, c23), ((IntKind.wrap .i64 (x8 + 1))), ()) w19))
  (jnC C3 ((x1.1, x1.2.1, x1.2.2), (x2.1, x2.2.1, x2.2.2), (x7.1, x7.2.1, x7.2.2), ((IntKind.wrap .i64 (x8 + 1))), ()) w)
def F110.k8 (Q : Value → World → Prop) (C3 : ((Option Addr × Nat × Nat) × (Option Addr × Nat × Nat) × (Option Addr × Nat × Nat) × Int × Unit) → World → Prop) : ((Option Addr × Nat × Nat) × (Option Addr × Nat × Nat) × (Option Addr × Nat × Nat) × Int × Int × Unit) → World → Prop := fun s w => ∀ _ : Nat → Value, F110.k8c Q C3 s.1 s.2.1 s.2.2.1 s.2.2.2.1 s.2.2.2.2.1 w
def F110.k5c (Q : Value → World → Prop) (C3 : ((Option Addr × Nat × Nat) × (Option Addr × Nat × Nat) × (Option Addr × Nat × Nat) × Int × Unit) → World → Prop) (x1 : (Option Addr × Nat × Nat)) (x2 : (Option Addr × Nat × Nat)) (x7 : (Option Addr × Nat × Nat)) (x8 : Int) (w : World) : Prop :=
  dr x2.1 fun b5 o6 =>
  gd (decide (0 ≤ x8)) <|
  gd (decide (x8 < ((x2.2.1 : Nat) : Int))) <|
  ldI .u8 w b5 (o6 + (x8).toNat * 1) fun i7 =>
  vIf ((IntKind.wrap .i64 i7) == 255)
  (dr x1.1 fun b8 o9 =>
    gd (decide (0 ≤ x8)) <|
    gd (decide (x8 < ((x1.2.1 : Nat) : Int))) <|
    ldSl w b8 ((o9 + (x8).toNat * 3) + 2) fun A10 n11 c12 =>
    jnC (F110.k8 Q C3) ((x1.1, x1.2.1, x1.2.2), (x2.1, x2.2.1, x2.2.2), (x7.1, x7.2.1, x7.2.2), (x8), (((n11 : Nat) : Int)), ()) w)
  (jnC (F110.k8 Q C3) ((x1.1, x1.2.1, x1.2.2), (x2.1, x2.2.1, x2.2.2), (x7.1, x7.2.1, x7.2.2), (x8), ((IntKind.wrap .i64 i7)), ()) w)
def F110.k5 (Q : Value → World → Prop) (C3 : ((Option Addr × Nat × Nat) × (Option Addr × Nat × Nat) × (Option Addr × Nat × Nat) × Int × Unit) → World → Prop) : ((Option Addr × Nat × Nat) × (Option Addr × Nat × Nat) × (Option Addr × Nat × Nat) × Int × Unit) → World → Prop := fun s w => ∀ _ : Nat → Value, F110.k5c Q C3 s.1 s.2.1 s.2.2.1 s.2.2.2.1 w
def F110.b3c (Q : Value → World → Prop) (C3 : ((Option Addr × Nat × Nat) × (Option Addr × Nat × Nat) × (Option Addr × Nat × Nat) × Int × Unit) → World → Prop) (x1 : (Option Addr × Nat × Nat)) (x2 : (Option Addr × Nat × Nat)) (x7 : (Option Addr × Nat × Nat)) (x8 : Int) (w : World) : Prop :=
  vIf (decide (x8 < ((x1.2.1 : Nat) : Int)))
  (vIf (decide (x8 < ((x2.2.1 : Nat) : Int)))
    (jnC (F110.k5 Q C3) ((x1.1, x1.2.1, x1.2.2), (x2.1, x2.2.1, x2.2.2), (x7.1, x7.2.1, x7.2.2), (x8), ()) w)
    (Q (Value.slice x7.1 x7.2.1 x7.2.2) w))
  (Q (Value.slice x7.1 x7.2.1 x7.2.2) w)
def F110.b3 (Q : Value → World → Prop) : ((Option Addr × Nat × Nat) × (Option Addr × Nat × Nat) × (Option Addr × Nat × Nat) × Int × Unit) → World → (((Option Addr × Nat × Nat) × (Option Addr × Nat × Nat) × (Option Addr × Nat × Nat) × Int × Unit) → World → Prop) → Prop := fun s w C3 => ∀ _ : Nat → Value, F110.b3c Q C3 s.1 s.2.1 s.2.2.1 s.2.2.2.1 w
def F110.l3 (Q : Value → World → Prop) : ((Option Addr × Nat × Nat) × (Option Addr × Nat × Nat) × (Option Addr × Nat × Nat) × Int × Unit) → World → Prop := fun s w => ∃ n, loopC (F110.b3 Q) n s w
def F110.vc (x0A : Option Addr) (x0n x0c : Nat) (x1A : Option Addr) (x1n x1c : Nat) (x2A : Option Addr) (x2n x2c : Nat) (w : World) (Q : Value → World → Prop) : Prop :=
  app w 1 1 [Value.int .u8 0] 5 none 0 0 (Value.slice x0A x0n x0c) fun A1 n2 c3 w4 =>
  jnC (F110.l3 Q) ((x1A, x1n, x1c), (x2A, x2n, x2c), (A1, n2, c3), (0), ()) w4
def F110.an : Ann := ⟨[(3, [(1, .kSl), (2, .kSl), (7, .kSl), (8, .kI .i64)])], [(5, [(1, .kSl), (2, .kSl), (7, .kSl), (8, .kI .i64)]), (8, [(1, .kSl), (2, .kSl), (7, .kSl), (8, .kI .i64), (9, .kI .i64)])]⟩
theorem F110.of (x0A : Option Addr) (x0n x0c : Nat) (x1A : Option Addr) (x1n x1c : Nat) (x2A : Option Addr) (x2n x2c : Nat) (w : World) {Q : Value → World → Prop} (h : F110.vc x0A x0n x0c x1A x1n x1c x2A x2n x2c w Q) : Calls Tryz.prog 110 #[Value.slice x0A x0n x0c, Value.slice x1A x1n x1c, Value.slice x2A x2n x2c] w (fun e w' => ∃ v, e = .returned v ∧ Q v w') := vcFn_of (A := F110.an) noCount mixed h (by kernel_rfl)
/-! ### function 111: stillage/stillageref09.Apply -/
def F111.k8c (Q : Value → World → Prop) (C6 : ((Option Addr × Nat × Nat) × (Nat × Nat) × (Option Addr × Nat × Nat) × Int × Unit) → World → Prop) (x0 : (Option Addr × Nat × Nat)) (x4 : (Nat × Nat)) (x7 : (Option Addr × Nat × Nat)) (x8 : Int) (w : World) : Prop :=
  dr x0.1 fun b13 o14 =>
  gd (decide (0 ≤ x8)) <|
  gd (decide (x8 < ((x0.2.1 : Nat) : Int))) <|
  ldI .u8 w b13 (o14 + (x8).toNat * 1) fun i15 =>
  nw w ([Value.int .u8 i15] ++ []) 5 fun b16 w17 =>
  app w17 1 1 [Value.int .u8 0] 5 x7.1 x7.2.1 x7.2.2 (Value.slice (some ⟨b16, 0, none⟩) 1 1) fun A18 n19 c20 w21 =>
  jnC C6 ((x0.1, x0.2.1, x0.2.2), (x4.1, x4.2), (A18, n19, c20), ((IntKind.wrap .i64 (x8 + 1))), ()) w21
def F111.k8 (Q : Value → World → Prop) (C6 : ((Option Addr × Nat × Nat) × (Nat × Nat) × (Option Addr × Nat × Nat) × Int × Unit) → World → Prop) : ((Option Addr × Nat × Nat) × (Nat × Nat) × (Option Addr × Nat × Nat) × Int × Unit) → World → Prop := fun s w => ∀ _ : Nat → Value, F111.k8c Q C6 s.1 s.2.1 s.2.2.1 s.2.2.2.1 w
def F111.b6c (Q : Value → World → Prop) (C6 : ((Option Addr × Nat × Nat) × (Nat × Nat) × (Option Addr × Nat × Nat) × Int × Unit) → World → Prop) (x0 : (Option Addr × Nat × Nat)) (x4 : (Nat × Nat)) (x7 : (Option Addr × Nat × Nat)) (x8 : Int) (w : World) : Prop :=
  vIf (decide (x8 < ((x0.2.1 : Nat) : Int)))
  (ldI .i64 w x4.1 (x4.2 + 1) fun i12 =>
    vIf (decide (x8 < i12))
    (jnC (F111.k8 Q C6) ((x0.1, x0.2.1, x0.2.2), (x4.1, x4.2), (x7.1, x7.2.1, x7.2.2), (x8), ()) w)
    (Q (Value.slice x7.1 x7.2.1 x7.2.2) w))
  (Q (Value.slice x7.1 x7.2.1 x7.2.2) w)
def F111.b6 (Q : Value → World → Prop) : ((Option Addr × Nat × Nat) × (Nat × Nat) × (Option Addr × Nat × Nat) × Int × Unit) → World → (((Option Addr × Nat × Nat) × (Nat × Nat) × (Option Addr × Nat × Nat) × Int × Unit) → World → Prop) → Prop := fun s w C6 => ∀ _ : Nat → Value, F111.b6c Q C6 s.1 s.2.1 s.2.2.1 s.2.2.2.1 w
def F111.l6 (Q : Value → World → Prop) : ((Option Addr × Nat × Nat) × (Nat × Nat) × (Option Addr × Nat × Nat) × Int × Unit) → World → Prop := fun s w => ∃ n, loopC (F111.b6 Q) n s w
def F111.b14c (Q : Value → World → Prop) (C12 : (Int × (Nat × Nat) × (Option Addr × Nat × Nat) × Int × Unit) → World → Prop) (C14 : (Int × (Nat × Nat) × (Option Addr × Nat × Nat) × Int × Unit) → World → Prop) (x2 : Int) (x4 : (Nat × Nat)) (x7 : (Option Addr × Nat × Nat)) (x9 : Int) (w : World) : Prop :=
  ldI .i64 w x4.1 (x4.2 + 1) fun i29 =>
  vIf (decide (((x7.2.1 : Nat) : Int) ≤ (IntKind.wrap .i64 (i29 + x9))))
  (nw w ([Value.int .u8 0] ++ []) 5 fun b30 w31 =>
    app w31 1 1 [Value.int .u8 0] 5 x7.1 x7.2.1 x7.2.2 (Value.slice (some ⟨b30, 0, none⟩) 1 1) fun A32 n33 c34 w35 =>
    jnC C14 ((x2), (x4.1, x4.2), (A32, n33, c34), (x9), ()) w35)
  (ldI .i64 w.drew x4.1 (x4.2 + 1) fun i36 =>
    ldSl w.drew x4.1 (x4.2 + 2) fun A37 n38 c39 =>
    dr A37 fun b40 o41 =>
    gd (decide (0 ≤ x9)) <|
    gd (decide (x9 < ((n38 : Nat) : Int))) <|
    ldI .u8 w.drew b40 (o41 + (x9).toNat * 1) fun i42 =>
    dr x7.1 fun b43 o44 =>
    gd (decide (0 ≤ (IntKind.wrap .i64 (i36 + x9)))) <|
    gd (decide ((IntKind.wrap .i64 (i36 + x9)) < ((x7.2.1 : Nat) : Int))) <|
    st w.drew b43 (o44 + ((IntKind.wrap .i64 (i36 + x9))).toNat * 1) [Value.int .u8 i42] fun w45 =>
    jnC C12 ((x2), (x4.1, x4.2), (x7.1, x7.2.1, x7.2.2), ((IntKind.wrap .i64 (x9 + 1))), ()) w45)
def F111.b14 (Q : Value → World → Prop) (C12 : (Int × (Nat × Nat) × (Option Addr × Nat × Nat) × Int × Unit) → World → Prop) : (Int × (Nat × Nat) × (Option Addr × Nat × Nat) × Int × Unit) → World → ((Int × (Nat × Nat) × (Option Addr × Nat × Nat) × Int × Unit) → World → Prop) → Prop := fun s w C14 => ∀ _ : Nat → Value, F111.b14c Q C12 C14 s.1 s.2.1 s.2.2.1 s.2.2.2.1 w
def F111.l14 (Q : Value → World → Prop) (C12 : (Int × (Nat × Nat) × (Option Addr × Nat × Nat) × Int × Unit) → World → Prop) : (Int × (Nat × Nat) × (Option Addr × Nat × Nat) × Int × Unit) → World → Prop := fun s w => ∃ n, loopC (F111.b14 Q C12) n s w
def F111.k1014c (Q : Value → World → Prop) (C12 : (Int × (Nat × Nat) × (Option Addr × Nat × Nat) × Int × Unit) → World → Prop) (x2 : Int) (x4 : (Nat × Nat)) (x7 : (Option Addr × Nat × Nat)) (x9 : Int) (w : World) : Prop :=
  jnC (F111.l14 Q C12) ((x2), (x4.1, x4.2), (x7.1, x7.2.1, x7.2.2), (x9), ()) w
def F111.k1014 (Q : Value → World → Prop) (C12 : (Int × (Nat × Nat) × (Option Addr × Nat × Nat) × Int × Unit) → World → Prop) : (Int × (Nat × Nat) × (Option Addr × Nat × Nat) × Int × Unit) → World → Prop := fun s w => ∀ _ : Nat → Value, F111.k1014c Q C12 s.1 s.2.1 s.2.2.1 s.2.2.2.1 w
def F111.b12c (Q : Value → World → Prop) (C12 : (Int × (Nat × Nat) × (Option Addr × Nat × Nat) × Int × Unit) → World → Prop) (x2 : Int) (x4 : (Nat × Nat)) (x7 : (Option Addr × Nat × Nat)) (x9 : Int) (w : World) : Prop :=
  ldSl w x4.1 (x4.2 + 2) fun A26 n27 c28 =>
  vIf (decide (x9 < ((n27 : Nat) : Int)))
  (vIf (decide (x9 < x2))
    (jnC (F111.k1014 Q C12) ((x2), (x4.1, x4.2), (x7.1, x7.2.1, x7.2.2), (x9), ()) w)
    (Q (Value.slice x7.1 x7.2.1 x7.2.2) w))
  (Q (Value.slice x7.1 x7.2.1 x7.2.2) w)
def F111.b12 (Q : Value → World → Prop) : (Int × (Nat × Nat) × (Option Addr × Nat × Nat) × Int × Unit) → World → ((Int × (Nat × Nat) × (Option Addr × Nat × Nat) × Int × Unit) → World → Prop) → Prop := fun s w C12 => ∀ _ : Nat → Value, F111.b12c Q C12 s.1 s.2.1 s.2.2.1 s.2.2.2.1 w
def F111.l12 (Q : Value → World → Prop) : (Int × (Nat × Nat) × (Option Addr × Nat × Nat) × Int × Unit) → World → Prop := fun s w => ∃ n, loopC (F111.b12 Q) n s w
def F111.vc (x0A : Option Addr) (x0n x0c : Nat) (x1 : List Value) (x2 : Int) (w : World) (Q : Value → World → Prop) : Prop :=
  nw w x1 124 fun b1 w2 =>
  ldA 3 w2 b1 0 fun a3 =>
  Calls Tryz.prog 135 #[ofL a3] w2 fun e5 w4 =>
  ∃ t6 : Bool, e5 = .returned (Value.bool t6) ∧ (
    vIf (!t6)
    (app w4 1 1 [Value.int .u8 0] 5 none 0 0 (Value.slice x0A x0n x0c) fun A7 n8 c9 w10 =>
      Q (Value.slice A7 n8 c9) w10)
    (ldB w4 b1 0 fun t11 =>
      vIf t11
      (jnC (F111.l6 Q) ((x0A, x0n, x0c), (b1, 0), (none, 0, 0), (0), ()) w4)
      (app w4 1 1 [Value.int .u8 0] 5 none 0 0 (Value.slice x0A x0n x0c) fun A22 n23 c24 w25 =>
        jnC (F111.l12 Q) ((x2), (b1, 0), (A22, n23, c24), (0), ()) w25)))
def F111.an : Ann := ⟨[(6, [(0, .kSl), (4, .kL), (7, .kSl), (8, .kI .i64)]), (12, [(2, .kI .i64), (4, .kL), (7, .kSl), (9, .kI .i64)]), (14, [(2, .kI .i64), (4, .kL), (7, .kSl), (9, .kI .i64)])], [(8, [(0, .kSl), (4, .kL), (7, .kSl), (8, .kI .i64)]), (1014, [(2, .kI .i64), (4, .kL), (7, .kSl), (9, .kI .i64)])]⟩
theorem F111.of (x0A : Option Addr) (x0n x0c : Nat) (x1 : List Value) (x2 : Int) (w : World) {Q : Value → World → Prop} (h : F111.vc x0A x0n x0c x1 x2 w Q) : Calls Tryz.prog 111 #[Value.slice x0A x0n x0c, ofL x1, Value.int .i64 x2] w (fun e w' => ∃ v, e = .returned v ∧ Q v w') := vcFn_of (A := F111.an) noCount mixed h (by kernel_rfl)
/-! ### function 112: slices.Clone[[]stillage/api.Named,stillage/api.Named] -/
def F112.vc (x0A : Option Addr) (x0n x0c : Nat) (w : World) (Q : Value → World → Prop) : Prop :=
  vIf x0A.isNone
  (Q (Value.slice none 0 0) w)
  (nw w [] 94 fun b1 w2 =>
    app w2 2 24 [Value.string (⟨#[]⟩ : ByteArray), Value.int .i64 0] 94 (some ⟨b1, 0, none⟩) 0 0 (Value.slice x0A x0n x0c) fun A3 n4 c5 w6 =>
    Q (Value.slice A3 n4 c5) w6)
def F112.an : Ann := ⟨[], []⟩
theorem F112.of (x0A : Option Addr) (x0n x0c : Nat) (w : World) {Q : Value → World → Prop} (h : F112.vc x0A x0n x0c w Q) : Calls Tryz.prog 112 #[Value.slice x0A x0n x0c] w (fun e w' => ∃ v, e = .returned v ∧ Q v w') := vcFn_of (A := F112.an) noCount mixed h (by kernel_rfl)
/-! ### function 113: slices.SortStableFunc[[]stillage/api.Named,stillage/api.Named] -/
def F113s.vc (x0A : Option Addr) (x0n x0c : Nat) (w : World) (Q : Value → World → Prop) : Prop :=
  Calls Tryz.prog 136 #[Value.slice x0A x0n x0c, Value.int .i64 ((x0n : Nat) : Int), Value.func (.func 114) #[] #[]] w fun e2 w1 =>
  e2 = .returned (Value.tuple #[]) ∧ (
    Q (Value.tuple #[]) w1)
def F113s.an : Ann := ⟨[], []⟩
theorem F113s.of (x0A : Option Addr) (x0n x0c : Nat) (w : World) {Q : Value → World → Prop} (h : F113s.vc x0A x0n x0c w Q) : Calls Tryz.prog 113 #[Value.slice x0A x0n x0c, Value.func (.func 114) #[] #[]] w (fun e w' => ∃ v, e = .returned v ∧ Q v w') := vcFn_of (A := F113s.an) noCount mixed h (by kernel_rfl)
/-! ### function 114: stillage/folder.lasts$1 -/
def F114.vc (x0 : List Value) (x1 : List Value) (w : World) (Q : Value → World → Prop) : Prop :=
  nw w x0 94 fun b1 w2 =>
  nw w2 x1 94 fun b3 w4 =>
  ldS w4 b1 0 fun s5 =>
  ldS w4 b3 0 fun s6 =>
  Calls Tryz.prog 101 #[Value.string s5, Value.string s6] w4 fun e8 w7 =>
  ∃ i9 : Int, e8 = .returned (Value.int .i64 i9) ∧ (
    Q (Value.int .i64 i9) w7)
def F114.an : Ann := ⟨[], []⟩
theorem F114.of (x0 : List Value) (x1 : List Value) (w : World) {Q : Value → World → Prop} (h : F114.vc x0 x1 w Q) : Calls Tryz.prog 114 #[ofL x0, ofL x1] w (fun e w' => ∃ v, e = .returned v ∧ Q v w') := vcFn_of (A := F114.an) noCount mixed h (by kernel_rfl)
/-! ### function 115: slices.CompactFunc[[]stillage/api.Named,stillage/api.Named] -/
def F115s.k15c (Q : Value → World → Prop) (C4 : ((Option Addr × Nat × Nat) × Unit × Int × Unit) → World → Prop) (x0 : (Option Addr × Nat × Nat)) (x5 : Int) (w : World) : Prop :=
  gd (decide (0 ≤ x5)) <|
  gd (decide (x5 ≤ ((x0.2.2 : Nat) : Int))) <|
  Q (Value.slice (slA x0.1 x0.2.2 0 2) (x5).toNat x0.2.2) w
def F115s.k15 (Q : Value → World → Prop) (C4 : ((Option Addr × Nat × Nat) × Unit × Int × Unit) → World → Prop) : ((Option Addr × Nat × Nat) × Int × Unit) → World → Prop := fun s w => ∀ _ : Nat → Value, F115s.k15c Q C4 s.1 s.2.1 w
def F115s.b9c (Q : Value → World → Prop) (C4 : ((Option Addr × Nat × Nat) × Unit × Int × Unit) → World → Prop) (C9 : ((Option Addr × Nat × Nat) × Unit × Int × (Option Addr × Nat × Nat) × Int × Unit) → World → Prop) (x0 : (Option Addr × Nat × Nat)) (x1 : Unit) (x5 : Int) (x6 : (Option Addr × Nat × Nat)) (x7 : Int) (w : World) : Prop :=
  vIf (decide (x7 < ((x6.2.1 : Nat) : Int)))
  (dr x6.1 fun b10 o11 =>
    gd (decide (0 ≤ x7)) <|
    gd (decide (x7 < ((x6.2.1 : Nat) : Int))) <|
    ldA 2 w.drew b10 (o11 + (x7).toNat * 2) fun a12 =>
    dr x6.1 fun b13 o14 =>
    gd (decide (0 ≤ (IntKind.wrap .i64 (x7 - 1)))) <|
    gd (decide ((IntKind.wrap .i64 (x7 - 1)) < ((x6.2.1 : Nat) : Int))) <|
    ldA 2 w.drew b13 (o14 + ((IntKind.wrap .i64 (x7 - 1))).toNat * 2) fun a15 =>
    Calls Tryz.prog 116 #[ofL a12, ofL a15] w.drew fun e17 w16 =>
    ∃ t18 : Bool, e17 = .returned (Value.bool t18) ∧ (
      vIf (!t18)
      (dr x6.1 fun b19 o20 =>
        gd (decide (0 ≤ x7)) <|
        gd (decide (x7 < ((x6.2.1 : Nat) : Int))) <|
        ldA 2 w16 b19 (o20 + (x7).toNat * 2) fun a21 =>
        dr x0.1 fun b22 o23 =>
        gd (decide (0 ≤ x5)) <|
        gd (decide (x5 < ((x0.2.1 : Nat) : Int))) <|
        gd (a21.length == 2) <|
        st w16 b22 (o23 + (x5).toNat * 2) a21 fun w24 =>
        jnC C9 ((x0.1, x0.2.1, x0.2.2), (), ((IntKind.wrap .i64 (x5 + 1))), (x6.1, x6.2.1, x6.2.2), ((IntKind.wrap .i64 (x7 + 1))), ()) w24)
      (jnC C9 ((x0.1, x0.2.1, x0.2.2), (), (x5), (x6.1, x6.2.1, x6.2.2), ((IntKind.wrap .i64 (x7 + 1))), ()) w16)))
  (gd (decide (0 ≤ x5)) <|
    gd (decide (x5 ≤ ((x0.2.1 : Nat) : Int))) <|
    vIf ((x0.2.1 - (x5).toNat) == 0)
    (jnC (F115s.k15 Q C4) ((x0.1, x0.2.1, x0.2.2), (x5), ()) w)
    (dr (slA x0.1 x0.2.2 (x5).toNat 2) fun b26 o27 =>
      st w b26 o27 (zeros (x0.2.1 - (x5).toNat) [Value.string (⟨#[]⟩ : ByteArray), Value.int .i64 0]) fun w25 =>
      jnC (F115s.k15 Q C4) ((x0.1, x0.2.1, x0.2.2), (x5), ()) w25))
def F115s.b9 (Q : Value → World → Prop) (C4 : ((Option Addr × Nat × Nat) × Unit × Int × Unit) → World → Prop) : ((Option Addr × Nat × Nat) × Unit × Int × (Option Addr × Nat × Nat) × Int × Unit) → World → (((Option Addr × Nat × Nat) × Unit × Int × (Option Addr × Nat × Nat) × Int × Unit) → World → Prop) → Prop := fun s w C9 => ∀ _ : Nat → Value, F115s.b9c Q C4 C9 s.1 s.2.1 s.2.2.1 s.2.2.2.1 s.2.2.2.2.1 w
def F115s.l9 (Q : Value → World → Prop) (C4 : ((Option Addr × Nat × Nat) × Unit × Int × Unit) → World → Prop) : ((Option Addr × Nat × Nat) × Unit × Int × (Option Addr × Nat × Nat) × Int × Unit) → World → Prop := fun s w => ∃ n, loopC (F115s.b9 Q C4) n s w
def F115s.b4c (Q : Value → World → Prop) (C4 : ((Option Addr × Nat × Nat) × Unit × Int × Unit) → World → Prop) (x0 : (Option Addr × Nat × Nat)) (x1 : Unit) (x5 : Int) (w : World) : Prop :=
  vIf (decide (x5 < ((x0.2.1 : Nat) : Int)))
  (dr x0.1 fun b1 o2 =>
    gd (decide (0 ≤ x5)) <|
    gd (decide (x5 < ((x0.2.1 : Nat) : Int))) <|
    ldA 2 w.drew b1 (o2 + (x5).toNat * 2) fun a3 =>
    dr x0.1 fun b4 o5 =>
    gd (decide (0 ≤ (IntKind.wrap .i64 (x5 - 1)))) <|
    gd (decide ((IntKind.wrap .i64 (x5 - 1)) < ((x0.2.1 : Nat) : Int))) <|
    ldA 2 w.drew b4 (o5 + ((IntKind.wrap .i64 (x5 - 1))).toNat * 2) fun a6 =>
    Calls Tryz.prog 116 #[ofL a3, ofL a6] w.drew fun e8 w7 =>
    ∃ t9 : Bool, e8 = .returned (Value.bool t9) ∧ (
      vIf t9
      (gd (decide (0 ≤ x5)) <|
        gd (decide (x5 ≤ ((x0.2.1 : Nat) : Int))) <|
        jnC (F115s.l9 Q C4) ((x0.1, x0.2.1, x0.2.2), (), (x5), ((slA x0.1 x0.2.2 (x5).toNat 2), (x0.2.1 - (x5).toNat), (x0.2.2 - (x5).toNat)), (1), ()) w7)
      (jnC C4 ((x0.1, x0.2.1, x0.2.2), (), ((IntKind.wrap .i64 (x5 + 1))), ()) w7)))
  (Q (Value.slice x0.1 x0.2.1 x0.2.2) w)
def F115s.b4 (Q : Value → World → Prop) : ((Option Addr × Nat × Nat) × Unit × Int × Unit) → World → (((Option Addr × Nat × Nat) × Unit × Int × Unit) → World → Prop) → Prop := fun s w C4 => ∀ _ : Nat → Value, F115s.b4c Q C4 s.1 s.2.1 s.2.2.1 w
def F115s.l4 (Q : Value → World → Prop) : ((Option Addr × Nat × Nat) × Unit × Int × Unit) → World → Prop := fun s w => ∃ n, loopC (F115s.b4 Q) n s w
def F115s.vc (x0A : Option Addr) (x0n x0c : Nat) (w : World) (Q : Value → World → Prop) : Prop :=
  vIf (decide (((x0n : Nat) : Int) < 2))
  (Q (Value.slice x0A x0n x0c) w)
  (jnC (F115s.l4 Q) ((x0A, x0n, x0c), (), (1), ()) w)
def F115s.an : Ann := ⟨[(4, [(0, .kSl), (1, .kF 116), (5, .kI .i64)]), (9, [(0, .kSl), (1, .kF 116), (5, .kI .i64), (6, .kSl), (7, .kI .i64)])], [(15, [(0, .kSl), (5, .kI .i64)])]⟩
theorem F115s.of (x0A : Option Addr) (x0n x0c : Nat) (w : World) {Q : Value → World → Prop} (h : F115s.vc x0A x0n x0c w Q) : Calls Tryz.prog 115 #[Value.slice x0A x0n x0c, Value.func (.func 116) #[] #[]] w (fun e w' => ∃ v, e = .returned v ∧ Q v w') := vcFn_of (A := F115s.an) noCount mixed h (by kernel_rfl)
/-! ### function 116: stillage/folder.lasts$2 -/
def F116.vc (x0 : List Value) (x1 : List Value) (w : World) (Q : Value → World → Prop) : Prop :=
  nw w x0 94 fun b1 w2 =>
  nw w2 x1 94 fun b3 w4 =>
  ldS w4 b1 0 fun s5 =>
  ldS w4 b3 0 fun s6 =>
  Q (Value.bool (s5.toList == s6.toList)) w4
def F116.an : Ann := ⟨[], []⟩
theorem F116.of (x0 : List Value) (x1 : List Value) (w : World) {Q : Value → World → Prop} (h : F116.vc x0 x1 w Q) : Calls Tryz.prog 116 #[ofL x0, ofL x1] w (fun e w' => ∃ v, e = .returned v ∧ Q v w') := vcFn_of (A := F116.an) noCount mixed h (by kernel_rfl)
/-! ### function 117: stillage/folder.set -/
def F117.vc (x0A : Option Addr) (x0n x0c : Nat) (x1 : ByteArray) (x2 : Int) (w : World) (Q : Value → World → Prop) : Prop :=
  Calls Tryz.prog 78 #[Value.slice x0A x0n x0c, Value.string x1, Value.func (.func 79) #[] #[]] w fun e2 w1 =>
  ∃ i3 : Int, ∃ t4 : Bool, e2 = .returned (Value.tuple #[Value.int .i64 i3, Value.bool t4]) ∧ (
    vIf t4
    (dr x0A fun b5 o6 =>
      gd (decide (0 ≤ i3)) <|
      gd (decide (i3 < ((x0n : Nat) : Int))) <|
      st w1 b5 ((o6 + (i3).toNat * 2) + 1) [Value.int .i64 x2] fun w7 =>
      Q (Value.slice x0A x0n x0c) w7)
    (gd (([Value.string x1] ++ ([Value.int .i64 x2] ++ [])).length == 2) <|
      nw w1 (([Value.string x1] ++ ([Value.int .i64 x2] ++ [])) ++ []) 94 fun b8 w9 =>
      Calls Tryz.prog 137 #[Value.slice x0A x0n x0c, Value.int .i64 i3, Value.slice (some ⟨b8, 0, none⟩) 1 1] w9 fun e11 w10 =>
      ∃ (A12 : Option Addr) (n13 c14 : Nat), e11 = .returned (Value.slice A12 n13 c14) ∧ (
        Q (Value.slice A12 n13 c14) w10)))
def F117.an : Ann := ⟨[], []⟩
theorem F117.of (x0A : Option Addr) (x0n x0c : Nat) (x1 : ByteArray) (x2 : Int) (w : World) {Q : Value → World → Prop} (h : F117.vc x0A x0n x0c x1 x2 w Q) : Calls Tryz.prog 117 #[Value.slice x0A x0n x0c, Value.string x1, Value.int .i64 x2] w (fun e w' => ∃ v, e = .returned v ∧ Q v w') := vcFn_of (A := F117.an) noCount mixed h (by kernel_rfl)
/-! ### function 118: stillage/folder.cut -/
def F118.vc (x0A : Option Addr) (x0n x0c : Nat) (x1 : ByteArray) (w : World) (Q : Value → World → Prop) : Prop :=
  Calls Tryz.prog 78 #[Value.slice x0A x0n x0c, Value.string x1, Value.func (.func 79) #[] #[]] w fun e2 w1 =>
  ∃ i3 : Int, ∃ t4 : Bool, e2 = .returned (Value.tuple #[Value.int .i64 i3, Value.bool t4]) ∧ (
    vIf (!t4)
    (Q (Value.tuple #[Value.slice x0A x0n x0c, Value.int .i64 0, Value.bool false]) w1)
    (dr x0A fun b5 o6 =>
      gd (decide (0 ≤ i3)) <|
      gd (decide (i3 < ((x0n : Nat) : Int))) <|
      ldI .i64 w1 b5 ((o6 + (i3).toNat * 2) + 1) fun i7 =>
      Calls Tryz.prog 138 #[Value.slice x0A x0n x0c, Value.int .i64 i3, Value.int .i64 (IntKind.wrap .i64 (i3 + 1))] w1 fun e9 w8 =>
      ∃ (A10 : Option Addr) (n11 c12 : Nat), e9 = .returned (Value.slice A10 n11 c12) ∧ (
        Q (Value.tuple #[Value.slice A10 n11 c12, Value.int .i64 i7, Value.bool true]) w8)))
def F118.an : Ann := ⟨[], []⟩
theorem F118.of (x0A : Option Addr) (x0n x0c : Nat) (x1 : ByteArray) (w : World) {Q : Value → World → Prop} (h : F118.vc x0A x0n x0c x1 w Q) : Calls Tryz.prog 118 #[Value.slice x0A x0n x0c, Value.string x1] w (fun e w' => ∃ v, e = .returned v ∧ Q v w') := vcFn_of (A := F118.an) noCount mixed h (by kernel_rfl)
end Go.Proofs.YtfdhaeglhkmmpaaGreat
/- PRINTED BY MY OWN gen.py out of the translation: each function as a proposition. -/
namespace Go.Proofs.YtfdhaeglhkmmpaaGreat
open Go.GV
set_option linter.unusedVariables false
set_option maxRecDepth 100000
/-! ### function 130: stillage/writes.Apply -/
def F130.k5c (Q : Value → World → Prop) (x0 : (Option Addr × Nat × Nat)) (x3 : (Nat × Nat)) (w : World) : Prop :=
  ldI .i64 w x3.1 (x3.2 + 1) fun i19 =>
  ldSl w x3.1 (x3.2 + 2) fun A20 n21 c22 =>
  gd (decide (0 ≤ (if ((x0.2.1 : Nat) : Int) < (IntKind.wrap .i64 (i19 + ((n21 : Nat) : Int))) then (IntKind.wrap .i64 (i19 + ((n21 : Nat) : Int))) else ((x0.2.1 : Nat) : Int)))) <|
  gd (decide ((if ((x0.2.1 : Nat) : Int) < (IntKind.wrap .i64 (i19 + ((n21 : Nat) : Int))) then (IntKind.wrap .i64 (i19 + ((n21 : Nat) : Int))) else ((x0.2.1 : Nat) : Int)) ≤ (if ((x0.2.1 : Nat) : Int) < (IntKind.wrap .i64 (i19 + ((n21 : Nat) : Int))) then (IntKind.wrap .i64 (i19 + ((n21 : Nat) : Int))) else ((x0.2.1 : Nat) : Int)))) <|
  gd (decide ((if ((x0.2.1 : Nat) : Int) < (IntKind.wrap .i64 (i19 + ((n21 : Nat) : Int))) then (IntKind.wrap .i64 (i19 + ((n21 : Nat) : Int))) else ((x0.2.1 : Nat) : Int)) * 1 ≤ 281474976710656 ∧ (if ((x0.2.1 : Nat) : Int) < (IntKind.wrap .i64 (i19 + ((n21 : Nat) : Int))) then (IntKind.wrap .i64 (i19 + ((n21 : Nat) : Int))) else ((x0.2.1 : Nat) : Int)) ≤ 9223372036854775807)) <|
  nw w (zeros ((if ((x0.2.1 : Nat) : Int) < (IntKind.wrap .i64 (i19 + ((n21 : Nat) : Int))) then (IntKind.wrap .i64 (i19 + ((n21 : Nat) : Int))) else ((x0.2.1 : Nat) : Int))).toNat [Value.int .u8 0]) 5 fun b23 w24 =>
  cpy w24 1 (some ⟨b23, 0, none⟩) (((if ((x0.2.1 : Nat) : Int) < (IntKind.wrap .i64 (i19 + ((n21 : Nat) : Int))) then (IntKind.wrap .i64 (i19 + ((n21 : Nat) : Int))) else ((x0.2.1 : Nat) : Int))).toNat) (Value.slice x0.1 x0.2.1 x0.2.2) fun n25 w26 =>
  ldI .i64 w26.drew x3.1 (x3.2 + 1) fun i27 =>
  gd (decide (0 ≤ i27)) <|
  gd (decide (i27 ≤ ((((if ((x0.2.1 : Nat) : Int) < (IntKind.wrap .i64 (i19 + ((n21 : Nat) : Int))) then (IntKind.wrap .i64 (i19 + ((n21 : Nat) : Int))) else ((x0.2.1 : Nat) : Int))).toNat : Nat) : Int))) <|
  ldSl w26.drew x3.1 (x3.2 + 2) fun A28 n29 c30 =>
  cpy w26.drew 1 (slA (some ⟨b23, 0, none⟩) ((if ((x0.2.1 : Nat) : Int) < (IntKind.wrap .i64 (i19 + ((n21 : Nat) : Int))) then (IntKind.wrap .i64 (i19 + ((n21 : Nat) : Int))) else ((x0.2.1 : Nat) : Int))).toNat (i27).toNat 1) (((if ((x0.2.1 : Nat) : Int) < (IntKind.wrap .i64 (i19 + ((n21 : Nat) : Int))) then (IntKind.wrap .i64 (i19 + ((n21 : Nat) : Int))) else ((x0.2.1 : Nat) : Int))).toNat - (i27).toNat) (Value.slice A28 n29 c30) fun n31 w32 =>
  Q (Value.slice (some ⟨b23, 0, none⟩) ((if ((x0.2.1 : Nat) : Int) < (IntKind.wrap .i64 (i19 + ((n21 : Nat) : Int))) then (IntKind.wrap .i64 (i19 + ((n21 : Nat) : Int))) else ((x0.2.1 : Nat) : Int))).toNat ((if ((x0.2.1 : Nat) : Int) < (IntKind.wrap .i64 (i19 + ((n21 : Nat) : Int))) then (IntKind.wrap .i64 (i19 + ((n21 : Nat) : Int))) else ((x0.2.1 : Nat) : Int))).toNat) w32
def F130.k5 (Q : Value → World → Prop) : ((Option Addr × Nat × Nat) × (Nat × Nat) × Unit) → World → Prop := fun s w => ∀ _ : Nat → Value, F130.k5c Q s.1 s.2.1 w
def F130.k2c (Q : Value → World → Prop) (x0 : (Option Addr × Nat × Nat)) (x3 : (Nat × Nat)) (x6 : Bool) (w : World) : Prop :=
  vIf x6
  (Calls Tryz.prog 73 #[Value.slice x0.1 x0.2.1 x0.2.2] w fun e8 w7 =>
    ∃ (A9 : Option Addr) (n10 c11 : Nat), e8 = .returned (Value.slice A9 n10 c11) ∧ (
      Q (Value.slice A9 n10 c11) w7))
  (ldB w x3.1 x3.2 fun t12 =>
    vIf t12
    (ldI .i64 w x3.1 (x3.2 + 1) fun i13 =>
      gd (decide (0 ≤ (if ((x0.2.1 : Nat) : Int) < i13 then ((x0.2.1 : Nat) : Int) else i13))) <|
      gd (decide ((if ((x0.2.1 : Nat) : Int) < i13 then ((x0.2.1 : Nat) : Int) else i13) ≤ ((x0.2.2 : Nat) : Int))) <|
      Calls Tryz.prog 73 #[Value.slice (slA x0.1 x0.2.2 0 1) ((if ((x0.2.1 : Nat) : Int) < i13 then ((x0.2.1 : Nat) : Int) else i13)).toNat x0.2.2] w fun e15 w14 =>
      ∃ (A16 : Option Addr) (n17 c18 : Nat), e15 = .returned (Value.slice A16 n17 c18) ∧ (
        Q (Value.slice A16 n17 c18) w14))
    (jnC (F130.k5 Q) ((x0.1, x0.2.1, x0.2.2), (x3.1, x3.2), ()) w))
def F130.k2 (Q : Value → World → Prop) : ((Option Addr × Nat × Nat) × (Nat × Nat) × Bool × Unit) → World → Prop := fun s w => ∀ _ : Nat → Value, F130.k2c Q s.1 s.2.1 s.2.2.1 w
def F130.vc (x0A : Option Addr) (x0n x0c : Nat) (x1 : List Value) (w : World) (Q : Value → World → Prop) : Prop :=
  nw w x1 124 fun b1 w2 =>
  ldA 3 w2 b1 0 fun a3 =>
  Calls Tryz.prog 95 #[ofL a3] w2 fun e5 w4 =>
  ∃ t6 : Bool, e5 = .returned (Value.bool t6) ∧ (
    vIf (!t6)
    (jnC (F130.k2 Q) ((x0A, x0n, x0c), (b1, 0), true, ()) w4)
    (ldB w4 b1 0 fun t33 =>
      vIf (!t33)
      (ldSl w4 b1 (0 + 2) fun A34 n35 c36 =>
        jnC (F130.k2 Q) ((x0A, x0n, x0c), (b1, 0), (((n35 : Nat) : Int) == 0), ()) w4)
      (jnC (F130.k2 Q) ((x0A, x0n, x0c), (b1, 0), false, ()) w4)))
def F130.an : Ann := ⟨[], [(2, [(0, .kSl), (3, .kL), (6, .kB)]), (5, [(0, .kSl), (3, .kL)])]⟩
theorem F130.of (x0A : Option Addr) (x0n x0c : Nat) (x1 : List Value) (w : World) {Q : Value → World → Prop} (h : F130.vc x0A x0n x0c x1 w Q) : Calls Tryz.prog 130 #[Value.slice x0A x0n x0c, ofL x1] w (fun e w' => ∃ v, e = .returned v ∧ Q v w') := vcFn_of (A := F130.an) noCount mixed h (by kernel_rfl)
/-! ### function 131: slices.Grow[[]stillage/api.Write,stillage/api.Write] -/
def F131.k3c (Q : Value → World → Prop) (x0 : (Option Addr × Nat × Nat)) (x1 : Int) (w : World) : Prop :=
  vIf (decide ((IntKind.wrap .i64 (x1 - (IntKind.wrap .i64 (((x0.2.2 : Nat) : Int) - ((x0.2.1 : Nat) : Int))))) > 0))
  (gd (decide (0 ≤ ((x0.2.2 : Nat) : Int))) <|
    gd (decide (((x0.2.2 : Nat) : Int) ≤ ((x0.2.2 : Nat) : Int))) <|
    appZ w 3 40 [Value.bool false, Value.int .i64 0, Value.slice none 0 0] 124 (slA x0.1 x0.2.2 0 3) ((((x0.2.2 : Nat) : Int)).toNat) x0.2.2 (IntKind.wrap .i64 (x1 - (IntKind.wrap .i64 (((x0.2.2 : Nat) : Int) - ((x0.2.1 : Nat) : Int))))) fun A1 n2 c3 w4 =>
    gd (decide (0 ≤ ((x0.2.1 : Nat) : Int))) <|
    gd (decide (((x0.2.1 : Nat) : Int) ≤ ((c3 : Nat) : Int))) <|
    Q (Value.slice (slA A1 c3 0 3) (((x0.2.1 : Nat) : Int)).toNat c3) w4)
  (Q (Value.slice x0.1 x0.2.1 x0.2.2) w)
def F131.k3 (Q : Value → World → Prop) : ((Option Addr × Nat × Nat) × Int × Unit) → World → Prop := fun s w => ∀ _ : Nat → Value, F131.k3c Q s.1 s.2.1 w
def F131.vc (x0A : Option Addr) (x0n x0c : Nat) (x1 : Int) (w : World) (Q : Value → World → Prop) : Prop :=
  vIf (decide (x1 < 0))
  (False)
  (jnC (F131.k3 Q) ((x0A, x0n, x0c), (x1), ()) w)
def F131.an : Ann := ⟨[], [(3, [(0, .kSl), (1, .kI .i64)])]⟩
theorem F131.of (x0A : Option Addr) (x0n x0c : Nat) (x1 : Int) (w : World) {Q : Value → World → Prop} (h : F131.vc x0A x0n x0c x1 w Q) : Calls Tryz.prog 131 #[Value.slice x0A x0n x0c, Value.int .i64 x1] w (fun e w' => ∃ v, e = .returned v ∧ Q v w') := vcFn_of (A := F131.an) noCount mixed h (by kernel_rfl)
/-! ### function 132: internal/bytealg.CompareString -/
def F132.vc (x0 : ByteArray) (x1 : ByteArray) (w : World) (Q : Value → World → Prop) : Prop :=
  extC Tryz.prog 145 #[Value.string x0, Value.string x1] w fun v3 w1 =>
  ∃ i4 : Int, v3 = Value.int .i64 i4 ∧ (
    Q (Value.int .i64 i4) w1)
def F132.an : Ann := ⟨[], []⟩
theorem F132.of (x0 : ByteArray) (x1 : ByteArray) (w : World) {Q : Value → World → Prop} (h : F132.vc x0 x1 w Q) : Calls Tryz.prog 132 #[Value.string x0, Value.string x1] w (fun e w' => ∃ v, e = .returned v ∧ Q v w') := vcFn_of (A := F132.an) noCount mixed h (by kernel_rfl)
/-! ### function 133: stillage/stillageref11.putInt -/
def F133.k10c (Q : Value → World → Prop) (C4 : ((Option Addr × Nat × Nat) × Int × (Option Addr × Nat × Nat) × Bool × Int × Unit) → World → Prop) (x0 : (Option Addr × Nat × Nat)) (x1 : Int) (x5 : (Option Addr × Nat × Nat)) (x6 : Bool) (x7 : Int) (w : World) : Prop :=
  dr x0.1 fun b13 o14 =>
  gd (decide (0 ≤ x7)) <|
  gd (decide (x7 < ((x0.2.1 : Nat) : Int))) <|
  ldI .i64 w b13 (o14 + (x7).toNat * 1) fun i15 =>
  nw w ([Value.int .i64 i15] ++ []) 3 fun b16 w17 =>
  app w17 1 8 [Value.int .i64 0] 3 x5.1 x5.2.1 x5.2.2 (Value.slice (some ⟨b16, 0, none⟩) 1 1) fun A18 n19 c20 w21 =>
  jnC C4 ((x0.1, x0.2.1, x0.2.2), (x1), (A18, n19, c20), x6, ((IntKind.wrap .i64 (x7 + 1))), ()) w21
def F133.k10 (Q : Value → World → Prop) (C4 : ((Option Addr × Nat × Nat) × Int × (Option Addr × Nat × Nat) × Bool × Int × Unit) → World → Prop) : ((Option Addr × Nat × Nat) × Int × (Option Addr × Nat × Nat) × Bool × Int × Unit) → World → Prop := fun s w => ∀ _ : Nat → Value, F133.k10c Q C4 s.1 s.2.1 s.2.2.1 s.2.2.2.1 s.2.2.2.2.1 w
def F133.k7c (Q : Value → World → Prop) (C4 : ((Option Addr × Nat × Nat) × Int × (Option Addr × Nat × Nat) × Bool × Int × Unit) → World → Prop) (x0 : (Option Addr × Nat × Nat)) (x1 : Int) (x5 : (Option Addr × Nat × Nat)) (x6 : Bool) (x7 : Int) (x23 : Bool) (w : World) : Prop :=
  vIf x23
  (dr x0.1 fun b4 o5 =>
    gd (decide (0 ≤ x7)) <|
    gd (decide (x7 < ((x0.2.1 : Nat) : Int))) <|
    ldI .i64 w b4 (o5 + (x7).toNat * 1) fun i6 =>
    vIf (decide (i6 > x1))
    (nw w ([Value.int .i64 x1] ++ []) 3 fun b7 w8 =>
      app w8 1 8 [Value.int .i64 0] 3 x5.1 x5.2.1 x5.2.2 (Value.slice (some ⟨b7, 0, none⟩) 1 1) fun A9 n10 c11 w12 =>
      jnC (F133.k10 Q C4) ((x0.1, x0.2.1, x0.2.2), (x1), (A9, n10, c11), true, (x7), ()) w12)
    (jnC (F133.k10 Q C4) ((x0.1, x0.2.1, x0.2.2), (x1), (x5.1, x5.2.1, x5.2.2), true, (x7), ()) w))
  (jnC (F133.k10 Q C4) ((x0.1, x0.2.1, x0.2.2), (x1), (x5.1, x5.2.1, x5.2.2), x6, (x7), ()) w)
def F133.k7 (Q : Value → World → Prop) (C4 : ((Option Addr × Nat × Nat) × Int × (Option Addr × Nat × Nat) × Bool × Int × Unit) → World → Prop) : ((Option Addr × Nat × Nat) × Int × (Option Addr × Nat × Nat) × Bool × Int × Bool × Unit) → World → Prop := fun s w => ∀ _ : Nat → Value, F133.k7c Q C4 s.1 s.2.1 s.2.2.1 s.2.2.2.1 s.2.2.2.2.1 s.2.2.2.2.2.1 w
def F133.b4c (Q : Value → World → Prop) (C4 : ((Option Addr × Nat × Nat) × Int × (Option Addr × Nat × Nat) × Bool × Int × Unit) → World → Prop) (x0 : (Option Addr × Nat × Nat)) (x1 : Int) (x5 : (Option Addr × Nat × Nat)) (x6 : Bool) (x7 : Int) (w : World) : Prop :=
  vIf (decide (x7 < ((x0.2.1 : Nat) : Int)))
  (vIf (!x6)
    (dr x0.1 fun b1 o2 =>
      gd (decide (0 ≤ x7)) <|
      gd (decide (x7 < ((x0.2.1 : Nat) : Int))) <|
      ldI .i64 w b1 (o2 + (x7).toNat * 1) fun i3 =>
      jnC (F133.k7 Q C4) ((x0.1, x0.2.1, x0.2.2), (x1), (x5.1, x5.2.1, x5.2.2), x6, (x7), (decide (i3 ≥ x1)), ()) w)
    (jnC (F133.k7 Q C4) ((x0.1, x0.2.1, x0.2.2), (x1), (x5.1, x5.2.1, x5.2.2), x6, (x7), false, ()) w))
  (vIf (!x6)
    (nw w ([Value.int .i64 x1] ++ []) 3 fun b22 w23 =>
      app w23 1 8 [Value.int .i64 0] 3 x5.1 x5.2.1 x5.2.2 (Value.slice (some ⟨b22, 0, none⟩) 1 1) fun A24 n25 c26 w27 =>
      Q (Value.slice A24 n25 c26) w27)
    (Q (Value.slice x5.1 x5.2.1 x5.2.2) w))
def F133.b4 (Q : Value → World → Prop) : ((Option Addr × Nat × Nat) × Int × (Option Addr × Nat × Nat) × Bool × Int × Unit) → World → (((Option Addr × Nat × Nat) × Int × (Option Addr × Nat × Nat) × Bool × Int × Unit) → World → Prop) → Prop := fun s w C4 => ∀ _ : Nat → Value, F133.b4c Q C4 s.1 s.2.1 s.2.2.1 s.2.2.2.1 s.2.2.2.2.1 w
def F133.l4 (Q : Value → World → Prop) : ((Option Addr × Nat × Nat) × Int × (Option Addr × Nat × Nat) × Bool × Int × Unit) → World → Prop := fun s w => ∃ n, loopC (F133.b4 Q) n s w
def F133.vc (x0A : Option Addr) (x0n x0c : Nat) (x1 : Int) (w : World) (Q : Value → World → Prop) : Prop :=
  jnC (F133.l4 Q) ((x0A, x0n, x0c), (x1), (none, 0, 0), false, (0), ()) w
def F133.an : Ann := ⟨[(4, [(0, .kSl), (1, .kI .i64), (5, .kSl), (6, .kB), (7, .kI .i64)])], [(7, [(0, .kSl), (1, .kI .i64), (5, .kSl), (6, .kB), (7, .kI .i64), (23, .kB)]), (10, [(0, .kSl), (1, .kI .i64), (5, .kSl), (6, .kB), (7, .kI .i64)])]⟩
theorem F133.of (x0A : Option Addr) (x0n x0c : Nat) (x1 : Int) (w : World) {Q : Value → World → Prop} (h : F133.vc x0A x0n x0c x1 w Q) : Calls Tryz.prog 133 #[Value.slice x0A x0n x0c, Value.int .i64 x1] w (fun e w' => ∃ v, e = .returned v ∧ Q v w') := vcFn_of (A := F133.an) noCount mixed h (by kernel_rfl)
/-! ### function 134: stillage/stillageref10.More -/
def F134.vc (x0 : List Value) (x1 : List Value) (w : World) (Q : Value → World → Prop) : Prop :=
  nw w x0 74 fun b1 w2 =>
  nw w2 x1 124 fun b3 w4 =>
  nw w4 [Value.slice none 0 0, Value.slice none 0 0] 74 fun b5 w6 =>
  ldSl w6 b1 (0 + 1) fun A7 n8 c9 =>
  app w6 3 40 [Value.bool false, Value.int .i64 0, Value.slice none 0 0] 124 none 0 0 (Value.slice A7 n8 c9) fun A10 n11 c12 w13 =>
  ldSl w13.drew b1 0 fun A14 n15 c16 =>
  ldA 3 w13.drew b3 0 fun a17 =>
  gd (a17.length == 3) <|
  nw w13.drew (a17 ++ []) 124 fun b18 w19 =>
  kp w13.drew b1 0 1 w19 <|
  app w19 3 40 [Value.bool false, Value.int .i64 0, Value.slice none 0 0] 124 A10 n11 c12 (Value.slice (some ⟨b18, 0, none⟩) 1 1) fun A20 n21 c22 w23 =>
  kp w13.drew b1 0 1 w23 <|
  gd (([Value.slice A14 n15 c16] ++ ([Value.slice A20 n21 c22] ++ [])).length == 2) <|
  st w23 b5 0 ([Value.slice A14 n15 c16] ++ ([Value.slice A20 n21 c22] ++ [])) fun w24 =>
  ldA 2 w24 b5 0 fun a25 =>
  Q (ofL a25) w24
def F134.an : Ann := ⟨[], []⟩
theorem F134.of (x0 : List Value) (x1 : List Value) (w : World) {Q : Value → World → Prop} (h : F134.vc x0 x1 w Q) : Calls Tryz.prog 134 #[ofL x0, ofL x1] w (fun e w' => ∃ v, e = .returned v ∧ Q v w') := vcFn_of (A := F134.an) noCount mixed h (by kernel_rfl)
/-! ### function 135: stillage/stillageref09.Right -/
def F135.vc (x0 : List Value) (w : World) (Q : Value → World → Prop) : Prop :=
  nw w x0 124 fun b1 w2 =>
  ldI .i64 w2 b1 (0 + 1) fun i3 =>
  vIf (decide (i3 ≥ 0))
  (ldI .i64 w2 b1 (0 + 1) fun i4 =>
    ldSl w2 b1 (0 + 2) fun A5 n6 c7 =>
    Q (Value.bool (decide (i4 ≤ (IntKind.wrap .i64 (1048576 - ((n6 : Nat) : Int)))))) w2)
  (Q (Value.bool false) w2)
def F135.an : Ann := ⟨[], []⟩
theorem F135.of (x0 : List Value) (w : World) {Q : Value → World → Prop} (h : F135.vc x0 w Q) : Calls Tryz.prog 135 #[ofL x0] w (fun e w' => ∃ v, e = .returned v ∧ Q v w') := vcFn_of (A := F135.an) noCount mixed h (by kernel_rfl)
/-! ### function 136: slices.stableCmpFunc[stillage/api.Named] -/
def F136s.b9c (Q : Value → World → Prop) (C7 : ((Option Addr × Nat × Nat) × Int × Unit × Int × Unit) → World → Prop) (C9 : ((Option Addr × Nat × Nat) × Int × Unit × Int × Int × Int × Unit) → World → Prop) (x0 : (Option Addr × Nat × Nat)) (x1 : Int) (x2 : Unit) (x6 : Int) (x7 : Int) (x8 : Int) (w : World) : Prop :=
  vIf (decide (x8 ≤ x1))
  (Calls Tryz.prog 147 #[Value.slice x0.1 x0.2.1 x0.2.2, Value.int .i64 x7, Value.int .i64 (IntKind.wrap .i64 (x7 + x6)), Value.int .i64 x8, Value.func (.func 114) #[] #[]] w fun e6 w5 =>
    e6 = .returned (Value.tuple #[]) ∧ (
      jnC C9 ((x0.1, x0.2.1, x0.2.2), (x1), (), (x6), (x8), ((IntKind.wrap .i64 (x8 + (IntKind.wrap .i64 (2 * x6))))), ()) w5))
  (vIf (decide ((IntKind.wrap .i64 (x7 + x6)) < x1))
    (Calls Tryz.prog 147 #[Value.slice x0.1 x0.2.1 x0.2.2, Value.int .i64 x7, Value.int .i64 (IntKind.wrap .i64 (x7 + x6)), Value.int .i64 x1, Value.func (.func 114) #[] #[]] w fun e8 w7 =>
      e8 = .returned (Value.tuple #[]) ∧ (
        jnC C7 ((x0.1, x0.2.1, x0.2.2), (x1), (), ((IntKind.wrap .i64 (x6 * 2))), ()) w7))
    (jnC C7 ((x0.1, x0.2.1, x0.2.2), (x1), (), ((IntKind.wrap .i64 (x6 * 2))), ()) w))
def F136s.b9 (Q : Value → World → Prop) (C7 : ((Option Addr × Nat × Nat) × Int × Unit × Int × Unit) → World → Prop) : ((Option Addr × Nat × Nat) × Int × Unit × Int × Int × Int × Unit) → World → (((Option Addr × Nat × Nat) × Int × Unit × Int × Int × Int × Unit) → World → Prop) → Prop := fun s w C9 => ∀ _ : Nat → Value, F136s.b9c Q C7 C9 s.1 s.2.1 s.2.2.1 s.2.2.2.1 s.2.2.2.2.1 s.2.2.2.2.2.1 w
def F136s.l9 (Q : Value → World → Prop) (C7 : ((Option Addr × Nat × Nat) × Int × Unit × Int × Unit) → World → Prop) : ((Option Addr × Nat × Nat) × Int × Unit × Int × Int × Int × Unit) → World → Prop := fun s w => ∃ n, loopC (F136s.b9 Q C7) n s w
def F136s.b7c (Q : Value → World → Prop) (C7 : ((Option Addr × Nat × Nat) × Int × Unit × Int × Unit) → World → Prop) (x0 : (Option Addr × Nat × Nat)) (x1 : Int) (x2 : Unit) (x6 : Int) (w : World) : Prop :=
  vIf (decide (x6 < x1))
  (jnC (F136s.l9 Q C7) ((x0.1, x0.2.1, x0.2.2), (x1), (), (x6), (0), ((IntKind.wrap .i64 (2 * x6))), ()) w)
  (Q (Value.tuple #[]) w)
def F136s.b7 (Q : Value → World → Prop) : ((Option Addr × Nat × Nat) × Int × Unit × Int × Unit) → World → (((Option Addr × Nat × Nat) × Int × Unit × Int × Unit) → World → Prop) → Prop := fun s w C7 => ∀ _ : Nat → Value, F136s.b7c Q C7 s.1 s.2.1 s.2.2.1 s.2.2.2.1 w
def F136s.l7 (Q : Value → World → Prop) : ((Option Addr × Nat × Nat) × Int × Unit × Int × Unit) → World → Prop := fun s w => ∃ n, loopC (F136s.b7 Q) n s w
def F136s.b2c (Q : Value → World → Prop) (C2 : ((Option Addr × Nat × Nat) × Int × Unit × Int × Int × Int × Unit) → World → Prop) (x0 : (Option Addr × Nat × Nat)) (x1 : Int) (x2 : Unit) (x6 : Int) (x7 : Int) (x8 : Int) (w : World) : Prop :=
  vIf (decide (x8 ≤ x1))
  (Calls Tryz.prog 146 #[Value.slice x0.1 x0.2.1 x0.2.2, Value.int .i64 x7, Value.int .i64 x8, Value.func (.func 114) #[] #[]] w fun e2 w1 =>
    e2 = .returned (Value.tuple #[]) ∧ (
      jnC C2 ((x0.1, x0.2.1, x0.2.2), (x1), (), (x6), (x8), ((IntKind.wrap .i64 (x8 + x6))), ()) w1))
  (Calls Tryz.prog 146 #[Value.slice x0.1 x0.2.1 x0.2.2, Value.int .i64 x7, Value.int .i64 x1, Value.func (.func 114) #[] #[]] w fun e4 w3 =>
    e4 = .returned (Value.tuple #[]) ∧ (
      jnC (F136s.l7 Q) ((x0.1, x0.2.1, x0.2.2), (x1), (), (x6), ()) w3))
def F136s.b2 (Q : Value → World → Prop) : ((Option Addr × Nat × Nat) × Int × Unit × Int × Int × Int × Unit) → World → (((Option Addr × Nat × Nat) × Int × Unit × Int × Int × Int × Unit) → World → Prop) → Prop := fun s w C2 => ∀ _ : Nat → Value, F136s.b2c Q C2 s.1 s.2.1 s.2.2.1 s.2.2.2.1 s.2.2.2.2.1 s.2.2.2.2.2.1 w
def F136s.l2 (Q : Value → World → Prop) : ((Option Addr × Nat × Nat) × Int × Unit × Int × Int × Int × Unit) → World → Prop := fun s w => ∃ n, loopC (F136s.b2 Q) n s w
def F136s.vc (x0A : Option Addr) (x0n x0c : Nat) (x1 : Int) (w : World) (Q : Value → World → Prop) : Prop :=
  jnC (F136s.l2 Q) ((x0A, x0n, x0c), (x1), (), (20), (0), (20), ()) w
def F136s.an : Ann := ⟨[(2, [(0, .kSl), (1, .kI .i64), (2, .kF 114), (6, .kI .i64), (7, .kI .i64), (8, .kI .i64)]), (7, [(0, .kSl), (1, .kI .i64), (2, .kF 114), (6, .kI .i64)]), (9, [(0, .kSl), (1, .kI .i64), (2, .kF 114), (6, .kI .i64), (7, .kI .i64), (8, .kI .i64)])], []⟩
theorem F136s.of (x0A : Option Addr) (x0n x0c : Nat) (x1 : Int) (w : World) {Q : Value → World → Prop} (h : F136s.vc x0A x0n x0c x1 w Q) : Calls Tryz.prog 136 #[Value.slice x0A x0n x0c, Value.int .i64 x1, Value.func (.func 114) #[] #[]] w (fun e w' => ∃ v, e = .returned v ∧ Q v w') := vcFn_of (A := F136s.an) noCount mixed h (by kernel_rfl)
/-! ### function 137: slices.Insert[[]stillage/api.Named,stillage/api.Named] -/
def F137.vc (x0A : Option Addr) (x0n x0c : Nat) (x1 : Int) (x2A : Option Addr) (x2n x2c : Nat) (w : World) (Q : Value → World → Prop) : Prop :=
  gd (decide (0 ≤ x1)) <|
  gd (decide (x1 ≤ ((x0n : Nat) : Int))) <|
  vIf (((x2n : Nat) : Int) == 0)
  (Q (Value.slice x0A x0n x0c) w)
  (vIf (x1 == ((x0n : Nat) : Int))
    (app w 2 24 [Value.string (⟨#[]⟩ : ByteArray), Value.int .i64 0] 94 x0A x0n x0c (Value.slice x2A x2n x2c) fun A1 n2 c3 w4 =>
      Q (Value.slice A1 n2 c3) w4)
    (vIf (decide ((IntKind.wrap .i64 (((x0n : Nat) : Int) + ((x2n : Nat) : Int))) > ((x0c : Nat) : Int)))
      (gd (decide (0 ≤ x1)) <|
        gd (decide (x1 ≤ ((x0c : Nat) : Int))) <|
        appZ w 2 24 [Value.string (⟨#[]⟩ : ByteArray), Value.int .i64 0] 94 (slA x0A x0c 0 2) ((x1).toNat) x0c (IntKind.wrap .i64 ((IntKind.wrap .i64 (((x0n : Nat) : Int) + ((x2n : Nat) : Int))) - x1)) fun A5 n6 c7 w8 =>
        gd (decide (0 ≤ x1)) <|
        gd (decide (x1 ≤ ((n6 : Nat) : Int))) <|
        cpy w8 2 (slA A5 c7 (x1).toNat 2) (n6 - (x1).toNat) (Value.slice x2A x2n x2c) fun n9 w10 =>
        gd (decide (0 ≤ (IntKind.wrap .i64 (x1 + ((x2n : Nat) : Int))))) <|
        gd (decide ((IntKind.wrap .i64 (x1 + ((x2n : Nat) : Int))) ≤ ((n6 : Nat) : Int))) <|
        gd (decide (0 ≤ x1)) <|
        gd (decide (x1 ≤ ((x0n : Nat) : Int))) <|
        cpy w10.drew 2 (slA A5 c7 ((IntKind.wrap .i64 (x1 + ((x2n : Nat) : Int)))).toNat 2) (n6 - ((IntKind.wrap .i64 (x1 + ((x2n : Nat) : Int)))).toNat) (Value.slice (slA x0A x0c (x1).toNat 2) (x0n - (x1).toNat) (x0c - (x1).toNat)) fun n11 w12 =>
        Q (Value.slice A5 n6 c7) w12)
      (gd (decide (0 ≤ (IntKind.wrap .i64 (((x0n : Nat) : Int) + ((x2n : Nat) : Int))))) <|
        gd (decide ((IntKind.wrap .i64 (((x0n : Nat) : Int) + ((x2n : Nat) : Int))) ≤ ((x0c : Nat) : Int))) <|
        gd (decide (0 ≤ (IntKind.wrap .i64 (x1 + ((x2n : Nat) : Int))))) <|
        gd (decide ((IntKind.wrap .i64 (x1 + ((x2n : Nat) : Int))) ≤ ((((IntKind.wrap .i64 (((x0n : Nat) : Int) + ((x2n : Nat) : Int)))).toNat : Nat) : Int))) <|
        extC Tryz.prog 148 #[Value.slice x2A x2n x2c, Value.slice (slA (slA x0A x0c 0 2) x0c ((IntKind.wrap .i64 (x1 + ((x2n : Nat) : Int)))).toNat 2) (((IntKind.wrap .i64 (((x0n : Nat) : Int) + ((x2n : Nat) : Int)))).toNat - ((IntKind.wrap .i64 (x1 + ((x2n : Nat) : Int)))).toNat) (x0c - ((IntKind.wrap .i64 (x1 + ((x2n : Nat) : Int)))).toNat)] w fun v15 w13 =>
        ∃ t16 : Bool, v15 = Value.bool t16 ∧ (
          vIf (!t16)
          (gd (decide (0 ≤ (IntKind.wrap .i64 (x1 + ((x2n : Nat) : Int))))) <|
            gd (decide ((IntKind.wrap .i64 (x1 + ((x2n : Nat) : Int))) ≤ ((((IntKind.wrap .i64 (((x0n : Nat) : Int) + ((x2n : Nat) : Int)))).toNat : Nat) : Int))) <|
            gd (decide (0 ≤ x1)) <|
            gd (decide (x1 ≤ ((((IntKind.wrap .i64 (((x0n : Nat) : Int) + ((x2n : Nat) : Int)))).toNat : Nat) : Int))) <|
            cpy w13.drew 2 (slA (slA x0A x0c 0 2) x0c ((IntKind.wrap .i64 (x1 + ((x2n : Nat) : Int)))).toNat 2) (((IntKind.wrap .i64 (((x0n : Nat) : Int) + ((x2n : Nat) : Int)))).toNat - ((IntKind.wrap .i64 (x1 + ((x2n : Nat) : Int)))).toNat) (Value.slice (slA (slA x0A x0c 0 2) x0c (x1).toNat 2) (((IntKind.wrap .i64 (((x0n : Nat) : Int) + ((x2n : Nat) : Int)))).toNat - (x1).toNat) (x0c - (x1).toNat)) fun n17 w18 =>
            gd (decide (0 ≤ x1)) <|
            gd (decide (x1 ≤ ((((IntKind.wrap .i64 (((x0n : Nat) : Int) + ((x2n : Nat) : Int)))).toNat : Nat) : Int))) <|
            cpy w18 2 (slA (slA x0A x0c 0 2) x0c (x1).toNat 2) (((IntKind.wrap .i64 (((x0n : Nat) : Int) + ((x2n : Nat) : Int)))).toNat - (x1).toNat) (Value.slice x2A x2n x2c) fun n19 w20 =>
            Q (Value.slice (slA x0A x0c 0 2) ((IntKind.wrap .i64 (((x0n : Nat) : Int) + ((x2n : Nat) : Int)))).toNat x0c) w20)
          (gd (decide (0 ≤ ((x0n : Nat) : Int))) <|
            gd (decide (((x0n : Nat) : Int) ≤ ((((IntKind.wrap .i64 (((x0n : Nat) : Int) + ((x2n : Nat) : Int)))).toNat : Nat) : Int))) <|
            cpy w13 2 (slA (slA x0A x0c 0 2) x0c (((x0n : Nat) : Int)).toNat 2) (((IntKind.wrap .i64 (((x0n : Nat) : Int) + ((x2n : Nat) : Int)))).toNat - (((x0n : Nat) : Int)).toNat) (Value.slice x2A x2n x2c) fun n21 w22 =>
            gd (decide (0 ≤ x1)) <|
            gd (decide (x1 ≤ ((((IntKind.wrap .i64 (((x0n : Nat) : Int) + ((x2n : Nat) : Int)))).toNat : Nat) : Int))) <|
            Calls Tryz.prog 149 #[Value.slice (slA (slA x0A x0c 0 2) x0c (x1).toNat 2) (((IntKind.wrap .i64 (((x0n : Nat) : Int) + ((x2n : Nat) : Int)))).toNat - (x1).toNat) (x0c - (x1).toNat), Value.int .i64 ((x2n : Nat) : Int)] w22 fun e24 w23 =>
            e24 = .returned (Value.tuple #[]) ∧ (
              Q (Value.slice (slA x0A x0c 0 2) ((IntKind.wrap .i64 (((x0n : Nat) : Int) + ((x2n : Nat) : Int)))).toNat x0c) w23))))))
def F137.an : Ann := ⟨[], []⟩
theorem F137.of (x0A : Option Addr) (x0n x0c : Nat) (x1 : Int) (x2A : Option Addr) (x2n x2c : Nat) (w : World) {Q : Value → World → Prop} (h : F137.vc x0A x0n x0c x1 x2A x2n x2c w Q) : Calls Tryz.prog 137 #[Value.slice x0A x0n x0c, Value.int .i64 x1, Value.slice x2A x2n x2c] w (fun e w' => ∃ v, e = .returned v ∧ Q v w') := vcFn_of (A := F137.an) noCount mixed h (by kernel_rfl)
/-! ### function 138: slices.Delete[[]stillage/api.Named,stillage/api.Named] -/
def F138.vc (x0A : Option Addr) (x0n x0c : Nat) (x1 : Int) (x2 : Int) (w : World) (Q : Value → World → Prop) : Prop :=
  gd (decide (0 ≤ ((x0n : Nat) : Int))) <|
  gd (decide (((x0n : Nat) : Int) ≤ ((x0c : Nat) : Int))) <|
  gd (decide (0 ≤ x2)) <|
  gd (decide (x2 ≤ (((((x0n : Nat) : Int)).toNat : Nat) : Int))) <|
  gd (decide (0 ≤ x1)) <|
  gd (decide (x1 ≤ (((x2).toNat : Nat) : Int))) <|
  vIf (x1 == x2)
  (Q (Value.slice x0A x0n x0c) w)
  (gd (decide (0 ≤ x1)) <|
    gd (decide (x1 ≤ ((x0c : Nat) : Int))) <|
    gd (decide (0 ≤ x2)) <|
    gd (decide (x2 ≤ ((x0n : Nat) : Int))) <|
    app w.drew 2 24 [Value.string (⟨#[]⟩ : ByteArray), Value.int .i64 0] 94 (slA x0A x0c 0 2) ((x1).toNat) x0c (Value.slice (slA x0A x0c (x2).toNat 2) (x0n - (x2).toNat) (x0c - (x2).toNat)) fun A1 n2 c3 w4 =>
    gd (decide (0 ≤ ((x0n : Nat) : Int))) <|
    gd (decide (((x0n : Nat) : Int) ≤ ((c3 : Nat) : Int))) <|
    gd (decide (0 ≤ ((n2 : Nat) : Int))) <|
    gd (decide (((n2 : Nat) : Int) ≤ (((((x0n : Nat) : Int)).toNat : Nat) : Int))) <|
    vIf (((((x0n : Nat) : Int)).toNat - (((n2 : Nat) : Int)).toNat) == 0)
    (Q (Value.slice A1 n2 c3) w4)
    (dr (slA A1 c3 (((n2 : Nat) : Int)).toNat 2) fun b6 o7 =>
      st w4 b6 o7 (zeros ((((x0n : Nat) : Int)).toNat - (((n2 : Nat) : Int)).toNat) [Value.string (⟨#[]⟩ : ByteArray), Value.int .i64 0]) fun w5 =>
      Q (Value.slice A1 n2 c3) w5))
def F138.an : Ann := ⟨[], []⟩
theorem F138.of (x0A : Option Addr) (x0n x0c : Nat) (x1 : Int) (x2 : Int) (w : World) {Q : Value → World → Prop} (h : F138.vc x0A x0n x0c x1 x2 w Q) : Calls Tryz.prog 138 #[Value.slice x0A x0n x0c, Value.int .i64 x1, Value.int .i64 x2] w (fun e w' => ∃ v, e = .returned v ∧ Q v w') := vcFn_of (A := F138.an) noCount mixed h (by kernel_rfl)
/-! ### function 146: slices.insertionSortCmpFunc[stillage/api.Named] -/
def F146s.k6c (Q : Value → World → Prop) (C1 : ((Option Addr × Nat × Nat) × Int × Int × Unit × Int × Unit) → World → Prop) (C4 : ((Option Addr × Nat × Nat) × Int × Int × Unit × Int × Int × Unit) → World → Prop) (x0 : (Option Addr × Nat × Nat)) (x1 : Int) (x2 : Int) (x3 : Unit) (x8 : Int) (x9 : Int) (w : World) : Prop :=
  dr x0.1 fun b10 o11 =>
  gd (decide (0 ≤ (IntKind.wrap .i64 (x9 - 1)))) <|
  gd (decide ((IntKind.wrap .i64 (x9 - 1)) < ((x0.2.1 : Nat) : Int))) <|
  ldA 2 w.drew b10 (o11 + ((IntKind.wrap .i64 (x9 - 1))).toNat * 2) fun a12 =>
  dr x0.1 fun b13 o14 =>
  gd (decide (0 ≤ x9)) <|
  gd (decide (x9 < ((x0.2.1 : Nat) : Int))) <|
  ldA 2 w.drew b13 (o14 + (x9).toNat * 2) fun a15 =>
  dr x0.1 fun b16 o17 =>
  gd (decide (0 ≤ x9)) <|
  gd (decide (x9 < ((x0.2.1 : Nat) : Int))) <|
  gd (a12.length == 2) <|
  st w.drew b16 (o17 + (x9).toNat * 2) a12 fun w18 =>
  dr x0.1 fun b19 o20 =>
  gd (decide (0 ≤ (IntKind.wrap .i64 (x9 - 1)))) <|
  gd (decide ((IntKind.wrap .i64 (x9 - 1)) < ((x0.2.1 : Nat) : Int))) <|
  gd (a15.length == 2) <|
  st w18 b19 (o20 + ((IntKind.wrap .i64 (x9 - 1))).toNat * 2) a15 fun w21 =>
  jnC C4 ((x0.1, x0.2.1, x0.2.2), (x1), (x2), (), (x8), ((IntKind.wrap .i64 (x9 - 1))), ()) w21
def F146s.k6 (Q : Value → World → Prop) (C1 : ((Option Addr × Nat × Nat) × Int × Int × Unit × Int × Unit) → World → Prop) (C4 : ((Option Addr × Nat × Nat) × Int × Int × Unit × Int × Int × Unit) → World → Prop) : ((Option Addr × Nat × Nat) × Int × Int × Unit × Int × Int × Unit) → World → Prop := fun s w => ∀ _ : Nat → Value, F146s.k6c Q C1 C4 s.1 s.2.1 s.2.2.1 s.2.2.2.1 s.2.2.2.2.1 s.2.2.2.2.2.1 w
def F146s.b4c (Q : Value → World → Prop) (C1 : ((Option Addr × Nat × Nat) × Int × Int × Unit × Int × Unit) → World → Prop) (C4 : ((Option Addr × Nat × Nat) × Int × Int × Unit × Int × Int × Unit) → World → Prop) (x0 : (Option Addr × Nat × Nat)) (x1 : Int) (x2 : Int) (x3 : Unit) (x8 : Int) (x9 : Int) (w : World) : Prop :=
  vIf (decide (x9 > x1))
  (dr x0.1 fun b1 o2 =>
    gd (decide (0 ≤ x9)) <|
    gd (decide (x9 < ((x0.2.1 : Nat) : Int))) <|
    ldA 2 w.drew b1 (o2 + (x9).toNat * 2) fun a3 =>
    dr x0.1 fun b4 o5 =>
    gd (decide (0 ≤ (IntKind.wrap .i64 (x9 - 1)))) <|
    gd (decide ((IntKind.wrap .i64 (x9 - 1)) < ((x0.2.1 : Nat) : Int))) <|
    ldA 2 w.drew b4 (o5 + ((IntKind.wrap .i64 (x9 - 1))).toNat * 2) fun a6 =>
    Calls Tryz.prog 114 #[ofL a3, ofL a6] w.drew fun e8 w7 =>
    ∃ i9 : Int, e8 = .returned (Value.int .i64 i9) ∧ (
      vIf (decide (i9 < 0))
      (jnC (F146s.k6 Q C1 C4) ((x0.1, x0.2.1, x0.2.2), (x1), (x2), (), (x8), (x9), ()) w7)
      (jnC C1 ((x0.1, x0.2.1, x0.2.2), (x1), (x2), (), ((IntKind.wrap .i64 (x8 + 1))), ()) w7)))
  (jnC C1 ((x0.1, x0.2.1, x0.2.2), (x1), (x2), (), ((IntKind.wrap .i64 (x8 + 1))), ()) w.drew)
def F146s.b4 (Q : Value → World → Prop) (C1 : ((Option Addr × Nat × Nat) × Int × Int × Unit × Int × Unit) → World → Prop) : ((Option Addr × Nat × Nat) × Int × Int × Unit × Int × Int × Unit) → World → (((Option Addr × Nat × Nat) × Int × Int × Unit × Int × Int × Unit) → World → Prop) → Prop := fun s w C4 => ∀ _ : Nat → Value, F146s.b4c Q C1 C4 s.1 s.2.1 s.2.2.1 s.2.2.2.1 s.2.2.2.2.1 s.2.2.2.2.2.1 w
def F146s.l4 (Q : Value → World → Prop) (C1 : ((Option Addr × Nat × Nat) × Int × Int × Unit × Int × Unit) → World → Prop) : ((Option Addr × Nat × Nat) × Int × Int × Unit × Int × Int × Unit) → World → Prop := fun s w => ∃ n, loopC (F146s.b4 Q C1) n s w
def F146s.b1c (Q : Value → World → Prop) (C1 : ((Option Addr × Nat × Nat) × Int × Int × Unit × Int × Unit) → World → Prop) (x0 : (Option Addr × Nat × Nat)) (x1 : Int) (x2 : Int) (x3 : Unit) (x8 : Int) (w : World) : Prop :=
  vIf (decide (x8 < x2))
  (jnC (F146s.l4 Q C1) ((x0.1, x0.2.1, x0.2.2), (x1), (x2), (), (x8), (x8), ()) w)
  (Q (Value.tuple #[]) w)
def F146s.b1 (Q : Value → World → Prop) : ((Option Addr × Nat × Nat) × Int × Int × Unit × Int × Unit) → World → (((Option Addr × Nat × Nat) × Int × Int × Unit × Int × Unit) → World → Prop) → Prop := fun s w C1 => ∀ _ : Nat → Value, F146s.b1c Q C1 s.1 s.2.1 s.2.2.1 s.2.2.2.1 s.2.2.2.2.1 w
def F146s.l1 (Q : Value → World → Prop) : ((Option Addr × Nat × Nat) × Int × Int × Unit × Int × Unit) → World → Prop := fun s w => ∃ n, loopC (F146s.b1 Q) n s w
def F146s.vc (x0A : Option Addr) (x0n x0c : Nat) (x1 : Int) (x2 : Int) (w : World) (Q : Value → World → Prop) : Prop :=
  jnC (F146s.l1 Q) ((x0A, x0n, x0c), (x1), (x2), (), ((IntKind.wrap .i64 (x1 + 1))), ()) w
def F146s.an : Ann := ⟨[(1, [(0, .kSl), (1, .kI .i64), (2, .kI .i64), (3, .kF 114), (8, .kI .i64)]), (4, [(0, .kSl), (1, .kI .i64), (2, .kI .i64), (3, .kF 114), (8, .kI .i64), (9, .kI .i64)])], [(6, [(0, .kSl), (1, .kI .i64), (2, .kI .i64), (3, .kF 114), (8, .kI .i64), (9, .kI .i64)])]⟩
theorem F146s.of (x0A : Option Addr) (x0n x0c : Nat) (x1 : Int) (x2 : Int) (w : World) {Q : Value → World → Prop} (h : F146s.vc x0A x0n x0c x1 x2 w Q) : Calls Tryz.prog 146 #[Value.slice x0A x0n x0c, Value.int .i64 x1, Value.int .i64 x2, Value.func (.func 114) #[] #[]] w (fun e w' => ∃ v, e = .returned v ∧ Q v w') := vcFn_of (A := F146s.an) noCount mixed h (by kernel_rfl)
/-! ### function 147: slices.symMergeCmpFunc[stillage/api.Named] -/
def F147s.b9c (Q : Value → World → Prop) (C9 : ((Option Addr × Nat × Nat) × Int × Int × Unit) → World → Prop) (x0 : (Option Addr × Nat × Nat)) (x10 : Int) (x13 : Int) (w : World) : Prop :=
  vIf (decide (x13 < (IntKind.wrap .i64 (x10 - 1))))
  (dr x0.1 fun b10 o11 =>
    gd (decide (0 ≤ (IntKind.wrap .i64 (x13 + 1)))) <|
    gd (decide ((IntKind.wrap .i64 (x13 + 1)) < ((x0.2.1 : Nat) : Int))) <|
    ldA 2 w.drew b10 (o11 + ((IntKind.wrap .i64 (x13 + 1))).toNat * 2) fun a12 =>
    dr x0.1 fun b13 o14 =>
    gd (decide (0 ≤ x13)) <|
    gd (decide (x13 < ((x0.2.1 : Nat) : Int))) <|
    ldA 2 w.drew b13 (o14 + (x13).toNat * 2) fun a15 =>
    dr x0.1 fun b16 o17 =>
    gd (decide (0 ≤ x13)) <|
    gd (decide (x13 < ((x0.2.1 : Nat) : Int))) <|
    gd (a12.length == 2) <|
    st w.drew b16 (o17 + (x13).toNat * 2) a12 fun w18 =>
    dr x0.1 fun b19 o20 =>
    gd (decide (0 ≤ (IntKind.wrap .i64 (x13 + 1)))) <|
    gd (decide ((IntKind.wrap .i64 (x13 + 1)) < ((x0.2.1 : Nat) : Int))) <|
    gd (a15.length == 2) <|
    st w18 b19 (o20 + ((IntKind.wrap .i64 (x13 + 1))).toNat * 2) a15 fun w21 =>
    jnC C9 ((x0.1, x0.2.1, x0.2.2), (x10), ((IntKind.wrap .i64 (x13 + 1))), ()) w21)
  (Q (Value.tuple #[]) w)
def F147s.b9 (Q : Value → World → Prop) : ((Option Addr × Nat × Nat) × Int × Int × Unit) → World → (((Option Addr × Nat × Nat) × Int × Int × Unit) → World → Prop) → Prop := fun s w C9 => ∀ _ : Nat → Value, F147s.b9c Q C9 s.1 s.2.1 s.2.2.1 w
def F147s.l9 (Q : Value → World → Prop) : ((Option Addr × Nat × Nat) × Int × Int × Unit) → World → Prop := fun s w => ∃ n, loopC (F147s.b9 Q) n s w
def F147s.b3c (Q : Value → World → Prop) (C3 : ((Option Addr × Nat × Nat) × Int × Unit × Int × Int × Unit) → World → Prop) (x0 : (Option Addr × Nat × Nat)) (x1 : Int) (x4 : Unit) (x10 : Int) (x11 : Int) (w : World) : Prop :=
  vIf (decide (x10 < x11))
  (dr x0.1 fun b1 o2 =>
    gd (decide (0 ≤ (IntKind.wrap .i64 (Int.fdiv (IntKind.wrap .u64 (IntKind.wrap .i64 (x10 + x11))) (2 ^ 1))))) <|
    gd (decide ((IntKind.wrap .i64 (Int.fdiv (IntKind.wrap .u64 (IntKind.wrap .i64 (x10 + x11))) (2 ^ 1))) < ((x0.2.1 : Nat) : Int))) <|
    ldA 2 w.drew b1 (o2 + ((IntKind.wrap .i64 (Int.fdiv (IntKind.wrap .u64 (IntKind.wrap .i64 (x10 + x11))) (2 ^ 1)))).toNat * 2) fun a3 =>
    dr x0.1 fun b4 o5 =>
    gd (decide (0 ≤ x1)) <|
    gd (decide (x1 < ((x0.2.1 : Nat) : Int))) <|
    ldA 2 w.drew b4 (o5 + (x1).toNat * 2) fun a6 =>
    Calls Tryz.prog 114 #[ofL a3, ofL a6] w.drew fun e8 w7 =>
    ∃ i9 : Int, e8 = .returned (Value.int .i64 i9) ∧ (
      vIf (decide (i9 < 0))
      (jnC C3 ((x0.1, x0.2.1, x0.2.2), (x1), (), ((IntKind.wrap .i64 ((IntKind.wrap .i64 (Int.fdiv (IntKind.wrap .u64 (IntKind.wrap .i64 (x10 + x11))) (2 ^ 1))) + 1))), (x11), ()) w7)
      (jnC C3 ((x0.1, x0.2.1, x0.2.2), (x1), (), (x10), ((IntKind.wrap .i64 (Int.fdiv (IntKind.wrap .u64 (IntKind.wrap .i64 (x10 + x11))) (2 ^ 1)))), ()) w7)))
  (jnC (F147s.l9 Q) ((x0.1, x0.2.1, x0.2.2), (x10), (x1), ()) w)
def F147s.b3 (Q : Value → World → Prop) : ((Option Addr × Nat × Nat) × Int × Unit × Int × Int × Unit) → World → (((Option Addr × Nat × Nat) × Int × Unit × Int × Int × Unit) → World → Prop) → Prop := fun s w C3 => ∀ _ : Nat → Value, F147s.b3c Q C3 s.1 s.2.1 s.2.2.1 s.2.2.2.1 s.2.2.2.2.1 w
def F147s.l3 (Q : Value → World → Prop) : ((Option Addr × Nat × Nat) × Int × Unit × Int × Int × Unit) → World → Prop := fun s w => ∃ n, loopC (F147s.b3 Q) n s w
def F147s.b21c (Q : Value → World → Prop) (C21 : ((Option Addr × Nat × Nat) × Int × Int × Unit) → World → Prop) (x0 : (Option Addr × Nat × Nat)) (x14 : Int) (x17 : Int) (w : World) : Prop :=
  vIf (decide (x17 > x14))
  (dr x0.1 fun b31 o32 =>
    gd (decide (0 ≤ (IntKind.wrap .i64 (x17 - 1)))) <|
    gd (decide ((IntKind.wrap .i64 (x17 - 1)) < ((x0.2.1 : Nat) : Int))) <|
    ldA 2 w.drew b31 (o32 + ((IntKind.wrap .i64 (x17 - 1))).toNat * 2) fun a33 =>
    dr x0.1 fun b34 o35 =>
    gd (decide (0 ≤ x17)) <|
    gd (decide (x17 < ((x0.2.1 : Nat) : Int))) <|
    ldA 2 w.drew b34 (o35 + (x17).toNat * 2) fun a36 =>
    dr x0.1 fun b37 o38 =>
    gd (decide (0 ≤ x17)) <|
    gd (decide (x17 < ((x0.2.1 : Nat) : Int))) <|
    gd (a33.length == 2) <|
    st w.drew b37 (o38 + (x17).toNat * 2) a33 fun w39 =>
    dr x0.1 fun b40 o41 =>
    gd (decide (0 ≤ (IntKind.wrap .i64 (x17 - 1)))) <|
    gd (decide ((IntKind.wrap .i64 (x17 - 1)) < ((x0.2.1 : Nat) : Int))) <|
    gd (a36.length == 2) <|
    st w39 b40 (o41 + ((IntKind.wrap .i64 (x17 - 1))).toNat * 2) a36 fun w42 =>
    jnC C21 ((x0.1, x0.2.1, x0.2.2), (x14), ((IntKind.wrap .i64 (x17 - 1))), ()) w42)
  (Q (Value.tuple #[]) w)
def F147s.b21 (Q : Value → World → Prop) : ((Option Addr × Nat × Nat) × Int × Int × Unit) → World → (((Option Addr × Nat × Nat) × Int × Int × Unit) → World → Prop) → Prop := fun s w C21 => ∀ _ : Nat → Value, F147s.b21c Q C21 s.1 s.2.1 s.2.2.1 w
def F147s.l21 (Q : Value → World → Prop) : ((Option Addr × Nat × Nat) × Int × Int × Unit) → World → Prop := fun s w => ∃ n, loopC (F147s.b21 Q) n s w
def F147s.b15c (Q : Value → World → Prop) (C15 : ((Option Addr × Nat × Nat) × Int × Unit × Int × Int × Unit) → World → Prop) (x0 : (Option Addr × Nat × Nat)) (x2 : Int) (x4 : Unit) (x14 : Int) (x15 : Int) (w : World) : Prop :=
  vIf (decide (x14 < x15))
  (dr x0.1 fun b22 o23 =>
    gd (decide (0 ≤ x2)) <|
    gd (decide (x2 < ((x0.2.1 : Nat) : Int))) <|
    ldA 2 w.drew b22 (o23 + (x2).toNat * 2) fun a24 =>
    dr x0.1 fun b25 o26 =>
    gd (decide (0 ≤ (IntKind.wrap .i64 (Int.fdiv (IntKind.wrap .u64 (IntKind.wrap .i64 (x14 + x15))) (2 ^ 1))))) <|
    gd (decide ((IntKind.wrap .i64 (Int.fdiv (IntKind.wrap .u64 (IntKind.wrap .i64 (x14 + x15))) (2 ^ 1))) < ((x0.2.1 : Nat) : Int))) <|
    ldA 2 w.drew b25 (o26 + ((IntKind.wrap .i64 (Int.fdiv (IntKind.wrap .u64 (IntKind.wrap .i64 (x14 + x15))) (2 ^ 1)))).toNat * 2) fun a27 =>
    Calls Tryz.prog 114 #[ofL a24, ofL a27] w.drew fun e29 w28 =>
    ∃ i30 : Int, e29 = .returned (Value.int .i64 i30) ∧ (
      vIf (!(decide (i30 < 0)))
      (jnC C15 ((x0.1, x0.2.1, x0.2.2), (x2), (), ((IntKind.wrap .i64 ((IntKind.wrap .i64 (Int.fdiv (IntKind.wrap .u64 (IntKind.wrap .i64 (x14 + x15))) (2 ^ 1))) + 1))), (x15), ()) w28)
      (jnC C15 ((x0.1, x0.2.1, x0.2.2), (x2), (), (x14), ((IntKind.wrap .i64 (Int.fdiv (IntKind.wrap .u64 (IntKind.wrap .i64 (x14 + x15))) (2 ^ 1)))), ()) w28)))
  (jnC (F147s.l21 Q) ((x0.1, x0.2.1, x0.2.2), (x14), (x2), ()) w)
def F147s.b15 (Q : Value → World → Prop) : ((Option Addr × Nat × Nat) × Int × Unit × Int × Int × Unit) → World → (((Option Addr × Nat × Nat) × Int × Unit × Int × Int × Unit) → World → Prop) → Prop := fun s w C15 => ∀ _ : Nat → Value, F147s.b15c Q C15 s.1 s.2.1 s.2.2.1 s.2.2.2.1 s.2.2.2.2.1 w
def F147s.l15 (Q : Value → World → Prop) : ((Option Addr × Nat × Nat) × Int × Unit × Int × Int × Unit) → World → Prop := fun s w => ∃ n, loopC (F147s.b15 Q) n s w
def F147s.k44c (Q : Value → World → Prop) (x0 : (Option Addr × Nat × Nat)) (x3 : Int) (x4 : Unit) (x18 : Int) (x24 : Int) (x213 : Bool) (w : World) : Prop :=
  vIf x213
  (Calls Tryz.prog 147 #[Value.slice x0.1 x0.2.1 x0.2.2, Value.int .i64 x18, Value.int .i64 x24, Value.int .i64 x3, Value.func (.func 114) #[] #[]] w fun e57 w56 =>
    e57 = .returned (Value.tuple #[]) ∧ (
      Q (Value.tuple #[]) w56))
  (Q (Value.tuple #[]) w)
def F147s.k44 (Q : Value → World → Prop) : ((Option Addr × Nat × Nat) × Int × Unit × Int × Int × Bool × Unit) → World → Prop := fun s w => ∀ _ : Nat → Value, F147s.k44c Q s.1 s.2.1 s.2.2.1 s.2.2.2.1 s.2.2.2.2.1 s.2.2.2.2.2.1 w
def F147s.k43c (Q : Value → World → Prop) (x0 : (Option Addr × Nat × Nat)) (x3 : Int) (x4 : Unit) (x18 : Int) (x24 : Int) (w : World) : Prop :=
  vIf (decide (x18 < x24))
  (jnC (F147s.k44 Q) ((x0.1, x0.2.1, x0.2.2), (x3), (), (x18), (x24), (decide (x24 < x3)), ()) w)
  (jnC (F147s.k44 Q) ((x0.1, x0.2.1, x0.2.2), (x3), (), (x18), (x24), false, ()) w)
def F147s.k43 (Q : Value → World → Prop) : ((Option Addr × Nat × Nat) × Int × Unit × Int × Int × Unit) → World → Prop := fun s w => ∀ _ : Nat → Value, F147s.k43c Q s.1 s.2.1 s.2.2.1 s.2.2.2.1 s.2.2.2.2.1 w
def F147s.k42c (Q : Value → World → Prop) (x0 : (Option Addr × Nat × Nat)) (x1 : Int) (x3 : Int) (x4 : Unit) (x18 : Int) (x20 : Int) (x24 : Int) (x199 : Bool) (w : World) : Prop :=
  vIf x199
  (Calls Tryz.prog 147 #[Value.slice x0.1 x0.2.1 x0.2.2, Value.int .i64 x1, Value.int .i64 x20, Value.int .i64 x18, Value.func (.func 114) #[] #[]] w fun e55 w54 =>
    e55 = .returned (Value.tuple #[]) ∧ (
      jnC (F147s.k43 Q) ((x0.1, x0.2.1, x0.2.2), (x3), (), (x18), (x24), ()) w54))
  (jnC (F147s.k43 Q) ((x0.1, x0.2.1, x0.2.2), (x3), (), (x18), (x24), ()) w)
def F147s.k42 (Q : Value → World → Prop) : ((Option Addr × Nat × Nat) × Int × Int × Unit × Int × Int × Int × Bool × Unit) → World → Prop := fun s w => ∀ _ : Nat → Value, F147s.k42c Q s.1 s.2.1 s.2.2.1 s.2.2.2.1 s.2.2.2.2.1 s.2.2.2.2.2.1 s.2.2.2.2.2.2.1 s.2.2.2.2.2.2.2.1 w
def F147s.k41c (Q : Value → World → Prop) (x0 : (Option Addr × Nat × Nat)) (x1 : Int) (x3 : Int) (x4 : Unit) (x18 : Int) (x20 : Int) (x24 : Int) (w : World) : Prop :=
  vIf (decide (x1 < x20))
  (jnC (F147s.k42 Q) ((x0.1, x0.2.1, x0.2.2), (x1), (x3), (), (x18), (x20), (x24), (decide (x20 < x18)), ()) w)
  (jnC (F147s.k42 Q) ((x0.1, x0.2.1, x0.2.2), (x1), (x3), (), (x18), (x20), (x24), false, ()) w)
def F147s.k41 (Q : Value → World → Prop) : ((Option Addr × Nat × Nat) × Int × Int × Unit × Int × Int × Int × Unit) → World → Prop := fun s w => ∀ _ : Nat → Value, F147s.k41c Q s.1 s.2.1 s.2.2.1 s.2.2.2.1 s.2.2.2.2.1 s.2.2.2.2.2.1 s.2.2.2.2.2.2.1 w
def F147s.k40c (Q : Value → World → Prop) (x0 : (Option Addr × Nat × Nat)) (x1 : Int) (x2 : Int) (x3 : Int) (x4 : Unit) (x18 : Int) (x20 : Int) (x24 : Int) (x185 : Bool) (w : World) : Prop :=
  vIf x185
  (Calls Tryz.prog 151 #[Value.slice x0.1 x0.2.1 x0.2.2, Value.int .i64 x20, Value.int .i64 x2, Value.int .i64 x24, Value.func (.func 114) #[] #[]] w fun e53 w52 =>
    e53 = .returned (Value.tuple #[]) ∧ (
      jnC (F147s.k41 Q) ((x0.1, x0.2.1, x0.2.2), (x1), (x3), (), (x18), (x20), (x24), ()) w52))
  (jnC (F147s.k41 Q) ((x0.1, x0.2.1, x0.2.2), (x1), (x3), (), (x18), (x20), (x24), ()) w)
def F147s.k40 (Q : Value → World → Prop) : ((Option Addr × Nat × Nat) × Int × Int × Int × Unit × Int × Int × Int × Bool × Unit) → World → Prop := fun s w => ∀ _ : Nat → Value, F147s.k40c Q s.1 s.2.1 s.2.2.1 s.2.2.2.1 s.2.2.2.2.1 s.2.2.2.2.2.1 s.2.2.2.2.2.2.1 s.2.2.2.2.2.2.2.1 s.2.2.2.2.2.2.2.2.1 w
def F147s.b33c (Q : Value → World → Prop) (C33 : ((Option Addr × Nat × Nat) × Int × Int × Int × Unit × Int × Int × Int × Int × Int × Unit) → World → Prop) (x0 : (Option Addr × Nat × Nat)) (x1 : Int) (x2 : Int) (x3 : Int) (x4 : Unit) (x18 : Int) (x19 : Int) (x20 : Int) (x21 : Int) (x22 : Int) (w : World) : Prop :=
  vIf (decide (x20 < x21))
  (dr x0.1 fun b43 o44 =>
    gd (decide (0 ≤ (IntKind.wrap .i64 (x22 - (IntKind.wrap .i64 (Int.fdiv (IntKind.wrap .u64 (IntKind.wrap .i64 (x20 + x21))) (2 ^ 1))))))) <|
    gd (decide ((IntKind.wrap .i64 (x22 - (IntKind.wrap .i64 (Int.fdiv (IntKind.wrap .u64 (IntKind.wrap .i64 (x20 + x21))) (2 ^ 1))))) < ((x0.2.1 : Nat) : Int))) <|
    ldA 2 w.drew b43 (o44 + ((IntKind.wrap .i64 (x22 - (IntKind.wrap .i64 (Int.fdiv (IntKind.wrap .u64 (IntKind.wrap .i64 (x20 + x21))) (2 ^ 1)))))).toNat * 2) fun a45 =>
    dr x0.1 fun b46 o47 =>
    gd (decide (0 ≤ (IntKind.wrap .i64 (Int.fdiv (IntKind.wrap .u64 (IntKind.wrap .i64 (x20 + x21))) (2 ^ 1))))) <|
    gd (decide ((IntKind.wrap .i64 (Int.fdiv (IntKind.wrap .u64 (IntKind.wrap .i64 (x20 + x21))) (2 ^ 1))) < ((x0.2.1 : Nat) : Int))) <|
    ldA 2 w.drew b46 (o47 + ((IntKind.wrap .i64 (Int.fdiv (IntKind.wrap .u64 (IntKind.wrap .i64 (x20 + x21))) (2 ^ 1)))).toNat * 2) fun a48 =>
    Calls Tryz.prog 114 #[ofL a45, ofL a48] w.drew fun e50 w49 =>
    ∃ i51 : Int, e50 = .returned (Value.int .i64 i51) ∧ (
      vIf (!(decide (i51 < 0)))
      (jnC C33 ((x0.1, x0.2.1, x0.2.2), (x1), (x2), (x3), (), (x18), (x19), ((IntKind.wrap .i64 ((IntKind.wrap .i64 (Int.fdiv (IntKind.wrap .u64 (IntKind.wrap .i64 (x20 + x21))) (2 ^ 1))) + 1))), (x21), (x22), ()) w49)
      (jnC C33 ((x0.1, x0.2.1, x0.2.2), (x1), (x2), (x3), (), (x18), (x19), (x20), ((IntKind.wrap .i64 (Int.fdiv (IntKind.wrap .u64 (IntKind.wrap .i64 (x20 + x21))) (2 ^ 1)))), (x22), ()) w49)))
  (vIf (decide (x20 < x2))
    (jnC (F147s.k40 Q) ((x0.1, x0.2.1, x0.2.2), (x1), (x2), (x3), (), (x18), (x20), ((IntKind.wrap .i64 (x19 - x20))), (decide (x2 < (IntKind.wrap .i64 (x19 - x20)))), ()) w)
    (jnC (F147s.k40 Q) ((x0.1, x0.2.1, x0.2.2), (x1), (x2), (x3), (), (x18), (x20), ((IntKind.wrap .i64 (x19 - x20))), false, ()) w))
def F147s.b33 (Q : Value → World → Prop) : ((Option Addr × Nat × Nat) × Int × Int × Int × Unit × Int × Int × Int × Int × Int × Unit) → World → (((Option Addr × Nat × Nat) × Int × Int × Int × Unit × Int × Int × Int × Int × Int × Unit) → World → Prop) → Prop := fun s w C33 => ∀ _ : Nat → Value, F147s.b33c Q C33 s.1 s.2.1 s.2.2.1 s.2.2.2.1 s.2.2.2.2.1 s.2.2.2.2.2.1 s.2.2.2.2.2.2.1 s.2.2.2.2.2.2.2.1 s.2.2.2.2.2.2.2.2.1 s.2.2.2.2.2.2.2.2.2.1 w
def F147s.l33 (Q : Value → World → Prop) : ((Option Addr × Nat × Nat) × Int × Int × Int × Unit × Int × Int × Int × Int × Int × Unit) → World → Prop := fun s w => ∃ n, loopC (F147s.b33 Q) n s w
def F147s.k32c (Q : Value → World → Prop) (x0 : (Option Addr × Nat × Nat)) (x1 : Int) (x2 : Int) (x3 : Int) (x4 : Unit) (x18 : Int) (x19 : Int) (x20 : Int) (x21 : Int) (w : World) : Prop :=
  jnC (F147s.l33 Q) ((x0.1, x0.2.1, x0.2.2), (x1), (x2), (x3), (), (x18), (x19), (x20), (x21), ((IntKind.wrap .i64 (x19 - 1))), ()) w
def F147s.k32 (Q : Value → World → Prop) : ((Option Addr × Nat × Nat) × Int × Int × Int × Unit × Int × Int × Int × Int × Unit) → World → Prop := fun s w => ∀ _ : Nat → Value, F147s.k32c Q s.1 s.2.1 s.2.2.1 s.2.2.2.1 s.2.2.2.2.1 s.2.2.2.2.2.1 s.2.2.2.2.2.2.1 s.2.2.2.2.2.2.2.1 s.2.2.2.2.2.2.2.2.1 w
def F147s.vc (x0A : Option Addr) (x0n x0c : Nat) (x1 : Int) (x2 : Int) (x3 : Int) (w : World) (Q : Value → World → Prop) : Prop :=
  vIf ((IntKind.wrap .i64 (x2 - x1)) == 1)
  (jnC (F147s.l3 Q) ((x0A, x0n, x0c), (x1), (), (x2), (x3), ()) w)
  (vIf ((IntKind.wrap .i64 (x3 - x2)) == 1)
    (jnC (F147s.l15 Q) ((x0A, x0n, x0c), (x2), (), (x1), (x2), ()) w)
    (vIf (decide (x2 > (IntKind.wrap .i64 (Int.fdiv (IntKind.wrap .u64 (IntKind.wrap .i64 (x1 + x3))) (2 ^ 1)))))
      (jnC (F147s.k32 Q) ((x0A, x0n, x0c), (x1), (x2), (x3), (), ((IntKind.wrap .i64 (Int.fdiv (IntKind.wrap .u64 (IntKind.wrap .i64 (x1 + x3))) (2 ^ 1)))), ((IntKind.wrap .i64 ((IntKind.wrap .i64 (Int.fdiv (IntKind.wrap .u64 (IntKind.wrap .i64 (x1 + x3))) (2 ^ 1))) + x2))), ((IntKind.wrap .i64 ((IntKind.wrap .i64 ((IntKind.wrap .i64 (Int.fdiv (IntKind.wrap .u64 (IntKind.wrap .i64 (x1 + x3))) (2 ^ 1))) + x2)) - x3))), ((IntKind.wrap .i64 (Int.fdiv (IntKind.wrap .u64 (IntKind.wrap .i64 (x1 + x3))) (2 ^ 1)))), ()) w)
      (jnC (F147s.k32 Q) ((x0A, x0n, x0c), (x1), (x2), (x3), (), ((IntKind.wrap .i64 (Int.fdiv (IntKind.wrap .u64 (IntKind.wrap .i64 (x1 + x3))) (2 ^ 1)))), ((IntKind.wrap .i64 ((IntKind.wrap .i64 (Int.fdiv (IntKind.wrap .u64 (IntKind.wrap .i64 (x1 + x3))) (2 ^ 1))) + x2))), (x1), (x2), ()) w)))
def F147s.an : Ann := ⟨[(3, [(0, .kSl), (1, .kI .i64), (4, .kF 114), (10, .kI .i64), (11, .kI .i64)]), (9, [(0, .kSl), (10, .kI .i64), (13, .kI .i64)]), (15, [(0, .kSl), (2, .kI .i64), (4, .kF 114), (14, .kI .i64), (15, .kI .i64)]), (21, [(0, .kSl), (14, .kI .i64), (17, .kI .i64)]), (33, [(0, .kSl), (1, .kI .i64), (2, .kI .i64), (3, .kI .i64), (4, .kF 114), (18, .kI .i64), (19, .kI .i64), (20, .kI .i64), (21, .kI .i64), (22, .kI .i64)])], [(32, [(0, .kSl), (1, .kI .i64), (2, .kI .i64), (3, .kI .i64), (4, .kF 114), (18, .kI .i64), (19, .kI .i64), (20, .kI .i64), (21, .kI .i64)]), (40, [(0, .kSl), (1, .kI .i64), (2, .kI .i64), (3, .kI .i64), (4, .kF 114), (18, .kI .i64), (20, .kI .i64), (24, .kI .i64), (185, .kB)]), (41, [(0, .kSl), (1, .kI .i64), (3, .kI .i64), (4, .kF 114), (18, .kI .i64), (20, .kI .i64), (24, .kI .i64)]), (42, [(0, .kSl), (1, .kI .i64), (3, .kI .i64), (4, .kF 114), (18, .kI .i64), (20, .kI .i64), (24, .kI .i64), (199, .kB)]), (43, [(0, .kSl), (3, .kI .i64), (4, .kF 114), (18, .kI .i64), (24, .kI .i64)]), (44, [(0, .kSl), (3, .kI .i64), (4, .kF 114), (18, .kI .i64), (24, .kI .i64), (213, .kB)])]⟩
theorem F147s.of (x0A : Option Addr) (x0n x0c : Nat) (x1 : Int) (x2 : Int) (x3 : Int) (w : World) {Q : Value → World → Prop} (h : F147s.vc x0A x0n x0c x1 x2 x3 w Q) : Calls Tryz.prog 147 #[Value.slice x0A x0n x0c, Value.int .i64 x1, Value.int .i64 x2, Value.int .i64 x3, Value.func (.func 114) #[] #[]] w (fun e w' => ∃ v, e = .returned v ∧ Q v w') := vcFn_of (A := F147s.an) noCount mixed h (by kernel_rfl)
/-! ### function 151: slices.rotateCmpFunc[stillage/api.Named] -/
def F151s.b2c (Q : Value → World → Prop) (C2 : ((Option Addr × Nat × Nat) × Int × Unit × Int × Int × Unit) → World → Prop) (x0 : (Option Addr × Nat × Nat)) (x2 : Int) (x4 : Unit) (x10 : Int) (x11 : Int) (w : World) : Prop :=
  vIf (x10 != x11)
  (vIf (decide (x10 > x11))
    (Calls Tryz.prog 153 #[Value.slice x0.1 x0.2.1 x0.2.2, Value.int .i64 (IntKind.wrap .i64 (x2 - x10)), Value.int .i64 x2, Value.int .i64 x11, Value.func (.func 114) #[] #[]] w fun e2 w1 =>
      e2 = .returned (Value.tuple #[]) ∧ (
        jnC C2 ((x0.1, x0.2.1, x0.2.2), (x2), (), ((IntKind.wrap .i64 (x10 - x11))), (x11), ()) w1))
    (Calls Tryz.prog 153 #[Value.slice x0.1 x0.2.1 x0.2.2, Value.int .i64 (IntKind.wrap .i64 (x2 - x10)), Value.int .i64 (IntKind.wrap .i64 ((IntKind.wrap .i64 (x2 + x11)) - x10)), Value.int .i64 x10, Value.func (.func 114) #[] #[]] w fun e4 w3 =>
      e4 = .returned (Value.tuple #[]) ∧ (
        jnC C2 ((x0.1, x0.2.1, x0.2.2), (x2), (), (x10), ((IntKind.wrap .i64 (x11 - x10))), ()) w3)))
  (Calls Tryz.prog 153 #[Value.slice x0.1 x0.2.1 x0.2.2, Value.int .i64 (IntKind.wrap .i64 (x2 - x10)), Value.int .i64 x2, Value.int .i64 x10, Value.func (.func 114) #[] #[]] w fun e6 w5 =>
    e6 = .returned (Value.tuple #[]) ∧ (
      Q (Value.tuple #[]) w5))
def F151s.b2 (Q : Value → World → Prop) : ((Option Addr × Nat × Nat) × Int × Unit × Int × Int × Unit) → World → (((Option Addr × Nat × Nat) × Int × Unit × Int × Int × Unit) → World → Prop) → Prop := fun s w C2 => ∀ _ : Nat → Value, F151s.b2c Q C2 s.1 s.2.1 s.2.2.1 s.2.2.2.1 s.2.2.2.2.1 w
def F151s.l2 (Q : Value → World → Prop) : ((Option Addr × Nat × Nat) × Int × Unit × Int × Int × Unit) → World → Prop := fun s w => ∃ n, loopC (F151s.b2 Q) n s w
def F151s.vc (x0A : Option Addr) (x0n x0c : Nat) (x1 : Int) (x2 : Int) (x3 : Int) (w : World) (Q : Value → World → Prop) : Prop :=
  jnC (F151s.l2 Q) ((x0A, x0n, x0c), (x2), (), ((IntKind.wrap .i64 (x2 - x1))), ((IntKind.wrap .i64 (x3 - x2))), ()) w
def F151s.an : Ann := ⟨[(2, [(0, .kSl), (2, .kI .i64), (4, .kF 114), (10, .kI .i64), (11, .kI .i64)])], []⟩
theorem F151s.of (x0A : Option Addr) (x0n x0c : Nat) (x1 : Int) (x2 : Int) (x3 : Int) (w : World) {Q : Value → World → Prop} (h : F151s.vc x0A x0n x0c x1 x2 x3 w Q) : Calls Tryz.prog 151 #[Value.slice x0A x0n x0c, Value.int .i64 x1, Value.int .i64 x2, Value.int .i64 x3, Value.func (.func 114) #[] #[]] w (fun e w' => ∃ v, e = .returned v ∧ Q v w') := vcFn_of (A := F151s.an) noCount mixed h (by kernel_rfl)
/-! ### function 153: slices.swapRangeCmpFunc[stillage/api.Named] -/
def F153s.b1c (Q : Value → World → Prop) (C1 : ((Option Addr × Nat × Nat) × Int × Int × Int × Int × Unit) → World → Prop) (x0 : (Option Addr × Nat × Nat)) (x1 : Int) (x2 : Int) (x3 : Int) (x10 : Int) (w : World) : Prop :=
  vIf (decide (x10 < x3))
  (dr x0.1 fun b1 o2 =>
    gd (decide (0 ≤ (IntKind.wrap .i64 (x2 + x10)))) <|
    gd (decide ((IntKind.wrap .i64 (x2 + x10)) < ((x0.2.1 : Nat) : Int))) <|
    ldA 2 w.drew b1 (o2 + ((IntKind.wrap .i64 (x2 + x10))).toNat * 2) fun a3 =>
    dr x0.1 fun b4 o5 =>
    gd (decide (0 ≤ (IntKind.wrap .i64 (x1 + x10)))) <|
    gd (decide ((IntKind.wrap .i64 (x1 + x10)) < ((x0.2.1 : Nat) : Int))) <|
    ldA 2 w.drew b4 (o5 + ((IntKind.wrap .i64 (x1 + x10))).toNat * 2) fun a6 =>
    dr x0.1 fun b7 o8 =>
    gd (decide (0 ≤ (IntKind.wrap .i64 (x1 + x10)))) <|
    gd (decide ((IntKind.wrap .i64 (x1 + x10)) < ((x0.2.1 : Nat) : Int))) <|
    gd (a3.length == 2) <|
    st w.drew b7 (o8 + ((IntKind.wrap .i64 (x1 + x10))).toNat * 2) a3 fun w9 =>
    dr x0.1 fun b10 o11 =>
    gd (decide (0 ≤ (IntKind.wrap .i64 (x2 + x10)))) <|
    gd (decide ((IntKind.wrap .i64 (x2 + x10)) < ((x0.2.1 : Nat) : Int))) <|
    gd (a6.length == 2) <|
    st w9 b10 (o11 + ((IntKind.wrap .i64 (x2 + x10))).toNat * 2) a6 fun w12 =>
    jnC C1 ((x0.1, x0.2.1, x0.2.2), (x1), (x2), (x3), ((IntKind.wrap .i64 (x10 + 1))), ()) w12)
  (Q (Value.tuple #[]) w)
def F153s.b1 (Q : Value → World → Prop) : ((Option Addr × Nat × Nat) × Int × Int × Int × Int × Unit) → World → (((Option Addr × Nat × Nat) × Int × Int × Int × Int × Unit) → World → Prop) → Prop := fun s w C1 => ∀ _ : Nat → Value, F153s.b1c Q C1 s.1 s.2.1 s.2.2.1 s.2.2.2.1 s.2.2.2.2.1 w
def F153s.l1 (Q : Value → World → Prop) : ((Option Addr × Nat × Nat) × Int × Int × Int × Int × Unit) → World → Prop := fun s w => ∃ n, loopC (F153s.b1 Q) n s w
def F153s.vc (x0A : Option Addr) (x0n x0c : Nat) (x1 : Int) (x2 : Int) (x3 : Int) (w : World) (Q : Value → World → Prop) : Prop :=
  jnC (F153s.l1 Q) ((x0A, x0n, x0c), (x1), (x2), (x3), (0), ()) w
def F153s.an : Ann := ⟨[(1, [(0, .kSl), (1, .kI .i64), (2, .kI .i64), (3, .kI .i64), (10, .kI .i64)])], []⟩
theorem F153s.of (x0A : Option Addr) (x0n x0c : Nat) (x1 : Int) (x2 : Int) (x3 : Int) (w : World) {Q : Value → World → Prop} (h : F153s.vc x0A x0n x0c x1 x2 x3 w Q) : Calls Tryz.prog 153 #[Value.slice x0A x0n x0c, Value.int .i64 x1, Value.int .i64 x2, Value.int .i64 x3, Value.func (.func 114) #[] #[]] w (fun e w' => ∃ v, e = .returned v ∧ Q v w') := vcFn_of (A := F153s.an) noCount mixed h (by kernel_rfl)
end Go.Proofs.YtfdhaeglhkmmpaaGreat
/- the print of chapter 12 -/
/- the order of texts, plainly; strings.Compare -/
namespace Go.Proofs.YtfdhaeglhkmmpaaGreat
open Go.GV Go.RowKit Go.Lib
set_option linter.unusedVariables false
set_option linter.unusedSimpArgs false
/-! ### the order of texts -/
def cmpN (a b : ByteArray) : Int := compareBytes a.data.toList b.data.toList
theorem bless_cmp : ∀ (a b : List UInt8), Op.bytesLess a b = decide (compareBytes a b < 0)
  | [], [] => by simp [Op.bytesLess, compareBytes]
  | _ :: _, [] => by simp [Op.bytesLess, compareBytes]
  | [], _ :: _ => by simp [Op.bytesLess, compareBytes]
  | a :: x, b :: y => by
    rw [Op.bytesLess, compareBytes, bless_cmp x y]
    by_cases h1 : a < b
    · rw [if_pos h1, decide_eq_true h1]; rfl
    · rw [if_neg h1, decide_eq_false h1, Bool.false_or]
      by_cases h2 : b < a
      · rw [if_pos h2]
        have : (a == b) = false := by
          rw [beq_eq_false_iff_ne]; intro h; subst h; exact h1 h2
        rw [this]; rfl
      · have : a = b := by
          rw [UInt8.lt_iff_toNat_lt] at h1 h2
          exact UInt8.toNat_inj.1 (by omega)
        rw [if_neg h2, this]
        simp
theorem ba_ext {a b : ByteArray} (h : a.data.toList = b.data.toList) : a = b := by
  obtain ⟨⟨x⟩⟩ := a
  obtain ⟨⟨y⟩⟩ := b
  have h : x = y := h
  rw [h]
theorem nlt (a b : ByteArray) : Op.bytesLess a.toList b.toList = decide (cmpN a b < 0) := by
  rw [bless_cmp, toList_data, toList_data]; rfl
theorem neq (a b : ByteArray) : (a.toList == b.toList) = decide (a = b) := by
  rw [toList_data, toList_data, Bool.eq_iff_iff, beq_iff_eq, decide_eq_true_iff]
  exact ⟨ba_ext, fun h => by rw [h]⟩
theorem cmpN_zero (a b : ByteArray) : cmpN a b = 0 ↔ a = b := by
  unfold cmpN
  rw [cmp_zero]
  exact ⟨ba_ext, fun h => by rw [h]⟩
theorem cmpN_self (a : ByteArray) : cmpN a a = 0 := (cmpN_zero a a).2 rfl
theorem cmpN_anti (a b : ByteArray) : cmpN a b = - cmpN b a := cmp_anti _ _
theorem cmpN_trans {a b c : ByteArray} (h1 : cmpN a b < 0) (h2 : cmpN b c < 0) : cmpN a c < 0 := by
  have h := cmp_trans a.data.toList b.data.toList c.data.toList (by unfold cmpN at h1; omega) (by unfold cmpN at h2; omega)
  have h : cmpN a c ≤ 0 := h
  by_cases h0 : cmpN a c = 0
  · have := (cmpN_zero a c).1 h0
    subst this
    have := cmpN_anti a b
    omega
  · omega
theorem strcmp_calls (a b : ByteArray) (w : World) : Calls Tryz.prog 101 #[.string a, .string b] w fun e w' => e = .returned (.int .i64 (cmpN a b)) ∧ w' = w := by
  refine (F101.of a b w (Q := fun v w' => v = .int .i64 (cmpN a b) ∧ w' = w) ?_).mono (fun e w' ⟨v, he, hv, h⟩ => ⟨by rw [he, hv], h⟩)
  refine (F132.of a b w (Q := fun v w' => v = .int .i64 (cmpN a b) ∧ w' = w) ?_).mono ?_
  · exact ⟨_, Extern.BytealgCompare.compare, _, _, Tryz.func145, by kernel_rfl, by kernel_rfl, by kernel_rfl, Lib.run_compareString a b w, cmpN a b, rfl, rfl, rfl⟩
  · rintro e w' ⟨v, rfl, rfl, rfl⟩
    exact ⟨_, rfl, rfl, rfl⟩
end Go.Proofs.YtfdhaeglhkmmpaaGreat
/- stable sorting, plainly: tagged elements, chunks, rotations. No program in sight. -/
namespace Go.Stb
set_option linter.unusedVariables false
variable {α β : Type}
/-! ### lists -/
theorem get_mid {P R : List α} {x : α} {i : Nat} (hi : i = P.length) : (P ++ x :: R)[i]? = some x := by subst hi; simp
theorem set_mid {P R : List α} {x y : α} {i : Nat} (hi : i = P.length) : (P ++ x :: R).set i y = P ++ y :: R := by subst hi; simp
/-! ### the order -/
structure OrdC (cmp : β → β → Int) : Prop where
  anti : ∀ a b, cmp a b = - cmp b a
  trans : ∀ a b c, cmp a b ≤ 0 → cmp b c ≤ 0 → cmp a c ≤ 0
section
variable {cmp : β → β → Int}
/-- ahead of: by the order, else by the tag -/
def lt (cmp : β → β → Int) (x y : β × Nat) : Prop := cmp x.1 y.1 < 0 ∨ (cmp x.1 y.1 = 0 ∧ x.2 < y.2)
def Sorted (cmp : β → β → Int) (l : List (β × Nat)) : Prop := l.Pairwise (lt cmp)
/-- what stood ahead -/
def bef (x y : β × Nat) : Prop := x.2 < y.2
theorem OrdC.lt_le (h : OrdC cmp) {a b c : β} (h1 : cmp a b < 0) (h2 : cmp b c ≤ 0) : cmp a c < 0 := by
  have h3 := h.trans a b c (by omega) h2
  by_cases h0 : cmp a c = 0
  · have h4 := h.anti c a
    have h5 := h.trans b c a h2 (by omega)
    have h6 := h.anti a b
    omega
  · omega
theorem OrdC.le_lt (h : OrdC cmp) {a b c : β} (h1 : cmp a b ≤ 0) (h2 : cmp b c < 0) : cmp a c < 0 := by
  have h3 := h.trans a b c h1 (by omega)
  by_cases h0 : cmp a c = 0
  · have h4 := h.anti c a
    have h5 := h.trans c a b (by omega) h1
    have h6 := h.anti b c
    omega
  · omega
theorem lt_trans (h : OrdC cmp) {x y z : β × Nat} (h1 : lt cmp x y) (h2 : lt cmp y z) : lt cmp x z := by
  rcases h1 with h1 | ⟨h1, h1'⟩ <;> rcases h2 with h2 | ⟨h2, h2'⟩
  · exact .inl (h.lt_le h1 (by omega))
  · exact .inl (h.lt_le h1 (by omega))
  · exact .inl (h.le_lt (by omega) h2)
  · have h3 := h.trans x.1 y.1 z.1 (by omega) (by omega)
    have h4 := h.trans z.1 y.1 x.1 (by have := h.anti z.1 y.1; omega) (by have := h.anti y.1 x.1; omega)
    have h5 := h.anti x.1 z.1
    exact .inr ⟨by omega, by omega⟩
theorem lt_asymm (h : OrdC cmp) {x y : β × Nat} (h1 : lt cmp x y) (h2 : lt cmp y x) : False := by
  have h3 := h.anti x.1 y.1
  rcases h1 with h1 | ⟨h1, h1'⟩ <;> rcases h2 with h2 | ⟨h2, h2'⟩ <;> omega
/-- what the comparison of a later with an earlier one tells -/
theorem bef_yes (h : OrdC cmp) {x y : β × Nat} (hb : bef x y) (hc : cmp y.1 x.1 < 0) : lt cmp y x := .inl hc
theorem bef_no (h : OrdC cmp) {x y : β × Nat} (hb : bef x y) (hc : ¬ cmp y.1 x.1 < 0) : lt cmp x y := by
  have h3 := h.anti x.1 y.1
  have hb : x.2 < y.2 := hb
  by_cases h0 : cmp x.1 y.1 = 0
  · exact .inr ⟨h0, hb⟩
  · exact .inl (by omega)
theorem sorted_get (h : OrdC cmp) {l : List (β × Nat)} (hs : Sorted cmp l) {i j : Nat} {x y : β × Nat} (hi : l[i]? = some x) (hj : l[j]? = some y) (hij : i < j) : lt cmp x y := by
  obtain ⟨h1, rfl⟩ := List.getElem?_eq_some_iff.1 hi
  obtain ⟨h2, rfl⟩ := List.getElem?_eq_some_iff.1 hj
  exact (List.pairwise_iff_getElem.1 hs) i j h1 h2 hij
theorem sorted_app {A B : List (β × Nat)} (hA : Sorted cmp A) (hB : Sorted cmp B) (hAB : ∀ x ∈ A, ∀ y ∈ B, lt cmp x y) : Sorted cmp (A ++ B) := List.pairwise_append.2 ⟨hA, hB, hAB⟩
theorem sorted_of_app {A B : List (β × Nat)} (h : Sorted cmp (A ++ B)) : Sorted cmp A ∧ Sorted cmp B ∧ ∀ x ∈ A, ∀ y ∈ B, lt cmp x y := List.pairwise_append.1 h
/-- sorted rows of the same members are one -/
theorem sorted_unique (h : OrdC cmp) : ∀ {a b : List (β × Nat)}, Sorted cmp a → Sorted cmp b → a.Perm b → a = b
  | [], b, _, _, hp => by rw [List.nil_perm.1 hp]
  | x :: a, [], _, _, hp => by have := hp.length_eq; simp at this
  | x :: a, y :: b, ha, hb, hp => by
    have hca := List.pairwise_cons.1 ha
    have hcb := List.pairwise_cons.1 hb
    have hxy : x = y := by
      rcases List.mem_cons.1 (hp.mem_iff.1 (List.mem_cons_self (a := x) (l := a))) with h1 | h1
      · exact h1
      · rcases List.mem_cons.1 (hp.mem_iff.2 (List.mem_cons_self (a := y) (l := b))) with h2 | h2
        · exact h2.symm
        · exact (lt_asymm h (hcb.1 x h1) (hca.1 y h2)).elim
    subst hxy
    rw [sorted_unique h hca.2 hcb.2 ((List.perm_cons x).1 hp)]
/-! ### the row in its order -/
/-- an element behind all that aren't above it -/
def ins (cmp : β → β → Int) (x : β) : List β → List β
  | [] => [x]
  | y :: r => if cmp x y < 0 then x :: y :: r else y :: ins cmp x r
def stab (cmp : β → β → Int) (l : List β) : List β := l.foldl (fun a x => ins cmp x a) []
theorem stab_snoc (l : List β) (x : β) : stab cmp (l ++ [x]) = ins cmp x (stab cmp l) := by unfold stab; rw [List.foldl_append]; rfl
def insT (cmp : β → β → Int) (x : β × Nat) : List (β × Nat) → List (β × Nat)
  | [] => [x]
  | y :: r => if cmp x.1 y.1 < 0 then x :: y :: r else y :: insT cmp x r
theorem insT_fst (x : β × Nat) : ∀ l : List (β × Nat), (insT cmp x l).map (·.1) = ins cmp x.1 (l.map (·.1))
  | [] => rfl
  | y :: r => by
    unfold insT ins
    rw [List.map_cons]
    show _ = (if cmp x.1 y.1 < 0 then _ else _)
    split
    · rfl
    · rw [List.map_cons, insT_fst x r]
theorem insT_perm (x : β × Nat) : ∀ l : List (β × Nat), (insT cmp x l).Perm (x :: l)
  | [] => List.Perm.refl _
  | y :: r => by
    unfold insT
    split
    · exact List.Perm.refl _
    · exact ((insT_perm x r).cons y).trans (List.Perm.swap x y r)
theorem insT_sorted (h : OrdC cmp) (x : β × Nat) : ∀ l : List (β × Nat), Sorted cmp l → (∀ y ∈ l, bef y x) → Sorted cmp (insT cmp x l)
  | [], _, _ => List.pairwise_singleton _ _
  | y :: r, hs, hb => by
    have hc := List.pairwise_cons.1 hs
    unfold insT
    by_cases h1 : cmp x.1 y.1 < 0
    · rw [if_pos h1]
      refine List.pairwise_cons.2 ⟨fun z hz => ?_, hs⟩
      rcases List.mem_cons.1 hz with rfl | hz
      · exact .inl h1
      · exact lt_trans h (.inl h1) (hc.1 z hz)
    · rw [if_neg h1]
      refine List.pairwise_cons.2 ⟨fun z hz => ?_, insT_sorted h x r hc.2 (fun z hz => hb z (List.mem_cons_of_mem _ hz))⟩
      rcases List.mem_cons.1 ((insT_perm x r).mem_iff.1 hz) with rfl | hz
      · exact bef_no h (hb y (List.mem_cons_self ..)) h1
      · exact hc.1 z hz
/-- the row with its tags -/
def tagL (l : List β) : List (β × Nat) := l.zipIdx
theorem tagL_fst (l : List β) : (tagL l).map (·.1) = l := by simp [tagL]
theorem tagL_snoc (l : List β) (x : β) : tagL (l ++ [x]) = tagL l ++ [(x, l.length)] := by simp [tagL, List.zipIdx_append]
theorem tagL_lt {l : List β} {x : β × Nat} (h : x ∈ tagL l) : x.2 < l.length := by
  have := List.snd_lt_of_mem_zipIdx h
  simpa using this
theorem snoc_ind {P : List β → Prop} (h0 : P []) (h1 : ∀ l x, P l → P (l ++ [x])) (l : List β) : P l := by
  have : ∀ n (l : List β), l.length = n → P l := by
    intro n
    induction n with
    | zero => intro l hl; rw [List.length_eq_zero_iff.1 hl]; exact h0
    | succ n ih =>
      intro l hl
      have hne : l ≠ [] := by intro h; rw [h] at hl; cases hl
      rw [← List.dropLast_concat_getLast hne]
      exact h1 _ _ (ih _ (by simp [hl]))
  exact this _ l rfl
theorem stab_spec (h : OrdC cmp) (l : List β) : ∃ m, Sorted cmp m ∧ m.Perm (tagL l) ∧ m.map (·.1) = stab cmp l := by
  refine snoc_ind (P := fun l => ∃ m, Sorted cmp m ∧ m.Perm (tagL l) ∧ m.map (·.1) = stab cmp l) ⟨[], List.Pairwise.nil, List.Perm.refl _, rfl⟩ (fun l x ⟨m, h1, h2, h3⟩ => ?_) l
  refine ⟨insT cmp (x, l.length) m, insT_sorted h _ m h1 (fun y hy => tagL_lt (h2.mem_iff.1 hy)), ?_, ?_⟩
  · rw [tagL_snoc]
    exact (insT_perm _ m).trans ((h2.cons _).trans (List.perm_append_singleton _ _).symm)
  · rw [insT_fst, h3, stab_snoc]
/-- a sorted row of what a row has, tagged, is that row in order -/
theorem stab_of (h : OrdC cmp) {l : List β} {m : List (β × Nat)} (hs : Sorted cmp m) (hp : m.Perm (tagL l)) : m.map (·.1) = stab cmp l := by
  obtain ⟨m', h1, h2, h3⟩ := stab_spec h l
  rw [sorted_unique h hs h1 (hp.trans h2.symm), h3]
theorem ins_perm (x : β) : ∀ l : List β, (ins cmp x l).Perm (x :: l)
  | [] => List.Perm.refl _
  | y :: r => by
    unfold ins
    split
    · exact List.Perm.refl _
    · exact ((ins_perm x r).cons y).trans (List.Perm.swap x y r)
theorem stab_perm (l : List β) : (stab cmp l).Perm l :=
  snoc_ind (P := fun l => (stab cmp l).Perm l) (List.Perm.refl _) (fun l x ih => by rw [stab_snoc]; exact (ins_perm x _).trans ((ih.cons x).trans (List.perm_append_singleton _ _).symm)) l
theorem stab_len (l : List β) : (stab cmp l).length = l.length := (stab_perm l).length_eq
/-! ### chunks -/
/-- every one of a chunk stood ahead of every one of a later chunk -/
def befC (c d : List (β × Nat)) : Prop := ∀ x ∈ c, ∀ y ∈ d, bef x y
theorem befC_merge {Ds R : List (List (β × Nat))} {c d m : List (β × Nat)} (h : (Ds ++ c :: d :: R).Pairwise befC) (hm : m.Perm (c ++ d)) : (Ds ++ m :: R).Pairwise befC := by
  have h := List.pairwise_append.1 h
  have hc := List.pairwise_cons.1 h.2.1
  have hd := List.pairwise_cons.1 hc.2
  refine List.pairwise_append.2 ⟨h.1, List.pairwise_cons.2 ⟨fun r hr x hx y hy => ?_, hd.2⟩, fun e he r hr x hx y hy => ?_⟩
  · rcases List.mem_append.1 (hm.mem_iff.1 hx) with hx | hx
    · exact hc.1 r (List.mem_cons_of_mem _ hr) x hx y hy
    · exact hd.1 r hr x hx y hy
  · rcases List.mem_cons.1 hr with rfl | hr
    · rcases List.mem_append.1 (hm.mem_iff.1 hy) with hy | hy
      · exact h.2.2 e he c (List.mem_cons_self ..) x hx y hy
      · exact h.2.2 e he d (List.mem_cons_of_mem _ (List.mem_cons_self ..)) x hx y hy
    · exact h.2.2 e he r (List.mem_cons_of_mem _ (List.mem_cons_of_mem _ hr)) x hx y hy
theorem befC_two {Ds R : List (List (β × Nat))} {c d : List (β × Nat)} (h : (Ds ++ c :: d :: R).Pairwise befC) : befC c d := by
  have h := List.pairwise_append.1 h
  exact (List.pairwise_cons.1 h.2.1).1 d (List.mem_cons_self ..)
theorem flat_len {k : Nat} : ∀ {Fs : List (List (β × Nat))}, (∀ f ∈ Fs, f.length = k) → Fs.flatten.length = Fs.length * k
  | [], _ => by simp
  | f :: r, h => by
    rw [List.flatten_cons, List.length_append, h f (List.mem_cons_self ..), flat_len (fun g hg => h g (List.mem_cons_of_mem _ hg)), List.length_cons, Nat.add_mul]; omega
end
end Go.Stb
/- ints: rows, read and pushed -/
namespace Go.Proofs.YtfdhaeglhkmmpaaGreat
open Go.GV Go.RowKit Go.Lib
set_option linter.unusedVariables false
set_option linter.unusedSimpArgs false
def ivs (l : List Int) : List Value := l.map (Value.int .i64)
theorem ivs_len (l : List Int) : (ivs l).length = l.length := by simp [ivs]
theorem ivs_app (a b : List Int) : ivs (a ++ b) = ivs a ++ ivs b := by simp [ivs]
theorem ivs_one (l : List Int) : ∀ v ∈ ivs l, v.oneCell' = true := by
  intro v hv
  simp only [ivs, List.mem_map] at hv
  obtain ⟨x, _, rfl⟩ := hv
  rfl
theorem ivs_at {l : List Int} {i : Nat} {x : Int} (h : l[i]? = some x) : (ivs l)[i]? = some (.int .i64 x) := by simp [ivs, h]
theorem ivs_take (l : List Int) (k : Nat) : (ivs l).take k = ivs (l.take k) := by simp [ivs]
theorem ei (i : Nat) (h : i < 1099511627776) : IntKind.wrap .i64 ((i : Int) + 1) = ((i + 1 : Nat) : Int) := by rw [i64_id (by omega) (by omega)]; rfl
theorem sl_n {w : World} {A : Option Addr} {n : Nat} {l : List Int} (h : Sl w 1 A n (ivs l)) : l.length = n := by
  have := h.1
  rw [ivs_len] at this
  omega
theorem sl_at {w : World} {A : Option Addr} {n : Nat} {l : List Int} (h : Sl w 1 A n (ivs l)) {i : Nat} (hi : i < n) {x : Int} (hx : l[i]? = some x) : ∃ b o, A = some ⟨b, o, none⟩ ∧ ∀ j y, l[j]? = some y → cellAt w b (o + j * 1) = some (.int .i64 y) := by
  obtain ⟨b, o, hA, hc⟩ := h.2 (by omega)
  exact ⟨b, o, hA, fun j y hj => by rw [Nat.mul_one]; exact hc j _ (ivs_at hj)⟩
/-- a step of a loop over a row of ints -/
theorem sl_rd {w : World} {A : Option Addr} {n : Nat} {l : List Int} (h : Sl w 1 A n (ivs l)) {i : Nat} (hi : i < n) {x : Int} (hx : l[i]? = some x) {K : Int → Prop} (hK : K x) :
    dr A fun b o => gd (decide (0 ≤ (i : Int))) (gd (decide ((i : Int) < ((n : Nat) : Int))) (ldI .i64 w b (o + ((i : Int)).toNat * 1) K)) := by
  obtain ⟨b, o, rfl, hc⟩ := sl_at h hi hx
  refine dr_mk (gd_mk (decide_eq_true (by omega)) (gd_mk (decide_eq_true (by omega)) ⟨x, ?_, hK⟩))
  rw [Int.toNat_natCast]
  exact hc i x hx
theorem push_int {w : World} {B : Nat} {A : Option Addr} {n c : Nat} {out : List Int} {x : Int} {K : Option Addr → Nat → Nat → World → Prop} (hr : Row w B 3 1 A n c (ivs out)) (hB : B ≤ w.heap.size) (hn : n ≤ 2199023255552)
    (hK : ∀ A' c' w', Row w' B 3 1 A' (n + 1) c' (ivs (out ++ [x])) → Fr (fun k => blkOf A = some k) w w' → K A' (n + 1) c' w') : nw w ([Value.int .i64 x] ++ []) 3 fun b w' => app w' 1 8 [Value.int .i64 0] 3 A n c (.slice (some ⟨b, 0, none⟩) 1 1) K := by
  refine nw_mk ?_
  rw [List.append_nil]
  have f1 : Fr (fun _ => False) w (w.alloc (.cells [Value.int .i64 x].toArray 3)) := Fr.alloc _ _ _
  have r1 : Row (w.alloc (.cells [Value.int .i64 x].toArray 3)) 0 3 1 (some ⟨w.heap.size, 0, none⟩) 1 1 (ivs [x]) := Row.new (Nat.zero_le _) rfl
  have hs : (w.alloc (.cells [Value.int .i64 x].toArray 3)).heap.size = w.heap.size + 1 := alloc_size _ _
  generalize w.alloc (.cells [Value.int .i64 x].toArray 3) = w1 at f1 r1 hs ⊢
  refine app_row (f1.row hr (fun _ _ h => h)) r1.sl.src (ivs_one [x]) rfl (by omega) (by omega) (by omega) (fun A' c' w' hr' f' => hK A' c' w' (by rw [ivs_app]; exact hr') ?_)
  exact f1.trans f' (fun _ _ h => h.elim) (fun _ _ h => h)
theorem row_low {u : World} {B B' : Nat} {e : TypeId} {sz : Nat} {A : Option Addr} {k c : Nat} {vs : List Value} (hB : B' ≤ B) (hr : Row u B e sz A k c vs) : Row u B' e sz A k c vs := by
  refine ⟨hr.len, hr.le, ?_⟩
  rcases hr.at_ with h' | ⟨b', cs', q1, q2, q3⟩
  · exact .inl h'
  · exact .inr ⟨b', cs', q1, by omega, q3⟩
/-- a frame over a row of one's own -/
theorem own_fr {w u v : World} {e : TypeId} {sz : Nat} {A : Option Addr} {n c : Nat} {vs : List Value} (f : Fr (fun _ => False) w u) (hr : Row u w.heap.size e sz A n c vs) (g : Fr (fun k => blkOf A = some k) u v) : Fr (fun _ => False) w v :=
  f.trans g (fun _ _ h => h) (fun k hk h' => by have := (hr.blt h').1; omega)
theorem take_succ_at {l : List Int} {i : Nat} {x : Int} (h : l[i]? = some x) : l.take (i + 1) = l.take i ++ [x] := by rw [List.take_add_one, h]; rfl
theorem at_lt {l : List Int} {i : Nat} (h : i < l.length) : l[i]? = some (l[i]'h) := List.getElem?_eq_getElem h
end Go.Proofs.YtfdhaeglhkmmpaaGreat
/- slices.Insert of one: rows of api.Named -/
namespace Go.Proofs.YtfdhaeglhkmmpaaGreat.InsNm
open Go.GV Go.RowKit
set_option linter.unusedVariables false
set_option linter.unusedSimpArgs false
section
variable {β : Type} {enc : β → List Value}
theorem src_rec {w : World} {b : Nat} {e : TypeId} {cs : List Value} {sz : Nat} (h : RecAt w b e cs) (hl : cs.length = sz) : srcOf w sz (.slice (some ⟨b, 0, none⟩) 1 1) 1 cs :=
  ⟨rfl, by omega, fun _ => dr_mk (h.cells (o := 0) (fun j v hj => by simpa using hj))⟩
set_option maxHeartbeats 1000000 in
theorem insert_calls (h0 : EncO β enc 2) (B : Nat) (A : Option Addr) (n c i : Nat) (l : List β) (x : β) (bv : Nat) (w : World) (h : Row w B 94 2 A n c (flt enc l)) (hl : l.length = n) (hi : i ≤ n) (hv : RecAt w bv 94 (enc x)) (hA : blkOf A ≠ some bv) (hB : B ≤ w.heap.size) (hn : n ≤ 1073741824) :
    Calls Tryz.prog 137 #[.slice A n c, .int .i64 (i : Nat), .slice (some ⟨bv, 0, none⟩) 1 1] w fun e w' => ∃ A' c', e = .returned (.slice A' (n + 1) c') ∧ Fr (fun k => blkOf A = some k) w w' ∧ Row w' B 94 2 A' (n + 1) c' (flt enc (l.take i ++ x :: l.drop i)) ∧ ∀ k, blkOf A' = some k → blkOf A = some k ∨ w.heap.size ≤ k := by
  refine (F137.of A n c _ (some ⟨bv, 0, none⟩) 1 1 w (Q := fun v w' => ∃ A' c', v = .slice A' (n + 1) c' ∧ Fr (fun k => blkOf A = some k) w w' ∧ Row w' B 94 2 A' (n + 1) c' (flt enc (l.take i ++ x :: l.drop i)) ∧ ∀ k, blkOf A' = some k → blkOf A = some k ∨ w.heap.size ≤ k) ?_).mono (fun e w' ⟨v, he, A', c', hv, h⟩ => ⟨A', c', by rw [he, hv], h⟩)
  have hle := h.le
  have hx := h0.len x
  have hfl := h0.fl l
  have hsx := src_rec hv hx
  have ox := h0.one x
  have htx : (enc x).take 2 = enc x := by rw [← hx, List.take_length]
  have hlT : (flt enc (l.take i)).length = i * 2 := by rw [h0.fl, List.length_take, hl, Nat.min_eq_left hi]
  have hlD : (flt enc (l.drop i)).length = (n - i) * 2 := by rw [h0.fl, List.length_drop, hl]
  have fin : flt enc (l.take i ++ x :: l.drop i) = flt enc (l.take i) ++ enc x ++ flt enc (l.drop i) := by rw [flt_app, flt_cons, List.append_assoc]
  rw [fin]
  clear fin
  refine gd_mk (decide_eq_true (by omega)) (gd_mk (decide_eq_true (by omega)) (vIf_f rfl (vIf_mk (fun he => ?_) (fun hne => ?_))))
  · have he : (i : Int) = (n : Int) := by simpa using he
    have he : i = n := by omega
    subst he
    have ht : l.take i = l := List.take_of_length_le (by omega)
    have hd : l.drop i = [] := List.drop_of_length_le (by omega)
    refine app_row2 (us := enc x) (m := 1) h hsx ox rfl (by omega) (by omega) hB (fun A' c' w' hr' f' hb' => ⟨A', c', rfl, f', ?_, hb'⟩)
    rw [ht, hd, flt_nil, List.append_nil]
    exact hr'
  have hne : i ≠ n := fun h => by subst h; simp at hne
  obtain ⟨b, hb⟩ : ∃ b, A = some ⟨b, 0, none⟩ := by
    rcases h.at_ with ⟨_, h0, _⟩ | ⟨b, _, hA, _⟩
    · omega
    · exact ⟨b, hA⟩
  subst hb
  have hbb : b ≠ bv := fun h => hA (by rw [h]; rfl)
  have en : IntKind.wrap .i64 ((n : Int) + ((1 : Nat) : Int)) = ((n + 1 : Nat) : Int) := by rw [i64_id (by omega) (by omega)]; rfl
  have ei : IntKind.wrap .i64 ((i : Int) + ((1 : Nat) : Int)) = ((i + 1 : Nat) : Int) := by rw [i64_id (by omega) (by omega)]; rfl
  have ed : IntKind.wrap .i64 (((n + 1 : Nat) : Int) - (i : Int)) = ((n + 1 - i : Nat) : Int) := by rw [i64_id (by omega) (by omega)]; omega
  have h00 : slA (some (⟨b, 0, none⟩ : Addr)) c 0 2 = some ⟨b, 0, none⟩ := sl0 _ _ _
  simp only [en, ei, ed, h00, Int.toNat_natCast]
  refine vIf_mk (fun hgt => ?_) (fun hng => ?_)
  · have hgt : c < n + 1 := by have := of_decide_eq_true hgt; omega
    refine gd_mk (decide_eq_true (by omega)) (gd_mk (decide_eq_true (by omega)) ?_)
    have hnm : i + (n + 1 - i) = n + 1 := by omega
    refine appZ_new (m := n + 1 - i) (old := flt enc (l.take i)) (B := B) (by rw [← h0.ft l (by omega)]; exact h.sl.headS (by omega)) (by rw [i64_id (by omega) (by omega)]) (by omega) (by intro v hv; repeat (first | (cases hv; done) | (rcases List.mem_cons.1 hv with rfl | hv; · rfl))) rfl (by omega) (by omega) (by omega) hB (fun b5 c5 w5 hb5 hr5 f5 => ?_)
    rw [hnm] at hr5 ⊢
    have hzl : (zeros (n + 1 - i) ([.string (⟨#[]⟩ : ByteArray), .int .i64 0] : List Value)).length = (n + 1 - i) * 2 := by rw [zeros_length]; rfl
    refine gd_mk (decide_eq_true (by omega)) (gd_mk (decide_eq_true (by omega)) ?_)
    refine cpy_row hr5 (src_rec (hv.fr f5 (fun h => h)) hx) (by omega) (by omega) (by rw [Nat.min_eq_left (by omega), Nat.one_mul, htx]; exact ox) (fun w6 hr6 f6 => ?_)
    rw [Nat.min_eq_left (by omega), Nat.one_mul, htx, splice_at hlT] at hr6
    refine gd_mk (decide_eq_true (by omega)) (gd_mk (decide_eq_true (by omega)) (gd_mk (decide_eq_true (by omega)) (gd_mk (decide_eq_true (by omega)) ?_)))
    have hsD := h.tailS (k := i) (by omega)
    rw [h0.fd l (by omega)] at hsD
    have hbl := (h.blt (b := b) rfl).2
    have f56 : Fr (fun k => b5 = k) w w6 := (f5.mono (fun _ _ h => h.elim)).trans1 (f6.mono (fun k _ h => by simpa [blkOf] using h))
    have f7 := f56.trans1 (Fr.drew _ _)
    have hsD7 := f7.sl hsD (fun _ k hk h => by rw [sl_blk] at hk; injection hk with hk; omega)
    refine cpy_row ((Fr.drew (fun _ => False) w6).row hr6 (fun _ _ h => h)) hsD7.src (by rw [hlD]) (by omega) (by intro v hv; exact h0.fo _ v (List.mem_of_mem_take hv)) (fun w8 hr8 f8 => ⟨_, _, rfl, ?_, ?_, fun k hk => .inr (by simp [blkOf] at hk; omega)⟩)
    · exact (f7.trans1 (f8.mono (fun k _ h => by simpa [blkOf] using h))).mono (fun k hk h => by omega)
    · have hD : (flt enc (l.drop i)).take (min (n - i) (n + 1 - (i + 1)) * 2) = flt enc (l.drop i) := List.take_of_length_le (by rw [hlD, show min (n - i) (n + 1 - (i + 1)) = n - i by omega]; exact Nat.le_refl _)
      have hd0 : ((zeros (n + 1 - i) ([.string (⟨#[]⟩ : ByteArray), .int .i64 0] : List Value)).drop (enc x).length).drop (flt enc (l.drop i)).length = [] := List.drop_of_length_le (by rw [List.length_drop, hzl, hx, hlD]; omega)
      rw [hD, splice_at (by rw [List.length_append, hlT, hx]; omega), hd0, List.append_nil] at hr8
      exact hr8
  · have hng : n + 1 ≤ c := by have := of_decide_eq_false hng; omega
    have hs1 : slA (some (⟨b, 0, none⟩ : Addr)) c (i + 1) 2 = some ⟨b, (i + 1) * 2, none⟩ := slS (by omega)
    refine gd_mk (decide_eq_true (by omega)) (gd_mk (decide_eq_true (by omega)) (gd_mk (decide_eq_true (by omega)) (gd_mk (decide_eq_true (by omega)) ?_)))
    obtain ⟨cs, hcs, hcl⟩ : ∃ cs, w.heap[b]? = some (.cells cs 94 (0, 0)) ∧ cs.size = c * 2 := by
      rcases h.at_ with ⟨h1, _⟩ | ⟨b', cs, hA', _, hh, hs, _⟩
      · cases h1
      · cases hA'; exact ⟨cs, hh, hs⟩
    have hov : ∀ K : Value → World → Prop, K (.bool false) w → extC Tryz.prog 148 #[Value.slice (some ⟨bv, 0, none⟩) 1 1, Value.slice (slA (some (⟨b, 0, none⟩ : Addr)) c (i + 1) 2) (n + 1 - (i + 1)) (c - (i + 1))] w K := by
      intro K hK
      rw [hs1]
      exact overlaps_ext (tS := 61) (tR := 4) (e := 94) Tryz.func148 (by kernel_rfl) (by kernel_rfl) (by kernel_rfl) (by kernel_rfl) (size := 2) (by decide) (by kernel_rfl) hv hcs (fun h => hbb h.symm) (by omega) hK
    refine hov _ ⟨false, rfl, vIf_t rfl ?_⟩
    refine gd_mk (decide_eq_true (by omega)) (gd_mk (decide_eq_true (by omega)) (gd_mk (decide_eq_true (by omega)) (gd_mk (decide_eq_true (by omega)) ?_)))
    have hwd := (Fr.drew (fun _ => False) w).row h (fun _ _ h => h)
    obtain ⟨us, hul, hE⟩ := row_ext hwd (k := 1) (by omega)
    have hsE := hE.tailS (k := i) (by omega)
    have hEl : (flt enc l ++ us).length = (n + 1) * 2 := hE.len
    have hmin : min (n + 1 - i) (n + 1 - (i + 1)) = n - i := by omega
    have hdi : (flt enc l ++ us).drop (i * 2) = flt enc (l.drop i) ++ us := by rw [List.drop_append_of_le_length (by rw [hfl]; omega), h0.fd l (by omega)]
    rw [hdi] at hsE
    have htk : (flt enc (l.drop i) ++ us).take ((n - i) * 2) = flt enc (l.drop i) := by rw [← hlD, List.take_left]
    refine cpy_row hE hsE.src (by rw [List.length_append, hlD, hul]; omega) (by omega) (by rw [hmin, htk]; exact h0.fo _) (fun w5 hr5 f5 => ?_)
    rw [hmin, htk] at hr5
    have hsp : splice (flt enc l ++ us) ((i + 1) * 2) (flt enc (l.drop i)) = flt enc (l.take (i + 1)) ++ flt enc (l.drop i) := by
      have e1 : flt enc l ++ us = flt enc (l.take (i + 1)) ++ (flt enc (l.drop (i + 1)) ++ us) := by rw [← List.append_assoc, ← flt_app, List.take_append_drop]
      have hd0 : (flt enc (l.drop (i + 1)) ++ us).drop (flt enc (l.drop i)).length = [] := List.drop_of_length_le (by rw [List.length_append, h0.fl, List.length_drop, hl, hul, hlD]; omega)
      rw [e1, splice_at (by rw [h0.fl, List.length_take, hl, Nat.min_eq_left (by omega)]), hd0, List.append_nil]
    rw [hsp] at hr5
    have f5 : Fr (fun k => b = k) w w5 := ((Fr.drew (fun k => b = k) w).trans1 (f5.mono (fun k _ h => by simpa [blkOf] using h)))
    refine gd_mk (decide_eq_true (by omega)) (gd_mk (decide_eq_true (by omega)) ?_)
    refine cpy_row hr5 (src_rec (hv.fr f5 (fun h => hbb h)) hx) (by omega) (by omega) (by rw [Nat.min_eq_left (by omega), Nat.one_mul, htx]; exact ox) (fun w6 hr6 f6 => ⟨_, _, rfl, ?_, ?_, fun k hk => .inl hk⟩)
    · exact (f5.trans1 (f6.mono (fun k _ h => by simpa [blkOf] using h))).mono (fun k _ h => by rw [h]; rfl)
    · rw [Nat.min_eq_left (by omega), Nat.one_mul, htx] at hr6
      have e2 : l.take (i + 1) = l.take i ++ [l[i]'(by omega)] := by rw [List.take_add_one, List.getElem?_eq_getElem (by omega)]; rfl
      rw [e2, flt_app, flt_one, List.append_assoc, splice_at hlT, hx, List.drop_left' (h0.len _)] at hr6
      exact hr6
end
end Go.Proofs.YtfdhaeglhkmmpaaGreat.InsNm
/- slices.Delete of one: rows of api.Named -/
namespace Go.Proofs.YtfdhaeglhkmmpaaGreat.DelNm
open Go.GV Go.RowKit
set_option linter.unusedVariables false
set_option linter.unusedSimpArgs false
section
variable {β : Type} {enc : β → List Value}
set_option maxHeartbeats 1000000 in
theorem delete_calls (h0 : EncO β enc 2) (B : Nat) (A : Option Addr) (n c i : Nat) (l : List β) (w : World) (h : Row w B 94 2 A n c (flt enc l)) (hl : l.length = n) (hi : i < n) (hn : n ≤ 1073741824) {j : Int} (hj : j = ((i + 1 : Nat) : Int)) :
    Calls Tryz.prog 138 #[.slice A n c, .int .i64 (i : Nat), .int .i64 j] w fun e w' => e = .returned (.slice A (n - 1) c) ∧ Fr (fun k => blkOf A = some k) w w' ∧ Row w' B 94 2 A (n - 1) c (flt enc (l.take i ++ l.drop (i + 1))) := by
  subst hj
  refine (F138.of A n c _ _ w (Q := fun v w' => v = .slice A (n - 1) c ∧ Fr (fun k => blkOf A = some k) w w' ∧ Row w' B 94 2 A (n - 1) c (flt enc (l.take i ++ l.drop (i + 1)))) ?_).mono (fun e w' ⟨v, he, hv, h⟩ => ⟨by rw [he, hv], h⟩)
  have hle := h.le
  have hfl := h0.fl l
  obtain ⟨b, hb⟩ : ∃ b, A = some ⟨b, 0, none⟩ := by
    rcases h.at_ with ⟨_, h0, _⟩ | ⟨b, _, hA, _⟩
    · omega
    · exact ⟨b, hA⟩
  subst hb
  have h00 : slA (some (⟨b, 0, none⟩ : Addr)) c 0 2 = some ⟨b, 0, none⟩ := sl0 _ _ _
  refine gd_mk (decide_eq_true (by omega)) (gd_mk (decide_eq_true (by omega)) (gd_mk (decide_eq_true (by omega)) (gd_mk (decide_eq_true (by omega)) (gd_mk (decide_eq_true (by omega)) (gd_mk (decide_eq_true (by omega)) (vIf_f (by simp; omega) ?_))))))
  refine gd_mk (decide_eq_true (by omega)) (gd_mk (decide_eq_true (by omega)) (gd_mk (decide_eq_true (by omega)) (gd_mk (decide_eq_true (by omega)) ?_)))
  simp only [h00, Int.toNat_natCast]
  have hwd := (Fr.drew (fun _ => False) w).row h (fun _ _ h => h)
  have hcut := row_cutG hwd (k := i) (by omega)
  have hsD := hwd.tailS (k := i + 1) (by omega)
  rw [h0.fd l (by omega)] at hsD
  rw [h0.ft l (by omega)] at hcut
  have hnm : i + (n - (i + 1)) = n - 1 := by omega
  refine app_in hcut hsD.src (by rw [h0.fl, List.length_drop, hl]) (h0.fo _) (by omega) (by omega) (by omega) (fun w5 hr5 f5 => ?_)
  rw [hnm] at hr5 ⊢
  rw [← flt_app] at hr5
  refine gd_mk (decide_eq_true (by omega)) (gd_mk (decide_eq_true (by omega)) (gd_mk (decide_eq_true (by omega)) (gd_mk (decide_eq_true (by omega)) (vIf_f (by simp; omega) ?_))))
  have hs1 : slA (some (⟨b, 0, none⟩ : Addr)) c (n - 1) 2 = some ⟨b, (n - 1) * 2, none⟩ := slS (by omega)
  simp only [Int.toNat_natCast]
  rw [hs1, show n - (n - 1) = 1 by omega]
  obtain ⟨us, hul, hE⟩ := row_ext hr5 (k := 1) (by omega)
  have hpl : (flt enc (l.take i ++ l.drop (i + 1))).length = (n - 1) * 2 := hr5.len
  rw [show n - 1 + 1 = n by omega] at hE
  have hpt := row_putG (o' := (n - 1) * 2) (us := zeros 1 ([.string (⟨#[]⟩ : ByteArray), .int .i64 0] : List Value)) (K := fun w' => True ∧ Fr (fun k => blkOf (some (⟨b, 0, none⟩ : Addr)) = some k) w w' ∧ Row w' B 94 2 (some ⟨b, 0, none⟩) (n - 1) c (flt enc (l.take i ++ l.drop (i + 1)))) hE (by omega) (by rw [zeros_length]; show (n - 1) * 2 + 1 * 2 ≤ _; rw [← Nat.add_mul]; exact Nat.mul_le_mul_right _ (by omega)) (zeros_one (by intro v hv; repeat (first | (cases hv; done) | (rcases List.mem_cons.1 hv with rfl | hv; · rfl)))) (fun w6 hr6 f6 => ⟨trivial, ((Fr.drew _ w).trans1 f5).trans1 f6, ?_⟩)
  · rw [← Nat.zero_add ((n - 1) * 2)]
    exact hpt
  · have h7 := row_cutG hr6 (k := n - 1) (by omega)
    rw [splice_at hpl, List.append_assoc, ← hpl, List.take_left] at h7
    exact h7
end
end Go.Proofs.YtfdhaeglhkmmpaaGreat.DelNm
/- slices.Clone: rows of api.Named -/
namespace Go.Proofs.YtfdhaeglhkmmpaaGreat.ClnNm
open Go.GV Go.RowKit
set_option linter.unusedVariables false
theorem clone_calls (A : Option Addr) (n c : Nat) (vs : List Value) (w : World) (h : Sl w 2 A n vs) (ho : ∀ v ∈ vs, v.oneCell' = true) (hn : n ≤ 1073741824) :
    Calls Tryz.prog 112 #[.slice A n c] w fun e w' => Fr (fun _ => False) w w' ∧ ∃ A' c', e = .returned (.slice A' n c') ∧ Row w' w.heap.size 94 2 A' n c' vs := by
  refine (F112.of A n c w (Q := fun v w' => Fr (fun _ => False) w w' ∧ ∃ A' c', v = .slice A' n c' ∧ Row w' w.heap.size 94 2 A' n c' vs) ?_).mono (fun e w' ⟨v, he, hf, A', c', hv, h⟩ => ⟨hf, A', c', by rw [he, hv], h⟩)
  refine vIf_mk (fun h0 => ?_) (fun h0 => nw_mk ?_)
  · have : n = 0 := by
      refine Classical.byContradiction fun hn0 => ?_
      obtain ⟨b, o, hA, _⟩ := h.2 hn0
      rw [hA] at h0; cases h0
    subst this
    have : vs = [] := List.length_eq_zero_iff.1 (by have := h.1; omega)
    subst this
    exact ⟨Fr.refl _ _, none, 0, rfl, Row.nil _ _ _ _⟩
  · have f1 : Fr (fun _ => False) w (w.alloc (.cells ([] : List Value).toArray 94)) := Fr.alloc _ _ _
    have r1 : Row (w.alloc (.cells ([] : List Value).toArray 94)) w.heap.size 94 2 (some ⟨w.heap.size, 0, none⟩) 0 0 [] := Row.new (Nat.le_refl _) rfl
    have hs : (w.alloc (.cells ([] : List Value).toArray 94)).heap.size = w.heap.size + 1 := alloc_size _ _
    generalize w.alloc (.cells ([] : List Value).toArray 94) = w1 at f1 r1 hs ⊢
    refine app_row r1 (f1.sl h (fun _ _ _ h => h)).src ho rfl (by omega) (by omega) (by omega) (fun A' c' w' hr' f' => ⟨?_, A', c', ?_, ?_⟩)
    · exact f1.trans f' (fun _ _ h => h) (fun k hk h' => by simp only [blkOf, Option.some.injEq] at h'; omega)
    · rw [Nat.zero_add]
    · rw [Nat.zero_add, List.nil_append] at hr'; exact hr'
end Go.Proofs.YtfdhaeglhkmmpaaGreat.ClnNm
/- slices.Clone: rows of api.Change -/
namespace Go.Proofs.YtfdhaeglhkmmpaaGreat.ClnCh
open Go.GV Go.RowKit
set_option linter.unusedVariables false
theorem clone_calls (A : Option Addr) (n c : Nat) (vs : List Value) (w : World) (h : Sl w 4 A n vs) (ho : ∀ v ∈ vs, v.oneCell' = true) (hn : n ≤ 1073741824) :
    Calls Tryz.prog 97 #[.slice A n c] w fun e w' => Fr (fun _ => False) w w' ∧ ∃ A' c', e = .returned (.slice A' n c') ∧ Row w' w.heap.size 82 4 A' n c' vs := by
  refine (F97.of A n c w (Q := fun v w' => Fr (fun _ => False) w w' ∧ ∃ A' c', v = .slice A' n c' ∧ Row w' w.heap.size 82 4 A' n c' vs) ?_).mono (fun e w' ⟨v, he, hf, A', c', hv, h⟩ => ⟨hf, A', c', by rw [he, hv], h⟩)
  refine vIf_mk (fun h0 => ?_) (fun h0 => nw_mk ?_)
  · have : n = 0 := by
      refine Classical.byContradiction fun hn0 => ?_
      obtain ⟨b, o, hA, _⟩ := h.2 hn0
      rw [hA] at h0; cases h0
    subst this
    have : vs = [] := List.length_eq_zero_iff.1 (by have := h.1; omega)
    subst this
    exact ⟨Fr.refl _ _, none, 0, rfl, Row.nil _ _ _ _⟩
  · have f1 : Fr (fun _ => False) w (w.alloc (.cells ([] : List Value).toArray 82)) := Fr.alloc _ _ _
    have r1 : Row (w.alloc (.cells ([] : List Value).toArray 82)) w.heap.size 82 4 (some ⟨w.heap.size, 0, none⟩) 0 0 [] := Row.new (Nat.le_refl _) rfl
    have hs : (w.alloc (.cells ([] : List Value).toArray 82)).heap.size = w.heap.size + 1 := alloc_size _ _
    generalize w.alloc (.cells ([] : List Value).toArray 82) = w1 at f1 r1 hs ⊢
    refine app_row r1 (f1.sl h (fun _ _ _ h => h)).src ho rfl (by omega) (by omega) (by omega) (fun A' c' w' hr' f' => ⟨?_, A', c', ?_, ?_⟩)
    · exact f1.trans f' (fun _ _ h => h) (fun k hk h' => by simp only [blkOf, Option.some.injEq] at h'; omega)
    · rw [Nat.zero_add]
    · rw [Nat.zero_add, List.nil_append] at hr'; exact hr'
end Go.Proofs.YtfdhaeglhkmmpaaGreat.ClnCh
/- stable sorting, walked: rows of api.Named -/
namespace Go.Proofs.YtfdhaeglhkmmpaaGreat.StbNm
open Go.GV Go.RowKit Go.Stb
set_option linter.unusedVariables false
set_option linter.unusedSimpArgs false
/-- what is asked of the elements and their comparison -/
structure Srt (β : Type) (enc : β → List Value) (cmp : β → β → Int) : Prop where
  len : ∀ x, (enc x).length = 2
  one : ∀ x, ∀ v ∈ enc x, v.oneCell' = true
  ord : OrdC cmp
  call : ∀ x y w, Calls Tryz.prog 114 #[ofL (enc x), ofL (enc y)] w fun e w' => e = .returned (.int .i64 (cmp x y)) ∧ Fr (fun _ => False) w w'
def cf : Value := .func (.func 114) #[] #[]
section
variable {β : Type} {enc : β → List Value} {cmp : β → β → Int}
abbrev encT (enc : β → List Value) : β × Nat → List Value := fun x => enc x.1
theorem Srt.lenT (h : Srt β enc cmp) {l : List (β × Nat)} : ∀ x ∈ l, (encT enc x).length = 2 := fun x _ => h.len x.1
/-- the row holds these -/
def RS (enc : β → List Value) (w : World) (B : Nat) (A : Option Addr) (n c : Nat) (l : List (β × Nat)) : Prop := Row w B 94 2 A n c (flt (encT enc) l) ∧ l.length = n
theorem RS.fr0 {w w' : World} {B : Nat} {A : Option Addr} {n c : Nat} {l : List (β × Nat)} (h : RS enc w B A n c l) (f : Fr (fun _ => False) w w') : RS enc w' B A n c l := ⟨f.row h.1 (fun _ _ h => h), h.2⟩
theorem RS.drew {w : World} {B : Nat} {A : Option Addr} {n c : Nat} {l : List (β × Nat)} (h : RS enc w B A n c l) : RS enc w.drew B A n c l := h.fr0 (Fr.drew _ _)
theorem rs_rd (h0 : Srt β enc cmp) {w : World} {B : Nat} {A : Option Addr} {n c : Nat} {l : List (β × Nat)} (h : RS enc w B A n c l) {i : Nat} {x : β × Nat} (hi : l[i]? = some x) {ii : Int} (hii : ii = (i : Int)) {K : List Value → Prop} (hK : K (enc x.1)) :
    dr A fun b o => gd (decide (0 ≤ ii)) (gd (decide (ii < ((n : Nat) : Int))) (ldA 2 w b (o + ii.toNat * 2) K)) :=
  el_rd h.1.sl h0.lenT hi hii h.2 (fun b o hA hc => ⟨enc x.1, h0.len x.1, hc, hK⟩)
/-- two elements change their places -/
theorem rs_swap (h0 : Srt β enc cmp) {w : World} {B : Nat} {A : Option Addr} {n c : Nat} {l : List (β × Nat)} (h : RS enc w B A n c l) {i j : Nat} {x y : β × Nat} (hi : i < n) (hj : j < n) {ii jj : Int} (hii : ii = (i : Int)) (hjj : jj = (j : Int)) {K : World → Prop}
    (hK : ∀ w', RS enc w' B A n c ((l.set i y).set j x) → Fr (fun k => blkOf A = some k) w w' → K w') :
    dr A fun b o => gd (decide (0 ≤ ii)) (gd (decide (ii < ((n : Nat) : Int))) (gd ((enc y.1).length == 2) (st w b (o + ii.toNat * 2) (enc y.1) fun w1 =>
      dr A fun b o => gd (decide (0 ≤ jj)) (gd (decide (jj < ((n : Nat) : Int))) (gd ((enc x.1).length == 2) (st w1 b (o + jj.toNat * 2) (enc x.1) K)))))) :=
  el_put (enc := encT enc) h.1 h0.lenT h.2 hi hii (h0.len y.1) (h0.one y.1) (fun w1 hr1 f1 =>
    el_put (enc := encT enc) hr1 h0.lenT (by rw [List.length_set]; exact h.2) hj hjj (h0.len x.1) (h0.one x.1) (fun w2 hr2 f2 => hK w2 ⟨hr2, by rw [List.length_set, List.length_set]; exact h.2⟩ (f1.trans1 f2)))
theorem em (i j : Nat) (h1 : i < 1099511627776) (h2 : j < 1099511627776) : IntKind.wrap .i64 (Int.fdiv (IntKind.wrap .u64 (IntKind.wrap .i64 ((i : Int) + (j : Int)))) (2 ^ 1)) = (((i + j) / 2 : Nat) : Int) := by
  rw [i64_id (n := (i : Int) + (j : Int)) (by omega) (by omega), IntKind.wrap_u64, Int.fdiv_eq_ediv_of_nonneg _ (by decide), i64_id (by omega) (by omega)]; omega
theorem ep (i : Nat) (h : i < 1099511627776) : IntKind.wrap .i64 ((i : Int) + 1) = ((i + 1 : Nat) : Int) := by rw [i64_id (by omega) (by omega)]; rfl
theorem ea (i j : Nat) (h1 : i < 1099511627776) (h2 : j < 1099511627776) : IntKind.wrap .i64 ((i : Int) + (j : Int)) = ((i + j : Nat) : Int) := by rw [i64_id (by omega) (by omega)]; rfl
theorem es (i j : Nat) (h1 : i < 1099511627776) (h2 : j ≤ i) : IntKind.wrap .i64 ((i : Int) - (j : Int)) = ((i - j : Nat) : Int) := by rw [i64_id (by omega) (by omega)]; omega
theorem e1 (i : Nat) (h1 : i < 1099511627776) (h2 : 1 ≤ i) : IntKind.wrap .i64 ((i : Int) - 1) = ((i - 1 : Nat) : Int) := by rw [i64_id (by omega) (by omega)]; omega
/-! ### two ranges change their places -/
theorem swapRange_calls (h0 : Srt β enc cmp) (B : Nat) (A : Option Addr) (n c : Nat) (P X Y Z S : List (β × Nat)) (w : World) (h : RS enc w B A n c (P ++ X ++ Y ++ Z ++ S)) (hXZ : X.length = Z.length) (hn : n < 549755813888) {a b m : Int} (ha : a = ((P.length : Nat) : Int)) (hb : b = ((P.length + X.length + Y.length : Nat) : Int)) (hm : m = ((X.length : Nat) : Int)) :
    Calls Tryz.prog 153 #[.slice A n c, .int .i64 a, .int .i64 b, .int .i64 m, cf] w fun e w' => e = .returned (.tuple #[]) ∧ Fr (fun k => blkOf A = some k) w w' ∧ RS enc w' B A n c (P ++ Z ++ Y ++ X ++ S) := by
  subst ha; subst hb; subst hm
  refine (F153s.of A n c _ _ _ w (Q := fun v w' => v = .tuple #[] ∧ Fr (fun k => blkOf A = some k) w w' ∧ RS enc w' B A n c (P ++ Z ++ Y ++ X ++ S)) ?_).mono (fun e w' ⟨v, he, hv, h⟩ => ⟨by rw [he, hv], h⟩)
  have hlen := h.2
  simp only [List.length_append] at hlen
  refine jnC_mk (loop_rule (fun s u => Fr (fun k => blkOf A = some k) w u ∧ ∃ (k : Nat) (X1 X2 Z1 Z2 : List (β × Nat)), X = X1 ++ X2 ∧ Z = Z1 ++ Z2 ∧ X1.length = k ∧ Z1.length = k ∧ s = ((A, n, c), ((P.length : Nat) : Int), ((P.length + X.length + Y.length : Nat) : Int), ((X.length : Nat) : Int), (k : Int), ()) ∧ RS enc u B A n c (P ++ Z1 ++ X2 ++ Y ++ X1 ++ Z2 ++ S))
    (fun s _ => (X.length - s.2.2.2.2.1).toNat) ?_ _ _ ⟨Fr.refl _ _, 0, [], X, [], Z, rfl, rfl, rfl, rfl, rfl, by simpa using h⟩)
  rintro s u C ⟨hf, k, X1, X2, Z1, Z2, hX, hZ, hx1, hz1, rfl, hr⟩ hC _
  have hXl : X.length = X1.length + X2.length := by rw [hX, List.length_append]
  have hZl : Z.length = Z1.length + Z2.length := by rw [hZ, List.length_append]
  refine vIf_mk (fun hlt => ?_) (fun hge => ?_)
  · have hlt2 : (k : Int) < (X.length : Int) := of_decide_eq_true hlt
    obtain ⟨x, X2', rfl⟩ : ∃ x X2', X2 = x :: X2' := by
      cases X2 with
      | nil => simp at hXl; omega
      | cons x r => exact ⟨x, r, rfl⟩
    obtain ⟨z, Z2', rfl⟩ : ∃ z Z2', Z2 = z :: Z2' := by
      cases Z2 with
      | nil => simp at hZl; omega
      | cons x r => exact ⟨x, r, rfl⟩
    simp only [List.length_cons] at hXl hZl
    have ea1 : IntKind.wrap .i64 (((P.length : Nat) : Int) + (k : Int)) = ((P.length + k : Nat) : Int) := ea _ _ (by omega) (by omega)
    have eb1 : IntKind.wrap .i64 (((P.length + X.length + Y.length : Nat) : Int) + (k : Int)) = ((P.length + X.length + Y.length + k : Nat) : Int) := ea _ _ (by omega) (by omega)
    have hr := hr.drew
    have fd : Fr (fun k => blkOf A = some k) w u.drew := hf.trans1 (Fr.drew _ _)
    have hl1 : P ++ Z1 ++ (x :: X2') ++ Y ++ X1 ++ (z :: Z2') ++ S = (P ++ Z1) ++ x :: (X2' ++ Y ++ X1 ++ (z :: Z2') ++ S) := by simp
    have hl2 : P ++ Z1 ++ (x :: X2') ++ Y ++ X1 ++ (z :: Z2') ++ S = (P ++ Z1 ++ (x :: X2') ++ Y ++ X1) ++ z :: (Z2' ++ S) := by simp
    dsimp only
    refine rs_rd h0 hr (i := P.length + X.length + Y.length + k) (x := z) (by rw [hl2]; exact get_mid (by simp; omega)) eb1 ?_
    refine rs_rd h0 hr (i := P.length + k) (x := x) (by rw [hl1]; exact get_mid (by simp; omega)) ea1 ?_
    refine rs_swap h0 hr (i := P.length + k) (j := P.length + X.length + Y.length + k) (x := x) (y := z) (by omega) (by omega) ea1 eb1 (fun w' hr' f' => jnC_mk (hC _ _ ⟨fd.trans1 f', k + 1, X1 ++ [x], X2', Z1 ++ [z], Z2', by rw [hX]; simp, by rw [hZ]; simp, by simp [hx1], by simp [hz1], by rw [ep k (by omega)], ?_⟩ ?_))
    · rw [hl1, set_mid (by simp; omega)] at hr'
      have hl3 : (P ++ Z1) ++ z :: (X2' ++ Y ++ X1 ++ (z :: Z2') ++ S) = (P ++ Z1 ++ z :: (X2' ++ Y ++ X1)) ++ z :: (Z2' ++ S) := by simp
      rw [hl3, set_mid (by simp; omega)] at hr'
      have hl4 : (P ++ Z1 ++ z :: (X2' ++ Y ++ X1)) ++ x :: (Z2' ++ S) = P ++ (Z1 ++ [z]) ++ X2' ++ Y ++ (X1 ++ [x]) ++ Z2' ++ S := by simp
      rw [hl4] at hr'
      exact hr'
    · show ((X.length : Int) - IntKind.wrap .i64 ((k : Int) + 1)).toNat < ((X.length : Int) - (k : Int)).toNat
      rw [ep k (by omega)]; omega
  · have hge2 : ¬ (k : Int) < (X.length : Int) := of_decide_eq_false hge
    have hx2 : X2 = [] := List.length_eq_zero_iff.1 (by omega)
    have hz2 : Z2 = [] := List.length_eq_zero_iff.1 (by omega)
    subst hx2; subst hz2
    simp only [List.append_nil] at hX hZ hr
    subst hX; subst hZ
    exact ⟨rfl, hf, hr⟩
/-! ### rotation -/
theorem rotate_calls (h0 : Srt β enc cmp) (B : Nat) (A : Option Addr) (n c : Nat) (P X Y S : List (β × Nat)) (w : World) (h : RS enc w B A n c (P ++ X ++ Y ++ S)) (hX : X ≠ []) (hY : Y ≠ []) (hn : n < 549755813888) {a m b : Int} (ha : a = ((P.length : Nat) : Int)) (hm : m = ((P.length + X.length : Nat) : Int)) (hb : b = ((P.length + X.length + Y.length : Nat) : Int)) :
    Calls Tryz.prog 151 #[.slice A n c, .int .i64 a, .int .i64 m, .int .i64 b, cf] w fun e w' => e = .returned (.tuple #[]) ∧ Fr (fun k => blkOf A = some k) w w' ∧ RS enc w' B A n c (P ++ Y ++ X ++ S) := by
  subst ha; subst hm; subst hb
  refine (F151s.of A n c _ _ _ w (Q := fun v w' => v = .tuple #[] ∧ Fr (fun k => blkOf A = some k) w w' ∧ RS enc w' B A n c (P ++ Y ++ X ++ S)) ?_).mono (fun e w' ⟨v, he, hv, h⟩ => ⟨by rw [he, hv], h⟩)
  have hlen := h.2
  simp only [List.length_append] at hlen
  have hX0 : X.length ≠ 0 := fun h => hX (List.length_eq_zero_iff.1 h)
  have hY0 : Y.length ≠ 0 := fun h => hY (List.length_eq_zero_iff.1 h)
  have eX : IntKind.wrap .i64 (((P.length + X.length : Nat) : Int) - ((P.length : Nat) : Int)) = ((X.length : Nat) : Int) := by rw [es _ _ (by omega) (by omega), Nat.add_sub_cancel_left]
  have eY : IntKind.wrap .i64 (((P.length + X.length + Y.length : Nat) : Int) - ((P.length + X.length : Nat) : Int)) = ((Y.length : Nat) : Int) := by rw [es _ _ (by omega) (by omega), Nat.add_sub_cancel_left]
  refine jnC_mk (loop_rule (fun s u => Fr (fun k => blkOf A = some k) w u ∧ ∃ (P' X' Y' S' : List (β × Nat)), X' ≠ [] ∧ Y' ≠ [] ∧ P'.length + X'.length = P.length + X.length ∧ P' ++ Y' ++ X' ++ S' = P ++ Y ++ X ++ S ∧ s = ((A, n, c), ((P.length + X.length : Nat) : Int), (), ((X'.length : Nat) : Int), ((Y'.length : Nat) : Int), ()) ∧ RS enc u B A n c (P' ++ X' ++ Y' ++ S'))
    (fun s _ => (s.2.2.2.1 + s.2.2.2.2.1).toNat) ?_ _ _ ⟨Fr.refl _ _, P, X, Y, S, hX, hY, rfl, rfl, by rw [eX, eY], h⟩)
  rintro s u C ⟨hf, P', X', Y', S', hX', hY', hpx, htot, rfl, hr⟩ hC _
  have hX1 : X'.length ≠ 0 := fun h => hX' (List.length_eq_zero_iff.1 h)
  have hY1 : Y'.length ≠ 0 := fun h => hY' (List.length_eq_zero_iff.1 h)
  have hl := hr.2
  simp only [List.length_append] at hl
  have em1 : IntKind.wrap .i64 (((P.length + X.length : Nat) : Int) - ((X'.length : Nat) : Int)) = ((P'.length : Nat) : Int) := by rw [es _ _ (by omega) (by omega)]; congr 1; omega
  refine vIf_mk (fun hne => vIf_mk (fun hgt => ?_) (fun hle => ?_)) (fun heq => ?_)
  · have hgt2 : (X'.length : Int) > (Y'.length : Int) := of_decide_eq_true hgt
    -- X' = U V, U as long as Y'
    obtain ⟨U, V, hUV, hU⟩ : ∃ U V, X' = U ++ V ∧ U.length = Y'.length := ⟨X'.take Y'.length, X'.drop Y'.length, (List.take_append_drop _ _).symm, by rw [List.length_take]; omega⟩
    have hVl : X'.length = U.length + V.length := by rw [hUV, List.length_append]
    have hr2 : RS enc u B A n c (P' ++ U ++ V ++ Y' ++ S') := by
      rw [hUV] at hr
      simpa using hr
    refine (swapRange_calls h0 B A n c P' U V Y' S' u hr2 hU hn em1 (by rw [Nat.add_assoc P'.length, ← hVl]; exact congrArg _ hpx.symm) (by rw [hU])).mono ?_
    rintro r u2 ⟨rfl, f2, hr3⟩
    refine ⟨rfl, jnC_mk (hC _ _ ⟨hf.trans1 f2, P' ++ Y', V, U, S', ?_, ?_, ?_, ?_, ?_, ?_⟩ ?_)⟩
    · intro h; rw [h] at hVl; simp at hVl; omega
    · intro h; rw [h] at hU; simp at hU; omega
    · simp only [List.length_append]; omega
    · rw [← htot, hUV]; simp
    · show (_, _, _, IntKind.wrap .i64 ((X'.length : Int) - (Y'.length : Int)), _, ()) = _
      rw [es _ _ (by omega) (by omega), hU, show X'.length - Y'.length = V.length by omega]
    · exact hr3
    · show (IntKind.wrap .i64 ((X'.length : Int) - (Y'.length : Int)) + (Y'.length : Int)).toNat < ((X'.length : Int) + (Y'.length : Int)).toNat
      rw [es _ _ (by omega) (by omega)]; omega
  · have hle2 : ¬ (X'.length : Int) > (Y'.length : Int) := of_decide_eq_false hle
    have hne2 : X'.length ≠ Y'.length := by
      have hne : ((X'.length : Int) != (Y'.length : Int)) = true := hne
      intro h; rw [h] at hne; simp at hne
    -- Y' = U V, V as long as X'
    obtain ⟨U, V, hUV, hV⟩ : ∃ U V, Y' = U ++ V ∧ V.length = X'.length := ⟨Y'.take (Y'.length - X'.length), Y'.drop (Y'.length - X'.length), (List.take_append_drop _ _).symm, by rw [List.length_drop]; omega⟩
    have hUl : Y'.length = U.length + V.length := by rw [hUV, List.length_append]
    have hr2 : RS enc u B A n c (P' ++ X' ++ U ++ V ++ S') := by
      rw [hUV] at hr
      simpa using hr
    have eb2 : IntKind.wrap .i64 (IntKind.wrap .i64 (((P.length + X.length : Nat) : Int) + ((Y'.length : Nat) : Int)) - ((X'.length : Nat) : Int)) = ((P'.length + X'.length + U.length : Nat) : Int) := by
      rw [ea _ _ (by omega) (by omega), es _ _ (by omega) (by omega)]; congr 1; omega
    refine (swapRange_calls h0 B A n c P' X' U V S' u hr2 hV.symm hn em1 eb2 rfl).mono ?_
    rintro r u2 ⟨rfl, f2, hr3⟩
    refine ⟨rfl, jnC_mk (hC _ _ ⟨hf.trans1 f2, P', V, U, X' ++ S', ?_, ?_, ?_, ?_, ?_, ?_⟩ ?_)⟩
    · intro h; rw [h] at hV; simp at hV; omega
    · intro h; rw [h] at hUl; simp at hUl; omega
    · omega
    · rw [← htot, hUV]; simp
    · show (_, _, _, _, IntKind.wrap .i64 ((Y'.length : Int) - (X'.length : Int)), ()) = _
      rw [es _ _ (by omega) (by omega), hV, show Y'.length - X'.length = U.length by omega]
    · simpa using hr3
    · show ((X'.length : Int) + IntKind.wrap .i64 ((Y'.length : Int) - (X'.length : Int))).toNat < ((X'.length : Int) + (Y'.length : Int)).toNat
      rw [es _ _ (by omega) (by omega)]; omega
  · have heq2 : X'.length = Y'.length := by
      have heq : ((X'.length : Int) != (Y'.length : Int)) = false := heq
      have : (X'.length : Int) = (Y'.length : Int) := by simpa using heq
      omega
    refine (swapRange_calls h0 B A n c P' X' [] Y' S' u (by simpa using hr) heq2 hn em1 (by simp; omega) rfl).mono ?_
    rintro r u2 ⟨rfl, f2, hr3⟩
    rw [List.append_nil, htot] at hr3
    exact ⟨rfl, rfl, hf.trans1 f2, hr3⟩
end
end Go.Proofs.YtfdhaeglhkmmpaaGreat.StbNm
/- stable sorting, walked: merging, the sort: rows of api.Named -/
namespace Go.Proofs.YtfdhaeglhkmmpaaGreat.StbNm
open Go.GV Go.RowKit Go.Stb
set_option linter.unusedVariables false
set_option linter.unusedSimpArgs false
section
variable {β : Type} {enc : β → List Value} {cmp : β → β → Int}
/-- what a merge leaves -/
def Mrg (enc : β → List Value) (cmp : β → β → Int) (w w' : World) (B : Nat) (A : Option Addr) (n c : Nat) (P X Y S : List (β × Nat)) : Prop :=
  Fr (fun k => blkOf A = some k) w w' ∧ ∃ M, M.Perm (X ++ Y) ∧ Sorted cmp M ∧ RS enc w' B A n c (P ++ M ++ S)
theorem le_lt_le (h : OrdC cmp) {X Y : List (β × Nat)} (hX : Sorted cmp X) (hY : Sorted cmp Y) {k k' l l' : Nat} {u u' v v' : β × Nat} (hu : X[k]? = some u) (hu' : X[k']? = some u') (hk : k ≤ k') (hv : Y[l]? = some v) (hv' : Y[l']? = some v') (hl : l' ≤ l) (hlt : lt cmp u' v') : lt cmp u v := by
  have h1 : lt cmp u v' := by
    rcases Nat.lt_or_ge k k' with h' | h'
    · exact lt_trans h (sorted_get h hX hu hu' h') hlt
    · have : k = k' := by omega
      subst this
      rw [hu] at hu'; injection hu' with hu'; subst hu'; exact hlt
  rcases Nat.lt_or_ge l' l with h' | h'
  · exact lt_trans h h1 (sorted_get h hY hv' hv h')
  · have : l = l' := by omega
    subst this
    rw [hv] at hv'; injection hv' with hv'; subst hv'; exact h1
theorem mem_take_at {l : List (β × Nat)} {i : Nat} {x : β × Nat} (h : x ∈ l.take i) : ∃ j, j < i ∧ l[j]? = some x := by
  obtain ⟨j, hj⟩ := List.mem_iff_getElem?.1 h
  rw [List.getElem?_take] at hj
  split at hj
  · exact ⟨j, by assumption, hj⟩
  · cases hj
theorem mem_drop_at {l : List (β × Nat)} {i : Nat} {x : β × Nat} (h : x ∈ l.drop i) : ∃ j, i ≤ j ∧ l[j]? = some x := by
  obtain ⟨j, hj⟩ := List.mem_iff_getElem?.1 h
  rw [List.getElem?_drop] at hj
  exact ⟨i + j, by omega, hj⟩
/-- one element goes up into a row -/
theorem merge_one (h0 : Srt β enc cmp) (B : Nat) (A : Option Addr) (n c : Nat) (P Y S : List (β × Nat)) (x : β × Nat) (w : World) (h : RS enc w B A n c (P ++ x :: Y ++ S)) (hY : Sorted cmp Y) (hb : ∀ y ∈ Y, bef x y) (hn : n < 549755813888) :
    F147s.l3 (fun v w' => v = .tuple #[] ∧ Mrg enc cmp w w' B A n c P [x] Y S) ((A, n, c), ((P.length : Nat) : Int), (), ((P.length + 1 : Nat) : Int), ((P.length + 1 + Y.length : Nat) : Int), ()) w := by
  have hlen := h.2
  simp only [List.length_append, List.length_cons] at hlen
  have gx : (P ++ x :: Y ++ S)[P.length]? = some x := by rw [List.append_assoc]; exact get_mid rfl
  refine loop_rule (fun s u => Fr (fun k => blkOf A = some k) w u ∧ RS enc u B A n c (P ++ x :: Y ++ S) ∧ ∃ p q : Nat, p ≤ q ∧ q ≤ Y.length ∧ (∀ y ∈ Y.take p, lt cmp y x) ∧ (∀ y ∈ Y.drop q, lt cmp x y) ∧ s = ((A, n, c), ((P.length : Nat) : Int), (), ((P.length + 1 + p : Nat) : Int), ((P.length + 1 + q : Nat) : Int), ()))
    (fun s _ => (s.2.2.2.2.1 - s.2.2.2.1).toNat) ?_ _ _ ⟨Fr.refl _ _, h, 0, Y.length, by omega, by omega, by simp, by simp, rfl⟩
  rintro s u C ⟨hf, hr, p, q, hpq, hqY, hlo, hhi, rfl⟩ hC _
  refine vIf_mk (fun hlt => ?_) (fun hge => ?_)
  · have hlt2 : ((P.length + 1 + p : Nat) : Int) < ((P.length + 1 + q : Nat) : Int) := of_decide_eq_true hlt
    have emm := em (P.length + 1 + p) (P.length + 1 + q) (by omega) (by omega)
    have hh : (P.length + 1 + p + (P.length + 1 + q)) / 2 = P.length + 1 + (p + q) / 2 := by omega
    rw [hh] at emm
    have gi : Y[(p + q) / 2]? = some (Y[(p + q) / 2]'(by omega)) := List.getElem?_eq_getElem (by omega)
    generalize Y[(p + q) / 2]'(by omega) = y at gi
    have gy : (P ++ x :: Y ++ S)[P.length + 1 + (p + q) / 2]? = some y := by
      have : P ++ x :: Y ++ S = (P ++ [x]) ++ (Y ++ S) := by simp
      rw [this, List.getElem?_append_right (by simp), List.getElem?_append_left (by simp; omega)]
      rw [show P.length + 1 + (p + q) / 2 - (P ++ [x]).length = (p + q) / 2 by simp]; exact gi
    have hym : y ∈ Y := List.mem_of_getElem? gi
    dsimp only
    rw [emm]
    refine rs_rd h0 hr.drew gy rfl (rs_rd h0 hr.drew gx rfl ((h0.call y.1 x.1 u.drew).mono ?_))
    rintro r u2 ⟨rfl, f2⟩
    have hf2 : Fr (fun k => blkOf A = some k) w u2 := (hf.trans1 (Fr.drew _ _)).trans1 (f2.mono (fun _ _ h => h.elim))
    refine ⟨_, rfl, vIf_mk (fun h1 => jnC_mk (hC _ _ ⟨hf2, hr.drew.fr0 f2, (p + q) / 2 + 1, q, by omega, hqY, fun z hz => ?_, hhi, by rw [ep _ (by omega)]; rfl⟩ ?_)) (fun h1 => jnC_mk (hC _ _ ⟨hf2, hr.drew.fr0 f2, p, (p + q) / 2, by omega, by omega, hlo, fun z hz => ?_, rfl⟩ ?_))⟩
    · have h1 := bef_yes h0.ord (hb y hym) (of_decide_eq_true h1)
      obtain ⟨j, hj, hz⟩ := mem_take_at hz
      by_cases hjm : j = (p + q) / 2
      · subst hjm; rw [gi] at hz; injection hz with hz; subst hz; exact h1
      · exact lt_trans h0.ord (sorted_get h0.ord hY hz gi (by omega)) h1
    · show (((P.length + 1 + q : Nat) : Int) - IntKind.wrap .i64 (((P.length + 1 + (p + q) / 2 : Nat) : Int) + 1)).toNat < (((P.length + 1 + q : Nat) : Int) - ((P.length + 1 + p : Nat) : Int)).toNat
      rw [ep _ (by omega)]; omega
    · have h1 := bef_no h0.ord (hb y hym) (of_decide_eq_false h1)
      obtain ⟨j, hj, hz⟩ := mem_drop_at hz
      by_cases hjm : j = (p + q) / 2
      · subst hjm; rw [gi] at hz; injection hz with hz; subst hz; exact h1
      · exact lt_trans h0.ord h1 (sorted_get h0.ord hY gi hz (by omega))
    · show (((P.length + 1 + (p + q) / 2 : Nat) : Int) - ((P.length + 1 + p : Nat) : Int)).toNat < (((P.length + 1 + q : Nat) : Int) - ((P.length + 1 + p : Nat) : Int)).toNat
      omega
  · have hge2 : ¬ ((P.length + 1 + p : Nat) : Int) < ((P.length + 1 + q : Nat) : Int) := of_decide_eq_false hge
    have hpq2 : q = p := by omega
    subst hpq2
    clear hC
    have hYs := List.take_append_drop q Y
    have hs2 := hY
    rw [← hYs] at hs2
    obtain ⟨hs21, hs22, hs23⟩ := sorted_of_app hs2
    have htl : (Y.take q).length = q := by rw [List.length_take]; omega
    refine jnC_mk (loop_rule (fun s v => Fr (fun k => blkOf A = some k) w v ∧ ∃ U V : List (β × Nat), U ++ V = Y.take q ∧ s = ((A, n, c), ((P.length + 1 + q : Nat) : Int), ((P.length + U.length : Nat) : Int), ()) ∧ RS enc v B A n c (P ++ U ++ x :: V ++ Y.drop q ++ S))
      (fun s _ => (P.length + 1 + q - s.2.2.1).toNat) ?_ _ _ ⟨hf, [], Y.take q, rfl, rfl, by
        have : P ++ [] ++ x :: Y.take q ++ Y.drop q ++ S = P ++ x :: Y ++ S := by
          conv => rhs; rw [← hYs]
          simp
        rw [this]; exact hr⟩)
    rintro s v C ⟨hfv, U, V, hUV, rfl, hrv⟩ hC _
    have hUVl : U.length + V.length = q := by rw [← htl, ← hUV, List.length_append]
    have e0 : IntKind.wrap .i64 (((P.length + 1 + q : Nat) : Int) - 1) = ((P.length + q : Nat) : Int) := by rw [e1 _ (by omega) (by omega)]; congr 1; omega
    refine vIf_mk (fun hlt => ?_) (fun hge => ?_)
    · have hlt2 : ((P.length + U.length : Nat) : Int) < IntKind.wrap .i64 (((P.length + 1 + q : Nat) : Int) - 1) := of_decide_eq_true hlt
      rw [e0] at hlt2
      obtain ⟨y, V', rfl⟩ : ∃ y V', V = y :: V' := by
        cases V with
        | nil => simp at hUVl; omega
        | cons y r => exact ⟨y, r, rfl⟩
      have l1 : P ++ U ++ x :: (y :: V') ++ Y.drop q ++ S = (P ++ U) ++ x :: (y :: V' ++ Y.drop q ++ S) := by simp
      have l2 : P ++ U ++ x :: (y :: V') ++ Y.drop q ++ S = (P ++ U ++ [x]) ++ y :: (V' ++ Y.drop q ++ S) := by simp
      have ek : IntKind.wrap .i64 (((P.length + U.length : Nat) : Int) + 1) = ((P.length + U.length + 1 : Nat) : Int) := ep _ (by omega)
      refine rs_rd h0 hrv.drew (i := P.length + U.length + 1) (x := y) (by rw [l2]; exact get_mid (by simp; omega)) ek (rs_rd h0 hrv.drew (i := P.length + U.length) (x := x) (by rw [l1]; exact get_mid (by simp)) rfl ?_)
      refine rs_swap h0 hrv.drew (i := P.length + U.length) (j := P.length + U.length + 1) (by omega) (by omega) rfl ek (fun w' hr' f' => jnC_mk (hC _ _ ⟨(hfv.trans1 (Fr.drew _ _)).trans1 f', U ++ [y], V', by rw [← hUV]; simp, ?_, ?_⟩ ?_))
      · show (_, _, IntKind.wrap .i64 (((P.length + U.length : Nat) : Int) + 1), ()) = _
        rw [ek]; simp; omega
      · rw [l1, set_mid (by simp)] at hr'
        have l3 : (P ++ U) ++ y :: (y :: V' ++ Y.drop q ++ S) = (P ++ U ++ [y]) ++ y :: (V' ++ Y.drop q ++ S) := by simp
        rw [l3, set_mid (by simp; omega)] at hr'
        have l4 : (P ++ U ++ [y]) ++ x :: (V' ++ Y.drop q ++ S) = P ++ (U ++ [y]) ++ x :: V' ++ Y.drop q ++ S := by simp
        rw [l4] at hr'; exact hr'
      · show (((P.length : Nat) : Int) + 1 + ((q : Nat) : Int) - IntKind.wrap .i64 (((P.length + U.length : Nat) : Int) + 1)).toNat < (((P.length : Nat) : Int) + 1 + ((q : Nat) : Int) - ((P.length + U.length : Nat) : Int)).toNat
        rw [ek]; omega
    · have hge2 : ¬ ((P.length + U.length : Nat) : Int) < IntKind.wrap .i64 (((P.length + 1 + q : Nat) : Int) - 1) := of_decide_eq_false hge
      rw [e0] at hge2
      have hV : V = [] := List.length_eq_zero_iff.1 (by omega)
      subst hV
      rw [List.append_nil] at hUV
      subst hUV
      refine ⟨rfl, hfv, Y.take q ++ ([x] ++ Y.drop q), ?_, sorted_app hs21 (sorted_app (List.pairwise_singleton _ _) hs22 (fun u hu v hv => by simp at hu; subst hu; exact hhi v hv)) (fun u hu v hv => ?_), by simpa using hrv⟩
      · conv => rhs; rw [← hYs]
        exact List.perm_append_comm_assoc _ _ _
      · rcases List.mem_append.1 hv with hv | hv
        · simp at hv; subst hv; exact hlo u hu
        · exact hs23 u hu v hv
/-- one element goes down into a row -/
theorem merge_last (h0 : Srt β enc cmp) (B : Nat) (A : Option Addr) (n c : Nat) (P X S : List (β × Nat)) (y : β × Nat) (w : World) (h : RS enc w B A n c (P ++ X ++ y :: S)) (hX : Sorted cmp X) (hb : ∀ x ∈ X, bef x y) (hn : n < 549755813888) :
    F147s.l15 (fun v w' => v = .tuple #[] ∧ Mrg enc cmp w w' B A n c P X [y] S) ((A, n, c), ((P.length + X.length : Nat) : Int), (), ((P.length : Nat) : Int), ((P.length + X.length : Nat) : Int), ()) w := by
  have hlen := h.2
  simp only [List.length_append, List.length_cons] at hlen
  have gy : (P ++ X ++ y :: S)[P.length + X.length]? = some y := get_mid (by simp)
  refine loop_rule (fun s u => Fr (fun k => blkOf A = some k) w u ∧ RS enc u B A n c (P ++ X ++ y :: S) ∧ ∃ p q : Nat, p ≤ q ∧ q ≤ X.length ∧ (∀ x ∈ X.take p, lt cmp x y) ∧ (∀ x ∈ X.drop q, lt cmp y x) ∧ s = ((A, n, c), ((P.length + X.length : Nat) : Int), (), ((P.length + p : Nat) : Int), ((P.length + q : Nat) : Int), ()))
    (fun s _ => (s.2.2.2.2.1 - s.2.2.2.1).toNat) ?_ _ _ ⟨Fr.refl _ _, h, 0, X.length, by omega, by omega, by simp, by simp, rfl⟩
  rintro s u C ⟨hf, hr, p, q, hpq, hqX, hlo, hhi, rfl⟩ hC _
  refine vIf_mk (fun hlt => ?_) (fun hge => ?_)
  · have hlt2 : ((P.length + p : Nat) : Int) < ((P.length + q : Nat) : Int) := of_decide_eq_true hlt
    have emm := em (P.length + p) (P.length + q) (by omega) (by omega)
    have hh : (P.length + p + (P.length + q)) / 2 = P.length + (p + q) / 2 := by omega
    rw [hh] at emm
    have gi : X[(p + q) / 2]? = some (X[(p + q) / 2]'(by omega)) := List.getElem?_eq_getElem (by omega)
    generalize X[(p + q) / 2]'(by omega) = x at gi
    have gx : (P ++ X ++ y :: S)[P.length + (p + q) / 2]? = some x := by
      rw [List.append_assoc, List.getElem?_append_right (by omega), List.getElem?_append_left (by omega), Nat.add_sub_cancel_left]; exact gi
    have hxm : x ∈ X := List.mem_of_getElem? gi
    dsimp only
    rw [emm]
    refine rs_rd h0 hr.drew gy rfl (rs_rd h0 hr.drew gx rfl ((h0.call y.1 x.1 u.drew).mono ?_))
    rintro r u2 ⟨rfl, f2⟩
    have hf2 : Fr (fun k => blkOf A = some k) w u2 := (hf.trans1 (Fr.drew _ _)).trans1 (f2.mono (fun _ _ h => h.elim))
    refine ⟨_, rfl, vIf_mk (fun h1 => jnC_mk (hC _ _ ⟨hf2, hr.drew.fr0 f2, (p + q) / 2 + 1, q, by omega, hqX, fun z hz => ?_, hhi, by rw [ep _ (by omega)]; rfl⟩ ?_)) (fun h1 => jnC_mk (hC _ _ ⟨hf2, hr.drew.fr0 f2, p, (p + q) / 2, by omega, by omega, hlo, fun z hz => ?_, rfl⟩ ?_))⟩
    · have h1 : ¬ cmp y.1 x.1 < 0 := by simpa using h1
      have h1 := bef_no h0.ord (hb x hxm) h1
      obtain ⟨j, hj, hz⟩ := mem_take_at hz
      by_cases hjm : j = (p + q) / 2
      · subst hjm; rw [gi] at hz; injection hz with hz; subst hz; exact h1
      · exact lt_trans h0.ord (sorted_get h0.ord hX hz gi (by omega)) h1
    · show (((P.length + q : Nat) : Int) - IntKind.wrap .i64 (((P.length + (p + q) / 2 : Nat) : Int) + 1)).toNat < (((P.length + q : Nat) : Int) - ((P.length + p : Nat) : Int)).toNat
      rw [ep _ (by omega)]; omega
    · have h1 : cmp y.1 x.1 < 0 := by simpa using h1
      have h1 := bef_yes h0.ord (hb x hxm) h1
      obtain ⟨j, hj, hz⟩ := mem_drop_at hz
      by_cases hjm : j = (p + q) / 2
      · subst hjm; rw [gi] at hz; injection hz with hz; subst hz; exact h1
      · exact lt_trans h0.ord h1 (sorted_get h0.ord hX gi hz (by omega))
    · show (((P.length + (p + q) / 2 : Nat) : Int) - ((P.length + p : Nat) : Int)).toNat < (((P.length + q : Nat) : Int) - ((P.length + p : Nat) : Int)).toNat
      omega
  · have hge2 : ¬ ((P.length + p : Nat) : Int) < ((P.length + q : Nat) : Int) := of_decide_eq_false hge
    have hpq2 : q = p := by omega
    subst hpq2
    clear hC
    have hXs := List.take_append_drop q X
    have hs2 := hX
    rw [← hXs] at hs2
    obtain ⟨hs21, hs22, hs23⟩ := sorted_of_app hs2
    have htl : (X.take q).length = q := by rw [List.length_take]; omega
    have hdl : (X.drop q).length = X.length - q := List.length_drop
    refine jnC_mk (loop_rule (fun s v => Fr (fun k => blkOf A = some k) w v ∧ ∃ U V : List (β × Nat), U ++ V = X.drop q ∧ s = ((A, n, c), ((P.length + q : Nat) : Int), ((P.length + q + U.length : Nat) : Int), ()) ∧ RS enc v B A n c (P ++ X.take q ++ U ++ y :: V ++ S))
      (fun s _ => s.2.2.1.toNat) ?_ _ _ ⟨hf, X.drop q, [], by simp, by rw [hdl]; simp; omega, by
        have : P ++ X.take q ++ X.drop q ++ [y] ++ S = P ++ X ++ y :: S := by
          conv => rhs; rw [← hXs]
          simp
        rw [this]; exact hr⟩)
    rintro s v C ⟨hfv, U, V, hUV, rfl, hrv⟩ hC _
    have hUVl : U.length + V.length = X.length - q := by rw [← hdl, ← hUV, List.length_append]
    refine vIf_mk (fun hlt => ?_) (fun hge => ?_)
    · have hlt2 : ((P.length + q + U.length : Nat) : Int) > ((P.length + q : Nat) : Int) := of_decide_eq_true hlt
      obtain ⟨U', z, rfl⟩ : ∃ U' z, U = U' ++ [z] := by
        have hne : U ≠ [] := by intro h; subst h; simp at hlt2
        exact ⟨U.dropLast, U.getLast hne, (List.dropLast_concat_getLast hne).symm⟩
      simp only [List.length_append, List.length_cons, List.length_nil] at hUVl hlt2
      have l1 : P ++ X.take q ++ (U' ++ [z]) ++ y :: V ++ S = (P ++ X.take q ++ U') ++ z :: (y :: V ++ S) := by simp
      have l2 : P ++ X.take q ++ (U' ++ [z]) ++ y :: V ++ S = (P ++ X.take q ++ (U' ++ [z])) ++ y :: (V ++ S) := by simp
      have ek : IntKind.wrap .i64 (((P.length + q + (U' ++ [z]).length : Nat) : Int) - 1) = ((P.length + q + U'.length : Nat) : Int) := by rw [e1 _ (by simp; omega) (by simp; omega)]; simp only [List.length_append, List.length_cons, List.length_nil]; omega
      refine rs_rd h0 hrv.drew (i := P.length + q + U'.length) (x := z) (by rw [l1]; exact get_mid (by simp; omega)) ek (rs_rd h0 hrv.drew (i := P.length + q + (U' ++ [z]).length) (x := y) (by rw [l2]; exact get_mid (by simp; omega)) rfl ?_)
      refine rs_swap h0 hrv.drew (i := P.length + q + (U' ++ [z]).length) (j := P.length + q + U'.length) (x := y) (y := z) (by simp; omega) (by omega) rfl ek (fun w' hr' f' => jnC_mk (hC _ _ ⟨(hfv.trans1 (Fr.drew _ _)).trans1 f', U', z :: V, by rw [← hUV]; simp, ?_, ?_⟩ ?_))
      · show (_, _, IntKind.wrap .i64 (((P.length + q + (U' ++ [z]).length : Nat) : Int) - 1), ()) = _
        rw [ek]
      · rw [l2, set_mid (by simp; omega)] at hr'
        have l3 : (P ++ X.take q ++ (U' ++ [z])) ++ z :: (V ++ S) = (P ++ X.take q ++ U') ++ z :: (z :: (V ++ S)) := by simp
        rw [l3, set_mid (by simp; omega)] at hr'
        have l4 : (P ++ X.take q ++ U') ++ y :: (z :: (V ++ S)) = P ++ X.take q ++ U' ++ y :: (z :: V) ++ S := by simp
        rw [l4] at hr'; exact hr'
      · show (IntKind.wrap .i64 (((P.length + q + (U' ++ [z]).length : Nat) : Int) - 1)).toNat < (((P.length + q + (U' ++ [z]).length : Nat) : Int)).toNat
        rw [ek]; simp only [List.length_append, List.length_cons, List.length_nil]; omega
    · have hge2 : ¬ ((P.length + q + U.length : Nat) : Int) > ((P.length + q : Nat) : Int) := of_decide_eq_false hge
      have hU : U = [] := List.length_eq_zero_iff.1 (by omega)
      subst hU
      rw [List.nil_append] at hUV
      subst hUV
      refine ⟨rfl, hfv, X.take q ++ ([y] ++ X.drop q), ?_, sorted_app hs21 (sorted_app (List.pairwise_singleton _ _) hs22 (fun u hu v hv => by simp at hu; subst hu; exact hhi v hv)) (fun u hu v hv => ?_), by simpa using hrv⟩
      · conv => rhs; rw [← hXs, List.append_assoc]
        exact (List.perm_append_comm).append_left _
      · rcases List.mem_append.1 hv with hv | hv
        · simp at hv; subst hv; exact hlo u hu
        · exact hs23 u hu v hv
end
end Go.Proofs.YtfdhaeglhkmmpaaGreat.StbNm
/- stable sorting, walked: symMerge, insertionSort, the sort: rows of api.Named -/
namespace Go.Proofs.YtfdhaeglhkmmpaaGreat.StbNm
open Go.GV Go.RowKit Go.Stb
set_option linter.unusedVariables false
set_option linter.unusedSimpArgs false
section
variable {β : Type} {enc : β → List Value} {cmp : β → β → Int}
theorem take_len {l : List (β × Nat)} {k : Nat} (h : k ≤ l.length) : (l.take k).length = k := by rw [List.length_take]; omega
theorem get_in {P X R : List (β × Nat)} {i j : Nat} {x : β × Nat} (hi : i = P.length + j) (hx : X[j]? = some x) : (P ++ X ++ R)[i]? = some x := by
  have hj := (List.getElem?_eq_some_iff.1 hx).1
  subst hi
  rw [List.append_assoc, List.getElem?_append_right (by omega), List.getElem?_append_left (by omega), Nat.add_sub_cancel_left]; exact hx
set_option maxHeartbeats 1000000 in
/-- two sorted rows, the one ahead of the other, are merged -/
theorem symMerge_calls (h0 : Srt β enc cmp) (B : Nat) (A : Option Addr) (n c : Nat) (hn : n < 549755813888) : ∀ (K : Nat) (P X Y S : List (β × Nat)) (w : World), X.length + Y.length ≤ K → RS enc w B A n c (P ++ X ++ Y ++ S) → Sorted cmp X → Sorted cmp Y → befC X Y → X ≠ [] → Y ≠ [] → ∀ (a m b : Int), a = ((P.length : Nat) : Int) → m = ((P.length + X.length : Nat) : Int) → b = ((P.length + X.length + Y.length : Nat) : Int) →
    Calls Tryz.prog 147 #[.slice A n c, .int .i64 a, .int .i64 m, .int .i64 b, cf] w fun e w' => e = .returned (.tuple #[]) ∧ Mrg enc cmp w w' B A n c P X Y S
  | 0, P, X, Y, S, w, hK, _, _, _, _, hX, _, _, _, _, _, _, _ => absurd (List.length_eq_zero_iff.1 (by omega)) hX
  | K + 1, P, X, Y, S, w, hK, h, sX, sY, hb, hX, hY, a, m, b, ha, hm, hbb => by
    subst ha; subst hm; subst hbb
    have ih := symMerge_calls h0 B A n c hn K
    refine (F147s.of A n c _ _ _ w (Q := fun v w' => v = .tuple #[] ∧ Mrg enc cmp w w' B A n c P X Y S) ?_).mono (fun e w' ⟨v, he, hv, h⟩ => ⟨by rw [he, hv], h⟩)
    have hlen := h.2
    simp only [List.length_append] at hlen
    have hX0 : X.length ≠ 0 := fun h => hX (List.length_eq_zero_iff.1 h)
    have hY0 : Y.length ≠ 0 := fun h => hY (List.length_eq_zero_iff.1 h)
    have eX : IntKind.wrap .i64 (((P.length + X.length : Nat) : Int) - ((P.length : Nat) : Int)) = ((X.length : Nat) : Int) := by rw [es _ _ (by omega) (by omega), Nat.add_sub_cancel_left]
    have eY : IntKind.wrap .i64 (((P.length + X.length + Y.length : Nat) : Int) - ((P.length + X.length : Nat) : Int)) = ((Y.length : Nat) : Int) := by rw [es _ _ (by omega) (by omega), Nat.add_sub_cancel_left]
    have eM := em P.length (P.length + X.length + Y.length) (by omega) (by omega)
    unfold F147s.vc
    rw [eX, eY, eM]
    generalize hmid : (P.length + (P.length + X.length + Y.length)) / 2 = mid at eM ⊢
    have eN : IntKind.wrap .i64 ((mid : Int) + ((P.length + X.length : Nat) : Int)) = ((mid + (P.length + X.length) : Nat) : Int) := ea _ _ (by omega) (by omega)
    rw [eN]
    generalize hN : mid + (P.length + X.length) = N at eN ⊢
    refine vIf_mk (fun h1 => ?_) (fun h1 => vIf_mk (fun h2 => ?_) (fun h2 => ?_))
    · have h1 : X.length = 1 := by
        have : ((X.length : Nat) : Int) = 1 := by simpa using h1
        omega
      obtain ⟨x, rfl⟩ := List.length_eq_one_iff.1 h1
      refine jnC_mk ?_
      have := merge_one h0 B A n c P Y S x w (by simpa using h) sY (fun y hy => hb x (by simp) y hy) hn
      simpa using this
    · have h2 : Y.length = 1 := by
        have : ((Y.length : Nat) : Int) = 1 := by simpa using h2
        omega
      obtain ⟨y, rfl⟩ := List.length_eq_one_iff.1 h2
      refine jnC_mk ?_
      exact merge_last h0 B A n c P X S y w (by simpa using h) sX (fun x hx => hb x hx y (by simp)) hn
    · have h1 : X.length ≠ 1 := fun h => by rw [h] at h1; simp at h1
      have h2 : Y.length ≠ 1 := fun h => by rw [h] at h2; simp at h2
      -- from any bounds of the search
      have fin : ∀ s0 r0 : Nat, P.length ≤ s0 → s0 ≤ r0 → r0 ≤ P.length + X.length → r0 ≤ mid → N ≤ s0 + (P.length + X.length + Y.length) → (s0 = P.length ∨ N = s0 + (P.length + X.length + Y.length)) → (r0 = P.length + X.length ∨ r0 = mid) →
          jnC (F147s.k32 (fun v w' => v = .tuple #[] ∧ Mrg enc cmp w w' B A n c P X Y S)) ((A, n, c), ((P.length : Nat) : Int), ((P.length + X.length : Nat) : Int), ((P.length + X.length + Y.length : Nat) : Int), (), (mid : Int), (N : Int), (s0 : Int), (r0 : Int), ()) w := by
        intro s0 r0 q1 q2 q3 q4 q5 q6 q7
        refine jnC_mk (fun _ => jnC_mk ?_)
        have eP : IntKind.wrap .i64 ((N : Int) - 1) = ((N - 1 : Nat) : Int) := e1 _ (by omega) (by omega)
        dsimp only
        rw [eP]
        refine loop_rule (fun s u => Fr (fun _ => False) w u ∧ ∃ st r : Nat, s0 ≤ st ∧ st ≤ r ∧ r ≤ r0 ∧ (∀ c, s0 ≤ c → c < st → ∀ u v, X[c - P.length]? = some u → Y[N - 1 - c - (P.length + X.length)]? = some v → lt cmp u v) ∧ (∀ c, r ≤ c → c < r0 → ∀ u v, X[c - P.length]? = some u → Y[N - 1 - c - (P.length + X.length)]? = some v → lt cmp v u) ∧
            s = ((A, n, c), ((P.length : Nat) : Int), ((P.length + X.length : Nat) : Int), ((P.length + X.length + Y.length : Nat) : Int), (), (mid : Int), (N : Int), (st : Int), (r : Int), ((N - 1 : Nat) : Int), ()))
          (fun s _ => (s.2.2.2.2.2.2.2.2.1 - s.2.2.2.2.2.2.2.1).toNat) ?_ _ _ ⟨Fr.refl _ _, s0, r0, by omega, q2, by omega, fun c h1 h2 => by omega, fun c h1 h2 => by omega, rfl⟩
        rintro s u C ⟨hf, st, r, p1, p2, p3, hlo, hhi, rfl⟩ hC _
        have hru := h.fr0 hf
        refine vIf_mk (fun hlt => ?_) (fun hge => ?_)
        · have hlt2 : (st : Int) < (r : Int) := of_decide_eq_true hlt
          have emm := em st r (by omega) (by omega)
          generalize hcc : (st + r) / 2 = cc at emm
          have epc : IntKind.wrap .i64 (((N - 1 : Nat) : Int) - (cc : Int)) = ((N - 1 - cc : Nat) : Int) := es _ _ (by omega) (by omega)
          have gu : X[cc - P.length]? = some (X[cc - P.length]'(by omega)) := List.getElem?_eq_getElem (by omega)
          have gv : Y[N - 1 - cc - (P.length + X.length)]? = some (Y[N - 1 - cc - (P.length + X.length)]'(by omega)) := List.getElem?_eq_getElem (by omega)
          generalize X[cc - P.length]'(by omega) = x at gu
          generalize Y[N - 1 - cc - (P.length + X.length)]'(by omega) = y at gv
          have hbxy := hb x (List.mem_of_getElem? gu) y (List.mem_of_getElem? gv)
          dsimp only
          rw [emm, epc]
          refine rs_rd h0 hru.drew (i := N - 1 - cc) (x := y) (get_in (P := P ++ X) (X := Y) (R := S) (j := N - 1 - cc - (P.length + X.length)) (by simp; omega) gv) rfl (rs_rd h0 hru.drew (i := cc) (x := x) (by
            have : P ++ X ++ Y ++ S = P ++ X ++ (Y ++ S) := by simp
            rw [this]; exact get_in (j := cc - P.length) (by omega) gu) rfl ((h0.call y.1 x.1 u.drew).mono ?_))
          rintro q u2 ⟨rfl, f2⟩
          have hf2 : Fr (fun _ => False) w u2 := (hf.trans1 (Fr.drew _ _)).trans1 f2
          refine ⟨_, rfl, vIf_mk (fun hc => jnC_mk (hC _ _ ⟨hf2, cc + 1, r, by omega, by omega, p3, fun d d1 d2 u v hu hv => ?_, hhi, by rw [ep _ (by omega)]⟩ ?_)) (fun hc => jnC_mk (hC _ _ ⟨hf2, st, cc, p1, by omega, by omega, hlo, fun d d1 d2 u v hu hv => ?_, rfl⟩ ?_))⟩
          · have hc : ¬ cmp y.1 x.1 < 0 := by simpa using hc
            exact le_lt_le h0.ord sX sY hu gu (by omega) hv gv (by omega) (bef_no h0.ord hbxy hc)
          · show ((r : Int) - IntKind.wrap .i64 ((cc : Int) + 1)).toNat < ((r : Int) - (st : Int)).toNat
            rw [ep _ (by omega)]; omega
          · have hc : cmp y.1 x.1 < 0 := by simpa using hc
            exact le_lt_le h0.ord sY sX hv gv (by omega) hu gu (by omega) (bef_yes h0.ord hbxy hc)
          · show ((cc : Int) - (st : Int)).toNat < ((r : Int) - (st : Int)).toNat
            omega
        · have hge2 : ¬ (st : Int) < (r : Int) := of_decide_eq_false hge
          have hst : r = st := by omega
          subst hst
          clear hC
          have eE : IntKind.wrap .i64 ((N : Int) - (r : Int)) = ((N - r : Nat) : Int) := es _ _ (by omega) (by omega)
          dsimp only
          rw [eE]
          -- the four parts
          have hXs := List.take_append_drop (r - P.length) X
          have hYs := List.take_append_drop (N - r - (P.length + X.length)) Y
          have lX1 : (X.take (r - P.length)).length = r - P.length := take_len (by omega)
          have lX2 : (X.drop (r - P.length)).length = P.length + X.length - r := by rw [List.length_drop]; omega
          have lY1 : (Y.take (N - r - (P.length + X.length))).length = N - r - (P.length + X.length) := take_len (by omega)
          have lY2 : (Y.drop (N - r - (P.length + X.length))).length = P.length + X.length + Y.length - (N - r) := by rw [List.length_drop]; omega
          have D1 : ∀ x ∈ X.take (r - P.length), ∀ y ∈ Y.drop (N - r - (P.length + X.length)), lt cmp x y := fun x hx y hy => by
            obtain ⟨k, hk, hx⟩ := mem_take_at hx
            obtain ⟨l, hl, hy⟩ := mem_drop_at hy
            have hl2 := (List.getElem?_eq_some_iff.1 hy).1
            have hr0 : s0 < r := by
              rcases q6 with q6 | q6 <;> omega
            have gu : X[r - 1 - P.length]? = some (X[r - 1 - P.length]'(by omega)) := List.getElem?_eq_getElem (by omega)
            have gv : Y[N - 1 - (r - 1) - (P.length + X.length)]? = some (Y[N - 1 - (r - 1) - (P.length + X.length)]'(by omega)) := List.getElem?_eq_getElem (by omega)
            exact le_lt_le h0.ord sX sY hx gu (by omega) hy gv (by omega) (hlo (r - 1) (by omega) (by omega) _ _ gu gv)
          have D2 : ∀ y ∈ Y.take (N - r - (P.length + X.length)), ∀ x ∈ X.drop (r - P.length), lt cmp y x := fun y hy x hx => by
            obtain ⟨k, hk, hx⟩ := mem_drop_at hx
            obtain ⟨l, hl, hy⟩ := mem_take_at hy
            have hk2 := (List.getElem?_eq_some_iff.1 hx).1
            have hr0 : r < r0 := by
              rcases q7 with q7 | q7 <;> omega
            have gu : X[r - P.length]? = some (X[r - P.length]'(by omega)) := List.getElem?_eq_getElem (by omega)
            have gv : Y[N - 1 - r - (P.length + X.length)]? = some (Y[N - 1 - r - (P.length + X.length)]'(by omega)) := List.getElem?_eq_getElem (by omega)
            exact le_lt_le h0.ord sY sX hy gv (by omega) hx gu (by omega) (hhi r (by omega) (by omega) _ _ gu gv)
          have sX2 := sX
          have sY2 := sY
          rw [← hXs] at sX2
          rw [← hYs] at sY2
          obtain ⟨sA1, sA2, sA⟩ := sorted_of_app sX2
          obtain ⟨sB1, sB2, sB⟩ := sorted_of_app sY2
          have hb11 : befC (X.take (r - P.length)) (Y.take (N - r - (P.length + X.length))) := fun x hx y hy => hb x (List.mem_of_mem_take hx) y (List.mem_of_mem_take hy)
          have hb22 : befC (X.drop (r - P.length)) (Y.drop (N - r - (P.length + X.length))) := fun x hx y hy => hb x (List.mem_of_mem_drop hx) y (List.mem_of_mem_drop hy)
          have hru2 : RS enc u B A n c (P ++ X.take (r - P.length) ++ X.drop (r - P.length) ++ Y.take (N - r - (P.length + X.length)) ++ (Y.drop (N - r - (P.length + X.length)) ++ S)) := by
            have : P ++ X.take (r - P.length) ++ X.drop (r - P.length) ++ Y.take (N - r - (P.length + X.length)) ++ (Y.drop (N - r - (P.length + X.length)) ++ S) = P ++ X ++ Y ++ S := by
              simp only [List.append_assoc]
              rw [← List.append_assoc (X.take (r - P.length)), hXs, ← List.append_assoc (Y.take (N - r - (P.length + X.length))), hYs]
            rw [this]; exact hru
          have hperm : (X.take (r - P.length) ++ Y.take (N - r - (P.length + X.length)) ++ (X.drop (r - P.length) ++ Y.drop (N - r - (P.length + X.length)))).Perm (X ++ Y) := by
            conv => rhs; rw [← hXs, ← hYs]
            simp only [List.append_assoc]
            exact (List.perm_append_comm_assoc _ _ _).append_left _
          generalize X.take (r - P.length) = A1 at lX1 D1 sA1 sA hb11 hru2 hperm hXs
          generalize X.drop (r - P.length) = A2 at lX2 D2 sA2 sA hb22 hru2 hperm hXs
          generalize Y.take (N - r - (P.length + X.length)) = B1 at lY1 D2 sB1 sB hb11 hru2 hperm hYs
          generalize Y.drop (N - r - (P.length + X.length)) = B2 at lY2 D1 sB2 sB hb22 hru2 hperm hYs
          -- behind the merges of both halves
          have last : ∀ (v : World) (M1 M2 : List (β × Nat)), Fr (fun k => blkOf A = some k) w v → M1.Perm (A1 ++ B1) → Sorted cmp M1 → M2.Perm (A2 ++ B2) → Sorted cmp M2 → RS enc v B A n c (P ++ M1 ++ M2 ++ S) → Value.tuple #[] = Value.tuple #[] ∧ Mrg enc cmp w v B A n c P X Y S := by
            intro v M1 M2 fv m1 s1 m2 s2 hv
            refine ⟨rfl, fv, M1 ++ M2, (m1.append m2).trans hperm, sorted_app s1 s2 (fun x hx y hy => ?_), by simpa using hv⟩
            rcases List.mem_append.1 (m1.mem_iff.1 hx) with hx | hx <;> rcases List.mem_append.1 (m2.mem_iff.1 hy) with hy | hy
            · exact sA x hx y hy
            · exact D1 x hx y hy
            · exact D2 x hx y hy
            · exact sB x hx y hy
          -- the right half
          have right : ∀ (v : World) (M1 : List (β × Nat)), Fr (fun k => blkOf A = some k) w v → M1.Perm (A1 ++ B1) → Sorted cmp M1 → RS enc v B A n c (P ++ M1 ++ (A2 ++ B2) ++ S) →
              jnC (F147s.k43 (fun v w' => v = .tuple #[] ∧ Mrg enc cmp w w' B A n c P X Y S)) ((A, n, c), ((P.length + X.length + Y.length : Nat) : Int), (), (mid : Int), ((N - r : Nat) : Int), ()) v := by
            intro v M1 fv m1 s1 hv
            have lM1 : M1.length = mid - P.length := by rw [m1.length_eq, List.length_append]; omega
            have k44 : ∀ bb : Bool, bb = decide (mid < N - r ∧ N - r < P.length + X.length + Y.length) → jnC (F147s.k44 (fun v w' => v = .tuple #[] ∧ Mrg enc cmp w w' B A n c P X Y S)) ((A, n, c), ((P.length + X.length + Y.length : Nat) : Int), (), (mid : Int), ((N - r : Nat) : Int), bb, ()) v := by
              intro bb hbb
              refine jnC_mk (fun _ => vIf_mk (fun h1 => ?_) (fun h1 => ?_))
              · have h1 : bb = true := h1
                rw [h1] at hbb
                have hh := of_decide_eq_true hbb.symm
                refine (ih (P ++ M1) A2 B2 S v (by omega) (by simpa using hv) sA2 sB2 hb22 (fun h => by rw [h] at lX2; simp at lX2; omega) (fun h => by rw [h] at lY2; simp at lY2; omega) (mid : Int) ((N - r : Nat) : Int) ((P.length + X.length + Y.length : Nat) : Int) (by rw [List.length_append]; omega) (by rw [List.length_append]; omega) (by rw [List.length_append]; omega)).mono ?_
                rintro q v2 ⟨rfl, f2, M2, m2, s2, hv2⟩
                exact ⟨rfl, last v2 M1 M2 (fv.trans1 f2) m1 s1 m2 s2 (by simpa using hv2)⟩
              · have h1 : bb = false := h1
                rw [h1] at hbb
                have hh := of_decide_eq_false hbb.symm
                refine last v M1 (A2 ++ B2) fv m1 s1 (List.Perm.refl _) ?_ (by simpa using hv)
                rcases Nat.lt_or_ge mid (N - r) with hh2 | hh2
                · have : B2 = [] := List.length_eq_zero_iff.1 (by omega)
                  rw [this, List.append_nil]; exact sA2
                · have : A2 = [] := List.length_eq_zero_iff.1 (by omega)
                  rw [this, List.nil_append]; exact sB2
            refine jnC_mk (fun _ => vIf_mk (fun h1 => k44 _ ?_) (fun h1 => k44 _ ?_))
            · have h1 : (mid : Int) < ((N - r : Nat) : Int) := of_decide_eq_true h1
              apply decide_eq_decide.2
              show ((N - r : Nat) : Int) < ((P.length + X.length + Y.length : Nat) : Int) ↔ _
              omega
            · have h1 : ¬ (mid : Int) < ((N - r : Nat) : Int) := of_decide_eq_false h1
              rw [decide_eq_false (fun h => h1 (by omega))]
          -- the left half
          have left : ∀ (v : World), Fr (fun k => blkOf A = some k) w v → RS enc v B A n c (P ++ (A1 ++ B1) ++ (A2 ++ B2) ++ S) →
              jnC (F147s.k41 (fun v w' => v = .tuple #[] ∧ Mrg enc cmp w w' B A n c P X Y S)) ((A, n, c), ((P.length : Nat) : Int), ((P.length + X.length + Y.length : Nat) : Int), (), (mid : Int), (r : Int), ((N - r : Nat) : Int), ()) v := by
            intro v fv hv
            have k42 : ∀ bb : Bool, bb = decide (P.length < r ∧ r < mid) → jnC (F147s.k42 (fun v w' => v = .tuple #[] ∧ Mrg enc cmp w w' B A n c P X Y S)) ((A, n, c), ((P.length : Nat) : Int), ((P.length + X.length + Y.length : Nat) : Int), (), (mid : Int), (r : Int), ((N - r : Nat) : Int), bb, ()) v := by
              intro bb hbb
              refine jnC_mk (fun _ => vIf_mk (fun h1 => ?_) (fun h1 => ?_))
              · have h1 : bb = true := h1
                rw [h1] at hbb
                have hh := of_decide_eq_true hbb.symm
                refine (ih P A1 B1 (A2 ++ B2 ++ S) v (by omega) (by simpa using hv) sA1 sB1 hb11 (fun h => by rw [h] at lX1; simp at lX1; omega) (fun h => by rw [h] at lY1; simp at lY1; omega) ((P.length : Nat) : Int) (r : Int) (mid : Int) rfl (by omega) (by omega)).mono ?_
                rintro q v2 ⟨rfl, f2, M1, m1, s1, hv2⟩
                exact ⟨rfl, right v2 M1 (fv.trans1 f2) m1 s1 (by simpa using hv2)⟩
              · have h1 : bb = false := h1
                rw [h1] at hbb
                have hh := of_decide_eq_false hbb.symm
                refine right v (A1 ++ B1) fv (List.Perm.refl _) ?_ hv
                rcases Nat.lt_or_ge P.length r with hh2 | hh2
                · have : B1 = [] := List.length_eq_zero_iff.1 (by omega)
                  rw [this, List.append_nil]; exact sA1
                · have : A1 = [] := List.length_eq_zero_iff.1 (by omega)
                  rw [this, List.nil_append]; exact sB1
            refine jnC_mk (fun _ => vIf_mk (fun h1 => k42 _ ?_) (fun h1 => k42 _ ?_))
            · have h1 : ((P.length : Nat) : Int) < (r : Int) := of_decide_eq_true h1
              apply decide_eq_decide.2
              show (r : Int) < (mid : Int) ↔ _
              omega
            · have h1 : ¬ ((P.length : Nat) : Int) < (r : Int) := of_decide_eq_false h1
              rw [decide_eq_false (fun h => h1 (by omega))]
          have k40 : ∀ bb : Bool, bb = decide (r < P.length + X.length ∧ P.length + X.length < N - r) → jnC (F147s.k40 (fun v w' => v = .tuple #[] ∧ Mrg enc cmp w w' B A n c P X Y S)) ((A, n, c), ((P.length : Nat) : Int), ((P.length + X.length : Nat) : Int), ((P.length + X.length + Y.length : Nat) : Int), (), (mid : Int), (r : Int), ((N - r : Nat) : Int), bb, ()) u := by
            intro bb hbb
            have fu : Fr (fun k => blkOf A = some k) w u := hf.mono (fun _ _ h => h.elim)
            refine jnC_mk (fun _ => vIf_mk (fun h1 => ?_) (fun h1 => ?_))
            · have h1 : bb = true := h1
              rw [h1] at hbb
              have hh := of_decide_eq_true hbb.symm
              refine (rotate_calls (a := (r : Int)) (m := ((P.length + X.length : Nat) : Int)) (b := ((N - r : Nat) : Int)) h0 B A n c (P ++ A1) A2 B1 (B2 ++ S) u hru2 (fun h => by rw [h] at lX2; simp at lX2; omega) (fun h => by rw [h] at lY1; simp at lY1; omega) hn (by rw [List.length_append]; omega) (by rw [List.length_append]; omega) (by rw [List.length_append]; omega)).mono ?_
              rintro q v ⟨rfl, f2, hv⟩
              exact ⟨rfl, left v (fu.trans1 f2) (by simpa using hv)⟩
            · have h1 : bb = false := h1
              rw [h1] at hbb
              have hh := of_decide_eq_false hbb.symm
              refine left u fu ?_
              rcases Nat.lt_or_ge r (P.length + X.length) with hh2 | hh2
              · have : B1 = [] := List.length_eq_zero_iff.1 (by omega)
                rw [this] at hru2 ⊢
                simpa using hru2
              · have : A2 = [] := List.length_eq_zero_iff.1 (by omega)
                rw [this] at hru2 ⊢
                simpa using hru2
          refine vIf_mk (fun h1 => k40 _ ?_) (fun h1 => k40 _ ?_)
          · have h1 : (r : Int) < ((P.length + X.length : Nat) : Int) := of_decide_eq_true h1
            apply decide_eq_decide.2
            omega
          · have h1 : ¬ (r : Int) < ((P.length + X.length : Nat) : Int) := of_decide_eq_false h1
            rw [decide_eq_false (fun h => h1 (by omega))]
      refine vIf_mk (fun h3 => ?_) (fun h3 => ?_)
      · have h3 : ((P.length + X.length : Nat) : Int) > (mid : Int) := of_decide_eq_true h3
        have eS : IntKind.wrap .i64 ((N : Int) - ((P.length + X.length + Y.length : Nat) : Int)) = ((N - (P.length + X.length + Y.length) : Nat) : Int) := es _ _ (by omega) (by omega)
        rw [eS]
        exact fin _ _ (by omega) (by omega) (by omega) (by omega) (by omega) (.inr (by omega)) (.inr rfl)
      · have h3 : ¬ ((P.length + X.length : Nat) : Int) > (mid : Int) := of_decide_eq_false h3
        exact fin _ _ (by omega) (by omega) (by omega) (by omega) (by omega) (.inl rfl) (.inl rfl)
end
end Go.Proofs.YtfdhaeglhkmmpaaGreat.StbNm
/- stable sorting, walked: insertionSort, the sort: rows of api.Named -/
namespace Go.Proofs.YtfdhaeglhkmmpaaGreat.StbNm
open Go.GV Go.RowKit Go.Stb
set_option linter.unusedVariables false
set_option linter.unusedSimpArgs false
section
variable {β : Type} {enc : β → List Value} {cmp : β → β → Int}
/-- what a sort of a part leaves -/
def Srted (enc : β → List Value) (cmp : β → β → Int) (w w' : World) (B : Nat) (A : Option Addr) (n c : Nat) (P X S : List (β × Nat)) : Prop :=
  Fr (fun k => blkOf A = some k) w w' ∧ ∃ M, M.Perm X ∧ Sorted cmp M ∧ RS enc w' B A n c (P ++ M ++ S)
set_option maxHeartbeats 1000000 in
theorem insSort_calls (h0 : Srt β enc cmp) (B : Nat) (A : Option Addr) (n c : Nat) (P X S : List (β × Nat)) (w : World) (h : RS enc w B A n c (P ++ X ++ S)) (hb : X.Pairwise bef) (hn : n < 549755813888) {a b : Int} (ha : a = ((P.length : Nat) : Int)) (hbb : b = ((P.length + X.length : Nat) : Int)) :
    Calls Tryz.prog 146 #[.slice A n c, .int .i64 a, .int .i64 b, cf] w fun e w' => e = .returned (.tuple #[]) ∧ Srted enc cmp w w' B A n c P X S := by
  subst ha; subst hbb
  refine (F146s.of A n c _ _ w (Q := fun v w' => v = .tuple #[] ∧ Srted enc cmp w w' B A n c P X S) ?_).mono (fun e w' ⟨v, he, hv, h⟩ => ⟨by rw [he, hv], h⟩)
  have hlen := h.2
  simp only [List.length_append] at hlen
  by_cases hX0 : X = []
  · subst hX0
    refine jnC_mk (loop_rule (fun s u => u = w ∧ s = ((A, n, c), ((P.length : Nat) : Int), ((P.length + ([] : List (β × Nat)).length : Nat) : Int), (), ((P.length + 1 : Nat) : Int), ())) (fun _ _ => 0) ?_ _ _ ⟨rfl, by rw [ep _ (by omega)]⟩)
    rintro s u C ⟨rfl, rfl⟩ hC _
    refine vIf_f (decide_eq_false ?_) ⟨rfl, Fr.refl _ _, [], List.Perm.refl _, List.Pairwise.nil, h⟩
    show ¬ ((P.length + 1 : Nat) : Int) < ((P.length + ([] : List (β × Nat)).length : Nat) : Int)
    simp only [List.length_nil]
    omega
  obtain ⟨x0, X0, rfl⟩ : ∃ x r, X = x :: r := by
    cases X with
    | nil => exact absurd rfl hX0
    | cons x r => exact ⟨x, r, rfl⟩
  refine jnC_mk (loop_rule (fun s u => Fr (fun k => blkOf A = some k) w u ∧ ∃ X1 M X2 : List (β × Nat), X1 ++ X2 = x0 :: X0 ∧ M.Perm X1 ∧ Sorted cmp M ∧ M ≠ [] ∧ s = ((A, n, c), ((P.length : Nat) : Int), ((P.length + (x0 :: X0).length : Nat) : Int), (), ((P.length + M.length : Nat) : Int), ()) ∧ RS enc u B A n c (P ++ M ++ X2 ++ S))
    (fun s _ => (P.length + (x0 :: X0).length - s.2.2.2.2.1).toNat) ?_ _ _ ⟨Fr.refl _ _, [x0], [x0], X0, rfl, List.Perm.refl _, List.pairwise_singleton _ _, by simp, by rw [ep _ (by omega)]; rfl, by simpa using h⟩)
  rintro s u C1 ⟨hf, X1, M, X2, hX, hM, sM, hM0, rfl, hr⟩ hC1 _
  have hXl : X1.length + X2.length = (x0 :: X0).length := by rw [← hX, List.length_append]
  have hMl := hM.length_eq
  refine vIf_mk (fun hlt => ?_) (fun hge => ?_)
  · have hlt2 : ((P.length + M.length : Nat) : Int) < ((P.length + (x0 :: X0).length : Nat) : Int) := of_decide_eq_true hlt
    obtain ⟨x, X2', rfl⟩ : ∃ x r, X2 = x :: r := by
      cases X2 with
      | nil => simp at hXl hlt2; omega
      | cons x r => exact ⟨x, r, rfl⟩
    simp only [List.length_cons] at hXl hlt2 hlen
    have hbx : ∀ y ∈ M, bef y x := fun y hy => by
      rw [← hX] at hb
      exact (List.pairwise_append.1 hb).2.2 y (hM.mem_iff.1 hy) x (List.mem_cons_self ..)
    have hM1 : M.length ≠ 0 := fun h => hM0 (List.length_eq_zero_iff.1 h)
    -- x goes down
    refine jnC_mk (loop_rule (fun s v => Fr (fun k => blkOf A = some k) w v ∧ ∃ U V : List (β × Nat), U ++ V = M ∧ (∀ y ∈ V, lt cmp x y) ∧ s = ((A, n, c), ((P.length : Nat) : Int), ((P.length + (x0 :: X0).length : Nat) : Int), (), ((P.length + M.length : Nat) : Int), ((P.length + U.length : Nat) : Int), ()) ∧ RS enc v B A n c (P ++ U ++ x :: V ++ X2' ++ S))
      (fun s _ => s.2.2.2.2.2.1.toNat) ?_ _ _ ⟨hf, M, [], by simp, by simp, rfl, by simpa using hr⟩)
    rintro s v C ⟨hfv, U, V, hUV, hVx, rfl, hrv⟩ hC _
    have hUVl : U.length + V.length = M.length := by rw [← hUV, List.length_append]
    have sUV := sM
    rw [← hUV] at sUV
    obtain ⟨sU, sV, sUV2⟩ := sorted_of_app sUV
    have next : ∀ u2 : World, Fr (fun k => blkOf A = some k) w u2 → RS enc u2 B A n c (P ++ U ++ x :: V ++ X2' ++ S) → (∀ y ∈ U, lt cmp y x) → C1 ((A, n, c), ((P.length : Nat) : Int), ((P.length + (x0 :: X0).length : Nat) : Int), (), IntKind.wrap .i64 (((P.length + M.length : Nat) : Int) + 1), ()) u2 := by
      intro u2 f2 h2 hUx
      refine hC1 _ _ ⟨f2, X1 ++ [x], U ++ x :: V, X2', by rw [← hX]; simp, ?_, ?_, by simp, ?_, by simpa using h2⟩ ?_
      · refine List.perm_middle.trans ?_
        rw [hUV]
        exact (hM.cons x).trans (List.perm_append_singleton _ _).symm
      · refine sorted_app sU (List.pairwise_cons.2 ⟨hVx, sV⟩) (fun y hy z hz => ?_)
        rcases List.mem_cons.1 hz with rfl | hz
        · exact hUx y hy
        · exact sUV2 y hy z hz
      · have : (U ++ x :: V).length = M.length + 1 := by simp; omega
        rw [ep _ (by omega), this]; rfl
      · show (((P.length : Nat) : Int) + (((x0 :: X0).length : Nat) : Int) - IntKind.wrap .i64 (((P.length + M.length : Nat) : Int) + 1)).toNat < (((P.length : Nat) : Int) + (((x0 :: X0).length : Nat) : Int) - ((P.length + M.length : Nat) : Int)).toNat
        rw [ep _ (by omega), List.length_cons]; omega
    have hvd := hrv.drew
    have fvd : Fr (fun k => blkOf A = some k) w v.drew := hfv.trans1 (Fr.drew _ _)
    refine vIf_mk (fun hj => ?_) (fun hj => ?_)
    · have hj2 : ((P.length + U.length : Nat) : Int) > ((P.length : Nat) : Int) := of_decide_eq_true hj
      obtain ⟨U', z, rfl⟩ : ∃ U' z, U = U' ++ [z] := by
        have hne : U ≠ [] := by intro h; subst h; simp at hj2
        exact ⟨U.dropLast, U.getLast hne, (List.dropLast_concat_getLast hne).symm⟩
      simp only [List.length_append, List.length_cons, List.length_nil] at hUVl hj2
      have l1 : P ++ (U' ++ [z]) ++ x :: V ++ X2' ++ S = (P ++ U') ++ z :: (x :: V ++ X2' ++ S) := by simp
      have l2 : P ++ (U' ++ [z]) ++ x :: V ++ X2' ++ S = (P ++ (U' ++ [z])) ++ x :: (V ++ X2' ++ S) := by simp
      have ek : IntKind.wrap .i64 (((P.length + (U' ++ [z]).length : Nat) : Int) - 1) = ((P.length + U'.length : Nat) : Int) := by rw [e1 _ (by simp; omega) (by simp; omega)]; simp only [List.length_append, List.length_cons, List.length_nil]; omega
      have gx := fun (t : World) (ht : RS enc t B A n c (P ++ (U' ++ [z]) ++ x :: V ++ X2' ++ S)) {K : List Value → Prop} (hK : K (enc x.1)) => rs_rd h0 ht (i := P.length + (U' ++ [z]).length) (x := x) (by rw [l2]; exact get_mid (by simp)) rfl hK
      have gz := fun (t : World) (ht : RS enc t B A n c (P ++ (U' ++ [z]) ++ x :: V ++ X2' ++ S)) {K : List Value → Prop} (hK : K (enc z.1)) => rs_rd h0 ht (i := P.length + U'.length) (x := z) (by rw [l1]; exact get_mid (by simp)) ek hK
      refine gx _ hvd (gz _ hvd ((h0.call x.1 z.1 v.drew).mono ?_))
      rintro r v2 ⟨rfl, f2⟩
      have fv2 := fvd.trans1 (f2.mono (T := fun k => blkOf A = some k) (fun _ _ h => h.elim))
      have hv2 := hvd.fr0 f2
      have hzM : z ∈ M := by rw [← hUV]; simp
      have hbz := hbx z hzM
      refine ⟨_, rfl, vIf_mk (fun hc => jnC_mk (fun _ => ?_)) (fun hc => jnC_mk (next v2 fv2 hv2 (fun y hy => ?_)))⟩
      · have hxz := bef_yes h0.ord hbz (of_decide_eq_true hc)
        have hv3 := hv2.drew
        refine gz _ hv3 (gx _ hv3 ?_)
        refine rs_swap h0 hv3 (i := P.length + (U' ++ [z]).length) (j := P.length + U'.length) (x := x) (y := z) (by simp; omega) (by omega) rfl ek (fun w' hr' f' => jnC_mk (hC _ _ ⟨(fv2.trans1 (Fr.drew _ _)).trans1 f', U', z :: V, by rw [← hUV]; simp, fun y hy => ?_, ?_, ?_⟩ ?_))
        · rcases List.mem_cons.1 hy with rfl | hy
          · exact hxz
          · exact hVx y hy
        · show (_, _, _, _, _, IntKind.wrap .i64 (((P.length + (U' ++ [z]).length : Nat) : Int) - 1), ()) = _
          rw [ek]
        · rw [l2, set_mid (by simp)] at hr'
          have l3 : (P ++ (U' ++ [z])) ++ z :: (V ++ X2' ++ S) = (P ++ U') ++ z :: (z :: (V ++ X2' ++ S)) := by simp
          rw [l3, set_mid (by simp)] at hr'
          have l4 : (P ++ U') ++ x :: (z :: (V ++ X2' ++ S)) = P ++ U' ++ x :: (z :: V) ++ X2' ++ S := by simp
          rw [l4] at hr'; exact hr'
        · show (IntKind.wrap .i64 (((P.length + (U' ++ [z]).length : Nat) : Int) - 1)).toNat < (((P.length + (U' ++ [z]).length : Nat) : Int)).toNat
          rw [ek]; simp only [List.length_append, List.length_cons, List.length_nil]; omega
      · have hzx := bef_no h0.ord hbz (of_decide_eq_false hc)
        rcases List.mem_append.1 hy with hy | hy
        · refine lt_trans h0.ord ?_ hzx
          exact (sorted_of_app sU).2.2 y hy z (by simp)
        · simp at hy; subst hy; exact hzx
    · have hj2 : ¬ ((P.length + U.length : Nat) : Int) > ((P.length : Nat) : Int) := of_decide_eq_false hj
      have hU : U = [] := List.length_eq_zero_iff.1 (by omega)
      exact jnC_mk (next v.drew fvd hvd (fun y hy => by rw [hU] at hy; cases hy))
  · have hge2 : ¬ ((P.length + M.length : Nat) : Int) < ((P.length + (x0 :: X0).length : Nat) : Int) := of_decide_eq_false hge
    have hX2 : X2 = [] := List.length_eq_zero_iff.1 (by omega)
    subst hX2
    rw [List.append_nil] at hX hr
    subst hX
    exact ⟨rfl, hf, M, hM, sM, hr⟩
/-! ### the sort -/
/-- sorted blocks of k, and less than k behind them -/
structure Blk (cmp : β → β → Int) (k : Nat) (Fs : List (List (β × Nat))) (t : List (β × Nat)) : Prop where
  len : ∀ f ∈ Fs, f.length = k
  srt : ∀ f ∈ Fs, Sorted cmp f
  tl : t.length < k
  ts : Sorted cmp t
  bf : (Fs ++ [t]).Pairwise befC
set_option maxHeartbeats 2000000 in
theorem stable_calls (h0 : Srt β enc cmp) (B : Nat) (A : Option Addr) (n c : Nat) (X : List (β × Nat)) (w : World) (h : RS enc w B A n c X) (hb : X.Pairwise bef) (hn : n < 68719476736) :
    Calls Tryz.prog 136 #[.slice A n c, .int .i64 (n : Nat), cf] w fun e w' => e = .returned (.tuple #[]) ∧ Srted enc cmp w w' B A n c [] X [] := by
  refine (F136s.of A n c _ w (Q := fun v w' => v = .tuple #[] ∧ Srted enc cmp w w' B A n c [] X []) ?_).mono (fun e w' ⟨v, he, hv, h⟩ => ⟨by rw [he, hv], h⟩)
  have hXl := h.2
  -- the merges
  have merges : ∀ (u : World) (Fs : List (List (β × Nat))) (t : List (β × Nat)), Fr (fun k => blkOf A = some k) w u → (Fs.flatten ++ t).Perm X → Blk cmp 20 Fs t → RS enc u B A n c (Fs.flatten ++ t) →
      jnC (F136s.l7 (fun v w' => v = .tuple #[] ∧ Srted enc cmp w w' B A n c [] X [])) ((A, n, c), (n : Int), (), 20, ()) u := by
    intro u Fs t hf hp hB hr
    refine jnC_mk (loop_rule (fun s u => Fr (fun k => blkOf A = some k) w u ∧ ∃ (k : Nat) (Fs : List (List (β × Nat))) (t : List (β × Nat)), 20 ≤ k ∧ k ≤ 2 * n + 20 ∧ s = ((A, n, c), (n : Int), (), (k : Int), ()) ∧ (Fs.flatten ++ t).Perm X ∧ Blk cmp k Fs t ∧ RS enc u B A n c (Fs.flatten ++ t))
      (fun s _ => (2 * (n : Int) + 20 - s.2.2.2.1).toNat) ?_ _ _ ⟨hf, 20, Fs, t, by omega, by omega, rfl, hp, hB, hr⟩)
    clear hr hB hp hf
    rintro s u C7 ⟨hf, k, Fs, t, hk1, hk2, rfl, hp, hB, hr⟩ hC7 _
    refine vIf_mk (fun hlt => ?_) (fun hge => ?_)
    · have hlt2 : (k : Int) < (n : Int) := of_decide_eq_true hlt
      have e2k : IntKind.wrap .i64 (2 * (k : Int)) = ((2 * k : Nat) : Int) := by rw [i64_id (by omega) (by omega)]; omega
      have ek2 : IntKind.wrap .i64 ((k : Int) * 2) = ((2 * k : Nat) : Int) := by rw [i64_id (by omega) (by omega)]; omega
      dsimp only
      rw [e2k]
      -- behind the last merge of a round
      have done : ∀ (v : World) (Ds : List (List (β × Nat))) (t' : List (β × Nat)), Fr (fun k => blkOf A = some k) w v → (Ds.flatten ++ t').Perm X → Blk cmp (2 * k) Ds t' → RS enc v B A n c (Ds.flatten ++ t') → C7 ((A, n, c), (n : Int), (), IntKind.wrap .i64 ((k : Int) * 2), ()) v := by
        intro v Ds t' fv hp' hB' hr'
        refine hC7 _ _ ⟨fv, 2 * k, Ds, t', by omega, by omega, by rw [ek2], hp', hB', hr'⟩ ?_
        show (2 * (n : Int) + 20 - IntKind.wrap .i64 ((k : Int) * 2)).toNat < (2 * (n : Int) + 20 - (k : Int)).toNat
        rw [ek2]; omega
      refine jnC_mk (loop_rule (fun s v => Fr (fun k => blkOf A = some k) w v ∧ ∃ (Ds Fs : List (List (β × Nat))), (Ds.flatten ++ (Fs.flatten ++ t)).Perm X ∧ (∀ d ∈ Ds, d.length = 2 * k ∧ Sorted cmp d) ∧ (∀ f ∈ Fs, f.length = k ∧ Sorted cmp f) ∧ (Ds ++ (Fs ++ [t])).Pairwise befC ∧ s = ((A, n, c), (n : Int), (), (k : Int), ((Ds.flatten.length : Nat) : Int), ((Ds.flatten.length + 2 * k : Nat) : Int), ()) ∧ RS enc v B A n c (Ds.flatten ++ (Fs.flatten ++ t)))
        (fun s _ => ((n : Int) - s.2.2.2.2.1).toNat) ?_ _ _ ⟨hf, [], Fs, by simpa using hp, by simp, fun f hf => ⟨hB.len f hf, hB.srt f hf⟩, hB.bf, by simp, by simpa using hr⟩)
      have ht := hB.tl
      have hts := hB.ts
      clear hr hB hp hf
      rintro s v C9 ⟨hf, Ds, Fs, hp, hD, hF, hbf, rfl, hr⟩ hC9 _
      have hl := hr.2
      simp only [List.length_append] at hl
      have hFl := flat_len (fun f hf => (hF f hf).1)
      have eAk : IntKind.wrap .i64 (((Ds.flatten.length : Nat) : Int) + (k : Int)) = ((Ds.flatten.length + k : Nat) : Int) := ea _ _ (by omega) (by omega)
      refine vIf_mk (fun hlt => ?_) (fun hge => ?_)
      · have hlt2 : ((Ds.flatten.length + 2 * k : Nat) : Int) ≤ (n : Int) := of_decide_eq_true hlt
        obtain ⟨f1, f2, Fs', rfl⟩ : ∃ f1 f2 r, Fs = f1 :: f2 :: r := by
          match Fs, hFl with
          | [], hFl => simp only [List.flatten_nil, List.length_nil] at hFl hl; omega
          | [f], hFl => simp only [List.length_cons, List.length_nil] at hFl; omega
          | f1 :: f2 :: r, _ => exact ⟨f1, f2, r, rfl⟩
        have q1 := hF f1 (List.mem_cons_self ..)
        have q2 := hF f2 (List.mem_cons_of_mem _ (List.mem_cons_self ..))
        have hfl : Ds.flatten ++ ((f1 :: f2 :: Fs').flatten ++ t) = Ds.flatten ++ f1 ++ f2 ++ (Fs'.flatten ++ t) := by simp
        rw [hfl] at hr hp
        dsimp only
        rw [eAk]
        refine (symMerge_calls h0 B A n c (by omega) _ Ds.flatten f1 f2 (Fs'.flatten ++ t) v (Nat.le_refl _) hr q1.2 q2.2 (befC_two (Ds := Ds) (R := Fs' ++ [t]) (by simpa using hbf)) (fun h => by rw [h] at q1; have := q1.1; simp only [List.length_nil] at this; omega) (fun h => by rw [h] at q2; have := q2.1; simp only [List.length_nil] at this; omega) ((Ds.flatten.length : Nat) : Int) ((Ds.flatten.length + k : Nat) : Int) ((Ds.flatten.length + 2 * k : Nat) : Int) rfl (by rw [q1.1]) (by rw [q1.1, q2.1]; omega)).mono ?_
        rintro r v2 ⟨rfl, f', M, mM, sM, hr'⟩
        have lM : M.length = 2 * k := by rw [mM.length_eq, List.length_append, q1.1, q2.1]; omega
        have hfl2 : Ds.flatten ++ M ++ (Fs'.flatten ++ t) = (Ds ++ [M]).flatten ++ (Fs'.flatten ++ t) := by simp
        rw [hfl2] at hr'
        have lD2 : (Ds ++ [M]).flatten.length = Ds.flatten.length + 2 * k := by rw [List.flatten_append, List.flatten_cons, List.flatten_nil, List.append_nil, List.length_append, lM]
        refine ⟨rfl, jnC_mk (hC9 _ _ ⟨hf.trans1 f', Ds ++ [M], Fs', ?_, fun d hd => ?_, fun f hf => hF f (List.mem_cons_of_mem _ (List.mem_cons_of_mem _ hf)), ?_, ?_, hr'⟩ ?_)⟩
        · rw [← hfl2]
          refine List.Perm.trans ?_ hp
          simp only [List.append_assoc]
          exact (((mM.append_right _).trans (by simp)).append_left _)
        · rcases List.mem_append.1 hd with hd | hd
          · exact hD d hd
          · simp at hd; subst hd; exact ⟨lM, sM⟩
        · have := befC_merge (Ds := Ds) (R := Fs' ++ [t]) (by simpa using hbf) mM
          simpa using this
        · show (_, _, _, _, ((Ds.flatten.length + 2 * k : Nat) : Int), IntKind.wrap .i64 (((Ds.flatten.length + 2 * k : Nat) : Int) + IntKind.wrap .i64 (2 * (k : Int))), ()) = _
          rw [e2k, ea _ _ (by omega) (by omega), lD2]
        · show ((n : Int) - ((Ds.flatten.length + 2 * k : Nat) : Int)).toNat < ((n : Int) - ((Ds.flatten.length : Nat) : Int)).toNat
          omega
      · have hge2 : ¬ ((Ds.flatten.length + 2 * k : Nat) : Int) ≤ (n : Int) := of_decide_eq_false hge
        clear hC9
        dsimp only
        rw [eAk]
        have hFs : Fs.length ≤ 1 := by
          rcases Nat.lt_or_ge Fs.length 2 with h' | h'
          · omega
          · have : 2 * k ≤ Fs.length * k := Nat.mul_le_mul_right _ h'
            omega
        match Fs, hFs with
        | [], _ =>
          simp only [List.flatten_nil, List.nil_append, List.length_nil] at hr hp hl hbf
          refine vIf_f (decide_eq_false (by omega)) (jnC_mk (done v Ds t hf hp ⟨fun d hd => (hD d hd).1, fun d hd => (hD d hd).2, by omega, hts, hbf⟩ hr))
        | [f], _ =>
          have q1 := hF f (List.mem_cons_self ..)
          simp only [List.flatten_cons, List.flatten_nil, List.append_nil] at hr hp hl
          have hbf2 : (Ds ++ f :: t :: []).Pairwise befC := by simpa using hbf
          refine vIf_mk (fun hm => ?_) (fun hm => ?_)
          · have hm2 : ((Ds.flatten.length + k : Nat) : Int) < (n : Int) := of_decide_eq_true hm
            have hr2 : RS enc v B A n c (Ds.flatten ++ f ++ t ++ []) := by simpa using hr
            refine (symMerge_calls h0 B A n c (by omega) _ Ds.flatten f t [] v (Nat.le_refl _) hr2 q1.2 hts (befC_two hbf2) (fun h => by rw [h] at q1; have := q1.1; simp only [List.length_nil] at this; omega) (fun h => by rw [h] at hl; simp only [List.length_nil] at hl; omega) ((Ds.flatten.length : Nat) : Int) ((Ds.flatten.length + k : Nat) : Int) (n : Int) rfl (by rw [q1.1]) (by omega)).mono ?_
            rintro r v2 ⟨rfl, f', M, mM, sM, hr'⟩
            have lM : M.length = k + t.length := by rw [mM.length_eq, List.length_append, q1.1]
            refine ⟨rfl, jnC_mk (done v2 Ds M (hf.trans1 f') ((mM.append_left _).trans hp) ⟨fun d hd => (hD d hd).1, fun d hd => (hD d hd).2, by omega, sM, ?_⟩ (by simpa using hr'))⟩
            exact befC_merge hbf2 mM
          · have hm2 : ¬ ((Ds.flatten.length + k : Nat) : Int) < (n : Int) := of_decide_eq_false hm
            have ht0 : t = [] := List.length_eq_zero_iff.1 (by omega)
            rw [ht0, List.append_nil] at hr hp
            refine jnC_mk (done v Ds f hf hp ⟨fun d hd => (hD d hd).1, fun d hd => (hD d hd).2, by omega, q1.2, ?_⟩ hr)
            exact befC_merge hbf2 (by rw [ht0, List.append_nil])
    · have hge2 : ¬ (k : Int) < (n : Int) := of_decide_eq_false hge
      have hl := hr.2
      simp only [List.length_append] at hl
      have hFl := flat_len hB.len
      have hFs : Fs.length ≤ 1 := by
        rcases Nat.lt_or_ge Fs.length 2 with h' | h'
        · omega
        · have : 2 * k ≤ Fs.length * k := Nat.mul_le_mul_right _ h'
          omega
      match Fs, hFs with
      | [], _ =>
        simp only [List.flatten_nil, List.nil_append] at hr hp
        exact ⟨rfl, hf, t, hp, hB.ts, by simpa using hr⟩
      | [f], _ =>
        have q1 := hB.len f (List.mem_cons_self ..)
        have q2 := hB.srt f (List.mem_cons_self ..)
        simp only [List.flatten_cons, List.flatten_nil, List.append_nil] at hr hp hl
        have ht0 : t = [] := List.length_eq_zero_iff.1 (by omega)
        rw [ht0, List.append_nil] at hr hp
        exact ⟨rfl, hf, f, hp, q2, by simpa using hr⟩
  -- the blocks
  refine jnC_mk (loop_rule (fun s u => Fr (fun k => blkOf A = some k) w u ∧ ∃ (X1 X2 : List (β × Nat)) (Fs : List (List (β × Nat))), X1 ++ X2 = X ∧ Fs.flatten.Perm X1 ∧ (∀ f ∈ Fs, f.length = 20 ∧ Sorted cmp f) ∧ Fs.Pairwise befC ∧ s = ((A, n, c), (n : Int), (), 20, ((Fs.flatten.length : Nat) : Int), ((Fs.flatten.length + 20 : Nat) : Int), ()) ∧ RS enc u B A n c (Fs.flatten ++ X2))
    (fun s _ => ((n : Int) - s.2.2.2.2.1).toNat) ?_ _ _ ⟨Fr.refl _ _, [], X, [], rfl, List.Perm.refl _, by simp, List.Pairwise.nil, rfl, by simpa using h⟩)
  rintro s u C ⟨hf, X1, X2, Fs, hX, hp, hF, hbf, rfl, hr⟩ hC _
  have hl := hr.2
  simp only [List.length_append] at hl
  rw [← hX] at hb
  obtain ⟨b1, b2, b3⟩ := List.pairwise_append.1 hb
  refine vIf_mk (fun hlt => ?_) (fun hge => ?_)
  · have hlt2 : ((Fs.flatten.length + 20 : Nat) : Int) ≤ (n : Int) := of_decide_eq_true hlt
    have hX2 := List.take_append_drop 20 X2
    have lY : (X2.take 20).length = 20 := take_len (by omega)
    have b4 := b2
    rw [← hX2] at b4
    obtain ⟨b5, b6, b7⟩ := List.pairwise_append.1 b4
    have hr2 : RS enc u B A n c (Fs.flatten ++ X2.take 20 ++ X2.drop 20) := by
      rw [List.append_assoc, hX2]; exact hr
    refine (insSort_calls h0 B A n c Fs.flatten (X2.take 20) (X2.drop 20) u hr2 b5 (by omega) rfl (by rw [lY])).mono ?_
    rintro r u2 ⟨rfl, f2, M, mM, sM, hr3⟩
    have lM : M.length = 20 := by rw [mM.length_eq, lY]
    have lF : (Fs ++ [M]).flatten.length = Fs.flatten.length + 20 := by rw [List.flatten_append, List.flatten_cons, List.flatten_nil, List.append_nil, List.length_append, lM]
    refine ⟨rfl, jnC_mk (hC _ _ ⟨hf.trans1 f2, X1 ++ X2.take 20, X2.drop 20, Fs ++ [M], by rw [List.append_assoc, hX2, hX], ?_, fun f hf => ?_, ?_, ?_, by simpa using hr3⟩ ?_)⟩
    · rw [List.flatten_append, List.flatten_cons, List.flatten_nil, List.append_nil]
      exact hp.append mM
    · rcases List.mem_append.1 hf with hf | hf
      · exact hF f hf
      · simp at hf; subst hf; exact ⟨lM, sM⟩
    · refine List.pairwise_append.2 ⟨hbf, List.pairwise_singleton _ _, fun f hf m hm x hx y hy => ?_⟩
      simp at hm; subst hm
      exact b3 x (hp.mem_iff.1 (List.mem_flatten.2 ⟨f, hf, hx⟩)) y (List.mem_of_mem_take (mM.mem_iff.1 hy))
    · show (_, _, _, _, ((Fs.flatten.length + 20 : Nat) : Int), IntKind.wrap .i64 (((Fs.flatten.length + 20 : Nat) : Int) + 20), ()) = _
      rw [lF, i64_id (by omega) (by omega)]; congr 6
    · show ((n : Int) - ((Fs.flatten.length + 20 : Nat) : Int)).toNat < ((n : Int) - ((Fs.flatten.length : Nat) : Int)).toNat
      omega
  · have hge2 : ¬ ((Fs.flatten.length + 20 : Nat) : Int) ≤ (n : Int) := of_decide_eq_false hge
    refine (insSort_calls h0 B A n c Fs.flatten X2 [] u (by simpa using hr) b2 (by omega) rfl (by show (n : Int) = _; omega)).mono ?_
    rintro r u2 ⟨rfl, f2, M, mM, sM, hr3⟩
    refine ⟨rfl, merges u2 Fs M (hf.trans1 f2) ?_ ⟨fun f hf => (hF f hf).1, fun f hf => (hF f hf).2, by rw [mM.length_eq]; omega, sM, ?_⟩ (by simpa using hr3)⟩
    · rw [← hX]; exact hp.append mM
    · refine List.pairwise_append.2 ⟨hbf, List.pairwise_singleton _ _, fun f hf m hm x hx y hy => ?_⟩
      simp at hm; subst hm
      exact b3 x (hp.mem_iff.1 (List.mem_flatten.2 ⟨f, hf, hx⟩)) y (mM.mem_iff.1 hy)
/-- SortStableFunc: the row in its stable order -/
theorem sortStable_calls (h0 : Srt β enc cmp) (B : Nat) (A : Option Addr) (n c : Nat) (X : List β) (w : World) (h : Row w B 94 2 A n c (flt enc X)) (hl : X.length = n) (hn : n < 68719476736) :
    Calls Tryz.prog 113 #[.slice A n c, cf] w fun e w' => e = .returned (.tuple #[]) ∧ Fr (fun k => blkOf A = some k) w w' ∧ Row w' B 94 2 A n c (flt enc (stab cmp X)) := by
  refine (F113s.of A n c w (Q := fun v w' => v = .tuple #[] ∧ Fr (fun k => blkOf A = some k) w w' ∧ Row w' B 94 2 A n c (flt enc (stab cmp X))) ?_).mono (fun e w' ⟨v, he, hv, h⟩ => ⟨by rw [he, hv], h⟩)
  have hflt : ∀ l : List (β × Nat), flt (encT enc) l = flt enc (l.map (·.1)) := fun l => by
    unfold flt
    rw [List.map_map]
    rfl
  have hR : RS enc w B A n c (tagL X) := ⟨by rw [hflt, tagL_fst]; exact h, by simp [tagL, hl]⟩
  have hb : (tagL X).Pairwise bef := by
    unfold tagL bef
    rw [List.pairwise_iff_getElem]
    intro i j hi hj hij
    simp
    omega
  refine (stable_calls h0 B A n c (tagL X) w hR hb hn).mono ?_
  rintro r w2 ⟨rfl, f, M, mM, sM, hr⟩
  refine ⟨rfl, rfl, f, ?_⟩
  have h1 := hr.1
  rw [List.nil_append, List.append_nil, hflt, stab_of h0.ord sM mM] at h1
  exact h1
end
end Go.Proofs.YtfdhaeglhkmmpaaGreat.StbNm
/- folders (chapter 11), plainly: names in order, changes -/
namespace Go.Proofs.YtfdhaeglhkmmpaaGreat
open Go.GV Go.RowKit Go.Lib Go.Stb
set_option linter.unusedVariables false
set_option linter.unusedSimpArgs false
abbrev Nm := ByteArray × Int
def encN (x : Nm) : List Value := [.string x.1, .int .i64 x.2]
theorem encN_o : EncO Nm encN 2 := ⟨fun _ => rfl, fun x v hv => by simp [encN] at hv; rcases hv with rfl | rfl <;> rfl⟩
def cmpM (a b : Nm) : Int := cmpN a.1 b.1
theorem cmpM_ord : OrdC cmpM := ⟨fun a b => cmpN_anti _ _, fun a b c h1 h2 => by
  have := cmp_trans a.1.data.toList b.1.data.toList c.1.data.toList h1 h2
  exact this⟩
def findN (s : ByteArray) : List Nm → Option Int
  | [] => none
  | x :: r => if x.1 = s then some x.2 else findN s r
theorem findN_app (s : ByteArray) : ∀ a b : List Nm, findN s (a ++ b) = (findN s a).or (findN s b)
  | [], b => by simp [findN]
  | x :: r, b => by
    rw [List.cons_append, findN, findN, findN_app s r b]
    split <;> simp
theorem findN_none {s : ByteArray} : ∀ {l : List Nm}, (∀ x ∈ l, x.1 ≠ s) → findN s l = none
  | [], _ => rfl
  | x :: r, h => by rw [findN, if_neg (h x (List.mem_cons_self ..)), findN_none (fun y hy => h y (List.mem_cons_of_mem _ hy))]
theorem findN_mem {s : ByteArray} {i : Int} : ∀ {l : List Nm}, findN s l = some i → (s, i) ∈ l
  | [], h => by simp [findN] at h
  | x :: r, h => by
    rw [findN] at h
    split at h
    · rename_i hx
      injection h with h
      rw [← hx, ← h]; exact List.mem_cons_self ..
    · exact List.mem_cons_of_mem _ (findN_mem h)
def AscN (l : List Nm) : Prop := l.Pairwise (fun a b => cmpN a.1 b.1 < 0)
theorem cmp_ne {a b : ByteArray} (h : cmpN a b < 0) : a ≠ b := fun e => by rw [e, cmpN_self] at h; omega
theorem cmp_gt {a b : ByteArray} (h : cmpN a b < 0) : ¬ cmpN b a < 0 := by have := cmpN_anti a b; omega
theorem ascN_ext : ∀ {a b : List Nm}, AscN a → AscN b → (∀ s, findN s a = findN s b) → a = b
  | [], [], _, _, _ => rfl
  | [], y :: b, _, _, h => by have := h y.1; simp [findN] at this
  | x :: a, [], _, _, h => by have := h x.1; simp [findN] at this
  | x :: a, y :: b, ha, hb, h => by
    have ca := List.pairwise_cons.1 ha
    have cb := List.pairwise_cons.1 hb
    have key : ∀ {x y : Nm} {a b : List Nm}, (∀ z ∈ b, cmpN y.1 z.1 < 0) → (findN x.1 (x :: a) = findN x.1 (y :: b)) → x.1 = y.1 ∨ cmpN y.1 x.1 < 0 := by
      intro x y a b hy hf
      rw [findN, if_pos rfl] at hf
      rcases List.mem_cons.1 (findN_mem hf.symm) with h1 | h1
      · left; rw [← h1]
      · right; exact hy _ h1
    have h1 := key cb.1 (h x.1)
    have h2 := key ca.1 (h y.1).symm
    have hxy : x.1 = y.1 := by
      rcases h1 with h1 | h1
      · exact h1
      · rcases h2 with h2 | h2
        · exact h2.symm
        · exact absurd h2 (cmp_gt h1)
    have h3 := h x.1
    rw [findN, findN, if_pos rfl, if_pos hxy.symm] at h3
    injection h3 with h3
    have hx : x = y := Prod.ext hxy h3
    subst hx
    rw [ascN_ext ca.2 cb.2 (fun s => by
      have h4 := h s
      rw [findN, findN] at h4
      by_cases hs : x.1 = s
      · rw [findN_none (fun z hz => fun e => cmp_ne (ca.1 z hz) (by rw [hs, e])), findN_none (fun z hz => fun e => cmp_ne (cb.1 z hz) (by rw [hs, e]))]
      · rw [if_neg hs, if_neg hs] at h4; exact h4)]
/-! ### a name put -/
def putN (x : Nm) : List Nm → List Nm
  | [] => [x]
  | y :: r => if cmpN x.1 y.1 < 0 then x :: y :: r else if x.1 = y.1 then x :: r else y :: putN x r
theorem putN_find (s : ByteArray) (x : Nm) : ∀ l, findN s (putN x l) = if x.1 = s then some x.2 else findN s l
  | [] => by simp [putN, findN]
  | y :: r => by
    have ih := putN_find s x r
    rw [putN]
    split
    · rw [findN]
    · split
      · rename_i h1 h2
        rw [findN]
        by_cases h3 : x.1 = s
        · rw [if_pos h3, if_pos h3]
        · rw [if_neg h3, if_neg h3, findN, if_neg (by rw [← h2]; exact h3)]
      · rename_i h1 h2
        rw [findN, ih, findN]
        by_cases h3 : x.1 = s
        · rw [if_pos h3, if_neg (by rw [← h3]; exact fun e => h2 e.symm), if_pos h3]
        · rw [if_neg h3, if_neg h3]
theorem putN_mem {x z : Nm} : ∀ {l}, z ∈ putN x l → z = x ∨ z ∈ l
  | [], h => by simp [putN] at h; exact .inl h
  | y :: r, h => by
    rw [putN] at h
    split at h
    · exact List.mem_cons.1 h
    · split at h
      · rcases List.mem_cons.1 h with h | h
        · exact .inl h
        · exact .inr (List.mem_cons_of_mem _ h)
      · rcases List.mem_cons.1 h with h | h
        · exact .inr (by rw [h]; exact List.mem_cons_self ..)
        · rcases putN_mem h with h | h
          · exact .inl h
          · exact .inr (List.mem_cons_of_mem _ h)
theorem putN_asc (x : Nm) : ∀ {l}, AscN l → AscN (putN x l)
  | [], _ => List.pairwise_singleton _ _
  | y :: r, h => by
    have c := List.pairwise_cons.1 h
    rw [putN]
    split
    · rename_i h1
      refine List.pairwise_cons.2 ⟨fun z hz => ?_, h⟩
      rcases List.mem_cons.1 hz with rfl | hz
      · exact h1
      · exact cmpN_trans h1 (c.1 z hz)
    · split
      · rename_i h1 h2
        refine List.pairwise_cons.2 ⟨fun z hz => ?_, c.2⟩
        rw [h2]; exact c.1 z hz
      · rename_i h1 h2
        refine List.pairwise_cons.2 ⟨fun z hz => ?_, putN_asc x c.2⟩
        rcases putN_mem hz with rfl | hz
        · have := cmpN_anti z.1 y.1
          have h3 : cmpN z.1 y.1 ≠ 0 := fun e => h2 ((cmpN_zero _ _).1 e)
          omega
        · exact c.1 z hz
theorem putN_len (x : Nm) : ∀ l, (putN x l).length ≤ l.length + 1
  | [] => by simp [putN]
  | y :: r => by
    have := putN_len x r
    rw [putN]
    split
    · simp
    · split <;> simp <;> omega
theorem putN_lt {x : Nm} : ∀ {l : List Nm}, (∀ z ∈ l, cmpN x.1 z.1 < 0) → putN x l = x :: l
  | [], _ => rfl
  | y :: r, h => by rw [putN, if_pos (h y (List.mem_cons_self ..))]
theorem putN_app {x : Nm} : ∀ {U : List Nm} (V : List Nm), (∀ z ∈ U, cmpN z.1 x.1 < 0) → putN x (U ++ V) = U ++ putN x V
  | [], V, _ => rfl
  | y :: r, V, h => by
    have h1 := h y (List.mem_cons_self ..)
    rw [List.cons_append, putN, if_neg (cmp_gt h1), if_neg (fun e => cmp_ne h1 e.symm), putN_app V (fun z hz => h z (List.mem_cons_of_mem _ hz))]
    rfl
/-! the document's put -/
def putS (x : Nm) (s : List Nm × Bool) (y : Nm) : List Nm × Bool :=
  if y.1 = x.1 then (if s.2 = false ∧ cmpN x.1 y.1 < 0 then (s.1 ++ [x], true) else s) else
  ((if s.2 = false ∧ cmpN x.1 y.1 < 0 then (s.1 ++ [x], true) else s).1 ++ [y], (if s.2 = false ∧ cmpN x.1 y.1 < 0 then (s.1 ++ [x], true) else s).2)
def putE (x : Nm) (s : List Nm × Bool) : List Nm := if s.2 = true then s.1 else s.1 ++ [x]
theorem putS_done (x : Nm) : ∀ (l o : List Nm), (∀ z ∈ l, cmpN x.1 z.1 < 0) → l.foldl (putS x) (o, true) = (o ++ l, true)
  | [], o, _ => by simp
  | y :: r, o, h => by
    have h1 := h y (List.mem_cons_self ..)
    rw [List.foldl_cons, putS, if_neg (fun e => cmp_ne h1 e.symm), if_neg (by simp), putS_done x r _ (fun z hz => h z (List.mem_cons_of_mem _ hz))]
    simp
theorem putS_fold (x : Nm) : ∀ (l o : List Nm), AscN l → putE x (l.foldl (putS x) (o, false)) = o ++ putN x l
  | [], o, _ => rfl
  | y :: r, o, h => by
    have c := List.pairwise_cons.1 h
    rw [List.foldl_cons, putS, putN]
    by_cases h1 : cmpN x.1 y.1 < 0
    · rw [if_neg (fun e => cmp_ne h1 e.symm), if_pos ⟨rfl, h1⟩, if_pos h1, putS_done x r _ (fun z hz => cmpN_trans h1 (c.1 z hz))]
      simp [putE]
    · by_cases h2 : x.1 = y.1
      · rw [if_pos h2.symm, if_neg (fun h => h1 h.2), if_neg h1, if_pos h2, putS_fold x r o c.2, putN_lt (fun z hz => by rw [h2]; exact c.1 z hz)]
      · rw [if_neg (fun e => h2 e.symm), if_neg (fun h => h1 h.2), if_neg h1, if_neg h2, putS_fold x r _ c.2]
        simp
/-! ### without a name -/
def woN (s : ByteArray) (l : List Nm) : List Nm := l.filter (fun y => decide (y.1 ≠ s))
theorem woN_step {s : ByteArray} {l : List Nm} {i : Nat} {x : Nm} (h : l[i]? = some x) : woN s (l.take (i + 1)) = if x.1 ≠ s then woN s (l.take i) ++ [x] else woN s (l.take i) := by
  unfold woN
  rw [List.take_add_one, h, Option.toList_some, List.filter_append]
  split
  · rename_i h1; rw [List.filter_cons_of_pos (by simpa using h1)]; rfl
  · rename_i h1; rw [List.filter_cons_of_neg (by simpa using h1)]; simp
theorem woN_find (t s : ByteArray) : ∀ l, findN t (woN s l) = if t = s then none else findN t l
  | [] => by simp [woN, findN]
  | y :: r => by
    have ih := woN_find t s r
    by_cases h : y.1 = s
    · have : woN s (y :: r) = woN s r := List.filter_cons_of_neg (by simpa using h)
      rw [this, ih, findN]
      by_cases h2 : t = s
      · rw [if_pos h2, if_pos h2]
      · rw [if_neg h2, if_neg h2, if_neg (by rw [h]; exact fun e => h2 e.symm)]
    · have : woN s (y :: r) = y :: woN s r := List.filter_cons_of_pos (by simpa using h)
      rw [this, findN, ih, findN]
      by_cases h2 : t = s
      · rw [if_pos h2, if_pos h2, if_neg (by rw [h2]; exact h)]
      · rw [if_neg h2, if_neg h2]
theorem woN_asc (s : ByteArray) {l : List Nm} (h : AscN l) : AscN (woN s l) := h.sublist (List.filter_sublist ..)
theorem woN_len (s : ByteArray) (l : List Nm) : (woN s l).length ≤ l.length := List.length_filter_le _ _
theorem woN_id {s : ByteArray} {l : List Nm} (h : ∀ x ∈ l, x.1 ≠ s) : woN s l = l := List.filter_eq_self.2 (fun x hx => by simpa using h x hx)
/-! ### where a name lies -/
def PlN (s : ByteArray) (i : Nat) (l : List Nm) : Prop := i ≤ l.length ∧ (∀ x ∈ l.take i, cmpN x.1 s < 0) ∧ ∀ x ∈ l.drop i, ¬ cmpN x.1 s < 0
def isN (s : ByteArray) (i : Nat) (l : List Nm) : Bool := match l[i]? with | some x => decide (x.1 = s) | none => false
theorem isN_at {s : ByteArray} {i : Nat} {l : List Nm} (h : isN s i l = true) : ∃ x, l[i]? = some x ∧ x.1 = s := by
  unfold isN at h
  split at h
  · rename_i x hx; exact ⟨x, hx, of_decide_eq_true h⟩
  · cases h
theorem drop_at {α : Type} {l : List α} {i : Nat} {x : α} (h : l[i]? = some x) : l.drop i = x :: l.drop (i + 1) := by
  obtain ⟨h1, rfl⟩ := List.getElem?_eq_some_iff.1 h
  exact List.drop_eq_getElem_cons h1
theorem pl_gt {s : ByteArray} {i : Nat} {l : List Nm} (hp : PlN s i l) (ha : AscN l) (hi : isN s i l = false) : ∀ x ∈ l.drop i, cmpN s x.1 < 0 := by
  intro x hx
  have h1 := hp.2.2 x hx
  cases hd : l.drop i with
  | nil => rw [hd] at hx; cases hx
  | cons y r =>
    have hy : l[i]? = some y := by
      have := congrArg (·[0]?) hd
      simpa using this
    have hne : y.1 ≠ s := by
      unfold isN at hi
      rw [hy] at hi
      exact of_decide_eq_false hi
    have hyl := hp.2.2 y (by rw [hd]; exact List.mem_cons_self ..)
    have h0 : cmpN y.1 s ≠ 0 := fun e => hne ((cmpN_zero _ _).1 e)
    have hsy : cmpN s y.1 < 0 := by have := cmpN_anti y.1 s; omega
    rw [hd] at hx
    rcases List.mem_cons.1 hx with rfl | hx
    · exact hsy
    · have hsub : AscN (y :: r) := by rw [← hd]; exact ha.sublist (List.drop_sublist _ _)
      exact cmpN_trans hsy ((List.pairwise_cons.1 hsub).1 x hx)
theorem put_in {s : ByteArray} {v : Int} {i : Nat} {l : List Nm} {x : Nm} (hp : PlN s i l) (hx : l[i]? = some x) (hs : x.1 = s) : putN (s, v) l = l.set i (s, v) := by
  have hi := (List.getElem?_eq_some_iff.1 hx).1
  conv => lhs; rw [← List.take_append_drop i l]
  rw [putN_app _ hp.2.1, drop_at hx, putN, if_neg (by show ¬ cmpN s x.1 < 0; rw [hs, cmpN_self]; omega), if_pos hs.symm, List.set_eq_take_append_cons_drop, if_pos hi]
theorem put_out {s : ByteArray} {v : Int} {i : Nat} {l : List Nm} (hp : PlN s i l) (ha : AscN l) (hi : isN s i l = false) : putN (s, v) l = l.take i ++ (s, v) :: l.drop i := by
  conv => lhs; rw [← List.take_append_drop i l]
  rw [putN_app _ hp.2.1, putN_lt (pl_gt hp ha hi)]
theorem wo_in {s : ByteArray} {i : Nat} {l : List Nm} {x : Nm} (hp : PlN s i l) (ha : AscN l) (hx : l[i]? = some x) (hs : x.1 = s) : woN s l = l.take i ++ l.drop (i + 1) := by
  have hd := drop_at hx
  conv => lhs; rw [← List.take_append_drop i l, hd]
  unfold woN
  rw [List.filter_append, List.filter_cons_of_neg (by simpa using hs)]
  have hsub : AscN (x :: l.drop (i + 1)) := by rw [← hd]; exact ha.sublist (List.drop_sublist _ _)
  congr 1
  · exact woN_id (fun z hz => cmp_ne (hp.2.1 z hz))
  · exact woN_id (fun z hz e => cmp_ne ((List.pairwise_cons.1 hsub).1 z hz) (by rw [hs, e]))
theorem wo_out {s : ByteArray} {i : Nat} {l : List Nm} (hp : PlN s i l) (ha : AscN l) (hi : isN s i l = false) : woN s l = l ∧ findN s l = none := by
  have h : ∀ z ∈ l, z.1 ≠ s := by
    intro z hz
    rw [← List.take_append_drop i l] at hz
    rcases List.mem_append.1 hz with hz | hz
    · exact cmp_ne (hp.2.1 z hz)
    · exact fun e => cmp_ne (pl_gt hp ha hi z hz) e.symm
  exact ⟨woN_id h, findN_none h⟩
theorem find_in {s : ByteArray} {i : Nat} {l : List Nm} {x : Nm} (hp : PlN s i l) (hx : l[i]? = some x) (hs : x.1 = s) : findN s l = some x.2 := by
  rw [← List.take_append_drop i l, drop_at hx, findN_app, findN_none (fun z hz => cmp_ne (hp.2.1 z hz)), findN, if_pos hs]
  rfl
/-! ### what lasts -/
def lastN (l : List Nm) : List Nm := l.foldr putN []
theorem lastN_asc : ∀ l, AscN (lastN l)
  | [] => List.Pairwise.nil
  | x :: r => putN_asc x (lastN_asc r)
theorem lastN_find (s : ByteArray) : ∀ l, findN s (lastN l) = findN s l
  | [] => rfl
  | x :: r => by
    show findN s (putN x (lastN r)) = _
    rw [putN_find, lastN_find s r, findN]
theorem lastN_len : ∀ l, (lastN l).length ≤ l.length
  | [] => Nat.le_refl _
  | x :: r => by
    have := lastN_len r
    have h2 := putN_len x (lastN r)
    show (putN x (lastN r)).length ≤ _
    rw [List.length_cons]; omega
/-- without neighbours of one name -/
def cptN (r : List Nm) : Nat → List Nm
  | 0 => []
  | n + 1 => cptN r n ++ (if n ≠ 0 ∧ (r[n]?).map (·.1) = (r[n - 1]?).map (·.1) then [] else r[n]?.toList)
theorem cptN_sub (r : List Nm) : ∀ n d, d ∈ cptN r n → d ∈ r.take n
  | 0, d, h => by simp [cptN] at h
  | n + 1, d, h => by
    rw [cptN] at h
    rw [List.take_add_one]
    rcases List.mem_append.1 h with h | h
    · exact List.mem_append_left _ (cptN_sub r n d h)
    · split at h
      · cases h
      · exact List.mem_append_right _ h
theorem cptN_find (s : ByteArray) (r : List Nm) : ∀ n, findN s (cptN r n) = findN s (r.take n)
  | 0 => by simp [cptN]
  | n + 1 => by
    rw [cptN, List.take_add_one, findN_app, findN_app, cptN_find s r n]
    split
    · rename_i h
      obtain ⟨h0, h⟩ := h
      cases hn : r[n]? with
      | none => rfl
      | some x =>
        rw [hn] at h
        cases hp : r[n - 1]? with
        | none => rw [hp] at h; cases h
        | some y =>
          rw [hp] at h
          simp at h
          rw [Option.toList_some]
          by_cases hs : x.1 = s
          · cases hf : findN s (r.take n) with
            | some v => rfl
            | none =>
              exfalso
              have : r.take n = r.take (n - 1) ++ [y] := by
                conv => lhs; rw [show n = (n - 1) + 1 by omega, List.take_add_one, hp]
                rfl
              rw [this, findN_app, findN, if_pos (by rw [← h]; exact hs)] at hf
              cases h5 : findN s (r.take (n - 1)) <;> rw [h5] at hf <;> cases hf
          · have : findN s [x] = none := by rw [findN, if_neg hs]; rfl
            rw [this]; rfl
    · rfl
theorem cptN_asc {r : List Nm} (h : r.Pairwise (fun a b => cmpM a b ≤ 0)) : ∀ n, n ≤ r.length → AscN (cptN r n)
  | 0, _ => List.Pairwise.nil
  | n + 1, hn => by
    have ih := cptN_asc h n (by omega)
    rw [cptN]
    by_cases hc : n ≠ 0 ∧ (r[n]?).map (·.1) = (r[n - 1]?).map (·.1)
    · rw [if_pos hc, List.append_nil]; exact ih
    · rw [if_neg hc, List.getElem?_eq_getElem (by omega)]
      refine List.pairwise_append.2 ⟨ih, by simp, fun a ha b hb => ?_⟩
      simp at hb
      subst hb
      have ha' := cptN_sub r n a ha
      obtain ⟨i, hi, hai⟩ := List.mem_iff_getElem.1 ha'
      rw [List.length_take] at hi
      rw [List.getElem_take] at hai
      have hn0 : n ≠ 0 := by omega
      have hprev : (r[n - 1]'(by omega)).1 ≠ (r[n]'(by omega)).1 := by
        intro he
        apply hc
        refine ⟨hn0, ?_⟩
        rw [List.getElem?_eq_getElem (by omega), List.getElem?_eq_getElem (by omega), Option.map_some, Option.map_some, he]
      have hp := List.pairwise_iff_getElem.1 h
      have h2 := hp (n - 1) n (by omega) (by omega) (by omega)
      have h2' : cmpN (r[n - 1]'(by omega)).1 (r[n]'(by omega)).1 < 0 := by
        have h3 : cmpN (r[n - 1]'(by omega)).1 (r[n]'(by omega)).1 ≤ 0 := h2
        have h4 : cmpN (r[n - 1]'(by omega)).1 (r[n]'(by omega)).1 ≠ 0 := fun e => hprev ((cmpN_zero _ _).1 e)
        omega
      subst hai
      by_cases hin : i = n - 1
      · subst hin; exact h2'
      · have h3 : cmpM (r[i]'(by omega)) (r[n - 1]'(by omega)) ≤ 0 := hp i (n - 1) (by omega) (by omega) (by omega)
        exact cmpM_ord.le_lt (b := r[n - 1]'(by omega)) h3 h2'
theorem ins_find (s : ByteArray) (x : Nm) : ∀ {a : List Nm}, a.Pairwise (fun a b => cmpM a b ≤ 0) → findN s (ins cmpM x a) = (findN s a).or (if x.1 = s then some x.2 else none)
  | [], _ => by simp [ins, findN]
  | y :: r, h => by
    have c := List.pairwise_cons.1 h
    rw [ins]
    split
    · rename_i h1
      rw [findN]
      by_cases hs : x.1 = s
      · rw [if_pos hs, if_pos hs, findN_none (l := y :: r)]
        · rfl
        · intro z hz
          have hxz : cmpM x z < 0 := by
            rcases List.mem_cons.1 hz with rfl | hz
            · exact h1
            · exact cmpM_ord.lt_le h1 (c.1 z hz)
          rw [← hs]
          exact fun e => cmp_ne (a := x.1) (b := z.1) hxz e.symm
      · rw [if_neg hs, if_neg hs]; simp
    · rw [findN, ins_find s x c.2, findN]
      split <;> simp
theorem stab_weak (l : List Nm) : (stab cmpM l).Pairwise (fun a b => cmpM a b ≤ 0) := by
  obtain ⟨m, h1, h2, h3⟩ := stab_spec cmpM_ord l
  rw [← h3, List.pairwise_map]
  exact h1.imp (fun h => by rcases h with h | h <;> omega)
theorem stab_find (s : ByteArray) (l : List Nm) : findN s (stab cmpM l) = findN s l :=
  snoc_ind (P := fun l => findN s (stab cmpM l) = findN s l) rfl (fun l x ih => by rw [stab_snoc, ins_find s x (stab_weak l), ih, findN_app]; rfl) l
theorem last_eq (l : List Nm) : cptN (stab cmpM l) l.length = lastN l := by
  refine ascN_ext (cptN_asc (stab_weak l) _ (by rw [stab_len]; exact Nat.le_refl _)) (lastN_asc l) (fun s => ?_)
  rw [cptN_find, List.take_of_length_le (by rw [stab_len]; exact Nat.le_refl _), stab_find, lastN_find]
/-! ### changes -/
structure Ch where
  k : Int
  nm : ByteArray
  to : ByteArray
  id : Int
def encC (c : Ch) : List Value := [.int .i64 c.k, .string c.nm, .string c.to, .int .i64 c.id]
theorem encC_o : EncO Ch encC 4 := ⟨fun _ => rfl, fun x v hv => by simp [encC] at hv; rcases hv with rfl | rfl | rfl | rfl <;> rfl⟩
def stepN (l : List Nm) (c : Ch) : List Nm :=
  if c.k = 1 then putN (c.nm, c.id) l
  else if c.k = 2 then (match findN c.nm l with | some id => putN (c.to, id) (woN c.nm l) | none => l)
  else if c.k = 3 then woN c.nm l else l
theorem stepN_asc (c : Ch) {l : List Nm} (h : AscN l) : AscN (stepN l c) := by
  unfold stepN
  split
  · exact putN_asc _ h
  · split
    · split
      · exact putN_asc _ (woN_asc _ h)
      · exact h
    · split
      · exact woN_asc _ h
      · exact h
theorem stepN_len (c : Ch) (l : List Nm) : (stepN l c).length ≤ l.length + 1 := by
  unfold stepN
  split
  · exact putN_len _ _
  · split
    · split
      · have := putN_len (c.to, ‹Int›) (woN c.nm l)
        have := woN_len c.nm l
        omega
      · omega
    · split
      · have := woN_len c.nm l; omega
      · omega
def behN (L : List Nm) (P : List Ch) : List Nm := P.foldl stepN (lastN L)
theorem behN_snoc (L : List Nm) (P : List Ch) (c : Ch) : behN L (P ++ [c]) = stepN (behN L P) c := by unfold behN; rw [List.foldl_append]; rfl
theorem behN_step {L : List Nm} {P : List Ch} {i : Nat} {c : Ch} (h : P[i]? = some c) : behN L (P.take (i + 1)) = stepN (behN L (P.take i)) c := by
  rw [List.take_add_one, h, Option.toList_some, behN_snoc]
theorem behN_asc (L : List Nm) (P : List Ch) : AscN (behN L P) := snoc_ind (P := fun P => AscN (behN L P)) (lastN_asc L) (fun l x ih => by rw [behN_snoc]; exact stepN_asc _ ih) P
theorem behN_len (L : List Nm) (P : List Ch) : (behN L P).length ≤ L.length + P.length := snoc_ind (P := fun P => (behN L P).length ≤ L.length + P.length) (lastN_len L) (fun l x ih => by
  have := stepN_len x (behN L l)
  rw [behN_snoc, List.length_append, List.length_singleton]; omega) P
end Go.Proofs.YtfdhaeglhkmmpaaGreat
/- folders (chapter 11): names read; the place of a name; CompactFunc; what lasts -/
namespace Go.Proofs.YtfdhaeglhkmmpaaGreat
open Go.GV Go.RowKit Go.Lib Go.Stb
set_option linter.unusedVariables false
set_option linter.unusedSimpArgs false
def NRow (w : World) (B : Nat) (A : Option Addr) (n c : Nat) (l : List Nm) : Prop := Row w B 94 2 A n c (flt encN l) ∧ l.length = n
def NSl (w : World) (A : Option Addr) (n : Nat) (l : List Nm) : Prop := Sl w 2 A n (flt encN l) ∧ l.length = n
theorem NRow.sl {w : World} {B : Nat} {A : Option Addr} {n c : Nat} {l : List Nm} (h : NRow w B A n c l) : NSl w A n l := ⟨h.1.sl, h.2⟩
theorem NRow.fr0 {w w' : World} {B : Nat} {A : Option Addr} {n c : Nat} {l : List Nm} (h : NRow w B A n c l) (f : Fr (fun _ => False) w w') : NRow w' B A n c l := ⟨f.row h.1 (fun _ _ h => h), h.2⟩
theorem NSl.fr0 {w w' : World} {A : Option Addr} {n : Nat} {l : List Nm} (h : NSl w A n l) (f : Fr (fun _ => False) w w') : NSl w' A n l := ⟨f.sl h.1 (fun _ _ _ h => h), h.2⟩
theorem n_rd {w : World} {A : Option Addr} {n : Nat} {l : List Nm} (h : NSl w A n l) {i : Nat} {x : Nm} (hi : l[i]? = some x) {ii : Int} (hii : ii = (i : Int)) {K : List Value → Prop} (hK : K (encN x)) :
    dr A fun b o => gd (decide (0 ≤ ii)) (gd (decide (ii < ((n : Nat) : Int))) (ldA 2 w b (o + ii.toNat * 2) K)) :=
  el_rd h.1 (fun x _ => rfl) hi hii h.2 (fun b o hA hc => ⟨encN x, rfl, hc, hK⟩)
theorem n_rdS {w : World} {A : Option Addr} {n : Nat} {l : List Nm} (h : NSl w A n l) {i : Nat} {x : Nm} (hi : l[i]? = some x) {ii : Int} (hii : ii = (i : Int)) {K : ByteArray → Prop} (hK : K x.1) :
    dr A fun b o => gd (decide (0 ≤ ii)) (gd (decide (ii < ((n : Nat) : Int))) (ldS w b (o + ii.toNat * 2) K)) :=
  el_rd h.1 (fun x _ => rfl) hi hii h.2 (fun b o hA hc => ⟨x.1, hc 0 _ rfl, hK⟩)
theorem n_rdI {w : World} {A : Option Addr} {n : Nat} {l : List Nm} (h : NSl w A n l) {i : Nat} {x : Nm} (hi : l[i]? = some x) {ii : Int} (hii : ii = (i : Int)) {K : Int → Prop} (hK : K x.2) :
    dr A fun b o => gd (decide (0 ≤ ii)) (gd (decide (ii < ((n : Nat) : Int))) (ldI .i64 w b ((o + ii.toNat * 2) + 1) K)) :=
  el_rd h.1 (fun x _ => rfl) hi hii h.2 (fun b o hA hc => ⟨x.2, hc 1 _ rfl, hK⟩)
theorem byName_calls (x : Nm) (s : ByteArray) (w : World) :
    Calls Tryz.prog 79 #[ofL (encN x), .string s] w fun e w' => e = .returned (.int .i64 (cmpN x.1 s)) ∧ Fr (fun _ => False) w w' := by
  refine (F79.of _ s w (Q := fun v w' => v = .int .i64 (cmpN x.1 s) ∧ Fr (fun _ => False) w w') ?_).mono (fun e w' ⟨v, he, hv, h⟩ => ⟨by rw [he, hv], h⟩)
  refine nw_mk ?_
  have f1 : Fr (fun _ => False) w (w.alloc (.cells (encN x).toArray 94)) := Fr.alloc _ _ _
  have r1 := RecAt.new w (encN x) 94
  generalize w.alloc (.cells (encN x).toArray 94) = w1 at f1 r1 ⊢
  refine ⟨x.1, r1.cell rfl, (strcmp_calls x.1 s w1).mono ?_⟩
  rintro r w2 ⟨rfl, rfl⟩
  exact ⟨_, rfl, rfl, f1⟩
theorem two_new (x y : Nm) (w : World) {K : Nat → Nat → World → Prop} (hK : ∀ b1 b2 w', Fr (fun _ => False) w w' → RecAt w' b1 94 (encN x) → RecAt w' b2 94 (encN y) → K b1 b2 w') : nw w (encN x) 94 fun b1 w1 => nw w1 (encN y) 94 fun b2 w2 => K b1 b2 w2 := by
  refine nw_mk (nw_mk ?_)
  have f1 : Fr (fun _ => False) w (w.alloc (.cells (encN x).toArray 94)) := Fr.alloc _ _ _
  have r1 := RecAt.new w (encN x) 94
  generalize w.alloc (.cells (encN x).toArray 94) = w1 at f1 r1 ⊢
  have f2 : Fr (fun _ => False) w1 (w1.alloc (.cells (encN y).toArray 94)) := Fr.alloc _ _ _
  exact hK _ _ _ (f1.trans1 f2) (r1.fr f2 (fun h => h)) (RecAt.new w1 (encN y) 94)
theorem lcmp_calls (x y : Nm) (w : World) :
    Calls Tryz.prog 114 #[ofL (encN x), ofL (encN y)] w fun e w' => e = .returned (.int .i64 (cmpM x y)) ∧ Fr (fun _ => False) w w' := by
  refine (F114.of _ _ w (Q := fun v w' => v = .int .i64 (cmpM x y) ∧ Fr (fun _ => False) w w') ?_).mono (fun e w' ⟨v, he, hv, h⟩ => ⟨by rw [he, hv], h⟩)
  refine two_new x y w (fun b1 b2 w1 f r1 r2 => ⟨x.1, r1.cell rfl, y.1, r2.cell rfl, (strcmp_calls x.1 y.1 w1).mono ?_⟩)
  rintro r w2 ⟨rfl, rfl⟩
  exact ⟨_, rfl, rfl, f⟩
theorem leq_calls (x y : Nm) (w : World) :
    Calls Tryz.prog 116 #[ofL (encN x), ofL (encN y)] w fun e w' => e = .returned (.bool (decide (x.1 = y.1))) ∧ Fr (fun _ => False) w w' := by
  refine (F116.of _ _ w (Q := fun v w' => v = .bool (decide (x.1 = y.1)) ∧ Fr (fun _ => False) w w') ?_).mono (fun e w' ⟨v, he, hv, h⟩ => ⟨by rw [he, hv], h⟩)
  refine two_new x y w (fun b1 b2 w1 f r1 r2 => ⟨x.1, r1.cell rfl, y.1, r2.cell rfl, ?_, f⟩)
  rw [neq]
theorem lsrt : StbNm.Srt Nm encN cmpM := ⟨fun _ => rfl, encN_o.one, cmpM_ord, lcmp_calls⟩
theorem mem_take_lt {α : Type} {l : List α} {i : Nat} {x : α} (h : x ∈ l.take i) : ∃ j, j < i ∧ l[j]? = some x := by
  obtain ⟨j, hj⟩ := List.mem_iff_getElem?.1 h
  rw [List.getElem?_take] at hj
  split at hj
  · exact ⟨j, by assumption, hj⟩
  · cases hj
theorem mem_drop_ge {α : Type} {l : List α} {i : Nat} {x : α} (h : x ∈ l.drop i) : ∃ j, i ≤ j ∧ l[j]? = some x := by
  obtain ⟨j, hj⟩ := List.mem_iff_getElem?.1 h
  rw [List.getElem?_drop] at hj
  exact ⟨i + j, by omega, hj⟩
theorem asc_lt {l : List Nm} (h : AscN l) {i j : Nat} {x y : Nm} (hi : l[i]? = some x) (hj : l[j]? = some y) (hij : i < j) : cmpN x.1 y.1 < 0 := by
  obtain ⟨h1, rfl⟩ := List.getElem?_eq_some_iff.1 hi
  obtain ⟨h2, rfl⟩ := List.getElem?_eq_some_iff.1 hj
  exact (List.pairwise_iff_getElem.1 h) i j h1 h2 hij
/-! ### where a name lies -/
theorem bsN_calls (A : Option Addr) (n c : Nat) (l : List Nm) (nm : ByteArray) (w : World) (h : NSl w A n l) (ha : AscN l) (hn : n ≤ 17179869184) :
    Calls Tryz.prog 78 #[.slice A n c, .string nm, .func (.func 79) #[] #[]] w fun e w' => Fr (fun _ => False) w w' ∧ ∃ i : Nat, e = .returned (.tuple #[.int .i64 i, .bool (isN nm i l)]) ∧ PlN nm i l := by
  refine (F78s.of A n c nm w (Q := fun v w' => Fr (fun _ => False) w w' ∧ ∃ i : Nat, v = .tuple #[.int .i64 i, .bool (isN nm i l)] ∧ PlN nm i l) ?_).mono (fun e w' ⟨v, he, hf, i, hv, h⟩ => ⟨hf, i, by rw [he, hv], h⟩)
  have hl := h.2
  refine jnC_mk (loop_rule (fun s u => Fr (fun _ => False) w u ∧ ∃ i j : Nat, i ≤ j ∧ j ≤ n ∧ s = ((A, n, c), nm, (), (n : Int), (i : Int), (j : Int), ()) ∧ (∀ x ∈ l.take i, cmpN x.1 nm < 0) ∧ ∀ x ∈ l.drop j, ¬ cmpN x.1 nm < 0)
    (fun s _ => (s.2.2.2.2.2.1 - s.2.2.2.2.1).toNat) ?_ _ _ ⟨Fr.refl _ _, 0, n, by omega, by omega, rfl, by simp, by rw [List.drop_of_length_le (by omega)]; intro x hx; cases hx⟩)
  rintro s u C ⟨hf, i, j, hij, hjn, rfl, hlo, hhi⟩ hC _
  refine vIf_mk (fun hlt => ?_) (fun hge => ?_)
  · have hlt2 : (i : Int) < (j : Int) := of_decide_eq_true hlt
    have em : IntKind.wrap .i64 (Int.fdiv (IntKind.wrap .u64 (IntKind.wrap .i64 ((i : Int) + (j : Int)))) (2 ^ 1)) = (((i + j) / 2 : Nat) : Int) := by
      rw [i64_id (n := (i : Int) + (j : Int)) (by omega) (by omega), IntKind.wrap_u64, Int.fdiv_eq_ediv_of_nonneg _ (by decide), i64_id (by omega) (by omega)]; omega
    have gi : l[(i + j) / 2]? = some (l[(i + j) / 2]'(by omega)) := List.getElem?_eq_getElem (by omega)
    generalize l[(i + j) / 2]'(by omega) = x at gi
    dsimp only
    rw [em]
    refine n_rd (h.fr0 hf) gi rfl ((byName_calls x nm u).mono ?_)
    rintro r u2 ⟨rfl, f2⟩
    refine ⟨_, rfl, vIf_mk (fun h1 => jnC_mk (hC _ _ ⟨hf.trans1 f2, (i + j) / 2 + 1, j, by omega, hjn, by rw [ei _ (by omega)], fun y hy => ?_, hhi⟩ ?_)) (fun h1 => jnC_mk (hC _ _ ⟨hf.trans1 f2, i, (i + j) / 2, by omega, by omega, rfl, hlo, fun y hy => ?_⟩ ?_))⟩
    · have h1 := of_decide_eq_true h1
      obtain ⟨q, hq, hy⟩ := mem_take_lt hy
      by_cases hqm : q = (i + j) / 2
      · rw [hqm] at hy; rw [gi] at hy; injection hy with hy; subst hy; exact h1
      · exact cmpN_trans (asc_lt ha hy gi (by omega)) h1
    · show ((j : Int) - IntKind.wrap .i64 ((((i + j) / 2 : Nat) : Int) + 1)).toNat < ((j : Int) - (i : Int)).toNat
      rw [ei _ (by omega)]; omega
    · have h1 := of_decide_eq_false h1
      obtain ⟨q, hq, hy⟩ := mem_drop_ge hy
      by_cases hqm : q = (i + j) / 2
      · rw [hqm] at hy; rw [gi] at hy; injection hy with hy; subst hy; exact h1
      · intro h2
        exact h1 (cmpN_trans (asc_lt ha gi hy (by omega)) h2)
    · show ((((i + j) / 2 : Nat) : Int) - (i : Int)).toNat < ((j : Int) - (i : Int)).toNat
      omega
  · have hge2 : ¬ (i : Int) < (j : Int) := of_decide_eq_false hge
    have hij2 : i = j := by omega
    subst hij2
    have hpl : PlN nm i l := ⟨by omega, hlo, hhi⟩
    refine vIf_mk (fun h1 => ?_) (fun h1 => ?_)
    · have h1 : (i : Int) < (n : Int) := of_decide_eq_true h1
      have gi : l[i]? = some (l[i]'(by omega)) := List.getElem?_eq_getElem (by omega)
      generalize l[i]'(by omega) = x at gi
      refine n_rd (h.fr0 hf) gi rfl ((byName_calls x nm u).mono ?_)
      rintro r u2 ⟨rfl, f2⟩
      refine ⟨_, rfl, hf.trans1 f2, i, ?_, hpl⟩
      have : isN nm i l = (cmpN x.1 nm == 0) := by
        unfold isN
        rw [gi, Bool.eq_iff_iff, decide_eq_true_iff, beq_iff_eq]
        exact (cmpN_zero _ _).symm
      rw [this]
    · have h1 : ¬ (i : Int) < (n : Int) := of_decide_eq_false h1
      refine ⟨hf, i, ?_, hpl⟩
      have : isN nm i l = false := by
        unfold isN
        rw [List.getElem?_eq_none (by omega)]
      rw [this]
/-! ### CompactFunc -/
theorem row_clearN {w : World} {B : Nat} {b n c k : Nat} {P : List Nm} {K : World → Prop} (hr : NRow w B (some ⟨b, 0, none⟩) n c P) (hk : k < n)
    (hK : ∀ w', NRow w' B (some ⟨b, 0, none⟩) k c (P.take k) → Fr (fun j => j = b) w w' → K w') : dr (slA (some (⟨b, 0, none⟩ : Addr)) c k 2) fun b o => st w b o (zeros (n - k) [.string (⟨#[]⟩ : ByteArray), .int .i64 0]) K := by
  have hle := hr.1.le
  have hPl := hr.2
  have hzl : (zeros (n - k) [Value.string (⟨#[]⟩ : ByteArray), .int .i64 0]).length = (n - k) * 2 := by rw [zeros_length]; rfl
  have hpt := row_putG (o' := k * 2) (us := zeros (n - k) [Value.string (⟨#[]⟩ : ByteArray), .int .i64 0]) (K := K) hr.1 (by omega) (by rw [hzl]; omega) (zeros_one (by simp; exact ⟨rfl, rfl⟩)) (fun w6 hr6 f6 => hK w6 ⟨?_, by rw [List.length_take]; omega⟩ (f6.mono (fun j _ hj => by simpa [blkOf] using hj.symm)))
  · rw [slS (by omega), ← Nat.zero_add (k * 2)]
    exact hpt
  · have h7 := row_cutG hr6 (k := k) (by omega)
    have e : (splice (flt encN P) (k * 2) (zeros (n - k) [Value.string (⟨#[]⟩ : ByteArray), .int .i64 0])).take (k * 2) = flt encN (P.take k) := by
      rw [← encN_o.ft P (by omega)]
      unfold splice
      rw [List.append_assoc, List.take_append_of_le_length (by rw [List.length_take, encN_o.fl]; omega), List.take_take, Nat.min_self]
    rw [e] at h7
    exact h7
set_option maxHeartbeats 1000000 in
theorem compactN_calls (B : Nat) (A : Option Addr) (c : Nat) (r : List Nm) (n : Nat) (w : World) (h : NRow w B A n c r) (hn : n ≤ 1099511627775) :
    Calls Tryz.prog 115 #[.slice A n c, .func (.func 116) #[] #[]] w fun e' w' => e' = .returned (.slice A (cptN r n).length c) ∧ Fr (fun k => blkOf A = some k) w w' ∧ NRow w' B A (cptN r n).length c (cptN r n) := by
  refine (F115s.of A n c w (Q := fun v w' => v = .slice A (cptN r n).length c ∧ Fr (fun k => blkOf A = some k) w w' ∧ NRow w' B A (cptN r n).length c (cptN r n)) ?_).mono (fun e w' ⟨v, he, hv, h⟩ => ⟨by rw [he, hv], h⟩)
  have hrl := h.2
  have whole : ∀ i, i ≤ n → cptN r i = r.take i → i = n → ∀ u, Fr (fun k => blkOf A = some k) w u → NRow u B A n c r → (Value.slice A n c = .slice A (cptN r n).length c ∧ Fr (fun k => blkOf A = some k) w u ∧ NRow u B A (cptN r n).length c (cptN r n)) := by
    intro i hi hc he u hf hr
    subst he
    rw [hc, List.take_of_length_le (by omega), hrl]
    exact ⟨rfl, hf, hr⟩
  have one : 1 ≤ n → cptN r 1 = r.take 1 := fun _ => by simp [cptN, List.take_one, List.head?_eq_getElem?]
  refine vIf_mk (fun h2 => ?_) (fun h2 => jnC_mk ?_)
  · have h2 : (n : Int) < 2 := of_decide_eq_true h2
    refine whole n (Nat.le_refl _) ?_ rfl w (Fr.refl _ _) h
    match n, h2, one with
    | 0, _, _ => rfl
    | 1, _, one => exact one (Nat.le_refl _)
    | n + 2, h2, _ => omega
  have h2 : ¬ (n : Int) < 2 := of_decide_eq_false h2
  have hle := h.1.le
  obtain ⟨b, hA⟩ : ∃ b, A = some ⟨b, 0, none⟩ := by
    rcases h.1.at_ with ⟨_, h0, _⟩ | ⟨b, _, hA, _⟩
    · omega
    · exact ⟨b, hA⟩
  subst hA
  refine loop_rule (fun s u => Fr (fun k => blkOf (some (⟨b, 0, none⟩ : Addr)) = some k) w u ∧ NRow u B (some ⟨b, 0, none⟩) n c r ∧ ∃ i : Nat, 1 ≤ i ∧ i ≤ n ∧ s = ((some ⟨b, 0, none⟩, n, c), (), (i : Int), ()) ∧ cptN r i = r.take i)
    (fun s _ => (n - s.2.2.1).toNat) ?_ _ _ ⟨Fr.refl _ _, h, 1, by omega, by omega, rfl, one (by omega)⟩
  rintro s u C4 ⟨hf, hr, i, hi1, hi, rfl, hc⟩ hC4 _
  refine vIf_mk (fun hlt => ?_) (fun hge => ?_)
  · have hlt2 : (i : Int) < (n : Int) := of_decide_eq_true hlt
    have hrd := hr.fr0 (Fr.drew (fun _ => False) u)
    have ei1 : IntKind.wrap .i64 ((i : Int) - 1) = ((i - 1 : Nat) : Int) := by rw [i64_id (by omega) (by omega)]; omega
    have gi : r[i]? = some (r[i]'(by omega)) := List.getElem?_eq_getElem (by omega)
    have gp : r[i - 1]? = some (r[i - 1]'(by omega)) := List.getElem?_eq_getElem (by omega)
    generalize r[i]'(by omega) = x at gi
    generalize r[i - 1]'(by omega) = y at gp
    dsimp only
    rw [ei1]
    refine n_rd hrd.sl gi rfl (n_rd hrd.sl gp rfl ((leq_calls x y u.drew).mono ?_))
    rintro e1 u1 ⟨rfl, f1⟩
    have hr1 := hrd.fr0 f1
    have hf1 : Fr (fun k => blkOf (some (⟨b, 0, none⟩ : Addr)) = some k) w u1 := (hf.trans1 (Fr.drew _ _)).trans1 (f1.mono (fun _ _ h => h.elim))
    refine ⟨_, rfl, vIf_mk (fun he => ?_) (fun hne => ?_)⟩
    · have he : x.1 = y.1 := of_decide_eq_true he
      have hsame : cptN r (i + 1) = r.take i := by
        rw [cptN, if_pos ⟨by omega, by rw [gi, gp, Option.map_some, Option.map_some, he]⟩, List.append_nil, hc]
      refine gd_mk (decide_eq_true (by omega)) (gd_mk (decide_eq_true (by omega)) (jnC_mk ?_))
      rw [Int.toNat_natCast]
      have hsl : slA (some (⟨b, 0, none⟩ : Addr)) c i 2 = some ⟨b, i * 2, none⟩ := slS (by omega)
      rw [hsl]
      refine loop_rule (fun s u => Fr (fun k => blkOf (some (⟨b, 0, none⟩ : Addr)) = some k) w u ∧ ∃ (j : Nat) (P : List Nm), 1 ≤ j ∧ i + j ≤ n ∧ P.length = n ∧ NRow u B (some ⟨b, 0, none⟩) n c P ∧ (cptN r (i + j)).length < i + j ∧ P.take (cptN r (i + j)).length = cptN r (i + j) ∧ P.drop (cptN r (i + j)).length = r.drop (cptN r (i + j)).length ∧
          s = ((some ⟨b, 0, none⟩, n, c), (), (((cptN r (i + j)).length : Nat) : Int), (some ⟨b, i * 2, none⟩, n - i, c - i), (j : Int), ()))
        (fun s _ => (n - s.2.2.2.2.1).toNat) ?_ _ _ ⟨hf1, 1, r, by omega, by omega, hrl, hr1, ?_, ?_, ?_, ?_⟩
      rotate_left
      · rw [hsame, List.length_take]; omega
      · rw [hsame, List.length_take, Nat.min_eq_left (by omega)]
      · rfl
      · rw [hsame, List.length_take, Nat.min_eq_left (by omega)]; rfl
      clear hC4 hf hr hrd hr1 hf1 f1 gi gp he hlt hlt2 ei1
      rintro s u C9 ⟨hf, j, P, hj1, hjn, hPl, hr, hk, htk, hdp, rfl⟩ hC9 _
      generalize hkk : (cptN r (i + j)).length = k at hk htk hdp
      have hrd := hr.fr0 (Fr.drew (fun _ => False) u)
      have hget : ∀ q, k ≤ q → P[q]? = r[q]? := by
        intro q hq
        have h1 : (P.drop k)[q - k]? = (r.drop k)[q - k]? := by rw [hdp]
        rw [List.getElem?_drop, List.getElem?_drop, show k + (q - k) = q by omega] at h1
        exact h1
      have tail : ∀ v, NRow v B (some ⟨b, 0, none⟩) n c P → NSl v (some (⟨b, i * 2, none⟩ : Addr)) (n - i) (P.drop i) := by
        intro v hv
        have := hv.1.tailS (k := i) (by omega)
        rw [hsl, encN_o.fd P (by omega)] at this
        exact ⟨this, by rw [List.length_drop]; omega⟩
      refine vIf_mk (fun hlt => ?_) (fun hge => ?_)
      · have hlt3 : (j : Int) < ((n - i : Nat) : Int) := of_decide_eq_true hlt
        have ej : IntKind.wrap .i64 ((j : Int) - 1) = ((j - 1 : Nat) : Int) := by rw [i64_id (by omega) (by omega)]; omega
        have gi : r[i + j]? = some (r[i + j]'(by omega)) := List.getElem?_eq_getElem (by omega)
        have gp : r[i + j - 1]? = some (r[i + j - 1]'(by omega)) := List.getElem?_eq_getElem (by omega)
        generalize r[i + j]'(by omega) = x at gi
        generalize r[i + j - 1]'(by omega) = y at gp
        have ti : (P.drop i)[j]? = some x := by rw [List.getElem?_drop, hget _ (by omega), gi]
        have tp : (P.drop i)[j - 1]? = some y := by rw [List.getElem?_drop, show i + (j - 1) = i + j - 1 by omega, hget _ (by omega), gp]
        dsimp only
        rw [ej]
        refine n_rd (tail _ hrd) ti rfl (n_rd (tail _ hrd) tp rfl ((leq_calls x y u.drew).mono ?_))
        rintro e1 u1 ⟨rfl, f1⟩
        have hr1 := hrd.fr0 f1
        have hf1 : Fr (fun k => blkOf (some (⟨b, 0, none⟩ : Addr)) = some k) w u1 := (hf.trans1 (Fr.drew _ _)).trans1 (f1.mono (fun _ _ h => h.elim))
        have enext : IntKind.wrap .i64 ((j : Int) + 1) = ((j + 1 : Nat) : Int) := by rw [i64_id (by omega) (by omega)]; rfl
        have hmeas : ((n : Int) - IntKind.wrap .i64 ((j : Int) + 1)).toNat < ((n : Int) - (j : Int)).toNat := by rw [enext]; omega
        refine ⟨_, rfl, vIf_mk (fun hne => ?_) (fun he => ?_)⟩
        · have hne2 : ¬ x.1 = y.1 := by simpa using hne
          have hnx : cptN r (i + (j + 1)) = cptN r (i + j) ++ [x] := by
            rw [← Nat.add_assoc, cptN, if_neg, gi, Option.toList_some]
            rintro ⟨_, h'⟩
            rw [gi, gp] at h'
            exact hne2 (Option.some.inj h')
          refine n_rd (tail _ hr1) ti rfl ?_
          refine el_put (enc := encN) hr1.1 (fun _ _ => rfl) hr1.2 (i := k) (by omega) rfl (y := x) rfl (encN_o.one x) (fun u2 hr2 f2 => jnC_mk (hC9 _ _ ⟨hf1.trans1 f2, j + 1, P.set k x, by omega, by omega, by simpa using hPl, ⟨hr2, by simpa using hPl⟩, ?_, ?_, ?_, ?_⟩ hmeas))
          · rw [hnx, List.length_append, hkk]; simp; omega
          · rw [hnx, List.length_append, hkk]
            show (P.set k _).take (k + 1) = _
            rw [List.take_add_one, List.getElem?_set_self (by omega), Option.toList_some, List.take_set_of_le (Nat.le_refl k), htk]
          · rw [hnx, List.length_append, hkk]
            show (P.set k _).drop (k + 1) = r.drop (k + 1)
            rw [List.drop_set_of_lt (by omega)]
            have h3 := congrArg (List.drop 1) hdp
            rw [List.drop_drop, List.drop_drop] at h3
            exact h3
          · rw [hnx, List.length_append, hkk, enext]
            show (_, _, IntKind.wrap .i64 ((k : Int) + 1), _, _, ()) = _
            rw [i64_id (by omega) (by omega)]; rfl
        · have he2 : x.1 = y.1 := by simpa using he
          have hnx : cptN r (i + (j + 1)) = cptN r (i + j) := by
            rw [← Nat.add_assoc, cptN, if_pos ⟨by omega, by rw [gi, gp, Option.map_some, Option.map_some, he2]⟩, List.append_nil]
          exact jnC_mk (hC9 _ _ ⟨hf1, j + 1, P, by omega, by omega, hPl, hr1, by rw [hnx, hkk]; omega, by rw [hnx, hkk]; exact htk, by rw [hnx, hkk]; exact hdp, by rw [hnx, hkk, enext]⟩ hmeas)
      · have hge3 : ¬ (j : Int) < ((n - i : Nat) : Int) := of_decide_eq_false hge
        have hij : i + j = n := by omega
        rw [hij] at hkk htk
        dsimp only
        simp only [Int.toNat_natCast]
        refine gd_mk (decide_eq_true (by omega)) (gd_mk (decide_eq_true (by omega)) (vIf_f (by simp; omega) ?_))
        refine row_clearN hr (by omega) (fun u2 hr2 f2 => jnC_mk (fun _ => ?_))
        refine gd_mk (decide_eq_true (by show (0 : Int) ≤ (k : Int); omega)) (gd_mk (decide_eq_true (by show (k : Int) ≤ (c : Int); omega)) ⟨?_, hf.trans1 (f2.mono (fun q _ hq => by subst hq; rfl)), ?_⟩)
        · show Value.slice (slA (some ⟨b, 0, none⟩) c 0 2) ((k : Int).toNat) c = _
          rw [Int.toNat_natCast, hkk, sl0]
        · rw [hkk]
          rw [htk] at hr2
          exact hr2
    · have hne2 : ¬ x.1 = y.1 := of_decide_eq_false hne
      refine jnC_mk (hC4 _ _ ⟨hf1, hr1, i + 1, by omega, by omega, ?_, ?_⟩ ?_)
      · show (_, _, IntKind.wrap .i64 ((i : Int) + 1), ()) = _
        rw [i64_id (by omega) (by omega)]; rfl
      · rw [cptN, if_neg, hc, List.take_add_one]
        rintro ⟨_, h'⟩
        rw [gi, gp] at h'
        exact hne2 (Option.some.inj h')
      · show ((n : Int) - IntKind.wrap .i64 ((i : Int) + 1)).toNat < ((n : Int) - (i : Int)).toNat
        rw [i64_id (by omega) (by omega)]; omega
  · have hge2 : ¬ (i : Int) < (n : Int) := of_decide_eq_false hge
    exact whole i hi hc (by omega) u hf hr
end Go.Proofs.YtfdhaeglhkmmpaaGreat
