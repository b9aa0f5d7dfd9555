/- PRINTED BY MY OWN gen.py out of the translation: each function as a proposition. -/
import Derived.Test.YtegihbpdemjeaaaDoorProg
import Derived.Test.YtegihbpdemjeaaaDoorG7
namespace Go.Proofs.YtegihbpdemjeaaaDoor
open Go.GV
set_option linter.unusedVariables false
set_option maxRecDepth 100000
theorem noCount : NoCount Tryd.prog := noCount_of (by kernel_rfl)
theorem mixed : Tryd.prog.follows .mixedOrders = true := by kernel_rfl
def Z48 : List Value := [Value.bool false, Value.bool false, Value.bool false, Value.bool false, Value.bool false, Value.bool false, Value.bool false, Value.bool false, Value.bool false, Value.bool false, Value.bool false, Value.bool false, Value.bool false, Value.bool false, Value.bool false, Value.bool false, Value.bool false, Value.bool false, Value.bool false, Value.bool false, Value.bool false, Value.bool false, Value.bool false, Value.bool false, Value.bool false, Value.bool false, Value.bool false, Value.bool false, Value.bool false, Value.bool false, Value.bool false, Value.bool false, Value.bool false, Value.bool false, Value.bool false, Value.bool false, Value.bool false, Value.bool false, Value.bool false, Value.bool false, Value.bool false, Value.bool false, Value.bool false, Value.bool false, Value.bool false, Value.bool false, Value.bool false, Value.bool false, Value.bool false, Value.bool false, Value.bool false, Value.bool false, Value.bool false, Value.bool false, Value.bool false, Value.bool false, Value.bool false, Value.bool false, Value.bool false, Value.bool false, Value.bool false, Value.bool false, Value.bool false, Value.bool false, Value.bool false, Value.bool false, Value.bool false, Value.bool false, Value.bool false, Value.bool false, Value.bool false, Value.bool false, Value.bool false, Value.bool false, Value.bool false, Value.bool false, Value.bool false, Value.bool false, Value.bool false, Value.bool false, Value.bool false, Value.bool false, Value.bool false, Value.bool false, Value.bool false, Value.bool false, Value.bool false, Value.bool false, Value.bool false, Value.bool false, Value.bool false, Value.bool false, Value.bool false, Value.bool false, Value.bool false, Value.bool false, Value.bool false, Value.bool false, Value.bool false, Value.bool false, Value.bool false, Value.bool false, Value.bool false, Value.bool false, Value.bool false, Value.bool false, Value.bool false, Value.bool false, Value.bool false, Value.bool false, Value.bool false, Value.bool false, Value.bool false, Value.bool false, Value.bool false, Value.bool false, Value.bool false, Value.bool false, Value.bool false, Value.bool false, Value.bool false, Value.bool false, Value.bool false, Value.bool false, Value.bool false, Value.bool false, Value.bool false, Value.bool false, Value.bool false, Value.bool false, Value.bool false, Value.bool false, Value.bool false, Value.bool false, Value.bool false, Value.bool false, Value.bool false, Value.bool false, Value.bool false, Value.bool false, Value.bool false, Value.bool false, Value.bool false, Value.bool false, Value.bool false, Value.bool false, Value.bool false, Value.bool false, Value.bool false, Value.bool false, Value.bool false, Value.bool false, Value.bool false, Value.bool false, Value.bool false, Value.bool false, Value.bool false, Value.bool false, Value.bool false, Value.bool false, Value.bool false, Value.bool false, Value.bool false, Value.bool false, Value.bool false, Value.bool false, Value.bool false, Value.bool false, Value.bool false, Value.bool false, Value.bool false, Value.bool false, Value.bool false, Value.bool false, Value.bool false, Value.bool false, Value.bool false, Value.bool false, Value.bool false, Value.bool false, Value.bool false, Value.bool false, Value.bool false, Value.bool false, Value.bool false, Value.bool false, Value.bool false, Value.bool false, Value.bool false, Value.bool false, Value.bool false, Value.bool false, Value.bool false, Value.bool false, Value.bool false, Value.bool false, Value.bool false, Value.bool false, Value.bool false, Value.bool false, Value.bool false, Value.bool false, Value.bool false, Value.bool false, Value.bool false, Value.bool false, Value.bool false, Value.bool false, Value.bool false, Value.bool false, Value.bool false, Value.bool false, Value.bool false, Value.bool false, Value.bool false, Value.bool false, Value.bool false, Value.bool false, Value.bool false, Value.bool false, Value.bool false, Value.bool false, Value.bool false, Value.bool false, Value.bool false, Value.bool false, Value.bool false, Value.bool false, Value.bool false, Value.bool false, Value.bool false, Value.bool false, Value.bool false, Value.bool false, Value.bool false, Value.bool false, Value.bool false, Value.bool false, Value.bool false, Value.bool false, Value.bool false, Value.bool false, Value.bool false, Value.bool false, Value.bool false, Value.bool false, Value.bool false, Value.bool false, Value.bool false, Value.bool false, Value.bool false, Value.bool false, Value.bool false, Value.bool false, Value.bool false, Value.bool false]
/-! ### function 3: stillage/stillagelaw51.VersionOrder -/
def F3.k4c (Q : Value → World → Prop) (x0 : ByteArray) (x1 : ByteArray) (x2 : ByteArray) (x7 : Int) (w : World) : Prop :=
  vIf (decide (x7 > 0))
  (Calls Tryd.prog 8 #[] w fun e11 w10 =>
    ∃ t12 : Bool, e11 = .returned (Value.bool t12) ∧ (
      Q (Value.bool t12) w10))
  (Calls Tryd.prog 6 #[Value.string x1, Value.string x2] w fun e14 w13 =>
    ∃ i15 : Int, e14 = .returned (Value.int .i64 i15) ∧ (
      vIf (decide (i15 > 0))
      (Calls Tryd.prog 8 #[] w13 fun e17 w16 =>
        ∃ t18 : Bool, e17 = .returned (Value.bool t18) ∧ (
          Q (Value.bool t18) w16))
      (Calls Tryd.prog 6 #[Value.string x0, Value.string x2] w13 fun e20 w19 =>
        ∃ i21 : Int, e20 = .returned (Value.int .i64 i21) ∧ (
          vIf (decide (i21 ≤ 0))
          (Calls Tryd.prog 8 #[] w19 fun e23 w22 =>
            ∃ t24 : Bool, e23 = .returned (Value.bool t24) ∧ (
              Q (Value.bool t24) w22))
          (Q (Value.bool false) w19)))))
def F3.k4 (Q : Value → World → Prop) : (ByteArray × ByteArray × ByteArray × Int × Unit) → World → Prop := fun s w => ∀ _ : Nat → Value, F3.k4c Q s.1 s.2.1 s.2.2.1 s.2.2.2.1 w
def F3.vc (x0 : ByteArray) (x1 : ByteArray) (x2 : ByteArray) (w : World) (Q : Value → World → Prop) : Prop :=
  Calls Tryd.prog 6 #[Value.string x0, Value.string x1] w fun e2 w1 =>
  ∃ i3 : Int, e2 = .returned (Value.int .i64 i3) ∧ (
    Calls Tryd.prog 6 #[Value.string x1, Value.string x0] w1 fun e5 w4 =>
    ∃ i6 : Int, e5 = .returned (Value.int .i64 i6) ∧ (
      vIf (i3 != (IntKind.wrap .i64 (0 - i6)))
      (Q (Value.bool false) w4)
      (vIf (!((i3 == 0) == (x0.toList == x1.toList)))
        (Q (Value.bool false) w4)
        (Calls Tryd.prog 7 #[Value.string x0, Value.string x1] w4 fun e8 w7 =>
          ∃ t9 : Bool, e8 = .returned (Value.bool t9) ∧ (
            vIf (!((decide (i3 < 0)) == t9))
            (Q (Value.bool false) w7)
            (vIf (decide (i3 > 1))
              (Q (Value.bool false) w7)
              (vIf (decide (i3 < (-1)))
                (Q (Value.bool false) w7)
                (jnC (F3.k4 Q) (x0, x1, x2, (i3), ()) w7))))))))
def F3.an : Ann := ⟨[], [(4, [(0, .kS), (1, .kS), (2, .kS), (7, .kI .i64)])]⟩
theorem F3.of (x0 : ByteArray) (x1 : ByteArray) (x2 : ByteArray) (w : World) {Q : Value → World → Prop} (h : F3.vc x0 x1 x2 w Q) : Calls Tryd.prog 3 #[Value.string x0, Value.string x1, Value.string x2] w (fun e w' => ∃ v, e = .returned v ∧ Q v w') := vcFn_of (A := F3.an) noCount mixed h (by kernel_rfl)
/-! ### function 4: stillage/stillagelaw51.VersionParts -/
def F4.b4c (Q : Value → World → Prop) (C4 : (ByteArray × (Option Addr × Nat × Nat) × ByteArray × Int × Unit) → World → Prop) (x0 : ByteArray) (x3 : (Option Addr × Nat × Nat)) (x4 : ByteArray) (x5 : Int) (w : World) : Prop :=
  vIf (decide (x5 < ((x3.2.1 : Nat) : Int)))
  (dr x3.1 fun b6 o7 =>
    gd (decide (0 ≤ x5)) <|
    gd (decide (x5 < ((x3.2.1 : Nat) : Int))) <|
    ldS w b6 (o7 + (x5).toNat * 1) fun s8 =>
    vIf (s8.toList == (⟨#[]⟩ : ByteArray).toList)
    (Q (Value.bool false) w)
    (dr x3.1 fun b9 o10 =>
      gd (decide (0 ≤ x5)) <|
      gd (decide (x5 < ((x3.2.1 : Nat) : Int))) <|
      ldS w b9 (o10 + (x5).toNat * 1) fun s11 =>
      gd (decide (x4.size + s11.size ≤ 9223372036854775807)) <|
      jnC C4 (x0, (x3.1, x3.2.1, x3.2.2), (x4 ++ s11), ((IntKind.wrap .i64 (x5 + 1))), ()) w))
  (Calls Tryd.prog 11 #[Value.string x0] w fun e13 w12 =>
    ∃ (A14 : Option Addr) (n15 c16 : Nat), e13 = .returned (Value.slice A14 n15 c16) ∧ (
      Calls Tryd.prog 10 #[Value.slice x3.1 x3.2.1 x3.2.2, Value.slice A14 n15 c16] w12 fun e18 w17 =>
      ∃ t19 : Bool, e18 = .returned (Value.bool t19) ∧ (
        vIf t19
        (vIf (x4.toList == x0.toList)
          (Calls Tryd.prog 8 #[] w17 fun e21 w20 =>
            ∃ t22 : Bool, e21 = .returned (Value.bool t22) ∧ (
              Q (Value.bool t22) w20))
          (Q (Value.bool false) w17))
        (Q (Value.bool false) w17))))
def F4.b4 (Q : Value → World → Prop) : (ByteArray × (Option Addr × Nat × Nat) × ByteArray × Int × Unit) → World → ((ByteArray × (Option Addr × Nat × Nat) × ByteArray × Int × Unit) → World → Prop) → Prop := fun s w C4 => ∀ _ : Nat → Value, F4.b4c Q C4 s.1 s.2.1 s.2.2.1 s.2.2.2.1 w
def F4.l4 (Q : Value → World → Prop) : (ByteArray × (Option Addr × Nat × Nat) × ByteArray × Int × Unit) → World → Prop := fun s w => ∃ n, loopC (F4.b4 Q) n s w
def F4.vc (x0 : ByteArray) (w : World) (Q : Value → World → Prop) : Prop :=
  Calls Tryd.prog 9 #[Value.string x0] w fun e2 w1 =>
  ∃ (A3 : Option Addr) (n4 c5 : Nat), e2 = .returned (Value.slice A3 n4 c5) ∧ (
    jnC (F4.l4 Q) (x0, (A3, n4, c5), (⟨#[]⟩ : ByteArray), (0), ()) w1)
def F4.an : Ann := ⟨[(4, [(0, .kS), (3, .kSl), (4, .kS), (5, .kI .i64)])], []⟩
theorem F4.of (x0 : ByteArray) (w : World) {Q : Value → World → Prop} (h : F4.vc x0 w Q) : Calls Tryd.prog 4 #[Value.string x0] w (fun e w' => ∃ v, e = .returned v ∧ Q v w') := vcFn_of (A := F4.an) noCount mixed h (by kernel_rfl)
/-! ### function 5: stillage/stillagelaw51.VersionRows -/
def F5.vc (x0A : Option Addr) (x0n x0c : Nat) (x1 : Int) (w : World) (Q : Value → World → Prop) : Prop :=
  Calls Tryd.prog 12 #[Value.slice x0A x0n x0c] w fun e2 w1 =>
  ∃ (A3 : Option Addr) (n4 c5 : Nat), e2 = .returned (Value.slice A3 n4 c5) ∧ (
    Calls Tryd.prog 13 #[Value.slice x0A x0n x0c] w1 fun e7 w6 =>
    ∃ (A8 : Option Addr) (n9 c10 : Nat), e7 = .returned (Value.slice A8 n9 c10) ∧ (
      Calls Tryd.prog 10 #[Value.slice A3 n4 c5, Value.slice A8 n9 c10] w6 fun e12 w11 =>
      ∃ t13 : Bool, e12 = .returned (Value.bool t13) ∧ (
        vIf t13
        (Calls Tryd.prog 14 #[Value.slice x0A x0n x0c, Value.int .i64 x1] w11 fun e15 w14 =>
          ∃ (A16 : Option Addr) (n17 c18 : Nat), e15 = .returned (Value.slice A16 n17 c18) ∧ (
            Calls Tryd.prog 15 #[Value.slice x0A x0n x0c, Value.int .i64 x1] w14 fun e20 w19 =>
            ∃ (A21 : Option Addr) (n22 c23 : Nat), e20 = .returned (Value.slice A21 n22 c23) ∧ (
              Calls Tryd.prog 10 #[Value.slice A16 n17 c18, Value.slice A21 n22 c23] w19 fun e25 w24 =>
              ∃ t26 : Bool, e25 = .returned (Value.bool t26) ∧ (
                vIf t26
                (Calls Tryd.prog 8 #[] w24 fun e28 w27 =>
                  ∃ t29 : Bool, e28 = .returned (Value.bool t29) ∧ (
                    Q (Value.bool t29) w27))
                (Q (Value.bool false) w24)))))
        (Q (Value.bool false) w11))))
def F5.an : Ann := ⟨[], []⟩
theorem F5.of (x0A : Option Addr) (x0n x0c : Nat) (x1 : Int) (w : World) {Q : Value → World → Prop} (h : F5.vc x0A x0n x0c x1 w Q) : Calls Tryd.prog 5 #[Value.slice x0A x0n x0c, Value.int .i64 x1] w (fun e w' => ∃ v, e = .returned v ∧ Q v w') := vcFn_of (A := F5.an) noCount mixed h (by kernel_rfl)
/-! ### function 6: stillage/version.Cmp -/
def F6.vc (x0 : ByteArray) (x1 : ByteArray) (w : World) (Q : Value → World → Prop) : Prop :=
  Calls Tryd.prog 9 #[Value.string x0] w fun e2 w1 =>
  ∃ (A3 : Option Addr) (n4 c5 : Nat), e2 = .returned (Value.slice A3 n4 c5) ∧ (
    Calls Tryd.prog 9 #[Value.string x1] w1 fun e7 w6 =>
    ∃ (A8 : Option Addr) (n9 c10 : Nat), e7 = .returned (Value.slice A8 n9 c10) ∧ (
      Calls Tryd.prog 16 #[Value.slice A3 n4 c5, Value.slice A8 n9 c10, Value.func (.func 17) #[] #[]] w6 fun e12 w11 =>
      ∃ i13 : Int, e12 = .returned (Value.int .i64 i13) ∧ (
        Q (Value.int .i64 i13) w11)))
def F6.an : Ann := ⟨[], []⟩
theorem F6.of (x0 : ByteArray) (x1 : ByteArray) (w : World) {Q : Value → World → Prop} (h : F6.vc x0 x1 w Q) : Calls Tryd.prog 6 #[Value.string x0, Value.string x1] w (fun e w' => ∃ v, e = .returned v ∧ Q v w') := vcFn_of (A := F6.an) noCount mixed h (by kernel_rfl)
/-! ### function 7: stillage/stillageref51.Less -/
def F7.k5c (Q : Value → World → Prop) (C3 : ((Option Addr × Nat × Nat) × (Option Addr × Nat × Nat) × Int × Unit) → World → Prop) (x5 : (Option Addr × Nat × Nat)) (x6 : (Option Addr × Nat × Nat)) (x7 : Int) (w : World) : Prop :=
  dr x5.1 fun b11 o12 =>
  gd (decide (0 ≤ x7)) <|
  gd (decide (x7 < ((x5.2.1 : Nat) : Int))) <|
  ldS w.drew b11 (o12 + (x7).toNat * 1) fun s13 =>
  dr x6.1 fun b14 o15 =>
  gd (decide (0 ≤ x7)) <|
  gd (decide (x7 < ((x6.2.1 : Nat) : Int))) <|
  ldS w.drew b14 (o15 + (x7).toNat * 1) fun s16 =>
  vIf (!(s13.toList == s16.toList))
  (dr x5.1 fun b17 o18 =>
    gd (decide (0 ≤ x7)) <|
    gd (decide (x7 < ((x5.2.1 : Nat) : Int))) <|
    ldS w.drew.drew b17 (o18 + (x7).toNat * 1) fun s19 =>
    dr x6.1 fun b20 o21 =>
    gd (decide (0 ≤ x7)) <|
    gd (decide (x7 < ((x6.2.1 : Nat) : Int))) <|
    ldS w.drew.drew b20 (o21 + (x7).toNat * 1) fun s22 =>
    Calls Tryd.prog 18 #[Value.string s19, Value.string s22] w.drew.drew fun e24 w23 =>
    ∃ t25 : Bool, e24 = .returned (Value.bool t25) ∧ (
      Q (Value.bool t25) w23))
  (jnC C3 ((x5.1, x5.2.1, x5.2.2), (x6.1, x6.2.1, x6.2.2), ((IntKind.wrap .i64 (x7 + 1))), ()) w.drew)
def F7.k5 (Q : Value → World → Prop) (C3 : ((Option Addr × Nat × Nat) × (Option Addr × Nat × Nat) × Int × Unit) → World → Prop) : ((Option Addr × Nat × Nat) × (Option Addr × Nat × Nat) × Int × Unit) → World → Prop := fun s w => ∀ _ : Nat → Value, F7.k5c Q C3 s.1 s.2.1 s.2.2.1 w
def F7.k7c (Q : Value → World → Prop) (x5 : (Option Addr × Nat × Nat)) (x6 : (Option Addr × Nat × Nat)) (w : World) : Prop :=
  Q (Value.bool (decide (((x5.2.1 : Nat) : Int) < ((x6.2.1 : Nat) : Int)))) w
def F7.k7 (Q : Value → World → Prop) : ((Option Addr × Nat × Nat) × (Option Addr × Nat × Nat) × Unit) → World → Prop := fun s w => ∀ _ : Nat → Value, F7.k7c Q s.1 s.2.1 w
def F7.b3c (Q : Value → World → Prop) (C3 : ((Option Addr × Nat × Nat) × (Option Addr × Nat × Nat) × Int × Unit) → World → Prop) (x5 : (Option Addr × Nat × Nat)) (x6 : (Option Addr × Nat × Nat)) (x7 : Int) (w : World) : Prop :=
  vIf (decide (x7 < ((x5.2.1 : Nat) : Int)))
  (vIf (decide (x7 < ((x6.2.1 : Nat) : Int)))
    (jnC (F7.k5 Q C3) ((x5.1, x5.2.1, x5.2.2), (x6.1, x6.2.1, x6.2.2), (x7), ()) w)
    (jnC (F7.k7 Q) ((x5.1, x5.2.1, x5.2.2), (x6.1, x6.2.1, x6.2.2), ()) w))
  (jnC (F7.k7 Q) ((x5.1, x5.2.1, x5.2.2), (x6.1, x6.2.1, x6.2.2), ()) w)
def F7.b3 (Q : Value → World → Prop) : ((Option Addr × Nat × Nat) × (Option Addr × Nat × Nat) × Int × Unit) → World → (((Option Addr × Nat × Nat) × (Option Addr × Nat × Nat) × Int × Unit) → World → Prop) → Prop := fun s w C3 => ∀ _ : Nat → Value, F7.b3c Q C3 s.1 s.2.1 s.2.2.1 w
def F7.l3 (Q : Value → World → Prop) : ((Option Addr × Nat × Nat) × (Option Addr × Nat × Nat) × Int × Unit) → World → Prop := fun s w => ∃ n, loopC (F7.b3 Q) n s w
def F7.vc (x0 : ByteArray) (x1 : ByteArray) (w : World) (Q : Value → World → Prop) : Prop :=
  Calls Tryd.prog 11 #[Value.string x0] w fun e2 w1 =>
  ∃ (A3 : Option Addr) (n4 c5 : Nat), e2 = .returned (Value.slice A3 n4 c5) ∧ (
    Calls Tryd.prog 11 #[Value.string x1] w1 fun e7 w6 =>
    ∃ (A8 : Option Addr) (n9 c10 : Nat), e7 = .returned (Value.slice A8 n9 c10) ∧ (
      jnC (F7.l3 Q) ((A3, n4, c5), (A8, n9, c10), (0), ()) w6))
def F7.an : Ann := ⟨[(3, [(5, .kSl), (6, .kSl), (7, .kI .i64)])], [(5, [(5, .kSl), (6, .kSl), (7, .kI .i64)]), (7, [(5, .kSl), (6, .kSl)])]⟩
theorem F7.of (x0 : ByteArray) (x1 : ByteArray) (w : World) {Q : Value → World → Prop} (h : F7.vc x0 x1 w Q) : Calls Tryd.prog 7 #[Value.string x0, Value.string x1] w (fun e w' => ∃ v, e = .returned v ∧ Q v w') := vcFn_of (A := F7.an) noCount mixed h (by kernel_rfl)
/-! ### function 8: stillage/stillagelaw51.lives -/
def F8.vc  (w : World) (Q : Value → World → Prop) : Prop :=
  Calls Tryd.prog 6 #[Value.string (⟨#[118, 50]⟩ : ByteArray), Value.string (⟨#[118, 49, 48]⟩ : ByteArray)] w fun e2 w1 =>
  ∃ i3 : Int, e2 = .returned (Value.int .i64 i3) ∧ (
    vIf (i3 == (-1))
    (Calls Tryd.prog 6 #[Value.string (⟨#[118, 49, 48]⟩ : ByteArray), Value.string (⟨#[118, 49, 48]⟩ : ByteArray)] w1 fun e5 w4 =>
      ∃ i6 : Int, e5 = .returned (Value.int .i64 i6) ∧ (
        vIf (i6 == 0)
        (Calls Tryd.prog 6 #[Value.string (⟨#[118, 49, 48, 97]⟩ : ByteArray), Value.string (⟨#[118, 49, 48]⟩ : ByteArray)] w4 fun e8 w7 =>
          ∃ i9 : Int, e8 = .returned (Value.int .i64 i9) ∧ (
            Q (Value.bool (i9 == 1)) w7))
        (Q (Value.bool false) w4)))
    (Q (Value.bool false) w1))
def F8.an : Ann := ⟨[], []⟩
theorem F8.of  (w : World) {Q : Value → World → Prop} (h : F8.vc  w Q) : Calls Tryd.prog 8 #[] w (fun e w' => ∃ v, e = .returned v ∧ Q v w') := vcFn_of (A := F8.an) noCount mixed h (by kernel_rfl)
/-! ### function 10: stillage/stillageref21.Texts -/
def F10.b4c (Q : Value → World → Prop) (C4 : ((Option Addr × Nat × Nat) × (Option Addr × Nat × Nat) × Int × Unit) → World → Prop) (x0 : (Option Addr × Nat × Nat)) (x1 : (Option Addr × Nat × Nat)) (x5 : Int) (w : World) : Prop :=
  vIf (decide (x5 < ((x0.2.1 : Nat) : Int)))
  (dr x0.1 fun b1 o2 =>
    gd (decide (0 ≤ x5)) <|
    gd (decide (x5 < ((x0.2.1 : Nat) : Int))) <|
    ldS w.drew b1 (o2 + (x5).toNat * 1) fun s3 =>
    dr x1.1 fun b4 o5 =>
    gd (decide (0 ≤ x5)) <|
    gd (decide (x5 < ((x1.2.1 : Nat) : Int))) <|
    ldS w.drew b4 (o5 + (x5).toNat * 1) fun s6 =>
    vIf (!(s3.toList == s6.toList))
    (Q (Value.bool false) w.drew)
    (jnC C4 ((x0.1, x0.2.1, x0.2.2), (x1.1, x1.2.1, x1.2.2), ((IntKind.wrap .i64 (x5 + 1))), ()) w.drew))
  (Q (Value.bool true) w)
def F10.b4 (Q : Value → World → Prop) : ((Option Addr × Nat × Nat) × (Option Addr × Nat × Nat) × Int × Unit) → World → (((Option Addr × Nat × Nat) × (Option Addr × Nat × Nat) × Int × Unit) → World → Prop) → Prop := fun s w C4 => ∀ _ : Nat → Value, F10.b4c Q C4 s.1 s.2.1 s.2.2.1 w
def F10.l4 (Q : Value → World → Prop) : ((Option Addr × Nat × Nat) × (Option Addr × Nat × Nat) × Int × Unit) → World → Prop := fun s w => ∃ n, loopC (F10.b4 Q) n s w
def F10.vc (x0A : Option Addr) (x0n x0c : Nat) (x1A : Option Addr) (x1n x1c : Nat) (w : World) (Q : Value → World → Prop) : Prop :=
  vIf (((x0n : Nat) : Int) != ((x1n : Nat) : Int))
  (Q (Value.bool false) w)
  (jnC (F10.l4 Q) ((x0A, x0n, x0c), (x1A, x1n, x1c), (0), ()) w)
def F10.an : Ann := ⟨[(4, [(0, .kSl), (1, .kSl), (5, .kI .i64)])], []⟩
theorem F10.of (x0A : Option Addr) (x0n x0c : Nat) (x1A : Option Addr) (x1n x1c : Nat) (w : World) {Q : Value → World → Prop} (h : F10.vc x0A x0n x0c x1A x1n x1c w Q) : Calls Tryd.prog 10 #[Value.slice x0A x0n x0c, Value.slice x1A x1n x1c] w (fun e w' => ∃ v, e = .returned v ∧ Q v w') := vcFn_of (A := F10.an) noCount mixed h (by kernel_rfl)
/-! ### function 11: stillage/stillageref51.Parts -/
def F11.k7c (Q : Value → World → Prop) (C4 : (ByteArray × (Option Addr × Nat × Nat) × Int × Int × Unit) → World → Prop) (x0 : ByteArray) (x3 : (Option Addr × Nat × Nat)) (x4 : Int) (x5 : Int) (x27 : Bool) (w : World) : Prop :=
  vIf x27
  (gd (decide (0 ≤ x5)) <|
    gd (decide (x5 ≤ ((x0.size : Nat) : Int))) <|
    gd (decide (0 ≤ x4)) <|
    gd (decide (x4 ≤ (((x5).toNat : Nat) : Int))) <|
    nw w ([Value.string (x0.extract (x4).toNat (x5).toNat)] ++ []) 9 fun b1 w2 =>
    app w2 1 16 [Value.string (⟨#[]⟩ : ByteArray)] 9 x3.1 x3.2.1 x3.2.2 (Value.slice (some ⟨b1, 0, none⟩) 1 1) fun A3 n4 c5 w6 =>
    jnC C4 (x0, (A3, n4, c5), (x5), ((IntKind.wrap .i64 (x5 + 1))), ()) w6)
  (jnC C4 (x0, (x3.1, x3.2.1, x3.2.2), (x4), ((IntKind.wrap .i64 (x5 + 1))), ()) w)
def F11.k7 (Q : Value → World → Prop) (C4 : (ByteArray × (Option Addr × Nat × Nat) × Int × Int × Unit) → World → Prop) : (ByteArray × (Option Addr × Nat × Nat) × Int × Int × Bool × Unit) → World → Prop := fun s w => ∀ _ : Nat → Value, F11.k7c Q C4 s.1 s.2.1 s.2.2.1 s.2.2.2.1 s.2.2.2.2.1 w
def F11.b4c (Q : Value → World → Prop) (C4 : (ByteArray × (Option Addr × Nat × Nat) × Int × Int × Unit) → World → Prop) (x0 : ByteArray) (x3 : (Option Addr × Nat × Nat)) (x4 : Int) (x5 : Int) (w : World) : Prop :=
  vIf (decide (x5 ≤ (x0.size : Int)))
  (vIf (x5 == (x0.size : Int))
    (jnC (F11.k7 Q C4) (x0, (x3.1, x3.2.1, x3.2.2), (x4), (x5), true, ()) w.drew)
    (gd (decide (0 ≤ x5)) <|
      gd (decide (x5 < (x0.size : Int))) <|
      gd (decide (0 ≤ (IntKind.wrap .i64 (x5 - 1)))) <|
      gd (decide ((IntKind.wrap .i64 (x5 - 1)) < (x0.size : Int))) <|
      Calls Tryd.prog 20 #[Value.int .u8 (byteAt x0 (x5).toNat)] w.drew fun e8 w7 =>
      ∃ t9 : Bool, e8 = .returned (Value.bool t9) ∧ (
        Calls Tryd.prog 20 #[Value.int .u8 (byteAt x0 ((IntKind.wrap .i64 (x5 - 1))).toNat)] w7 fun e11 w10 =>
        ∃ t12 : Bool, e11 = .returned (Value.bool t12) ∧ (
          jnC (F11.k7 Q C4) (x0, (x3.1, x3.2.1, x3.2.2), (x4), (x5), (!(t9 == t12)), ()) w10))))
  (Q (Value.slice x3.1 x3.2.1 x3.2.2) w)
def F11.b4 (Q : Value → World → Prop) : (ByteArray × (Option Addr × Nat × Nat) × Int × Int × Unit) → World → ((ByteArray × (Option Addr × Nat × Nat) × Int × Int × Unit) → World → Prop) → Prop := fun s w C4 => ∀ _ : Nat → Value, F11.b4c Q C4 s.1 s.2.1 s.2.2.1 s.2.2.2.1 w
def F11.l4 (Q : Value → World → Prop) : (ByteArray × (Option Addr × Nat × Nat) × Int × Int × Unit) → World → Prop := fun s w => ∃ n, loopC (F11.b4 Q) n s w
def F11.vc (x0 : ByteArray) (w : World) (Q : Value → World → Prop) : Prop :=
  jnC (F11.l4 Q) (x0, (none, 0, 0), (0), (1), ()) w
def F11.an : Ann := ⟨[(4, [(0, .kS), (3, .kSl), (4, .kI .i64), (5, .kI .i64)])], [(7, [(0, .kS), (3, .kSl), (4, .kI .i64), (5, .kI .i64), (27, .kB)])]⟩
theorem F11.of (x0 : ByteArray) (w : World) {Q : Value → World → Prop} (h : F11.vc x0 w Q) : Calls Tryd.prog 11 #[Value.string x0] w (fun e w' => ∃ v, e = .returned v ∧ Q v w') := vcFn_of (A := F11.an) noCount mixed h (by kernel_rfl)
/-! ### function 12: stillage/version.Row -/
def F12.vc (x0A : Option Addr) (x0n x0c : Nat) (w : World) (Q : Value → World → Prop) : Prop :=
  Calls Tryd.prog 21 #[Value.slice x0A x0n x0c, Value.func (.func 6) #[] #[]] w fun e2 w1 =>
  ∃ (A3 : Option Addr) (n4 c5 : Nat), e2 = .returned (Value.slice A3 n4 c5) ∧ (
    Q (Value.slice A3 n4 c5) w1)
def F12.an : Ann := ⟨[], []⟩
theorem F12.of (x0A : Option Addr) (x0n x0c : Nat) (w : World) {Q : Value → World → Prop} (h : F12.vc x0A x0n x0c w Q) : Calls Tryd.prog 12 #[Value.slice x0A x0n x0c] w (fun e w' => ∃ v, e = .returned v ∧ Q v w') := vcFn_of (A := F12.an) noCount mixed h (by kernel_rfl)
/-! ### function 13: stillage/stillageref51.Row -/
def F13.k14c (Q : Value → World → Prop) (C3 : ((Option Addr × Nat × Nat) × (Option Addr × Nat × Nat) × Int × Unit) → World → Prop) (C8 : ((Option Addr × Nat × Nat) × (Option Addr × Nat × Nat) × Int × (Option Addr × Nat × Nat) × Bool × Int × Unit) → World → Prop) (x0 : (Option Addr × Nat × Nat)) (x3 : (Option Addr × Nat × Nat)) (x4 : Int) (x5 : (Option Addr × Nat × Nat)) (x6 : Bool) (x7 : Int) (w : World) : Prop :=
  dr x3.1 fun b22 o23 =>
  gd (decide (0 ≤ x7)) <|
  gd (decide (x7 < ((x3.2.1 : Nat) : Int))) <|
  ldS w b22 (o23 + (x7).toNat * 1) fun s24 =>
  nw w ([Value.string s24] ++ []) 9 fun b25 w26 =>
  app w26 1 16 [Value.string (⟨#[]⟩ : ByteArray)] 9 x5.1 x5.2.1 x5.2.2 (Value.slice (some ⟨b25, 0, none⟩) 1 1) fun A27 n28 c29 w30 =>
  jnC C8 ((x0.1, x0.2.1, x0.2.2), (x3.1, x3.2.1, x3.2.2), (x4), (A27, n28, c29), x6, ((IntKind.wrap .i64 (x7 + 1))), ()) w30
def F13.k14 (Q : Value → World → Prop) (C3 : ((Option Addr × Nat × Nat) × (Option Addr × Nat × Nat) × Int × Unit) → World → Prop) (C8 : ((Option Addr × Nat × Nat) × (Option Addr × Nat × Nat) × Int × (Option Addr × Nat × Nat) × Bool × Int × Unit) → World → Prop) : ((Option Addr × Nat × Nat) × (Option Addr × Nat × Nat) × Int × (Option Addr × Nat × Nat) × Bool × Int × Unit) → World → Prop := fun s w => ∀ _ : Nat → Value, F13.k14c Q C3 C8 s.1 s.2.1 s.2.2.1 s.2.2.2.1 s.2.2.2.2.1 s.2.2.2.2.2.1 w
def F13.k11c (Q : Value → World → Prop) (C3 : ((Option Addr × Nat × Nat) × (Option Addr × Nat × Nat) × Int × Unit) → World → Prop) (C8 : ((Option Addr × Nat × Nat) × (Option Addr × Nat × Nat) × Int × (Option Addr × Nat × Nat) × Bool × Int × Unit) → World → Prop) (x0 : (Option Addr × Nat × Nat)) (x3 : (Option Addr × Nat × Nat)) (x4 : Int) (x5 : (Option Addr × Nat × Nat)) (x6 : Bool) (x7 : Int) (x43 : Bool) (w : World) : Prop :=
  vIf x43
  (dr x3.1 fun b7 o8 =>
    gd (decide (0 ≤ x7)) <|
    gd (decide (x7 < ((x3.2.1 : Nat) : Int))) <|
    ldS w.drew b7 (o8 + (x7).toNat * 1) fun s9 =>
    dr x0.1 fun b10 o11 =>
    gd (decide (0 ≤ x4)) <|
    gd (decide (x4 < ((x0.2.1 : Nat) : Int))) <|
    ldS w.drew b10 (o11 + (x4).toNat * 1) fun s12 =>
    vIf (!(s9.toList == s12.toList))
    (dr x0.1 fun b13 o14 =>
      gd (decide (0 ≤ x4)) <|
      gd (decide (x4 < ((x0.2.1 : Nat) : Int))) <|
      ldS w.drew b13 (o14 + (x4).toNat * 1) fun s15 =>
      nw w.drew ([Value.string s15] ++ []) 9 fun b16 w17 =>
      app w17 1 16 [Value.string (⟨#[]⟩ : ByteArray)] 9 x5.1 x5.2.1 x5.2.2 (Value.slice (some ⟨b16, 0, none⟩) 1 1) fun A18 n19 c20 w21 =>
      jnC (F13.k14 Q C3 C8) ((x0.1, x0.2.1, x0.2.2), (x3.1, x3.2.1, x3.2.2), (x4), (A18, n19, c20), true, (x7), ()) w21)
    (jnC (F13.k14 Q C3 C8) ((x0.1, x0.2.1, x0.2.2), (x3.1, x3.2.1, x3.2.2), (x4), (x5.1, x5.2.1, x5.2.2), true, (x7), ()) w.drew))
  (jnC (F13.k14 Q C3 C8) ((x0.1, x0.2.1, x0.2.2), (x3.1, x3.2.1, x3.2.2), (x4), (x5.1, x5.2.1, x5.2.2), x6, (x7), ()) w)
def F13.k11 (Q : Value → World → Prop) (C3 : ((Option Addr × Nat × Nat) × (Option Addr × Nat × Nat) × Int × Unit) → World → Prop) (C8 : ((Option Addr × Nat × Nat) × (Option Addr × Nat × Nat) × Int × (Option Addr × Nat × Nat) × Bool × Int × Unit) → World → Prop) : ((Option Addr × Nat × Nat) × (Option Addr × Nat × Nat) × Int × (Option Addr × Nat × Nat) × Bool × Int × Bool × Unit) → World → Prop := fun s w => ∀ _ : Nat → Value, F13.k11c Q C3 C8 s.1 s.2.1 s.2.2.1 s.2.2.2.1 s.2.2.2.2.1 s.2.2.2.2.2.1 s.2.2.2.2.2.2.1 w
def F13.b8c (Q : Value → World → Prop) (C3 : ((Option Addr × Nat × Nat) × (Option Addr × Nat × Nat) × Int × Unit) → World → Prop) (C8 : ((Option Addr × Nat × Nat) × (Option Addr × Nat × Nat) × Int × (Option Addr × Nat × Nat) × Bool × Int × Unit) → World → Prop) (x0 : (Option Addr × Nat × Nat)) (x3 : (Option Addr × Nat × Nat)) (x4 : Int) (x5 : (Option Addr × Nat × Nat)) (x6 : Bool) (x7 : Int) (w : World) : Prop :=
  vIf (decide (x7 < ((x3.2.1 : Nat) : Int)))
  (vIf (!x6)
    (dr x3.1 fun b1 o2 =>
      gd (decide (0 ≤ x7)) <|
      gd (decide (x7 < ((x3.2.1 : Nat) : Int))) <|
      ldS w.drew b1 (o2 + (x7).toNat * 1) fun s3 =>
      dr x0.1 fun b4 o5 =>
      gd (decide (0 ≤ x4)) <|
      gd (decide (x4 < ((x0.2.1 : Nat) : Int))) <|
      ldS w.drew b4 (o5 + (x4).toNat * 1) fun s6 =>
      vIf (s3.toList == s6.toList)
      (jnC (F13.k11 Q C3 C8) ((x0.1, x0.2.1, x0.2.2), (x3.1, x3.2.1, x3.2.2), (x4), (x5.1, x5.2.1, x5.2.2), x6, (x7), true, ()) w.drew)
      (dr x0.1 fun b31 o32 =>
        gd (decide (0 ≤ x4)) <|
        gd (decide (x4 < ((x0.2.1 : Nat) : Int))) <|
        ldS w.drew b31 (o32 + (x4).toNat * 1) fun s33 =>
        dr x3.1 fun b34 o35 =>
        gd (decide (0 ≤ x7)) <|
        gd (decide (x7 < ((x3.2.1 : Nat) : Int))) <|
        ldS w.drew b34 (o35 + (x7).toNat * 1) fun s36 =>
        Calls Tryd.prog 7 #[Value.string s33, Value.string s36] w.drew fun e38 w37 =>
        ∃ t39 : Bool, e38 = .returned (Value.bool t39) ∧ (
          jnC (F13.k11 Q C3 C8) ((x0.1, x0.2.1, x0.2.2), (x3.1, x3.2.1, x3.2.2), (x4), (x5.1, x5.2.1, x5.2.2), x6, (x7), t39, ()) w37)))
    (jnC (F13.k11 Q C3 C8) ((x0.1, x0.2.1, x0.2.2), (x3.1, x3.2.1, x3.2.2), (x4), (x5.1, x5.2.1, x5.2.2), x6, (x7), false, ()) w.drew))
  (vIf (!x6)
    (dr x0.1 fun b40 o41 =>
      gd (decide (0 ≤ x4)) <|
      gd (decide (x4 < ((x0.2.1 : Nat) : Int))) <|
      ldS w b40 (o41 + (x4).toNat * 1) fun s42 =>
      nw w ([Value.string s42] ++ []) 9 fun b43 w44 =>
      app w44 1 16 [Value.string (⟨#[]⟩ : ByteArray)] 9 x5.1 x5.2.1 x5.2.2 (Value.slice (some ⟨b43, 0, none⟩) 1 1) fun A45 n46 c47 w48 =>
      jnC C3 ((x0.1, x0.2.1, x0.2.2), (A45, n46, c47), ((IntKind.wrap .i64 (x4 + 1))), ()) w48)
    (jnC C3 ((x0.1, x0.2.1, x0.2.2), (x5.1, x5.2.1, x5.2.2), ((IntKind.wrap .i64 (x4 + 1))), ()) w))
def F13.b8 (Q : Value → World → Prop) (C3 : ((Option Addr × Nat × Nat) × (Option Addr × Nat × Nat) × Int × Unit) → World → Prop) : ((Option Addr × Nat × Nat) × (Option Addr × Nat × Nat) × Int × (Option Addr × Nat × Nat) × Bool × Int × Unit) → World → (((Option Addr × Nat × Nat) × (Option Addr × Nat × Nat) × Int × (Option Addr × Nat × Nat) × Bool × Int × Unit) → World → Prop) → Prop := fun s w C8 => ∀ _ : Nat → Value, F13.b8c Q C3 C8 s.1 s.2.1 s.2.2.1 s.2.2.2.1 s.2.2.2.2.1 s.2.2.2.2.2.1 w
def F13.l8 (Q : Value → World → Prop) (C3 : ((Option Addr × Nat × Nat) × (Option Addr × Nat × Nat) × Int × Unit) → World → Prop) : ((Option Addr × Nat × Nat) × (Option Addr × Nat × Nat) × Int × (Option Addr × Nat × Nat) × Bool × Int × Unit) → World → Prop := fun s w => ∃ n, loopC (F13.b8 Q C3) n s w
def F13.b3c (Q : Value → World → Prop) (C3 : ((Option Addr × Nat × Nat) × (Option Addr × Nat × Nat) × Int × Unit) → World → Prop) (x0 : (Option Addr × Nat × Nat)) (x3 : (Option Addr × Nat × Nat)) (x4 : Int) (w : World) : Prop :=
  vIf (decide (x4 < ((x0.2.1 : Nat) : Int)))
  (jnC (F13.l8 Q C3) ((x0.1, x0.2.1, x0.2.2), (x3.1, x3.2.1, x3.2.2), (x4), (none, 0, 0), false, (0), ()) w)
  (Q (Value.slice x3.1 x3.2.1 x3.2.2) w)
def F13.b3 (Q : Value → World → Prop) : ((Option Addr × Nat × Nat) × (Option Addr × Nat × Nat) × Int × Unit) → World → (((Option Addr × Nat × Nat) × (Option Addr × Nat × Nat) × Int × Unit) → World → Prop) → Prop := fun s w C3 => ∀ _ : Nat → Value, F13.b3c Q C3 s.1 s.2.1 s.2.2.1 w
def F13.l3 (Q : Value → World → Prop) : ((Option Addr × Nat × Nat) × (Option Addr × Nat × Nat) × Int × Unit) → World → Prop := fun s w => ∃ n, loopC (F13.b3 Q) n s w
def F13.vc (x0A : Option Addr) (x0n x0c : Nat) (w : World) (Q : Value → World → Prop) : Prop :=
  jnC (F13.l3 Q) ((x0A, x0n, x0c), (none, 0, 0), (0), ()) w
def F13.an : Ann := ⟨[(3, [(0, .kSl), (3, .kSl), (4, .kI .i64)]), (8, [(0, .kSl), (3, .kSl), (4, .kI .i64), (5, .kSl), (6, .kB), (7, .kI .i64)])], [(11, [(0, .kSl), (3, .kSl), (4, .kI .i64), (5, .kSl), (6, .kB), (7, .kI .i64), (43, .kB)]), (14, [(0, .kSl), (3, .kSl), (4, .kI .i64), (5, .kSl), (6, .kB), (7, .kI .i64)])]⟩
theorem F13.of (x0A : Option Addr) (x0n x0c : Nat) (w : World) {Q : Value → World → Prop} (h : F13.vc x0A x0n x0c w Q) : Calls Tryd.prog 13 #[Value.slice x0A x0n x0c] w (fun e w' => ∃ v, e = .returned v ∧ Q v w') := vcFn_of (A := F13.an) noCount mixed h (by kernel_rfl)
/-! ### function 14: stillage/version.Last -/
def F14.vc (x0A : Option Addr) (x0n x0c : Nat) (x1 : Int) (w : World) (Q : Value → World → Prop) : Prop :=
  Calls Tryd.prog 12 #[Value.slice x0A x0n x0c] w fun e2 w1 =>
  ∃ (A3 : Option Addr) (n4 c5 : Nat), e2 = .returned (Value.slice A3 n4 c5) ∧ (
    gd (decide (0 ≤ (if 0 < (IntKind.wrap .i64 (((n4 : Nat) : Int) - (if 0 < x1 then x1 else 0))) then (IntKind.wrap .i64 (((n4 : Nat) : Int) - (if 0 < x1 then x1 else 0))) else 0))) <|
    gd (decide ((if 0 < (IntKind.wrap .i64 (((n4 : Nat) : Int) - (if 0 < x1 then x1 else 0))) then (IntKind.wrap .i64 (((n4 : Nat) : Int) - (if 0 < x1 then x1 else 0))) else 0) ≤ ((n4 : Nat) : Int))) <|
    Q (Value.slice (slA A3 c5 ((if 0 < (IntKind.wrap .i64 (((n4 : Nat) : Int) - (if 0 < x1 then x1 else 0))) then (IntKind.wrap .i64 (((n4 : Nat) : Int) - (if 0 < x1 then x1 else 0))) else 0)).toNat 1) (n4 - ((if 0 < (IntKind.wrap .i64 (((n4 : Nat) : Int) - (if 0 < x1 then x1 else 0))) then (IntKind.wrap .i64 (((n4 : Nat) : Int) - (if 0 < x1 then x1 else 0))) else 0)).toNat) (c5 - ((if 0 < (IntKind.wrap .i64 (((n4 : Nat) : Int) - (if 0 < x1 then x1 else 0))) then (IntKind.wrap .i64 (((n4 : Nat) : Int) - (if 0 < x1 then x1 else 0))) else 0)).toNat)) w1)
def F14.an : Ann := ⟨[], []⟩
theorem F14.of (x0A : Option Addr) (x0n x0c : Nat) (x1 : Int) (w : World) {Q : Value → World → Prop} (h : F14.vc x0A x0n x0c x1 w Q) : Calls Tryd.prog 14 #[Value.slice x0A x0n x0c, Value.int .i64 x1] w (fun e w' => ∃ v, e = .returned v ∧ Q v w') := vcFn_of (A := F14.an) noCount mixed h (by kernel_rfl)
/-! ### function 15: stillage/stillageref51.Last -/
def F15.k7c (Q : Value → World → Prop) (C4 : (Int × (Option Addr × Nat × Nat) × (Option Addr × Nat × Nat) × Int × Unit) → World → Prop) (x1 : Int) (x5 : (Option Addr × Nat × Nat)) (x6 : (Option Addr × Nat × Nat)) (x7 : Int) (x25 : Bool) (w : World) : Prop :=
  vIf x25
  (dr x5.1 fun b6 o7 =>
    gd (decide (0 ≤ x7)) <|
    gd (decide (x7 < ((x5.2.1 : Nat) : Int))) <|
    ldS w b6 (o7 + (x7).toNat * 1) fun s8 =>
    nw w ([Value.string s8] ++ []) 9 fun b9 w10 =>
    app w10 1 16 [Value.string (⟨#[]⟩ : ByteArray)] 9 x6.1 x6.2.1 x6.2.2 (Value.slice (some ⟨b9, 0, none⟩) 1 1) fun A11 n12 c13 w14 =>
    jnC C4 ((x1), (x5.1, x5.2.1, x5.2.2), (A11, n12, c13), ((IntKind.wrap .i64 (x7 + 1))), ()) w14)
  (jnC C4 ((x1), (x5.1, x5.2.1, x5.2.2), (x6.1, x6.2.1, x6.2.2), ((IntKind.wrap .i64 (x7 + 1))), ()) w)
def F15.k7 (Q : Value → World → Prop) (C4 : (Int × (Option Addr × Nat × Nat) × (Option Addr × Nat × Nat) × Int × Unit) → World → Prop) : (Int × (Option Addr × Nat × Nat) × (Option Addr × Nat × Nat) × Int × Bool × Unit) → World → Prop := fun s w => ∀ _ : Nat → Value, F15.k7c Q C4 s.1 s.2.1 s.2.2.1 s.2.2.2.1 s.2.2.2.2.1 w
def F15.b4c (Q : Value → World → Prop) (C4 : (Int × (Option Addr × Nat × Nat) × (Option Addr × Nat × Nat) × Int × Unit) → World → Prop) (x1 : Int) (x5 : (Option Addr × Nat × Nat)) (x6 : (Option Addr × Nat × Nat)) (x7 : Int) (w : World) : Prop :=
  vIf (decide (x7 < ((x5.2.1 : Nat) : Int)))
  (vIf (decide (x1 > 0))
    (jnC (F15.k7 Q C4) ((x1), (x5.1, x5.2.1, x5.2.2), (x6.1, x6.2.1, x6.2.2), (x7), (decide ((IntKind.wrap .i64 (((x5.2.1 : Nat) : Int) - x7)) ≤ x1)), ()) w)
    (jnC (F15.k7 Q C4) ((x1), (x5.1, x5.2.1, x5.2.2), (x6.1, x6.2.1, x6.2.2), (x7), false, ()) w))
  (Q (Value.slice x6.1 x6.2.1 x6.2.2) w)
def F15.b4 (Q : Value → World → Prop) : (Int × (Option Addr × Nat × Nat) × (Option Addr × Nat × Nat) × Int × Unit) → World → ((Int × (Option Addr × Nat × Nat) × (Option Addr × Nat × Nat) × Int × Unit) → World → Prop) → Prop := fun s w C4 => ∀ _ : Nat → Value, F15.b4c Q C4 s.1 s.2.1 s.2.2.1 s.2.2.2.1 w
def F15.l4 (Q : Value → World → Prop) : (Int × (Option Addr × Nat × Nat) × (Option Addr × Nat × Nat) × Int × Unit) → World → Prop := fun s w => ∃ n, loopC (F15.b4 Q) n s w
def F15.vc (x0A : Option Addr) (x0n x0c : Nat) (x1 : Int) (w : World) (Q : Value → World → Prop) : Prop :=
  Calls Tryd.prog 13 #[Value.slice x0A x0n x0c] w fun e2 w1 =>
  ∃ (A3 : Option Addr) (n4 c5 : Nat), e2 = .returned (Value.slice A3 n4 c5) ∧ (
    jnC (F15.l4 Q) ((x1), (A3, n4, c5), (none, 0, 0), (0), ()) w1)
def F15.an : Ann := ⟨[(4, [(1, .kI .i64), (5, .kSl), (6, .kSl), (7, .kI .i64)])], [(7, [(1, .kI .i64), (5, .kSl), (6, .kSl), (7, .kI .i64), (25, .kB)])]⟩
theorem F15.of (x0A : Option Addr) (x0n x0c : Nat) (x1 : Int) (w : World) {Q : Value → World → Prop} (h : F15.vc x0A x0n x0c x1 w Q) : Calls Tryd.prog 15 #[Value.slice x0A x0n x0c, Value.int .i64 x1] w (fun e w' => ∃ v, e = .returned v ∧ Q v w') := vcFn_of (A := F15.an) noCount mixed h (by kernel_rfl)
/-! ### function 16: slices.CompareFunc[[]string,[]string,string,string] -/
def F16s.b2c (Q : Value → World → Prop) (C2 : ((Option Addr × Nat × Nat) × (Option Addr × Nat × Nat) × Unit × (Option Addr × Nat × Nat) × Int × Int × Unit) → World → Prop) (x0 : (Option Addr × Nat × Nat)) (x1 : (Option Addr × Nat × Nat)) (x2 : Unit) (x11 : (Option Addr × Nat × Nat)) (x12 : Int) (x13 : Int) (w : World) : Prop :=
  vIf (decide (x13 < x12))
  (dr x11.1 fun b1 o2 =>
    gd (decide (0 ≤ x13)) <|
    gd (decide (x13 < ((x11.2.1 : Nat) : Int))) <|
    ldS w b1 (o2 + (x13).toNat * 1) fun s3 =>
    vIf (decide (x13 ≥ ((x1.2.1 : Nat) : Int)))
    (Q (Value.int .i64 1) w)
    (dr x1.1 fun b4 o5 =>
      gd (decide (0 ≤ x13)) <|
      gd (decide (x13 < ((x1.2.1 : Nat) : Int))) <|
      ldS w b4 (o5 + (x13).toNat * 1) fun s6 =>
      Calls Tryd.prog 17 #[Value.string s3, Value.string s6] w fun e8 w7 =>
      ∃ i9 : Int, e8 = .returned (Value.int .i64 i9) ∧ (
        vIf (i9 != 0)
        (Q (Value.int .i64 i9) w7)
        (jnC C2 ((x0.1, x0.2.1, x0.2.2), (x1.1, x1.2.1, x1.2.2), (), (x11.1, x11.2.1, x11.2.2), (x12), ((IntKind.wrap .i64 (x13 + 1))), ()) w7))))
  (vIf (decide (((x0.2.1 : Nat) : Int) < ((x1.2.1 : Nat) : Int)))
    (Q (Value.int .i64 (-1)) w)
    (Q (Value.int .i64 0) w))
def F16s.b2 (Q : Value → World → Prop) : ((Option Addr × Nat × Nat) × (Option Addr × Nat × Nat) × Unit × (Option Addr × Nat × Nat) × Int × Int × Unit) → World → (((Option Addr × Nat × Nat) × (Option Addr × Nat × Nat) × Unit × (Option Addr × Nat × Nat) × Int × Int × Unit) → World → Prop) → Prop := fun s w C2 => ∀ _ : Nat → Value, F16s.b2c Q C2 s.1 s.2.1 s.2.2.1 s.2.2.2.1 s.2.2.2.2.1 s.2.2.2.2.2.1 w
def F16s.l2 (Q : Value → World → Prop) : ((Option Addr × Nat × Nat) × (Option Addr × Nat × Nat) × Unit × (Option Addr × Nat × Nat) × Int × Int × Unit) → World → Prop := fun s w => ∃ n, loopC (F16s.b2 Q) n s w
def F16s.vc (x0A : Option Addr) (x0n x0c : Nat) (x1A : Option Addr) (x1n x1c : Nat) (w : World) (Q : Value → World → Prop) : Prop :=
  jnC (F16s.l2 Q) ((x0A, x0n, x0c), (x1A, x1n, x1c), (), (x0A, x0n, x0c), (((x0n : Nat) : Int)), (0), ()) w
def F16s.an : Ann := ⟨[(2, [(0, .kSl), (1, .kSl), (2, .kF 17), (11, .kSl), (12, .kI .i64), (13, .kI .i64)])], []⟩
theorem F16s.of (x0A : Option Addr) (x0n x0c : Nat) (x1A : Option Addr) (x1n x1c : Nat) (w : World) {Q : Value → World → Prop} (h : F16s.vc x0A x0n x0c x1A x1n x1c w Q) : Calls Tryd.prog 16 #[Value.slice x0A x0n x0c, Value.slice x1A x1n x1c, Value.func (.func 17) #[] #[]] w (fun e w' => ∃ v, e = .returned v ∧ Q v w') := vcFn_of (A := F16s.an) noCount mixed h (by kernel_rfl)
/-! ### function 17: stillage/version.part -/
def F17.k8c (Q : Value → World → Prop) (x0 : ByteArray) (x1 : ByteArray) (w : World) : Prop :=
  Calls Tryd.prog 24 #[Value.string x0, Value.string x1] w fun e11 w10 =>
  ∃ i12 : Int, e11 = .returned (Value.int .i64 i12) ∧ (
    Q (Value.int .i64 i12) w10)
def F17.k8 (Q : Value → World → Prop) : (ByteArray × ByteArray × Unit) → World → Prop := fun s w => ∀ _ : Nat → Value, F17.k8c Q s.1 s.2.1 w
def F17.k3c (Q : Value → World → Prop) (x0 : ByteArray) (x1 : ByteArray) (x5 : Bool) (x6 : Bool) (x13 : Bool) (w : World) : Prop :=
  vIf x13
  (Calls Tryd.prog 23 #[Value.string x0, Value.string x1] w fun e8 w7 =>
    ∃ i9 : Int, e8 = .returned (Value.int .i64 i9) ∧ (
      Q (Value.int .i64 i9) w7))
  (vIf x5
    (Q (Value.int .i64 (-1)) w)
    (vIf x6
      (Q (Value.int .i64 1) w)
      (jnC (F17.k8 Q) (x0, x1, ()) w)))
def F17.k3 (Q : Value → World → Prop) : (ByteArray × ByteArray × Bool × Bool × Bool × Unit) → World → Prop := fun s w => ∀ _ : Nat → Value, F17.k3c Q s.1 s.2.1 s.2.2.1 s.2.2.2.1 s.2.2.2.2.1 w
def F17.vc (x0 : ByteArray) (x1 : ByteArray) (w : World) (Q : Value → World → Prop) : Prop :=
  gd (decide ((0 : Int) < (x0.size : Int))) <|
  gd (decide ((0 : Int) < (x1.size : Int))) <|
  Calls Tryd.prog 22 #[Value.int .u8 (byteAt x0 0)] w.drew fun e2 w1 =>
  ∃ t3 : Bool, e2 = .returned (Value.bool t3) ∧ (
    Calls Tryd.prog 22 #[Value.int .u8 (byteAt x1 0)] w1 fun e5 w4 =>
    ∃ t6 : Bool, e5 = .returned (Value.bool t6) ∧ (
      vIf t3
      (jnC (F17.k3 Q) (x0, x1, t3, t6, t6, ()) w4)
      (jnC (F17.k3 Q) (x0, x1, t3, t6, false, ()) w4)))
def F17.an : Ann := ⟨[], [(3, [(0, .kS), (1, .kS), (5, .kB), (6, .kB), (13, .kB)]), (8, [(0, .kS), (1, .kS)])]⟩
theorem F17.of (x0 : ByteArray) (x1 : ByteArray) (w : World) {Q : Value → World → Prop} (h : F17.vc x0 x1 w Q) : Calls Tryd.prog 17 #[Value.string x0, Value.string x1] w (fun e w' => ∃ v, e = .returned v ∧ Q v w') := vcFn_of (A := F17.an) noCount mixed h (by kernel_rfl)
/-! ### function 18: stillage/stillageref51.less -/
def F18.vc (x0 : ByteArray) (x1 : ByteArray) (w : World) (Q : Value → World → Prop) : Prop :=
  gd (decide ((0 : Int) < (x0.size : Int))) <|
  gd (decide ((0 : Int) < (x1.size : Int))) <|
  Calls Tryd.prog 20 #[Value.int .u8 (byteAt x0 0)] w.drew fun e2 w1 =>
  ∃ t3 : Bool, e2 = .returned (Value.bool t3) ∧ (
    Calls Tryd.prog 20 #[Value.int .u8 (byteAt x1 0)] w1 fun e5 w4 =>
    ∃ t6 : Bool, e5 = .returned (Value.bool t6) ∧ (
      vIf (!(t3 == t6))
      (Q (Value.bool t3) w4)
      (vIf (!t3)
        (Q (Value.bool (Op.bytesLess x0.toList x1.toList)) w4)
        (Calls Tryd.prog 25 #[Value.string x0] w4 fun e8 w7 =>
          ∃ s9 : ByteArray, e8 = .returned (Value.string s9) ∧ (
            Calls Tryd.prog 25 #[Value.string x1] w7 fun e11 w10 =>
            ∃ s12 : ByteArray, e11 = .returned (Value.string s12) ∧ (
              vIf (s9.toList == s12.toList)
              (Q (Value.bool (decide ((x0.size : Int) < (x1.size : Int)))) w10)
              (vIf ((s9.size : Int) == (s12.size : Int))
                (Q (Value.bool (Op.bytesLess s9.toList s12.toList)) w10)
                (Q (Value.bool (decide ((s9.size : Int) < (s12.size : Int)))) w10))))))))
def F18.an : Ann := ⟨[], []⟩
theorem F18.of (x0 : ByteArray) (x1 : ByteArray) (w : World) {Q : Value → World → Prop} (h : F18.vc x0 x1 w Q) : Calls Tryd.prog 18 #[Value.string x0, Value.string x1] w (fun e w' => ∃ v, e = .returned v ∧ Q v w') := vcFn_of (A := F18.an) noCount mixed h (by kernel_rfl)
/-! ### function 19: stillage/version.parts -/
def F19.vc (x0 : ByteArray) (w : World) (Q : Value → World → Prop) : Prop :=
  nw w [Value.string x0] 9 fun b1 w2 =>
  Q (Value.func (.func 26) #[] #[Value.pointer (some ⟨b1, 0, none⟩)]) w2
def F19.an : Ann := ⟨[], []⟩
theorem F19.of (x0 : ByteArray) (w : World) {Q : Value → World → Prop} (h : F19.vc x0 w Q) : Calls Tryd.prog 19 #[Value.string x0] w (fun e w' => ∃ v, e = .returned v ∧ Q v w') := vcFn_of (A := F19.an) noCount mixed h (by kernel_rfl)
/-! ### function 20: stillage/stillageref51.figure -/
def F20.vc (x0 : Int) (w : World) (Q : Value → World → Prop) : Prop :=
  vIf (decide (x0 ≥ 48))
  (Q (Value.bool (decide (x0 ≤ 57))) w)
  (Q (Value.bool false) w)
def F20.an : Ann := ⟨[], []⟩
theorem F20.of (x0 : Int) (w : World) {Q : Value → World → Prop} (h : F20.vc x0 w Q) : Calls Tryd.prog 20 #[Value.int .u8 x0] w (fun e w' => ∃ v, e = .returned v ∧ Q v w') := vcFn_of (A := F20.an) noCount mixed h (by kernel_rfl)
/-! ### function 21: stillage/version.row[string] -/
def F21s.vc (x0A : Option Addr) (x0n x0c : Nat) (w : World) (Q : Value → World → Prop) : Prop :=
  Calls Tryd.prog 27 #[Value.slice x0A x0n x0c] w fun e2 w1 =>
  ∃ (A3 : Option Addr) (n4 c5 : Nat), e2 = .returned (Value.slice A3 n4 c5) ∧ (
    Calls Tryd.prog 28 #[Value.slice A3 n4 c5, Value.func (.func 6) #[] #[]] w1 fun e7 w6 =>
    e7 = .returned (Value.tuple #[]) ∧ (
      Calls Tryd.prog 29 #[Value.slice A3 n4 c5] w6 fun e9 w8 =>
      ∃ (A10 : Option Addr) (n11 c12 : Nat), e9 = .returned (Value.slice A10 n11 c12) ∧ (
        Q (Value.slice A10 n11 c12) w8)))
def F21s.an : Ann := ⟨[], []⟩
theorem F21s.of (x0A : Option Addr) (x0n x0c : Nat) (w : World) {Q : Value → World → Prop} (h : F21s.vc x0A x0n x0c w Q) : Calls Tryd.prog 21 #[Value.slice x0A x0n x0c, Value.func (.func 6) #[] #[]] w (fun e w' => ∃ v, e = .returned v ∧ Q v w') := vcFn_of (A := F21s.an) noCount mixed h (by kernel_rfl)
/-! ### function 22: stillage/version.figure -/
def F22.vc (x0 : Int) (w : World) (Q : Value → World → Prop) : Prop :=
  vIf (decide (x0 ≥ 48))
  (Q (Value.bool (decide (x0 ≤ 57))) w)
  (Q (Value.bool false) w)
def F22.an : Ann := ⟨[], []⟩
theorem F22.of (x0 : Int) (w : World) {Q : Value → World → Prop} (h : F22.vc x0 w Q) : Calls Tryd.prog 22 #[Value.int .u8 x0] w (fun e w' => ∃ v, e = .returned v ∧ Q v w') := vcFn_of (A := F22.an) noCount mixed h (by kernel_rfl)
/-! ### function 23: stillage/version.numbers -/
def F23.vc (x0 : ByteArray) (x1 : ByteArray) (w : World) (Q : Value → World → Prop) : Prop :=
  Calls Tryd.prog 30 #[Value.string x0, Value.string (⟨#[48]⟩ : ByteArray)] w fun e2 w1 =>
  ∃ s3 : ByteArray, e2 = .returned (Value.string s3) ∧ (
    Calls Tryd.prog 30 #[Value.string x1, Value.string (⟨#[48]⟩ : ByteArray)] w1 fun e5 w4 =>
    ∃ s6 : ByteArray, e5 = .returned (Value.string s6) ∧ (
      vIf ((s3.size : Int) != (s6.size : Int))
      (Calls Tryd.prog 31 #[Value.int .i64 (s3.size : Int), Value.int .i64 (s6.size : Int)] w4 fun e8 w7 =>
        ∃ i9 : Int, e8 = .returned (Value.int .i64 i9) ∧ (
          Q (Value.int .i64 i9) w7))
      (vIf (!(s3.toList == s6.toList))
        (Calls Tryd.prog 24 #[Value.string s3, Value.string s6] w4 fun e11 w10 =>
          ∃ i12 : Int, e11 = .returned (Value.int .i64 i12) ∧ (
            Q (Value.int .i64 i12) w10))
        (Calls Tryd.prog 31 #[Value.int .i64 (x0.size : Int), Value.int .i64 (x1.size : Int)] w4 fun e14 w13 =>
          ∃ i15 : Int, e14 = .returned (Value.int .i64 i15) ∧ (
            Q (Value.int .i64 i15) w13)))))
def F23.an : Ann := ⟨[], []⟩
theorem F23.of (x0 : ByteArray) (x1 : ByteArray) (w : World) {Q : Value → World → Prop} (h : F23.vc x0 x1 w Q) : Calls Tryd.prog 23 #[Value.string x0, Value.string x1] w (fun e w' => ∃ v, e = .returned v ∧ Q v w') := vcFn_of (A := F23.an) noCount mixed h (by kernel_rfl)
/-! ### function 24: strings.Compare -/
def F24.vc (x0 : ByteArray) (x1 : ByteArray) (w : World) (Q : Value → World → Prop) : Prop :=
  Calls Tryd.prog 32 #[Value.string x0, Value.string x1] w fun e2 w1 =>
  ∃ i3 : Int, e2 = .returned (Value.int .i64 i3) ∧ (
    Q (Value.int .i64 i3) w1)
def F24.an : Ann := ⟨[], []⟩
theorem F24.of (x0 : ByteArray) (x1 : ByteArray) (w : World) {Q : Value → World → Prop} (h : F24.vc x0 x1 w Q) : Calls Tryd.prog 24 #[Value.string x0, Value.string x1] w (fun e w' => ∃ v, e = .returned v ∧ Q v w') := vcFn_of (A := F24.an) noCount mixed h (by kernel_rfl)
/-! ### function 25: stillage/stillageref51.value -/
def F25.b1c (Q : Value → World → Prop) (C1 : (ByteArray × Unit) → World → Prop) (x0 : ByteArray) (w : World) : Prop :=
  vIf (decide ((x0.size : Int) > 0))
  (gd (decide ((0 : Int) < (x0.size : Int))) <|
    vIf ((byteAt x0 0) == 48)
    (gd (decide ((1 : Int) ≤ ((x0.size : Nat) : Int))) <|
      jnC C1 ((x0.extract 1 x0.size), ()) w)
    (Q (Value.string x0) w))
  (Q (Value.string x0) w)
def F25.b1 (Q : Value → World → Prop) : (ByteArray × Unit) → World → ((ByteArray × Unit) → World → Prop) → Prop := fun s w C1 => ∀ _ : Nat → Value, F25.b1c Q C1 s.1 w
def F25.l1 (Q : Value → World → Prop) : (ByteArray × Unit) → World → Prop := fun s w => ∃ n, loopC (F25.b1 Q) n s w
def F25.vc (x0 : ByteArray) (w : World) (Q : Value → World → Prop) : Prop :=
  jnC (F25.l1 Q) (x0, ()) w
def F25.an : Ann := ⟨[(1, [(0, .kS)])], []⟩
theorem F25.of (x0 : ByteArray) (w : World) {Q : Value → World → Prop} (h : F25.vc x0 w Q) : Calls Tryd.prog 25 #[Value.string x0] w (fun e w' => ∃ v, e = .returned v ∧ Q v w') := vcFn_of (A := F25.an) noCount mixed h (by kernel_rfl)
/-! ### function 26: stillage/version.parts$1 -/
def F26s.k4c (Q : Value → World → Prop) (C0 : (Nat × (Nat × Nat) × Unit) → World → Prop) (x0 : Nat) (x1 : (Nat × Nat)) (x3 : Int) (w : World) : Prop :=
  ldS w x1.1 x1.2 fun s11 =>
  gd (decide (0 ≤ x3)) <|
  gd (decide (x3 ≤ ((s11.size : Nat) : Int))) <|
  yld Tryd.prog x0 [Value.string (s11.extract 0 (x3).toNat)] w fun t12 w13 =>
  vIf (!t12)
  (Q (Value.tuple #[]) w13)
  (ldS w13 x1.1 x1.2 fun s14 =>
    gd (decide (0 ≤ x3)) <|
    gd (decide (x3 ≤ ((s14.size : Nat) : Int))) <|
    st w13 x1.1 x1.2 [Value.string (s14.extract (x3).toNat s14.size)] fun w15 =>
    jnC C0 (x0, (x1.1, x1.2), ()) w15)
def F26s.k4 (Q : Value → World → Prop) (C0 : (Nat × (Nat × Nat) × Unit) → World → Prop) : (Nat × (Nat × Nat) × Int × Unit) → World → Prop := fun s w => ∀ _ : Nat → Value, F26s.k4c Q C0 s.1 s.2.1 s.2.2.1 w
def F26s.b2c (Q : Value → World → Prop) (C0 : (Nat × (Nat × Nat) × Unit) → World → Prop) (C2 : (Nat × (Nat × Nat) × Int × Unit) → World → Prop) (x0 : Nat) (x1 : (Nat × Nat)) (x3 : Int) (w : World) : Prop :=
  ldS w.drew x1.1 x1.2 fun s2 =>
  vIf (decide (x3 < (s2.size : Int)))
  (ldS w.drew x1.1 x1.2 fun s3 =>
    gd (decide (0 ≤ x3)) <|
    gd (decide (x3 < (s3.size : Int))) <|
    ldS w.drew x1.1 x1.2 fun s4 =>
    gd (decide ((0 : Int) < (s4.size : Int))) <|
    Calls Tryd.prog 22 #[Value.int .u8 (byteAt s3 (x3).toNat)] w.drew fun e6 w5 =>
    ∃ t7 : Bool, e6 = .returned (Value.bool t7) ∧ (
      kp w.drew x1.1 x1.2 1 w5 <|
      Calls Tryd.prog 22 #[Value.int .u8 (byteAt s4 0)] w5 fun e9 w8 =>
      ∃ t10 : Bool, e9 = .returned (Value.bool t10) ∧ (
        vIf (t7 == t10)
        (jnC C2 (x0, (x1.1, x1.2), ((IntKind.wrap .i64 (x3 + 1))), ()) w8)
        (jnC (F26s.k4 Q C0) (x0, (x1.1, x1.2), (x3), ()) w8))))
  (jnC (F26s.k4 Q C0) (x0, (x1.1, x1.2), (x3), ()) w.drew)
def F26s.b2 (Q : Value → World → Prop) (C0 : (Nat × (Nat × Nat) × Unit) → World → Prop) : (Nat × (Nat × Nat) × Int × Unit) → World → ((Nat × (Nat × Nat) × Int × Unit) → World → Prop) → Prop := fun s w C2 => ∀ _ : Nat → Value, F26s.b2c Q C0 C2 s.1 s.2.1 s.2.2.1 w
def F26s.l2 (Q : Value → World → Prop) (C0 : (Nat × (Nat × Nat) × Unit) → World → Prop) : (Nat × (Nat × Nat) × Int × Unit) → World → Prop := fun s w => ∃ n, loopC (F26s.b2 Q C0) n s w
def F26s.b0c (Q : Value → World → Prop) (C0 : (Nat × (Nat × Nat) × Unit) → World → Prop) (x0 : Nat) (x1 : (Nat × Nat)) (w : World) : Prop :=
  ldS w x1.1 x1.2 fun s1 =>
  vIf (!(s1.toList == (⟨#[]⟩ : ByteArray).toList))
  (jnC (F26s.l2 Q C0) (x0, (x1.1, x1.2), (1), ()) w)
  (Q (Value.tuple #[]) w)
def F26s.b0 (Q : Value → World → Prop) : (Nat × (Nat × Nat) × Unit) → World → ((Nat × (Nat × Nat) × Unit) → World → Prop) → Prop := fun s w C0 => ∀ _ : Nat → Value, F26s.b0c Q C0 s.1 s.2.1 w
def F26s.l0 (Q : Value → World → Prop) : (Nat × (Nat × Nat) × Unit) → World → Prop := fun s w => ∃ n, loopC (F26s.b0 Q) n s w
def F26s.vc (x0 : Nat) (x1 : Nat × Nat) (w : World) (Q : Value → World → Prop) : Prop :=
  jnC (F26s.l0 Q) (x0, (x1.1, x1.2), ()) w
def F26s.an : Ann := ⟨[(0, [(0, .kY), (1, .kL)]), (2, [(0, .kY), (1, .kL), (3, .kI .i64)])], [(4, [(0, .kY), (1, .kL), (3, .kI .i64)])]⟩
theorem F26s.of (x0 : Nat) (x1 : Nat × Nat) (w : World) {Q : Value → World → Prop} (h : F26s.vc x0 x1 w Q) : Calls Tryd.prog 26 #[Value.func (.yield x0) #[] #[], Value.pointer (some ⟨x1.1, x1.2, none⟩)] w (fun e w' => ∃ v, e = .returned v ∧ Q v w') := vcFn_of (A := F26s.an) noCount mixed h (by kernel_rfl)
/-! ### function 27: slices.Clone[[]string,string] -/
def F27.vc (x0A : Option Addr) (x0n x0c : Nat) (w : World) (Q : Value → World → Prop) : Prop :=
  vIf x0A.isNone
  (Q (Value.slice none 0 0) w)
  (nw w [] 9 fun b1 w2 =>
    app w2 1 16 [Value.string (⟨#[]⟩ : ByteArray)] 9 (some ⟨b1, 0, none⟩) 0 0 (Value.slice x0A x0n x0c) fun A3 n4 c5 w6 =>
    Q (Value.slice A3 n4 c5) w6)
def F27.an : Ann := ⟨[], []⟩
theorem F27.of (x0A : Option Addr) (x0n x0c : Nat) (w : World) {Q : Value → World → Prop} (h : F27.vc x0A x0n x0c w Q) : Calls Tryd.prog 27 #[Value.slice x0A x0n x0c] w (fun e w' => ∃ v, e = .returned v ∧ Q v w') := vcFn_of (A := F27.an) noCount mixed h (by kernel_rfl)
/-! ### function 29: slices.Compact[[]string,string] -/
def F29.k15c (Q : Value → World → Prop) (C4 : ((Option Addr × Nat × Nat) × Int × Unit) → World → Prop) (x0 : (Option Addr × Nat × Nat)) (x3 : Int) (w : World) : Prop :=
  gd (decide (0 ≤ x3)) <|
  gd (decide (x3 ≤ ((x0.2.2 : Nat) : Int))) <|
  Q (Value.slice (slA x0.1 x0.2.2 0 1) (x3).toNat x0.2.2) w
def F29.k15 (Q : Value → World → Prop) (C4 : ((Option Addr × Nat × Nat) × Int × Unit) → World → Prop) : ((Option Addr × Nat × Nat) × Int × Unit) → World → Prop := fun s w => ∀ _ : Nat → Value, F29.k15c Q C4 s.1 s.2.1 w
def F29.b9c (Q : Value → World → Prop) (C4 : ((Option Addr × Nat × Nat) × Int × Unit) → World → Prop) (C9 : ((Option Addr × Nat × Nat) × Int × (Option Addr × Nat × Nat) × Int × Unit) → World → Prop) (x0 : (Option Addr × Nat × Nat)) (x3 : Int) (x4 : (Option Addr × Nat × Nat)) (x5 : Int) (w : World) : Prop :=
  vIf (decide (x5 < ((x4.2.1 : Nat) : Int)))
  (dr x4.1 fun b7 o8 =>
    gd (decide (0 ≤ x5)) <|
    gd (decide (x5 < ((x4.2.1 : Nat) : Int))) <|
    ldS w.drew b7 (o8 + (x5).toNat * 1) fun s9 =>
    dr x4.1 fun b10 o11 =>
    gd (decide (0 ≤ (IntKind.wrap .i64 (x5 - 1)))) <|
    gd (decide ((IntKind.wrap .i64 (x5 - 1)) < ((x4.2.1 : Nat) : Int))) <|
    ldS w.drew b10 (o11 + ((IntKind.wrap .i64 (x5 - 1))).toNat * 1) fun s12 =>
    vIf (!(s9.toList == s12.toList))
    (dr x4.1 fun b13 o14 =>
      gd (decide (0 ≤ x5)) <|
      gd (decide (x5 < ((x4.2.1 : Nat) : Int))) <|
      ldS w.drew b13 (o14 + (x5).toNat * 1) fun s15 =>
      dr x0.1 fun b16 o17 =>
      gd (decide (0 ≤ x3)) <|
      gd (decide (x3 < ((x0.2.1 : Nat) : Int))) <|
      st w.drew b16 (o17 + (x3).toNat * 1) [Value.string s15] fun w18 =>
      jnC C9 ((x0.1, x0.2.1, x0.2.2), ((IntKind.wrap .i64 (x3 + 1))), (x4.1, x4.2.1, x4.2.2), ((IntKind.wrap .i64 (x5 + 1))), ()) w18)
    (jnC C9 ((x0.1, x0.2.1, x0.2.2), (x3), (x4.1, x4.2.1, x4.2.2), ((IntKind.wrap .i64 (x5 + 1))), ()) w.drew))
  (gd (decide (0 ≤ x3)) <|
    gd (decide (x3 ≤ ((x0.2.1 : Nat) : Int))) <|
    vIf ((x0.2.1 - (x3).toNat) == 0)
    (jnC (F29.k15 Q C4) ((x0.1, x0.2.1, x0.2.2), (x3), ()) w)
    (dr (slA x0.1 x0.2.2 (x3).toNat 1) fun b20 o21 =>
      st w b20 o21 (zeros (x0.2.1 - (x3).toNat) [Value.string (⟨#[]⟩ : ByteArray)]) fun w19 =>
      jnC (F29.k15 Q C4) ((x0.1, x0.2.1, x0.2.2), (x3), ()) w19))
def F29.b9 (Q : Value → World → Prop) (C4 : ((Option Addr × Nat × Nat) × Int × Unit) → World → Prop) : ((Option Addr × Nat × Nat) × Int × (Option Addr × Nat × Nat) × Int × Unit) → World → (((Option Addr × Nat × Nat) × Int × (Option Addr × Nat × Nat) × Int × Unit) → World → Prop) → Prop := fun s w C9 => ∀ _ : Nat → Value, F29.b9c Q C4 C9 s.1 s.2.1 s.2.2.1 s.2.2.2.1 w
def F29.l9 (Q : Value → World → Prop) (C4 : ((Option Addr × Nat × Nat) × Int × Unit) → World → Prop) : ((Option Addr × Nat × Nat) × Int × (Option Addr × Nat × Nat) × Int × Unit) → World → Prop := fun s w => ∃ n, loopC (F29.b9 Q C4) n s w
def F29.b4c (Q : Value → World → Prop) (C4 : ((Option Addr × Nat × Nat) × Int × Unit) → World → Prop) (x0 : (Option Addr × Nat × Nat)) (x3 : Int) (w : World) : Prop :=
  vIf (decide (x3 < ((x0.2.1 : Nat) : Int)))
  (dr x0.1 fun b1 o2 =>
    gd (decide (0 ≤ x3)) <|
    gd (decide (x3 < ((x0.2.1 : Nat) : Int))) <|
    ldS w.drew b1 (o2 + (x3).toNat * 1) fun s3 =>
    dr x0.1 fun b4 o5 =>
    gd (decide (0 ≤ (IntKind.wrap .i64 (x3 - 1)))) <|
    gd (decide ((IntKind.wrap .i64 (x3 - 1)) < ((x0.2.1 : Nat) : Int))) <|
    ldS w.drew b4 (o5 + ((IntKind.wrap .i64 (x3 - 1))).toNat * 1) fun s6 =>
    vIf (s3.toList == s6.toList)
    (gd (decide (0 ≤ x3)) <|
      gd (decide (x3 ≤ ((x0.2.1 : Nat) : Int))) <|
      jnC (F29.l9 Q C4) ((x0.1, x0.2.1, x0.2.2), (x3), ((slA x0.1 x0.2.2 (x3).toNat 1), (x0.2.1 - (x3).toNat), (x0.2.2 - (x3).toNat)), (1), ()) w.drew)
    (jnC C4 ((x0.1, x0.2.1, x0.2.2), ((IntKind.wrap .i64 (x3 + 1))), ()) w.drew))
  (Q (Value.slice x0.1 x0.2.1 x0.2.2) w)
def F29.b4 (Q : Value → World → Prop) : ((Option Addr × Nat × Nat) × Int × Unit) → World → (((Option Addr × Nat × Nat) × Int × Unit) → World → Prop) → Prop := fun s w C4 => ∀ _ : Nat → Value, F29.b4c Q C4 s.1 s.2.1 w
def F29.l4 (Q : Value → World → Prop) : ((Option Addr × Nat × Nat) × Int × Unit) → World → Prop := fun s w => ∃ n, loopC (F29.b4 Q) n s w
def F29.vc (x0A : Option Addr) (x0n x0c : Nat) (w : World) (Q : Value → World → Prop) : Prop :=
  vIf (decide (((x0n : Nat) : Int) < 2))
  (Q (Value.slice x0A x0n x0c) w)
  (jnC (F29.l4 Q) ((x0A, x0n, x0c), (1), ()) w)
def F29.an : Ann := ⟨[(4, [(0, .kSl), (3, .kI .i64)]), (9, [(0, .kSl), (3, .kI .i64), (4, .kSl), (5, .kI .i64)])], [(15, [(0, .kSl), (3, .kI .i64)])]⟩
theorem F29.of (x0A : Option Addr) (x0n x0c : Nat) (w : World) {Q : Value → World → Prop} (h : F29.vc x0A x0n x0c w Q) : Calls Tryd.prog 29 #[Value.slice x0A x0n x0c] w (fun e w' => ∃ v, e = .returned v ∧ Q v w') := vcFn_of (A := F29.an) noCount mixed h (by kernel_rfl)
/-! ### function 30: strings.TrimLeft -/
def F30.k5c (Q : Value → World → Prop) (x0 : ByteArray) (x1 : ByteArray) (w : World) : Prop :=
  Calls Tryd.prog 36 #[Value.string x1] w fun e5 w4 =>
  ∃ a6 : List Value, ∃ t7 : Bool, e5 = .returned (Value.tuple #[ofL a6, Value.bool t7]) ∧ (
    nw w4 Z48 48 fun b8 w9 =>
    gd (a6.length == 256) <|
    st w9 b8 0 a6 fun w10 =>
    vIf t7
    (Calls Tryd.prog 37 #[Value.string x0, Value.pointer (some ⟨b8, 0, none⟩)] w10 fun e12 w11 =>
      ∃ s13 : ByteArray, e12 = .returned (Value.string s13) ∧ (
        Q (Value.string s13) w11))
    (Calls Tryd.prog 38 #[Value.string x0, Value.string x1] w10 fun e15 w14 =>
      ∃ s16 : ByteArray, e15 = .returned (Value.string s16) ∧ (
        Q (Value.string s16) w14)))
def F30.k5 (Q : Value → World → Prop) : (ByteArray × ByteArray × Unit) → World → Prop := fun s w => ∀ _ : Nat → Value, F30.k5c Q s.1 s.2.1 w
def F30.k4c (Q : Value → World → Prop) (x0 : ByteArray) (x1 : ByteArray) (x21 : Bool) (w : World) : Prop :=
  vIf x21
  (gd (decide ((0 : Int) < (x1.size : Int))) <|
    Calls Tryd.prog 35 #[Value.string x0, Value.int .u8 (byteAt x1 0)] w fun e2 w1 =>
    ∃ s3 : ByteArray, e2 = .returned (Value.string s3) ∧ (
      Q (Value.string s3) w1))
  (jnC (F30.k5 Q) (x0, x1, ()) w)
def F30.k4 (Q : Value → World → Prop) : (ByteArray × ByteArray × Bool × Unit) → World → Prop := fun s w => ∀ _ : Nat → Value, F30.k4c Q s.1 s.2.1 s.2.2.1 w
def F30.k3c (Q : Value → World → Prop) (x0 : ByteArray) (x1 : ByteArray) (w : World) : Prop :=
  vIf ((x1.size : Int) == 1)
  (gd (decide ((0 : Int) < (x1.size : Int))) <|
    jnC (F30.k4 Q) (x0, x1, (decide ((byteAt x1 0) < 128)), ()) w)
  (jnC (F30.k4 Q) (x0, x1, false, ()) w)
def F30.k3 (Q : Value → World → Prop) : (ByteArray × ByteArray × Unit) → World → Prop := fun s w => ∀ _ : Nat → Value, F30.k3c Q s.1 s.2.1 w
def F30.vc (x0 : ByteArray) (x1 : ByteArray) (w : World) (Q : Value → World → Prop) : Prop :=
  vIf (x0.toList == (⟨#[]⟩ : ByteArray).toList)
  (Q (Value.string x0) w)
  (vIf (x1.toList == (⟨#[]⟩ : ByteArray).toList)
    (Q (Value.string x0) w)
    (jnC (F30.k3 Q) (x0, x1, ()) w))
def F30.an : Ann := ⟨[], [(3, [(0, .kS), (1, .kS)]), (4, [(0, .kS), (1, .kS), (21, .kB)]), (5, [(0, .kS), (1, .kS)])]⟩
theorem F30.of (x0 : ByteArray) (x1 : ByteArray) (w : World) {Q : Value → World → Prop} (h : F30.vc x0 x1 w Q) : Calls Tryd.prog 30 #[Value.string x0, Value.string x1] w (fun e w' => ∃ v, e = .returned v ∧ Q v w') := vcFn_of (A := F30.an) noCount mixed h (by kernel_rfl)
/-! ### function 31: cmp.Compare[int] -/
def F31.vc (x0 : Int) (x1 : Int) (w : World) (Q : Value → World → Prop) : Prop :=
  Calls Tryd.prog 39 #[Value.int .i64 x0] w fun e2 w1 =>
  ∃ t3 : Bool, e2 = .returned (Value.bool t3) ∧ (
    Calls Tryd.prog 39 #[Value.int .i64 x1] w1 fun e5 w4 =>
    ∃ t6 : Bool, e5 = .returned (Value.bool t6) ∧ (
      vIf t3
      (vIf t6
        (Q (Value.int .i64 0) w4)
        (Q (Value.int .i64 (-1)) w4))
      (vIf t6
        (Q (Value.int .i64 1) w4)
        (vIf (decide (x0 < x1))
          (Q (Value.int .i64 (-1)) w4)
          (vIf (decide (x0 > x1))
            (Q (Value.int .i64 1) w4)
            (Q (Value.int .i64 0) w4))))))
def F31.an : Ann := ⟨[], []⟩
theorem F31.of (x0 : Int) (x1 : Int) (w : World) {Q : Value → World → Prop} (h : F31.vc x0 x1 w Q) : Calls Tryd.prog 31 #[Value.int .i64 x0, Value.int .i64 x1] w (fun e w' => ∃ v, e = .returned v ∧ Q v w') := vcFn_of (A := F31.an) noCount mixed h (by kernel_rfl)
/-! ### function 32: internal/bytealg.CompareString -/
def F32.vc (x0 : ByteArray) (x1 : ByteArray) (w : World) (Q : Value → World → Prop) : Prop :=
  extC Tryd.prog 40 #[Value.string x0, Value.string x1] w fun v3 w1 =>
  ∃ i4 : Int, v3 = Value.int .i64 i4 ∧ (
    Q (Value.int .i64 i4) w1)
def F32.an : Ann := ⟨[], []⟩
theorem F32.of (x0 : ByteArray) (x1 : ByteArray) (w : World) {Q : Value → World → Prop} (h : F32.vc x0 x1 w Q) : Calls Tryd.prog 32 #[Value.string x0, Value.string x1] w (fun e w' => ∃ v, e = .returned v ∧ Q v w') := vcFn_of (A := F32.an) noCount mixed h (by kernel_rfl)
/-! ### function 35: strings.trimLeftByte -/
def F35.b1c (Q : Value → World → Prop) (C1 : (ByteArray × Int × Unit) → World → Prop) (x0 : ByteArray) (x1 : Int) (w : World) : Prop :=
  vIf (decide ((x0.size : Int) > 0))
  (gd (decide ((0 : Int) < (x0.size : Int))) <|
    vIf ((byteAt x0 0) == x1)
    (gd (decide ((1 : Int) ≤ ((x0.size : Nat) : Int))) <|
      jnC C1 ((x0.extract 1 x0.size), (x1), ()) w)
    (Q (Value.string x0) w))
  (Q (Value.string x0) w)
def F35.b1 (Q : Value → World → Prop) : (ByteArray × Int × Unit) → World → ((ByteArray × Int × Unit) → World → Prop) → Prop := fun s w C1 => ∀ _ : Nat → Value, F35.b1c Q C1 s.1 s.2.1 w
def F35.l1 (Q : Value → World → Prop) : (ByteArray × Int × Unit) → World → Prop := fun s w => ∃ n, loopC (F35.b1 Q) n s w
def F35.vc (x0 : ByteArray) (x1 : Int) (w : World) (Q : Value → World → Prop) : Prop :=
  jnC (F35.l1 Q) (x0, (x1), ()) w
def F35.an : Ann := ⟨[(1, [(0, .kS), (1, .kI .u8)])], []⟩
theorem F35.of (x0 : ByteArray) (x1 : Int) (w : World) {Q : Value → World → Prop} (h : F35.vc x0 x1 w Q) : Calls Tryd.prog 35 #[Value.string x0, Value.int .u8 x1] w (fun e w' => ∃ v, e = .returned v ∧ Q v w') := vcFn_of (A := F35.an) noCount mixed h (by kernel_rfl)
/-! ### function 39: cmp.isNaN[int] -/
def F39.vc (x0 : Int) (w : World) (Q : Value → World → Prop) : Prop :=
  Q (Value.bool (x0 != x0)) w
def F39.an : Ann := ⟨[], []⟩
theorem F39.of (x0 : Int) (w : World) {Q : Value → World → Prop} (h : F39.vc x0 w Q) : Calls Tryd.prog 39 #[Value.int .i64 x0] w (fun e w' => ∃ v, e = .returned v ∧ Q v w') := vcFn_of (A := F39.an) noCount mixed h (by kernel_rfl)
end Go.Proofs.YtegihbpdemjeaaaDoor
