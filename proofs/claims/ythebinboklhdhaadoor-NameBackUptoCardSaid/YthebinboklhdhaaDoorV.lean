/- PRINTED BY MY OWN gen.py out of the translation: each function as a proposition. -/
import Derived.Test.YthebinboklhdhaaDoorProg
import Derived.Test.YthebinboklhdhaaDoorG7
namespace Go.Proofs.YthebinboklhdhaaDoor
open Go.GV
set_option linter.unusedVariables false
set_option maxRecDepth 100000
theorem noCount : NoCount Tryd.prog := noCount_of (by kernel_rfl)
theorem mixed : Tryd.prog.follows .mixedOrders = true := by kernel_rfl
def Z41 : List Value := [Value.string (⟨#[]⟩ : ByteArray), Value.string (⟨#[]⟩ : ByteArray), Value.string (⟨#[]⟩ : ByteArray), Value.string (⟨#[]⟩ : ByteArray)]
/-! ### function 3: stillage/stillagelaw08.NameFiles -/
def F3.vc (x0 : Int) (x1 : Int) (x2 : ByteArray) (w : World) (Q : Value → World → Prop) : Prop :=
  Calls Tryd.prog 6 #[Value.string x2] w fun e2 w1 =>
  ∃ i3 : Int, ∃ i4 : Int, e2 = .returned (Value.tuple #[Value.int .i64 i3, Value.int .i64 i4]) ∧ (
    Calls Tryd.prog 7 #[Value.string x2] w1 fun e6 w5 =>
    ∃ i7 : Int, ∃ i8 : Int, e6 = .returned (Value.tuple #[Value.int .i64 i7, Value.int .i64 i8]) ∧ (
      Calls Tryd.prog 8 #[Value.int .i64 x0, Value.int .i64 x1] w5 fun e10 w9 =>
      ∃ s11 : ByteArray, e10 = .returned (Value.string s11) ∧ (
        Calls Tryd.prog 9 #[Value.int .i64 x0, Value.int .i64 x1] w9 fun e13 w12 =>
        ∃ s14 : ByteArray, e13 = .returned (Value.string s14) ∧ (
          vIf (s11.toList == s14.toList)
          (vIf (i3 == i7)
            (vIf (i4 == i8)
              (Calls Tryd.prog 10 #[] w12 fun e16 w15 =>
                ∃ t17 : Bool, e16 = .returned (Value.bool t17) ∧ (
                  Q (Value.bool t17) w15))
              (Q (Value.bool false) w12))
            (Q (Value.bool false) w12))
          (Q (Value.bool false) w12)))))
def F3.an : Ann := ⟨[], []⟩
theorem F3.eq (x0 : Int) (x1 : Int) (x2 : ByteArray) (w : World) (Q : Value → World → Prop) : vcFn Tryd.prog F3.an 3 [Value.int .i64 x0, Value.int .i64 x1, Value.string x2] w Q = F3.vc x0 x1 x2 w Q := by kernel_rfl
theorem F3.of (x0 : Int) (x1 : Int) (x2 : ByteArray) (w : World) {Q : Value → World → Prop} (h : F3.vc x0 x1 x2 w Q) : Calls Tryd.prog 3 #[Value.int .i64 x0, Value.int .i64 x1, Value.string x2] w (fun e w' => ∃ v, e = .returned v ∧ Q v w') := vcFn_sound noCount mixed ((F3.eq x0 x1 x2 w Q).symm ▸ h)
/-! ### function 4: stillage/stillagelaw08.NameTags -/
def F4.vc (x0 : ByteArray) (w : World) (Q : Value → World → Prop) : Prop :=
  Calls Tryd.prog 11 #[Value.string x0] w fun e2 w1 =>
  ∃ t3 : Bool, e2 = .returned (Value.bool t3) ∧ (
    Calls Tryd.prog 12 #[Value.string x0] w1 fun e5 w4 =>
    ∃ t6 : Bool, e5 = .returned (Value.bool t6) ∧ (
      vIf (t3 == t6)
      (Calls Tryd.prog 13 #[Value.string x0] w4 fun e8 w7 =>
        ∃ t9 : Bool, e8 = .returned (Value.bool t9) ∧ (
          Calls Tryd.prog 14 #[Value.string x0] w7 fun e11 w10 =>
          ∃ t12 : Bool, e11 = .returned (Value.bool t12) ∧ (
            vIf (t9 == t12)
            (Calls Tryd.prog 10 #[] w10 fun e14 w13 =>
              ∃ t15 : Bool, e14 = .returned (Value.bool t15) ∧ (
                Q (Value.bool t15) w13))
            (Q (Value.bool false) w10))))
      (Q (Value.bool false) w4)))
def F4.an : Ann := ⟨[], []⟩
theorem F4.eq (x0 : ByteArray) (w : World) (Q : Value → World → Prop) : vcFn Tryd.prog F4.an 4 [Value.string x0] w Q = F4.vc x0 w Q := by kernel_rfl
theorem F4.of (x0 : ByteArray) (w : World) {Q : Value → World → Prop} (h : F4.vc x0 w Q) : Calls Tryd.prog 4 #[Value.string x0] w (fun e w' => ∃ v, e = .returned v ∧ Q v w') := vcFn_sound noCount mixed ((F4.eq x0 w Q).symm ▸ h)
/-! ### function 5: stillage/stillagelaw08.NameBack -/
def F5.k6c (Q : Value → World → Prop) (x2 : ByteArray) (w : World) : Prop :=
  Calls Tryd.prog 6 #[Value.string x2] w fun e12 w11 =>
  ∃ i13 : Int, ∃ i14 : Int, e12 = .returned (Value.tuple #[Value.int .i64 i13, Value.int .i64 i14]) ∧ (
    Calls Tryd.prog 6 #[Value.string (⟨#[112, 111, 105, 110, 116, 46, 116, 109, 112]⟩ : ByteArray)] w11 fun e16 w15 =>
    ∃ i17 : Int, ∃ i18 : Int, e16 = .returned (Value.tuple #[Value.int .i64 i17, Value.int .i64 i18]) ∧ (
      vIf (i13 == 0)
      (vIf (i14 == 0)
        (vIf (i17 == 0)
          (Calls Tryd.prog 13 #[Value.string (⟨#[112, 111, 105, 110, 116, 46, 116, 109, 112]⟩ : ByteArray)] w15 fun e20 w19 =>
            ∃ t21 : Bool, e20 = .returned (Value.bool t21) ∧ (
              vIf t21
              (Calls Tryd.prog 10 #[] w19 fun e23 w22 =>
                ∃ t24 : Bool, e23 = .returned (Value.bool t24) ∧ (
                  Q (Value.bool t24) w22))
              (Q (Value.bool false) w19)))
          (Q (Value.bool false) w15))
        (Calls Tryd.prog 8 #[Value.int .i64 i13, Value.int .i64 i14] w15 fun e26 w25 =>
          ∃ s27 : ByteArray, e26 = .returned (Value.string s27) ∧ (
            vIf (s27.toList == x2.toList)
            (vIf (i17 == 0)
              (Calls Tryd.prog 13 #[Value.string (⟨#[112, 111, 105, 110, 116, 46, 116, 109, 112]⟩ : ByteArray)] w25 fun e29 w28 =>
                ∃ t30 : Bool, e29 = .returned (Value.bool t30) ∧ (
                  vIf t30
                  (Calls Tryd.prog 10 #[] w28 fun e32 w31 =>
                    ∃ t33 : Bool, e32 = .returned (Value.bool t33) ∧ (
                      Q (Value.bool t33) w31))
                  (Q (Value.bool false) w28)))
              (Q (Value.bool false) w25))
            (Q (Value.bool false) w25))))
      (Calls Tryd.prog 8 #[Value.int .i64 i13, Value.int .i64 i14] w15 fun e35 w34 =>
        ∃ s36 : ByteArray, e35 = .returned (Value.string s36) ∧ (
          vIf (s36.toList == x2.toList)
          (vIf (i17 == 0)
            (Calls Tryd.prog 13 #[Value.string (⟨#[112, 111, 105, 110, 116, 46, 116, 109, 112]⟩ : ByteArray)] w34 fun e38 w37 =>
              ∃ t39 : Bool, e38 = .returned (Value.bool t39) ∧ (
                vIf t39
                (Calls Tryd.prog 10 #[] w37 fun e41 w40 =>
                  ∃ t42 : Bool, e41 = .returned (Value.bool t42) ∧ (
                    Q (Value.bool t42) w40))
                (Q (Value.bool false) w37)))
            (Q (Value.bool false) w34))
          (Q (Value.bool false) w34)))))
def F5.k6 (Q : Value → World → Prop) : (ByteArray × Unit) → World → Prop := fun s w => ∀ _ : Nat → Value, F5.k6c Q s.1 w
def F5.vc (x0 : Int) (x1 : Int) (x2 : ByteArray) (w : World) (Q : Value → World → Prop) : Prop :=
  Calls Tryd.prog 8 #[Value.int .i64 x0, Value.int .i64 x1] w fun e2 w1 =>
  ∃ s3 : ByteArray, e2 = .returned (Value.string s3) ∧ (
    vIf (!(s3.toList == (⟨#[]⟩ : ByteArray).toList))
    (Calls Tryd.prog 6 #[Value.string s3] w1 fun e5 w4 =>
      ∃ i6 : Int, ∃ i7 : Int, e5 = .returned (Value.tuple #[Value.int .i64 i6, Value.int .i64 i7]) ∧ (
        vIf (i6 != x0)
        (Q (Value.bool false) w4)
        (vIf (i7 != x1)
          (Q (Value.bool false) w4)
          (Calls Tryd.prog 13 #[Value.string s3] w4 fun e9 w8 =>
            ∃ t10 : Bool, e9 = .returned (Value.bool t10) ∧ (
              vIf (!t10)
              (Q (Value.bool false) w8)
              (jnC (F5.k6 Q) (x2, ()) w8))))))
    (jnC (F5.k6 Q) (x2, ()) w1))
def F5.an : Ann := ⟨[], [(6, [(2, .kS)])]⟩
theorem F5.eq (x0 : Int) (x1 : Int) (x2 : ByteArray) (w : World) (Q : Value → World → Prop) : vcFn Tryd.prog F5.an 5 [Value.int .i64 x0, Value.int .i64 x1, Value.string x2] w Q = F5.vc x0 x1 x2 w Q := by kernel_rfl
theorem F5.of (x0 : Int) (x1 : Int) (x2 : ByteArray) (w : World) {Q : Value → World → Prop} (h : F5.vc x0 x1 x2 w Q) : Calls Tryd.prog 5 #[Value.int .i64 x0, Value.int .i64 x1, Value.string x2] w (fun e w' => ∃ v, e = .returned v ∧ Q v w') := vcFn_sound noCount mixed ((F5.eq x0 x1 x2 w Q).symm ▸ h)
/-! ### function 6: stillage/name.Number -/
def F6.k8c (Q : Value → World → Prop) (C2 : (ByteArray × Int × Unit) → World → Prop) (x0 : ByteArray) (x4 : Int) (x7 : Int) (x40 : Bool) (w : World) : Prop :=
  vIf x40
  (Q (Value.tuple #[Value.int .i64 x4, Value.int .i64 x7]) w)
  (jnC C2 (x0, ((IntKind.wrap .i64 (x4 + 1))), ()) w)
def F6.k8 (Q : Value → World → Prop) (C2 : (ByteArray × Int × Unit) → World → Prop) : (ByteArray × Int × Int × Bool × Unit) → World → Prop := fun s w => ∀ _ : Nat → Value, F6.k8c Q C2 s.1 s.2.1 s.2.2.1 s.2.2.2.1 w
def F6.k6c (Q : Value → World → Prop) (C2 : (ByteArray × Int × Unit) → World → Prop) (x0 : ByteArray) (x4 : Int) (x5 : ByteArray) (w : World) : Prop :=
  Calls Tryd.prog 17 #[Value.string x5] w fun e9 w8 =>
  ∃ i10 : Int, ∃ v11 : Value, e9 = .returned (Value.tuple #[Value.int .i64 i10, v11]) ∧ (
    ifNil v11 fun t12 =>
    vIf t12
    (Calls Tryd.prog 8 #[Value.int .i64 x4, Value.int .i64 i10] w8 fun e14 w13 =>
      ∃ s15 : ByteArray, e14 = .returned (Value.string s15) ∧ (
        jnC (F6.k8 Q C2) (x0, (x4), (i10), (s15.toList == x0.toList), ()) w13))
    (jnC (F6.k8 Q C2) (x0, (x4), (i10), false, ()) w8))
def F6.k6 (Q : Value → World → Prop) (C2 : (ByteArray × Int × Unit) → World → Prop) : (ByteArray × Int × ByteArray × Unit) → World → Prop := fun s w => ∀ _ : Nat → Value, F6.k6c Q C2 s.1 s.2.1 s.2.2.1 w
def F6.b2c (Q : Value → World → Prop) (C2 : (ByteArray × Int × Unit) → World → Prop) (x0 : ByteArray) (x4 : Int) (w : World) : Prop :=
  vIf (decide (x4 < 4))
  (Calls Tryd.prog 16 #[Value.int .i64 x4] w fun e2 w1 =>
    ∃ s3 : ByteArray, e2 = .returned (Value.string s3) ∧ (
      Calls Tryd.prog 15 #[Value.string x0, Value.string s3] w1 fun e5 w4 =>
      ∃ s6 : ByteArray, ∃ t7 : Bool, e5 = .returned (Value.tuple #[Value.string s6, Value.bool t7]) ∧ (
        vIf (!t7)
        (jnC C2 (x0, ((IntKind.wrap .i64 (x4 + 1))), ()) w4)
        (vIf ((s6.size : Int) != 8)
          (jnC C2 (x0, ((IntKind.wrap .i64 (x4 + 1))), ()) w4)
          (jnC (F6.k6 Q C2) (x0, (x4), s6, ()) w4)))))
  (Q (Value.tuple #[Value.int .i64 0, Value.int .i64 0]) w)
def F6.b2 (Q : Value → World → Prop) : (ByteArray × Int × Unit) → World → ((ByteArray × Int × Unit) → World → Prop) → Prop := fun s w C2 => ∀ _ : Nat → Value, F6.b2c Q C2 s.1 s.2.1 w
def F6.l2 (Q : Value → World → Prop) : (ByteArray × Int × Unit) → World → Prop := fun s w => ∃ n, loopC (F6.b2 Q) n s w
def F6.vc (x0 : ByteArray) (w : World) (Q : Value → World → Prop) : Prop :=
  jnC (F6.l2 Q) (x0, (1), ()) w
def F6.an : Ann := ⟨[(2, [(0, .kS), (4, .kI .i64)])], [(6, [(0, .kS), (4, .kI .i64), (5, .kS)]), (8, [(0, .kS), (4, .kI .i64), (7, .kI .i64), (40, .kB)])]⟩
theorem F6.eq (x0 : ByteArray) (w : World) (Q : Value → World → Prop) : vcFn Tryd.prog F6.an 6 [Value.string x0] w Q = F6.vc x0 w Q := by kernel_rfl
theorem F6.of (x0 : ByteArray) (w : World) {Q : Value → World → Prop} (h : F6.vc x0 w Q) : Calls Tryd.prog 6 #[Value.string x0] w (fun e w' => ∃ v, e = .returned v ∧ Q v w') := vcFn_sound noCount mixed ((F6.eq x0 w Q).symm ▸ h)
/-! ### function 7: stillage/stillageref08.Number -/
def F7.k12c (Q : Value → World → Prop) (C2 : (ByteArray × Int × Unit) → World → Prop) (C8 : (ByteArray × Int × Int × Int × Unit) → World → Prop) (x0 : ByteArray) (x4 : Int) (x6 : Int) (x7 : Int) (w : World) : Prop :=
  gd (decide (0 ≤ x7)) <|
  gd (decide (x7 < (x0.size : Int))) <|
  jnC C8 (x0, (x4), ((IntKind.wrap .i64 ((IntKind.wrap .i64 (x6 * 10)) + (IntKind.wrap .i64 (IntKind.wrap .u8 ((byteAt x0 (x7).toNat) - 48)))))), ((IntKind.wrap .i64 (x7 + 1))), ()) w
def F7.k12 (Q : Value → World → Prop) (C2 : (ByteArray × Int × Unit) → World → Prop) (C8 : (ByteArray × Int × Int × Int × Unit) → World → Prop) : (ByteArray × Int × Int × Int × Unit) → World → Prop := fun s w => ∀ _ : Nat → Value, F7.k12c Q C2 C8 s.1 s.2.1 s.2.2.1 s.2.2.2.1 w
def F7.b8c (Q : Value → World → Prop) (C2 : (ByteArray × Int × Unit) → World → Prop) (C8 : (ByteArray × Int × Int × Int × Unit) → World → Prop) (x0 : ByteArray) (x4 : Int) (x6 : Int) (x7 : Int) (w : World) : Prop :=
  vIf (decide (x7 < (x0.size : Int)))
  (gd (decide (0 ≤ x7)) <|
    gd (decide (x7 < (x0.size : Int))) <|
    vIf (decide ((byteAt x0 (x7).toNat) < 48))
    (Q (Value.tuple #[Value.int .i64 0, Value.int .i64 0]) w)
    (gd (decide (0 ≤ x7)) <|
      gd (decide (x7 < (x0.size : Int))) <|
      vIf (decide ((byteAt x0 (x7).toNat) > 57))
      (Q (Value.tuple #[Value.int .i64 0, Value.int .i64 0]) w)
      (jnC (F7.k12 Q C2 C8) (x0, (x4), (x6), (x7), ()) w)))
  (vIf (decide (x6 > 0))
    (Q (Value.tuple #[Value.int .i64 x4, Value.int .i64 x6]) w)
    (jnC C2 (x0, ((IntKind.wrap .i64 (x4 + 1))), ()) w))
def F7.b8 (Q : Value → World → Prop) (C2 : (ByteArray × Int × Unit) → World → Prop) : (ByteArray × Int × Int × Int × Unit) → World → ((ByteArray × Int × Int × Int × Unit) → World → Prop) → Prop := fun s w C8 => ∀ _ : Nat → Value, F7.b8c Q C2 C8 s.1 s.2.1 s.2.2.1 s.2.2.2.1 w
def F7.l8 (Q : Value → World → Prop) (C2 : (ByteArray × Int × Unit) → World → Prop) : (ByteArray × Int × Int × Int × Unit) → World → Prop := fun s w => ∃ n, loopC (F7.b8 Q C2) n s w
def F7.k6c (Q : Value → World → Prop) (C2 : (ByteArray × Int × Unit) → World → Prop) (x0 : ByteArray) (x4 : Int) (x5 : ByteArray) (w : World) : Prop :=
  jnC (F7.l8 Q C2) (x0, (x4), (0), ((x5.size : Int)), ()) w
def F7.k6 (Q : Value → World → Prop) (C2 : (ByteArray × Int × Unit) → World → Prop) : (ByteArray × Int × ByteArray × Unit) → World → Prop := fun s w => ∀ _ : Nat → Value, F7.k6c Q C2 s.1 s.2.1 s.2.2.1 w
def F7.b2c (Q : Value → World → Prop) (C2 : (ByteArray × Int × Unit) → World → Prop) (x0 : ByteArray) (x4 : Int) (w : World) : Prop :=
  vIf (decide (x4 < 4))
  (Calls Tryd.prog 18 #[] w fun e2 w1 =>
    ∃ (A3 : Option Addr) (n4 c5 : Nat), e2 = .returned (Value.slice A3 n4 c5) ∧ (
      dr A3 fun b6 o7 =>
      gd (decide (0 ≤ x4)) <|
      gd (decide (x4 < ((n4 : Nat) : Int))) <|
      ldS w1 b6 (o7 + (x4).toNat * 1) fun s8 =>
      vIf ((x0.size : Int) != (IntKind.wrap .i64 ((s8.size : Int) + 8)))
      (jnC C2 (x0, ((IntKind.wrap .i64 (x4 + 1))), ()) w1)
      (gd (decide (0 ≤ (s8.size : Int))) <|
        gd (decide ((s8.size : Int) ≤ ((x0.size : Nat) : Int))) <|
        vIf (!((x0.extract 0 ((s8.size : Int)).toNat).toList == s8.toList))
        (jnC C2 (x0, ((IntKind.wrap .i64 (x4 + 1))), ()) w1)
        (jnC (F7.k6 Q C2) (x0, (x4), s8, ()) w1))))
  (Q (Value.tuple #[Value.int .i64 0, Value.int .i64 0]) w)
def F7.b2 (Q : Value → World → Prop) : (ByteArray × Int × Unit) → World → ((ByteArray × Int × Unit) → World → Prop) → Prop := fun s w C2 => ∀ _ : Nat → Value, F7.b2c Q C2 s.1 s.2.1 w
def F7.l2 (Q : Value → World → Prop) : (ByteArray × Int × Unit) → World → Prop := fun s w => ∃ n, loopC (F7.b2 Q) n s w
def F7.vc (x0 : ByteArray) (w : World) (Q : Value → World → Prop) : Prop :=
  jnC (F7.l2 Q) (x0, (1), ()) w
def F7.an : Ann := ⟨[(2, [(0, .kS), (4, .kI .i64)]), (8, [(0, .kS), (4, .kI .i64), (6, .kI .i64), (7, .kI .i64)])], [(6, [(0, .kS), (4, .kI .i64), (5, .kS)]), (12, [(0, .kS), (4, .kI .i64), (6, .kI .i64), (7, .kI .i64)])]⟩
theorem F7.eq (x0 : ByteArray) (w : World) (Q : Value → World → Prop) : vcFn Tryd.prog F7.an 7 [Value.string x0] w Q = F7.vc x0 w Q := by kernel_rfl
theorem F7.of (x0 : ByteArray) (w : World) {Q : Value → World → Prop} (h : F7.vc x0 w Q) : Calls Tryd.prog 7 #[Value.string x0] w (fun e w' => ∃ v, e = .returned v ∧ Q v w') := vcFn_sound noCount mixed ((F7.eq x0 w Q).symm ▸ h)
/-! ### function 8: stillage/name.File -/
def F8.k4c (Q : Value → World → Prop) (x1 : Int) (x5 : ByteArray) (w : World) : Prop :=
  Calls Tryd.prog 19 #[Value.int .i64 x1] w fun e5 w4 =>
  ∃ s6 : ByteArray, e5 = .returned (Value.string s6) ∧ (
    Calls Tryd.prog 20 #[Value.string (⟨#[48]⟩ : ByteArray), Value.int .i64 (IntKind.wrap .i64 (8 - (s6.size : Int)))] w4 fun e8 w7 =>
    ∃ s9 : ByteArray, e8 = .returned (Value.string s9) ∧ (
      gd (decide (x5.size + s9.size ≤ 9223372036854775807)) <|
      gd (decide ((x5 ++ s9).size + s6.size ≤ 9223372036854775807)) <|
      Q (Value.string ((x5 ++ s9) ++ s6)) w7))
def F8.k4 (Q : Value → World → Prop) : (Int × ByteArray × Unit) → World → Prop := fun s w => ∀ _ : Nat → Value, F8.k4c Q s.1 s.2.1 w
def F8.vc (x0 : Int) (x1 : Int) (w : World) (Q : Value → World → Prop) : Prop :=
  Calls Tryd.prog 16 #[Value.int .i64 x0] w fun e2 w1 =>
  ∃ s3 : ByteArray, e2 = .returned (Value.string s3) ∧ (
    vIf (s3.toList == (⟨#[]⟩ : ByteArray).toList)
    (Q (Value.string (⟨#[]⟩ : ByteArray)) w1)
    (vIf (decide (x1 < 1))
      (Q (Value.string (⟨#[]⟩ : ByteArray)) w1)
      (vIf (decide (x1 > 99999999))
        (Q (Value.string (⟨#[]⟩ : ByteArray)) w1)
        (jnC (F8.k4 Q) ((x1), s3, ()) w1))))
def F8.an : Ann := ⟨[], [(4, [(1, .kI .i64), (5, .kS)])]⟩
theorem F8.eq (x0 : Int) (x1 : Int) (w : World) (Q : Value → World → Prop) : vcFn Tryd.prog F8.an 8 [Value.int .i64 x0, Value.int .i64 x1] w Q = F8.vc x0 x1 w Q := by kernel_rfl
theorem F8.of (x0 : Int) (x1 : Int) (w : World) {Q : Value → World → Prop} (h : F8.vc x0 x1 w Q) : Calls Tryd.prog 8 #[Value.int .i64 x0, Value.int .i64 x1] w (fun e w' => ∃ v, e = .returned v ∧ Q v w') := vcFn_sound noCount mixed ((F8.eq x0 x1 w Q).symm ▸ h)
/-! ### function 9: stillage/stillageref08.File -/
def F9.b5c (Q : Value → World → Prop) (C5 : (Int × Int × ByteArray × Int × Unit) → World → Prop) (x0 : Int) (x1 : Int) (x5 : ByteArray) (x6 : Int) (w : World) : Prop :=
  vIf (decide (x6 < 8))
  (nw w ([Value.int .u8 (IntKind.wrap .u8 (IntKind.wrap .i64 (48 + (Int.tmod x1 10))))] ++ []) 5 fun b1 w2 =>
    b2s w2 (some ⟨b1, 0, none⟩) 1 fun s3 =>
    gd (decide (s3.size + x5.size ≤ 9223372036854775807)) <|
    jnC C5 ((x0), ((IntKind.wrap .i64 (Int.tdiv x1 10))), (s3 ++ x5), ((IntKind.wrap .i64 (x6 + 1))), ()) w2)
  (Calls Tryd.prog 18 #[] w fun e5 w4 =>
    ∃ (A6 : Option Addr) (n7 c8 : Nat), e5 = .returned (Value.slice A6 n7 c8) ∧ (
      dr A6 fun b9 o10 =>
      gd (decide (0 ≤ x0)) <|
      gd (decide (x0 < ((n7 : Nat) : Int))) <|
      ldS w4 b9 (o10 + (x0).toNat * 1) fun s11 =>
      gd (decide (s11.size + x5.size ≤ 9223372036854775807)) <|
      Q (Value.string (s11 ++ x5)) w4))
def F9.b5 (Q : Value → World → Prop) : (Int × Int × ByteArray × Int × Unit) → World → ((Int × Int × ByteArray × Int × Unit) → World → Prop) → Prop := fun s w C5 => ∀ _ : Nat → Value, F9.b5c Q C5 s.1 s.2.1 s.2.2.1 s.2.2.2.1 w
def F9.l5 (Q : Value → World → Prop) : (Int × Int × ByteArray × Int × Unit) → World → Prop := fun s w => ∃ n, loopC (F9.b5 Q) n s w
def F9.k3c (Q : Value → World → Prop) (x0 : Int) (x1 : Int) (w : World) : Prop :=
  jnC (F9.l5 Q) ((x0), (x1), (⟨#[]⟩ : ByteArray), (0), ()) w
def F9.k3 (Q : Value → World → Prop) : (Int × Int × Unit) → World → Prop := fun s w => ∀ _ : Nat → Value, F9.k3c Q s.1 s.2.1 w
def F9.vc (x0 : Int) (x1 : Int) (w : World) (Q : Value → World → Prop) : Prop :=
  vIf (decide (x0 < 1))
  (Q (Value.string (⟨#[]⟩ : ByteArray)) w)
  (vIf (decide (x0 > 3))
    (Q (Value.string (⟨#[]⟩ : ByteArray)) w)
    (vIf (decide (x1 < 1))
      (Q (Value.string (⟨#[]⟩ : ByteArray)) w)
      (vIf (decide (x1 > 99999999))
        (Q (Value.string (⟨#[]⟩ : ByteArray)) w)
        (jnC (F9.k3 Q) ((x0), (x1), ()) w))))
def F9.an : Ann := ⟨[(5, [(0, .kI .i64), (1, .kI .i64), (5, .kS), (6, .kI .i64)])], [(3, [(0, .kI .i64), (1, .kI .i64)])]⟩
theorem F9.eq (x0 : Int) (x1 : Int) (w : World) (Q : Value → World → Prop) : vcFn Tryd.prog F9.an 9 [Value.int .i64 x0, Value.int .i64 x1] w Q = F9.vc x0 x1 w Q := by kernel_rfl
theorem F9.of (x0 : Int) (x1 : Int) (w : World) {Q : Value → World → Prop} (h : F9.vc x0 x1 w Q) : Calls Tryd.prog 9 #[Value.int .i64 x0, Value.int .i64 x1] w (fun e w' => ∃ v, e = .returned v ∧ Q v w') := vcFn_sound noCount mixed ((F9.eq x0 x1 w Q).symm ▸ h)
/-! ### function 10: stillage/stillagelaw08.lives -/
def F10.vc  (w : World) (Q : Value → World → Prop) : Prop :=
  Calls Tryd.prog 6 #[Value.string (⟨#[115, 101, 103, 45, 48, 48, 48, 48, 48, 48, 49, 50]⟩ : ByteArray)] w fun e2 w1 =>
  ∃ i3 : Int, ∃ i4 : Int, e2 = .returned (Value.tuple #[Value.int .i64 i3, Value.int .i64 i4]) ∧ (
    Calls Tryd.prog 8 #[Value.int .i64 1, Value.int .i64 12] w1 fun e6 w5 =>
    ∃ s7 : ByteArray, e6 = .returned (Value.string s7) ∧ (
      vIf (s7.toList == (⟨#[115, 101, 103, 45, 48, 48, 48, 48, 48, 48, 49, 50]⟩ : ByteArray).toList)
      (vIf (i3 == 1)
        (vIf (i4 == 12)
          (Calls Tryd.prog 11 #[Value.string (⟨#[118, 49, 46, 48]⟩ : ByteArray)] w5 fun e9 w8 =>
            ∃ t10 : Bool, e9 = .returned (Value.bool t10) ∧ (
              Q (Value.bool t10) w8))
          (Q (Value.bool false) w5))
        (Q (Value.bool false) w5))
      (Q (Value.bool false) w5)))
def F10.an : Ann := ⟨[], []⟩
theorem F10.eq  (w : World) (Q : Value → World → Prop) : vcFn Tryd.prog F10.an 10 [] w Q = F10.vc  w Q := by kernel_rfl
theorem F10.of  (w : World) {Q : Value → World → Prop} (h : F10.vc  w Q) : Calls Tryd.prog 10 #[] w (fun e w' => ∃ v, e = .returned v ∧ Q v w') := vcFn_sound noCount mixed ((F10.eq  w Q).symm ▸ h)
/-! ### function 11: stillage/name.Tag -/
def F11.b4c (Q : Value → World → Prop) (C4 : (ByteArray × Int × Int × Unit) → World → Prop) (x0 : ByteArray) (x19 : Int) (x20 : Int) (w : World) : Prop :=
  vIf (decide (x20 < x19))
  (gd (decide (0 ≤ x20)) <|
    gd (decide (x20 < (x0.size : Int))) <|
    Calls Tryd.prog 21 #[Value.int .u8 (byteAt x0 (x20).toNat)] w fun e5 w4 =>
    ∃ t6 : Bool, e5 = .returned (Value.bool t6) ∧ (
      vIf (!t6)
      (vIf ((byteAt x0 (x20).toNat) != 46)
        (vIf ((byteAt x0 (x20).toNat) != 95)
          (vIf ((byteAt x0 (x20).toNat) != 45)
            (Q (Value.bool false) w4)
            (jnC C4 (x0, (x19), ((IntKind.wrap .i64 (x20 + 1))), ()) w4))
          (jnC C4 (x0, (x19), ((IntKind.wrap .i64 (x20 + 1))), ()) w4))
        (jnC C4 (x0, (x19), ((IntKind.wrap .i64 (x20 + 1))), ()) w4))
      (jnC C4 (x0, (x19), ((IntKind.wrap .i64 (x20 + 1))), ()) w4)))
  (Q (Value.bool true) w)
def F11.b4 (Q : Value → World → Prop) : (ByteArray × Int × Int × Unit) → World → ((ByteArray × Int × Int × Unit) → World → Prop) → Prop := fun s w C4 => ∀ _ : Nat → Value, F11.b4c Q C4 s.1 s.2.1 s.2.2.1 w
def F11.l4 (Q : Value → World → Prop) : (ByteArray × Int × Int × Unit) → World → Prop := fun s w => ∃ n, loopC (F11.b4 Q) n s w
def F11.k3c (Q : Value → World → Prop) (x0 : ByteArray) (w : World) : Prop :=
  jnC (F11.l4 Q) (x0, ((x0.size : Int)), (0), ()) w
def F11.k3 (Q : Value → World → Prop) : (ByteArray × Unit) → World → Prop := fun s w => ∀ _ : Nat → Value, F11.k3c Q s.1 w
def F11.vc (x0 : ByteArray) (w : World) (Q : Value → World → Prop) : Prop :=
  vIf (x0.toList == (⟨#[]⟩ : ByteArray).toList)
  (Q (Value.bool false) w)
  (vIf (decide ((x0.size : Int) > 32))
    (Q (Value.bool false) w)
    (gd (decide ((0 : Int) < (x0.size : Int))) <|
      Calls Tryd.prog 21 #[Value.int .u8 (byteAt x0 0)] w fun e2 w1 =>
      ∃ t3 : Bool, e2 = .returned (Value.bool t3) ∧ (
        vIf (!t3)
        (Q (Value.bool false) w1)
        (jnC (F11.k3 Q) (x0, ()) w1))))
def F11.an : Ann := ⟨[(4, [(0, .kS), (19, .kI .i64), (20, .kI .i64)])], [(3, [(0, .kS)])]⟩
theorem F11.eq (x0 : ByteArray) (w : World) (Q : Value → World → Prop) : vcFn Tryd.prog F11.an 11 [Value.string x0] w Q = F11.vc x0 w Q := by kernel_rfl
theorem F11.of (x0 : ByteArray) (w : World) {Q : Value → World → Prop} (h : F11.vc x0 w Q) : Calls Tryd.prog 11 #[Value.string x0] w (fun e w' => ∃ v, e = .returned v ∧ Q v w') := vcFn_sound noCount mixed ((F11.eq x0 w Q).symm ▸ h)
/-! ### function 12: stillage/stillageref08.Tag -/
def F12.b3c (Q : Value → World → Prop) (C3 : (ByteArray × ByteArray × Int × Unit) → World → Prop) (x0 : ByteArray) (x3 : ByteArray) (x4 : Int) (w : World) : Prop :=
  vIf (decide (x4 < (x0.size : Int)))
  (gd (decide (0 ≤ x4)) <|
    gd (decide (x4 < (x0.size : Int))) <|
    Calls Tryd.prog 22 #[Value.int .u8 (byteAt x0 (x4).toNat), Value.string x3] w fun e2 w1 =>
    ∃ t3 : Bool, e2 = .returned (Value.bool t3) ∧ (
      vIf (!t3)
      (vIf (x4 == 0)
        (Q (Value.bool false) w1)
        (gd (decide (0 ≤ x4)) <|
          gd (decide (x4 < (x0.size : Int))) <|
          Calls Tryd.prog 22 #[Value.int .u8 (byteAt x0 (x4).toNat), Value.string (⟨#[46, 95, 45]⟩ : ByteArray)] w1 fun e5 w4 =>
          ∃ t6 : Bool, e5 = .returned (Value.bool t6) ∧ (
            vIf (!t6)
            (Q (Value.bool false) w4)
            (jnC C3 (x0, x3, ((IntKind.wrap .i64 (x4 + 1))), ()) w4))))
      (jnC C3 (x0, x3, ((IntKind.wrap .i64 (x4 + 1))), ()) w1)))
  (vIf (decide ((x0.size : Int) ≥ 1))
    (Q (Value.bool (decide ((x0.size : Int) ≤ 32))) w)
    (Q (Value.bool false) w))
def F12.b3 (Q : Value → World → Prop) : (ByteArray × ByteArray × Int × Unit) → World → ((ByteArray × ByteArray × Int × Unit) → World → Prop) → Prop := fun s w C3 => ∀ _ : Nat → Value, F12.b3c Q C3 s.1 s.2.1 s.2.2.1 w
def F12.l3 (Q : Value → World → Prop) : (ByteArray × ByteArray × Int × Unit) → World → Prop := fun s w => ∃ n, loopC (F12.b3 Q) n s w
def F12.vc (x0 : ByteArray) (w : World) (Q : Value → World → Prop) : Prop :=
  jnC (F12.l3 Q) (x0, (⟨#[97, 98, 99, 100, 101, 102, 103, 104, 105, 106, 107, 108, 109, 110, 111, 112, 113, 114, 115, 116, 117, 118, 119, 120, 121, 122, 48, 49, 50, 51, 52, 53, 54, 55, 56, 57]⟩ : ByteArray), (0), ()) w
def F12.an : Ann := ⟨[(3, [(0, .kS), (3, .kS), (4, .kI .i64)])], []⟩
theorem F12.eq (x0 : ByteArray) (w : World) (Q : Value → World → Prop) : vcFn Tryd.prog F12.an 12 [Value.string x0] w Q = F12.vc x0 w Q := by kernel_rfl
theorem F12.of (x0 : ByteArray) (w : World) {Q : Value → World → Prop} (h : F12.vc x0 w Q) : Calls Tryd.prog 12 #[Value.string x0] w (fun e w' => ∃ v, e = .returned v ∧ Q v w') := vcFn_sound noCount mixed ((F12.eq x0 w Q).symm ▸ h)
/-! ### function 13: stillage/name.Disk -/
def F13.b4c (Q : Value → World → Prop) (C4 : (ByteArray × Int × Int × Unit) → World → Prop) (x0 : ByteArray) (x13 : Int) (x14 : Int) (w : World) : Prop :=
  vIf (decide (x14 < x13))
  (gd (decide (0 ≤ x14)) <|
    gd (decide (x14 < (x0.size : Int))) <|
    vIf (decide ((byteAt x0 (x14).toNat) < 33))
    (Q (Value.bool false) w)
    (vIf (decide ((byteAt x0 (x14).toNat) > 126))
      (Q (Value.bool false) w)
      (vIf ((byteAt x0 (x14).toNat) == 47)
        (Q (Value.bool false) w)
        (jnC C4 (x0, (x13), ((IntKind.wrap .i64 (x14 + 1))), ()) w))))
  (Q (Value.bool true) w)
def F13.b4 (Q : Value → World → Prop) : (ByteArray × Int × Int × Unit) → World → ((ByteArray × Int × Int × Unit) → World → Prop) → Prop := fun s w C4 => ∀ _ : Nat → Value, F13.b4c Q C4 s.1 s.2.1 s.2.2.1 w
def F13.l4 (Q : Value → World → Prop) : (ByteArray × Int × Int × Unit) → World → Prop := fun s w => ∃ n, loopC (F13.b4 Q) n s w
def F13.k3c (Q : Value → World → Prop) (x0 : ByteArray) (w : World) : Prop :=
  jnC (F13.l4 Q) (x0, ((x0.size : Int)), (0), ()) w
def F13.k3 (Q : Value → World → Prop) : (ByteArray × Unit) → World → Prop := fun s w => ∀ _ : Nat → Value, F13.k3c Q s.1 w
def F13.vc (x0 : ByteArray) (w : World) (Q : Value → World → Prop) : Prop :=
  vIf (x0.toList == (⟨#[]⟩ : ByteArray).toList)
  (Q (Value.bool false) w)
  (vIf (decide ((x0.size : Int) > 32))
    (Q (Value.bool false) w)
    (jnC (F13.k3 Q) (x0, ()) w))
def F13.an : Ann := ⟨[(4, [(0, .kS), (13, .kI .i64), (14, .kI .i64)])], [(3, [(0, .kS)])]⟩
theorem F13.eq (x0 : ByteArray) (w : World) (Q : Value → World → Prop) : vcFn Tryd.prog F13.an 13 [Value.string x0] w Q = F13.vc x0 w Q := by kernel_rfl
theorem F13.of (x0 : ByteArray) (w : World) {Q : Value → World → Prop} (h : F13.vc x0 w Q) : Calls Tryd.prog 13 #[Value.string x0] w (fun e w' => ∃ v, e = .returned v ∧ Q v w') := vcFn_sound noCount mixed ((F13.eq x0 w Q).symm ▸ h)
/-! ### function 14: stillage/stillageref08.Disk -/
def F14.b2c (Q : Value → World → Prop) (C2 : (ByteArray × Int × Unit) → World → Prop) (x0 : ByteArray) (x3 : Int) (w : World) : Prop :=
  vIf (decide (x3 < (x0.size : Int)))
  (gd (decide (0 ≤ x3)) <|
    gd (decide (x3 < (x0.size : Int))) <|
    vIf (decide ((byteAt x0 (x3).toNat) ≤ 32))
    (Q (Value.bool false) w)
    (gd (decide (0 ≤ x3)) <|
      gd (decide (x3 < (x0.size : Int))) <|
      vIf (decide ((byteAt x0 (x3).toNat) ≥ 127))
      (Q (Value.bool false) w)
      (gd (decide (0 ≤ x3)) <|
        gd (decide (x3 < (x0.size : Int))) <|
        vIf ((byteAt x0 (x3).toNat) == 47)
        (Q (Value.bool false) w)
        (jnC C2 (x0, ((IntKind.wrap .i64 (x3 + 1))), ()) w))))
  (vIf (decide ((x0.size : Int) ≥ 1))
    (Q (Value.bool (decide ((x0.size : Int) ≤ 32))) w)
    (Q (Value.bool false) w))
def F14.b2 (Q : Value → World → Prop) : (ByteArray × Int × Unit) → World → ((ByteArray × Int × Unit) → World → Prop) → Prop := fun s w C2 => ∀ _ : Nat → Value, F14.b2c Q C2 s.1 s.2.1 w
def F14.l2 (Q : Value → World → Prop) : (ByteArray × Int × Unit) → World → Prop := fun s w => ∃ n, loopC (F14.b2 Q) n s w
def F14.vc (x0 : ByteArray) (w : World) (Q : Value → World → Prop) : Prop :=
  jnC (F14.l2 Q) (x0, (0), ()) w
def F14.an : Ann := ⟨[(2, [(0, .kS), (3, .kI .i64)])], []⟩
theorem F14.eq (x0 : ByteArray) (w : World) (Q : Value → World → Prop) : vcFn Tryd.prog F14.an 14 [Value.string x0] w Q = F14.vc x0 w Q := by kernel_rfl
theorem F14.of (x0 : ByteArray) (w : World) {Q : Value → World → Prop} (h : F14.vc x0 w Q) : Calls Tryd.prog 14 #[Value.string x0] w (fun e w' => ∃ v, e = .returned v ∧ Q v w') := vcFn_sound noCount mixed ((F14.eq x0 w Q).symm ▸ h)
/-! ### function 16: stillage/name.word -/
def F16.k4c (Q : Value → World → Prop) (x0 : Int) (x3 : (Nat × Nat)) (w : World) : Prop :=
  gd (decide (0 ≤ x0)) <|
  gd (decide (x0 < 4)) <|
  ldS w x3.1 (x3.2 + (x0).toNat * 1) fun s4 =>
  Q (Value.string s4) w
def F16.k4 (Q : Value → World → Prop) : (Int × (Nat × Nat) × Unit) → World → Prop := fun s w => ∀ _ : Nat → Value, F16.k4c Q s.1 s.2.1 w
def F16.vc (x0 : Int) (w : World) (Q : Value → World → Prop) : Prop :=
  nw w Z41 41 fun b1 w2 =>
  gd (([Value.string (⟨#[]⟩ : ByteArray)] ++ ([Value.string (⟨#[115, 101, 103, 45]⟩ : ByteArray)] ++ ([Value.string (⟨#[104, 105, 110, 116, 45]⟩ : ByteArray)] ++ ([Value.string (⟨#[112, 111, 105, 110, 116, 45]⟩ : ByteArray)] ++ [])))).length == 4) <|
  st w2 b1 0 ([Value.string (⟨#[]⟩ : ByteArray)] ++ ([Value.string (⟨#[115, 101, 103, 45]⟩ : ByteArray)] ++ ([Value.string (⟨#[104, 105, 110, 116, 45]⟩ : ByteArray)] ++ ([Value.string (⟨#[112, 111, 105, 110, 116, 45]⟩ : ByteArray)] ++ [])))) fun w3 =>
  vIf (decide (x0 ≤ 0))
  (Q (Value.string (⟨#[]⟩ : ByteArray)) w3)
  (vIf (decide (x0 ≥ 4))
    (Q (Value.string (⟨#[]⟩ : ByteArray)) w3)
    (jnC (F16.k4 Q) ((x0), (b1, 0), ()) w3))
def F16.an : Ann := ⟨[], [(4, [(0, .kI .i64), (3, .kL)])]⟩
theorem F16.eq (x0 : Int) (w : World) (Q : Value → World → Prop) : vcFn Tryd.prog F16.an 16 [Value.int .i64 x0] w Q = F16.vc x0 w Q := by kernel_rfl
theorem F16.of (x0 : Int) (w : World) {Q : Value → World → Prop} (h : F16.vc x0 w Q) : Calls Tryd.prog 16 #[Value.int .i64 x0] w (fun e w' => ∃ v, e = .returned v ∧ Q v w') := vcFn_sound noCount mixed ((F16.eq x0 w Q).symm ▸ h)
/-! ### function 18: stillage/stillageref08.words -/
def F18.vc  (w : World) (Q : Value → World → Prop) : Prop :=
  nw w ([Value.string (⟨#[]⟩ : ByteArray)] ++ ([Value.string (⟨#[115, 101, 103, 45]⟩ : ByteArray)] ++ ([Value.string (⟨#[104, 105, 110, 116, 45]⟩ : ByteArray)] ++ ([Value.string (⟨#[112, 111, 105, 110, 116, 45]⟩ : ByteArray)] ++ [])))) 9 fun b1 w2 =>
  Q (Value.slice (some ⟨b1, 0, none⟩) 4 4) w2
def F18.an : Ann := ⟨[], []⟩
theorem F18.eq  (w : World) (Q : Value → World → Prop) : vcFn Tryd.prog F18.an 18 [] w Q = F18.vc  w Q := by kernel_rfl
theorem F18.of  (w : World) {Q : Value → World → Prop} (h : F18.vc  w Q) : Calls Tryd.prog 18 #[] w (fun e w' => ∃ v, e = .returned v ∧ Q v w') := vcFn_sound noCount mixed ((F18.eq  w Q).symm ▸ h)
/-! ### function 21: stillage/name.plain -/
def F21.vc (x0 : Int) (w : World) (Q : Value → World → Prop) : Prop :=
  vIf (decide (x0 ≥ 97))
  (vIf (decide (x0 ≤ 122))
    (Q (Value.bool true) w)
    (vIf (decide (x0 ≥ 48))
      (Q (Value.bool (decide (x0 ≤ 57))) w)
      (Q (Value.bool false) w)))
  (vIf (decide (x0 ≥ 48))
    (Q (Value.bool (decide (x0 ≤ 57))) w)
    (Q (Value.bool false) w))
def F21.an : Ann := ⟨[], []⟩
theorem F21.eq (x0 : Int) (w : World) (Q : Value → World → Prop) : vcFn Tryd.prog F21.an 21 [Value.int .u8 x0] w Q = F21.vc x0 w Q := by kernel_rfl
theorem F21.of (x0 : Int) (w : World) {Q : Value → World → Prop} (h : F21.vc x0 w Q) : Calls Tryd.prog 21 #[Value.int .u8 x0] w (fun e w' => ∃ v, e = .returned v ∧ Q v w') := vcFn_sound noCount mixed ((F21.eq x0 w Q).symm ▸ h)
/-! ### function 22: stillage/stillageref08.one -/
def F22.b2c (Q : Value → World → Prop) (C2 : (Int × ByteArray × Int × Unit) → World → Prop) (x0 : Int) (x1 : ByteArray) (x5 : Int) (w : World) : Prop :=
  vIf (decide (x5 < (x1.size : Int)))
  (gd (decide (0 ≤ x5)) <|
    gd (decide (x5 < (x1.size : Int))) <|
    vIf ((byteAt x1 (x5).toNat) == x0)
    (Q (Value.bool true) w)
    (jnC C2 ((x0), x1, ((IntKind.wrap .i64 (x5 + 1))), ()) w))
  (Q (Value.bool false) w)
def F22.b2 (Q : Value → World → Prop) : (Int × ByteArray × Int × Unit) → World → ((Int × ByteArray × Int × Unit) → World → Prop) → Prop := fun s w C2 => ∀ _ : Nat → Value, F22.b2c Q C2 s.1 s.2.1 s.2.2.1 w
def F22.l2 (Q : Value → World → Prop) : (Int × ByteArray × Int × Unit) → World → Prop := fun s w => ∃ n, loopC (F22.b2 Q) n s w
def F22.vc (x0 : Int) (x1 : ByteArray) (w : World) (Q : Value → World → Prop) : Prop :=
  jnC (F22.l2 Q) ((x0), x1, (0), ()) w
def F22.an : Ann := ⟨[(2, [(0, .kI .u8), (1, .kS), (5, .kI .i64)])], []⟩
theorem F22.eq (x0 : Int) (x1 : ByteArray) (w : World) (Q : Value → World → Prop) : vcFn Tryd.prog F22.an 22 [Value.int .u8 x0, Value.string x1] w Q = F22.vc x0 x1 w Q := by kernel_rfl
theorem F22.of (x0 : Int) (x1 : ByteArray) (w : World) {Q : Value → World → Prop} (h : F22.vc x0 x1 w Q) : Calls Tryd.prog 22 #[Value.int .u8 x0, Value.string x1] w (fun e w' => ∃ v, e = .returned v ∧ Q v w') := vcFn_sound noCount mixed ((F22.eq x0 x1 w Q).symm ▸ h)
end Go.Proofs.YthebinboklhdhaaDoor
