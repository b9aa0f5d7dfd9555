/- PRINTED BY MY OWN gen.py out of the translation: each function as a proposition. -/
import Derived.Test.YtbcbpgfjmcmclaaProg
import Derived.Test.YtbcbpgfjmcmclaaG7
namespace Go.Proofs.Ytbcbpgfjmcmclaa
open Go.GV
set_option linter.unusedVariables false
set_option maxRecDepth 100000
theorem noCount : NoCount Try.prog := noCount_of (by kernel_rfl)
theorem mixed : Try.prog.follows .mixedOrders = true := by kernel_rfl
def Z28 : List Value := [Value.int .u8 0, Value.int .u8 0, Value.int .u8 0, Value.int .u8 0, Value.int .u8 0, Value.int .u8 0, Value.int .u8 0, Value.int .u8 0, Value.int .u8 0, Value.int .u8 0, Value.int .u8 0, Value.int .u8 0, Value.int .u8 0, Value.int .u8 0, Value.int .u8 0, Value.int .u8 0, Value.int .u8 0, Value.int .u8 0, Value.int .u8 0, Value.int .u8 0, Value.int .u8 0, Value.int .u8 0, Value.int .u8 0, Value.int .u8 0, Value.int .u8 0, Value.int .u8 0, Value.int .u8 0, Value.int .u8 0, Value.int .u8 0, Value.int .u8 0, Value.int .u8 0, Value.int .u8 0]
def Z59 : List Value := [Value.bool false, Value.int .u8 0, Value.int .u8 0, Value.int .u8 0, Value.int .u8 0, Value.int .u8 0, Value.int .u8 0, Value.int .u8 0, Value.int .u8 0, Value.int .u8 0, Value.int .u8 0, Value.int .u8 0, Value.int .u8 0, Value.int .u8 0, Value.int .u8 0, Value.int .u8 0, Value.int .u8 0, Value.int .u8 0, Value.int .u8 0, Value.int .u8 0, Value.int .u8 0, Value.int .u8 0, Value.int .u8 0, Value.int .u8 0, Value.int .u8 0, Value.int .u8 0, Value.int .u8 0, Value.int .u8 0, Value.int .u8 0, Value.int .u8 0, Value.int .u8 0, Value.int .u8 0, Value.int .u8 0, Value.int .i64 0]
def Z66 : List Value := [Value.bool false, Value.int .u8 0, Value.int .u8 0, Value.int .u8 0, Value.int .u8 0, Value.int .u8 0, Value.int .u8 0, Value.int .u8 0, Value.int .u8 0, Value.int .u8 0, Value.int .u8 0, Value.int .u8 0, Value.int .u8 0, Value.int .u8 0, Value.int .u8 0, Value.int .u8 0, Value.int .u8 0, Value.int .u8 0, Value.int .u8 0, Value.int .u8 0, Value.int .u8 0, Value.int .u8 0, Value.int .u8 0, Value.int .u8 0, Value.int .u8 0, Value.int .u8 0, Value.int .u8 0, Value.int .u8 0, Value.int .u8 0, Value.int .u8 0, Value.int .u8 0, Value.int .u8 0, Value.int .u8 0, Value.string (⟨#[]⟩ : ByteArray)]
/-! ### function 3: stillage/stillagelaw18.SlotsMany -/
def F3.k11c (Q : Value → World → Prop) (C9 : (Int × Int × Int × Option Addr × Int × Unit) → World → Prop) (x0 : Int) (x1 : Int) (x2 : Int) (x7 : Option Addr) (x9 : Int) (w : World) : Prop :=
  Calls Try.prog 9 #[Value.pointer x7, ofL ([Value.int .u8 x2] ++ ([Value.int .u8 0] ++ ([Value.int .u8 (IntKind.wrap .u8 x9)] ++ ([Value.int .u8 (IntKind.wrap .u8 (Int.fdiv x9 (2 ^ 8)))] ++ ([Value.int .u8 0] ++ ([Value.int .u8 0] ++ ([Value.int .u8 0] ++ ([Value.int .u8 0] ++ ([Value.int .u8 0] ++ ([Value.int .u8 0] ++ ([Value.int .u8 0] ++ ([Value.int .u8 0] ++ ([Value.int .u8 0] ++ ([Value.int .u8 0] ++ ([Value.int .u8 0] ++ ([Value.int .u8 0] ++ ([Value.int .u8 0] ++ ([Value.int .u8 0] ++ ([Value.int .u8 0] ++ ([Value.int .u8 0] ++ ([Value.int .u8 0] ++ ([Value.int .u8 0] ++ ([Value.int .u8 0] ++ ([Value.int .u8 0] ++ ([Value.int .u8 0] ++ ([Value.int .u8 0] ++ ([Value.int .u8 0] ++ ([Value.int .u8 0] ++ ([Value.int .u8 0] ++ ([Value.int .u8 0] ++ ([Value.int .u8 0] ++ ([Value.int .u8 0] ++ []))))))))))))))))))))))))))))))))] w fun e13 w12 =>
  ∃ t14 : Bool, e13 = .returned (Value.bool t14) ∧ (
    vIf (!t14)
    (Q (Value.bool false) w12)
    (jnC C9 ((x0), (x1), (x2), x7, ((IntKind.wrap .i64 (x9 + 1))), ()) w12))
def F3.k11 (Q : Value → World → Prop) (C9 : (Int × Int × Int × Option Addr × Int × Unit) → World → Prop) : (Int × Int × Int × Option Addr × Int × Unit) → World → Prop := fun s w => ∀ _ : Nat → Value, F3.k11c Q C9 s.1 s.2.1 s.2.2.1 s.2.2.2.1 s.2.2.2.2.1 w
def F3.b15c (Q : Value → World → Prop) (C15 : (Int × Int × Int × Option Addr × Int × Int × Unit) → World → Prop) (x0 : Int) (x1 : Int) (x2 : Int) (x7 : Option Addr) (x10 : Int) (x11 : Int) (w : World) : Prop :=
  vIf (decide (x11 < x0))
  (Calls Try.prog 10 #[Value.pointer x7, ofL ([Value.int .u8 x2] ++ ([Value.int .u8 0] ++ ([Value.int .u8 (IntKind.wrap .u8 x11)] ++ ([Value.int .u8 (IntKind.wrap .u8 (Int.fdiv x11 (2 ^ 8)))] ++ ([Value.int .u8 0] ++ ([Value.int .u8 0] ++ ([Value.int .u8 0] ++ ([Value.int .u8 0] ++ ([Value.int .u8 0] ++ ([Value.int .u8 0] ++ ([Value.int .u8 0] ++ ([Value.int .u8 0] ++ ([Value.int .u8 0] ++ ([Value.int .u8 0] ++ ([Value.int .u8 0] ++ ([Value.int .u8 0] ++ ([Value.int .u8 0] ++ ([Value.int .u8 0] ++ ([Value.int .u8 0] ++ ([Value.int .u8 0] ++ ([Value.int .u8 0] ++ ([Value.int .u8 0] ++ ([Value.int .u8 0] ++ ([Value.int .u8 0] ++ ([Value.int .u8 0] ++ ([Value.int .u8 0] ++ ([Value.int .u8 0] ++ ([Value.int .u8 0] ++ ([Value.int .u8 0] ++ ([Value.int .u8 0] ++ ([Value.int .u8 0] ++ ([Value.int .u8 0] ++ []))))))))))))))))))))))))))))))))] w fun e16 w15 =>
    ∃ i17 : Int, ∃ t18 : Bool, e16 = .returned (Value.tuple #[Value.int .i64 i17, Value.bool t18]) ∧ (
      vIf (!(t18 == (decide (x11 ≥ x1))))
      (Q (Value.bool false) w15)
      (vIf t18
        (vIf (i17 != x11)
          (Q (Value.bool false) w15)
          (vIf t18
            (jnC C15 ((x0), (x1), (x2), x7, ((IntKind.wrap .i64 (x10 + 1))), ((IntKind.wrap .i64 (x11 + 1))), ()) w15)
            (jnC C15 ((x0), (x1), (x2), x7, (x10), ((IntKind.wrap .i64 (x11 + 1))), ()) w15)))
        (vIf t18
          (jnC C15 ((x0), (x1), (x2), x7, ((IntKind.wrap .i64 (x10 + 1))), ((IntKind.wrap .i64 (x11 + 1))), ()) w15)
          (jnC C15 ((x0), (x1), (x2), x7, (x10), ((IntKind.wrap .i64 (x11 + 1))), ()) w15)))))
  (Calls Try.prog 11 #[Value.pointer x7] w fun e20 w19 =>
    ∃ i21 : Int, e20 = .returned (Value.int .i64 i21) ∧ (
      vIf (i21 == x10)
      (Calls Try.prog 12 #[Value.pointer x7] w19 fun e23 w22 =>
        ∃ i24 : Int, e23 = .returned (Value.int .i64 i24) ∧ (
          vIf (decide ((IntKind.wrap .i64 (4 * x10)) ≤ (IntKind.wrap .i64 (3 * i24))))
          (Calls Try.prog 6 #[] w22 fun e26 w25 =>
            ∃ t27 : Bool, e26 = .returned (Value.bool t27) ∧ (
              Q (Value.bool t27) w25))
          (Q (Value.bool false) w22)))
      (Q (Value.bool false) w19)))
def F3.b15 (Q : Value → World → Prop) : (Int × Int × Int × Option Addr × Int × Int × Unit) → World → ((Int × Int × Int × Option Addr × Int × Int × Unit) → World → Prop) → Prop := fun s w C15 => ∀ _ : Nat → Value, F3.b15c Q C15 s.1 s.2.1 s.2.2.1 s.2.2.2.1 s.2.2.2.2.1 s.2.2.2.2.2.1 w
def F3.l15 (Q : Value → World → Prop) : (Int × Int × Int × Option Addr × Int × Int × Unit) → World → Prop := fun s w => ∃ n, loopC (F3.b15 Q) n s w
def F3.k13c (Q : Value → World → Prop) (x0 : Int) (x1 : Int) (x2 : Int) (x7 : Option Addr) (w : World) : Prop :=
  jnC (F3.l15 Q) ((x0), (x1), (x2), x7, (0), (0), ()) w
def F3.k13 (Q : Value → World → Prop) : (Int × Int × Int × Option Addr × Unit) → World → Prop := fun s w => ∀ _ : Nat → Value, F3.k13c Q s.1 s.2.1 s.2.2.1 s.2.2.2.1 w
def F3.b9c (Q : Value → World → Prop) (C9 : (Int × Int × Int × Option Addr × Int × Unit) → World → Prop) (x0 : Int) (x1 : Int) (x2 : Int) (x7 : Option Addr) (x9 : Int) (w : World) : Prop :=
  vIf (decide (x9 < x0))
  (vIf (decide (x9 < x1))
    (jnC (F3.k11 Q C9) ((x0), (x1), (x2), x7, (x9), ()) w)
    (jnC (F3.k13 Q) ((x0), (x1), (x2), x7, ()) w))
  (jnC (F3.k13 Q) ((x0), (x1), (x2), x7, ()) w)
def F3.b9 (Q : Value → World → Prop) : (Int × Int × Int × Option Addr × Int × Unit) → World → ((Int × Int × Int × Option Addr × Int × Unit) → World → Prop) → Prop := fun s w C9 => ∀ _ : Nat → Value, F3.b9c Q C9 s.1 s.2.1 s.2.2.1 s.2.2.2.1 s.2.2.2.2.1 w
def F3.l9 (Q : Value → World → Prop) : (Int × Int × Int × Option Addr × Int × Unit) → World → Prop := fun s w => ∃ n, loopC (F3.b9 Q) n s w
def F3.b5c (Q : Value → World → Prop) (C5 : (Int × Int × Int × Option Addr × Int × Unit) → World → Prop) (x0 : Int) (x1 : Int) (x2 : Int) (x7 : Option Addr) (x8 : Int) (w : World) : Prop :=
  vIf (decide (x8 < x0))
  (Calls Try.prog 8 #[Value.pointer x7, ofL ([Value.int .u8 x2] ++ ([Value.int .u8 0] ++ ([Value.int .u8 (IntKind.wrap .u8 x8)] ++ ([Value.int .u8 (IntKind.wrap .u8 (Int.fdiv x8 (2 ^ 8)))] ++ ([Value.int .u8 0] ++ ([Value.int .u8 0] ++ ([Value.int .u8 0] ++ ([Value.int .u8 0] ++ ([Value.int .u8 0] ++ ([Value.int .u8 0] ++ ([Value.int .u8 0] ++ ([Value.int .u8 0] ++ ([Value.int .u8 0] ++ ([Value.int .u8 0] ++ ([Value.int .u8 0] ++ ([Value.int .u8 0] ++ ([Value.int .u8 0] ++ ([Value.int .u8 0] ++ ([Value.int .u8 0] ++ ([Value.int .u8 0] ++ ([Value.int .u8 0] ++ ([Value.int .u8 0] ++ ([Value.int .u8 0] ++ ([Value.int .u8 0] ++ ([Value.int .u8 0] ++ ([Value.int .u8 0] ++ ([Value.int .u8 0] ++ ([Value.int .u8 0] ++ ([Value.int .u8 0] ++ ([Value.int .u8 0] ++ ([Value.int .u8 0] ++ ([Value.int .u8 0] ++ [])))))))))))))))))))))))))))))))), Value.int .i64 x8] w fun e11 w10 =>
    e11 = .returned (Value.tuple #[]) ∧ (
      jnC C5 ((x0), (x1), (x2), x7, ((IntKind.wrap .i64 (x8 + 1))), ()) w10))
  (jnC (F3.l9 Q) ((x0), (x1), (x2), x7, (0), ()) w)
def F3.b5 (Q : Value → World → Prop) : (Int × Int × Int × Option Addr × Int × Unit) → World → ((Int × Int × Int × Option Addr × Int × Unit) → World → Prop) → Prop := fun s w C5 => ∀ _ : Nat → Value, F3.b5c Q C5 s.1 s.2.1 s.2.2.1 s.2.2.2.1 s.2.2.2.2.1 w
def F3.l5 (Q : Value → World → Prop) : (Int × Int × Int × Option Addr × Int × Unit) → World → Prop := fun s w => ∃ n, loopC (F3.b5 Q) n s w
def F3.k3c (Q : Value → World → Prop) (x0 : Int) (x1 : Int) (x2 : Int) (w : World) : Prop :=
  Calls Try.prog 7 #[] w fun e8 w7 =>
  ∃ p9 : Option Addr, e8 = .returned (Value.pointer p9) ∧ (
    jnC (F3.l5 Q) ((x0), (x1), (x2), p9, (0), ()) w7)
def F3.k3 (Q : Value → World → Prop) : (Int × Int × Int × Unit) → World → Prop := fun s w => ∀ _ : Nat → Value, F3.k3c Q s.1 s.2.1 s.2.2.1 w
def F3.vc (x0 : Int) (x1 : Int) (x2 : Int) (w : World) (Q : Value → World → Prop) : Prop :=
  vIf (decide (x0 < 0))
  (Calls Try.prog 6 #[] w fun e2 w1 =>
    ∃ t3 : Bool, e2 = .returned (Value.bool t3) ∧ (
      Q (Value.bool t3) w1))
  (vIf (decide (x0 > 600))
    (Calls Try.prog 6 #[] w fun e5 w4 =>
      ∃ t6 : Bool, e5 = .returned (Value.bool t6) ∧ (
        Q (Value.bool t6) w4))
    (jnC (F3.k3 Q) ((x0), (x1), (x2), ()) w))
def F3.an : Ann := ⟨[(5, [(0, .kI .i64), (1, .kI .i64), (2, .kI .u8), (7, .kP), (8, .kI .i64)]), (9, [(0, .kI .i64), (1, .kI .i64), (2, .kI .u8), (7, .kP), (9, .kI .i64)]), (15, [(0, .kI .i64), (1, .kI .i64), (2, .kI .u8), (7, .kP), (10, .kI .i64), (11, .kI .i64)])], [(3, [(0, .kI .i64), (1, .kI .i64), (2, .kI .u8)]), (11, [(0, .kI .i64), (1, .kI .i64), (2, .kI .u8), (7, .kP), (9, .kI .i64)]), (13, [(0, .kI .i64), (1, .kI .i64), (2, .kI .u8), (7, .kP)])]⟩
theorem F3.eq (x0 : Int) (x1 : Int) (x2 : Int) (w : World) (Q : Value → World → Prop) : vcFn Try.prog F3.an 3 [Value.int .i64 x0, Value.int .i64 x1, Value.int .u8 x2] w Q = F3.vc x0 x1 x2 w Q := by kernel_rfl
theorem F3.of (x0 : Int) (x1 : Int) (x2 : Int) (w : World) {Q : Value → World → Prop} (h : F3.vc x0 x1 x2 w Q) : Calls Try.prog 3 #[Value.int .i64 x0, Value.int .i64 x1, Value.int .u8 x2] w (fun e w' => ∃ v, e = .returned v ∧ Q v w') := vcFn_sound noCount mixed ((F3.eq x0 x1 x2 w Q).symm ▸ h)
/-! ### function 5: stillage/stillagelaw18.SlotsNone -/
def F5.vc (x0 : List Value) (w : World) (Q : Value → World → Prop) : Prop :=
  nw w x0 28 fun b1 w2 =>
  ldA 32 w2 b1 0 fun a3 =>
  Calls Try.prog 20 #[Value.pointer none, ofL a3, Value.string (⟨#[120]⟩ : ByteArray)] w2 fun e5 w4 =>
  e5 = .returned (Value.tuple #[]) ∧ (
    ldA 32 w4 b1 0 fun a6 =>
    Calls Try.prog 21 #[Value.pointer none, ofL a6] w4 fun e8 w7 =>
    ∃ s9 : ByteArray, ∃ t10 : Bool, e8 = .returned (Value.tuple #[Value.string s9, Value.bool t10]) ∧ (
      vIf (s9.toList == (⟨#[]⟩ : ByteArray).toList)
      (vIf (!t10)
        (ldA 32 w7 b1 0 fun a11 =>
          Calls Try.prog 22 #[Value.pointer none, ofL a11] w7 fun e13 w12 =>
          ∃ t14 : Bool, e13 = .returned (Value.bool t14) ∧ (
            vIf (!t14)
            (Calls Try.prog 23 #[Value.pointer none] w12 fun e16 w15 =>
              ∃ i17 : Int, e16 = .returned (Value.int .i64 i17) ∧ (
                vIf (i17 == 0)
                (Calls Try.prog 24 #[Value.pointer none] w15 fun e19 w18 =>
                  ∃ i20 : Int, e19 = .returned (Value.int .i64 i20) ∧ (
                    vIf (i20 == 0)
                    (Calls Try.prog 25 #[Value.pointer none] w18 fun e22 w21 =>
                      ∃ (A23 : Option Addr) (n24 c25 : Nat), e22 = .returned (Value.slice A23 n24 c25) ∧ (
                        vIf (((n24 : Nat) : Int) == 0)
                        (Calls Try.prog 6 #[] w21 fun e27 w26 =>
                          ∃ t28 : Bool, e27 = .returned (Value.bool t28) ∧ (
                            Q (Value.bool t28) w26))
                        (Q (Value.bool false) w21)))
                    (Q (Value.bool false) w18)))
                (Q (Value.bool false) w15)))
            (Q (Value.bool false) w12)))
        (Q (Value.bool false) w7))
      (Q (Value.bool false) w7)))
def F5.an : Ann := ⟨[], []⟩
theorem F5.eq (x0 : List Value) (w : World) (Q : Value → World → Prop) : vcFn Try.prog F5.an 5 [ofL x0] w Q = F5.vc x0 w Q := by kernel_rfl
theorem F5.of (x0 : List Value) (w : World) {Q : Value → World → Prop} (h : F5.vc x0 w Q) : Calls Try.prog 5 #[ofL x0] w (fun e w' => ∃ v, e = .returned v ∧ Q v w') := vcFn_sound noCount mixed ((F5.eq x0 w Q).symm ▸ h)
/-! ### function 6: stillage/stillagelaw18.lives -/
def F6.vc  (w : World) (Q : Value → World → Prop) : Prop :=
  Calls Try.prog 7 #[] w fun e2 w1 =>
  ∃ p3 : Option Addr, e2 = .returned (Value.pointer p3) ∧ (
    Calls Try.prog 8 #[Value.pointer p3, ofL ([Value.int .u8 1] ++ ([Value.int .u8 0] ++ ([Value.int .u8 0] ++ ([Value.int .u8 0] ++ ([Value.int .u8 0] ++ ([Value.int .u8 0] ++ ([Value.int .u8 0] ++ ([Value.int .u8 0] ++ ([Value.int .u8 0] ++ ([Value.int .u8 0] ++ ([Value.int .u8 0] ++ ([Value.int .u8 0] ++ ([Value.int .u8 0] ++ ([Value.int .u8 0] ++ ([Value.int .u8 0] ++ ([Value.int .u8 0] ++ ([Value.int .u8 0] ++ ([Value.int .u8 0] ++ ([Value.int .u8 0] ++ ([Value.int .u8 0] ++ ([Value.int .u8 0] ++ ([Value.int .u8 0] ++ ([Value.int .u8 0] ++ ([Value.int .u8 0] ++ ([Value.int .u8 0] ++ ([Value.int .u8 0] ++ ([Value.int .u8 0] ++ ([Value.int .u8 0] ++ ([Value.int .u8 0] ++ ([Value.int .u8 0] ++ ([Value.int .u8 0] ++ ([Value.int .u8 0] ++ [])))))))))))))))))))))))))))))))), Value.int .i64 7] w1 fun e5 w4 =>
    e5 = .returned (Value.tuple #[]) ∧ (
      Calls Try.prog 10 #[Value.pointer p3, ofL ([Value.int .u8 1] ++ ([Value.int .u8 0] ++ ([Value.int .u8 0] ++ ([Value.int .u8 0] ++ ([Value.int .u8 0] ++ ([Value.int .u8 0] ++ ([Value.int .u8 0] ++ ([Value.int .u8 0] ++ ([Value.int .u8 0] ++ ([Value.int .u8 0] ++ ([Value.int .u8 0] ++ ([Value.int .u8 0] ++ ([Value.int .u8 0] ++ ([Value.int .u8 0] ++ ([Value.int .u8 0] ++ ([Value.int .u8 0] ++ ([Value.int .u8 0] ++ ([Value.int .u8 0] ++ ([Value.int .u8 0] ++ ([Value.int .u8 0] ++ ([Value.int .u8 0] ++ ([Value.int .u8 0] ++ ([Value.int .u8 0] ++ ([Value.int .u8 0] ++ ([Value.int .u8 0] ++ ([Value.int .u8 0] ++ ([Value.int .u8 0] ++ ([Value.int .u8 0] ++ ([Value.int .u8 0] ++ ([Value.int .u8 0] ++ ([Value.int .u8 0] ++ ([Value.int .u8 0] ++ []))))))))))))))))))))))))))))))))] w4 fun e7 w6 =>
      ∃ i8 : Int, ∃ t9 : Bool, e7 = .returned (Value.tuple #[Value.int .i64 i8, Value.bool t9]) ∧ (
        vIf t9
        (vIf (i8 == 7)
          (Calls Try.prog 11 #[Value.pointer p3] w6 fun e11 w10 =>
            ∃ i12 : Int, e11 = .returned (Value.int .i64 i12) ∧ (
              vIf (i12 == 1)
              (Calls Try.prog 12 #[Value.pointer p3] w10 fun e14 w13 =>
                ∃ i15 : Int, e14 = .returned (Value.int .i64 i15) ∧ (
                  Q (Value.bool (i15 == 8)) w13))
              (Q (Value.bool false) w10)))
          (Q (Value.bool false) w6))
        (Q (Value.bool false) w6))))
def F6.an : Ann := ⟨[], []⟩
theorem F6.eq  (w : World) (Q : Value → World → Prop) : vcFn Try.prog F6.an 6 [] w Q = F6.vc  w Q := by kernel_rfl
theorem F6.of  (w : World) {Q : Value → World → Prop} (h : F6.vc  w Q) : Calls Try.prog 6 #[] w (fun e w' => ∃ v, e = .returned v ∧ Q v w') := vcFn_sound noCount mixed ((F6.eq  w Q).symm ▸ h)
/-! ### function 7: stillage/slots.New[int] -/
def F7.vc  (w : World) (Q : Value → World → Prop) : Prop :=
  nw w (zeros 8 Z59) 59 fun b1 w2 =>
  nw w2 ([Value.slice (some ⟨b1, 0, none⟩) 8 8] ++ ([Value.int .i64 0] ++ [])) 57 fun b3 w4 =>
  Q (Value.pointer (some ⟨b3, 0, none⟩)) w4
def F7.an : Ann := ⟨[], []⟩
theorem F7.eq  (w : World) (Q : Value → World → Prop) : vcFn Try.prog F7.an 7 [] w Q = F7.vc  w Q := by kernel_rfl
theorem F7.of  (w : World) {Q : Value → World → Prop} (h : F7.vc  w Q) : Calls Try.prog 7 #[] w (fun e w' => ∃ v, e = .returned v ∧ Q v w') := vcFn_sound noCount mixed ((F7.eq  w Q).symm ▸ h)
/-! ### function 8: (*stillage/slots.Table[int]).Put -/
def F8.k8c (Q : Value → World → Prop) (x0 : Option Addr) (x2 : Int) (x4 : (Nat × Nat)) (x6 : Int) (w : World) : Prop :=
  dr x0 fun b29 o30 =>
  ldSl w.drew b29 o30 fun A31 n32 c33 =>
  ldA 32 w.drew x4.1 x4.2 fun a34 =>
  gd (a34.length == 32) <|
  dr A31 fun b35 o36 =>
  gd (decide (0 ≤ x6)) <|
  gd (decide (x6 < ((n32 : Nat) : Int))) <|
  gd (([Value.bool true] ++ (a34 ++ ([Value.int .i64 x2] ++ []))).length == 34) <|
  st w.drew b35 (o36 + (x6).toNat * 34) ([Value.bool true] ++ (a34 ++ ([Value.int .i64 x2] ++ []))) fun w37 =>
  Q (Value.tuple #[]) w37
def F8.k8 (Q : Value → World → Prop) : (Option Addr × Int × (Nat × Nat) × Int × Unit) → World → Prop := fun s w => ∀ _ : Nat → Value, F8.k8c Q s.1 s.2.1 s.2.2.1 s.2.2.2.1 w
def F8.k7c (Q : Value → World → Prop) (x0 : Option Addr) (x2 : Int) (x4 : (Nat × Nat)) (x6 : Int) (w : World) : Prop :=
  dr x0 fun b23 o24 =>
  ldI .i64 w b23 (o24 + 1) fun i25 =>
  dr x0 fun b26 o27 =>
  st w b26 (o27 + 1) [Value.int .i64 (IntKind.wrap .i64 (i25 + 1))] fun w28 =>
  jnC (F8.k8 Q) (x0, (x2), (x4.1, x4.2), (x6), ()) w28
def F8.k7 (Q : Value → World → Prop) : (Option Addr × Int × (Nat × Nat) × Int × Unit) → World → Prop := fun s w => ∀ _ : Nat → Value, F8.k7c Q s.1 s.2.1 s.2.2.1 s.2.2.2.1 w
def F8.vc (x0 : Option Addr) (x1 : List Value) (x2 : Int) (w : World) (Q : Value → World → Prop) : Prop :=
  nw w x1 28 fun b1 w2 =>
  vIf x0.isNone
  (Q (Value.tuple #[]) w2)
  (ldA 32 w2 b1 0 fun a3 =>
    Calls Try.prog 26 #[Value.pointer x0, ofL a3] w2 fun e5 w4 =>
    ∃ i6 : Int, ∃ t7 : Bool, e5 = .returned (Value.tuple #[Value.int .i64 i6, Value.bool t7]) ∧ (
      vIf (!t7)
      (dr x0 fun b8 o9 =>
        ldI .i64 w4.drew b8 (o9 + 1) fun i10 =>
        dr x0 fun b11 o12 =>
        ldSl w4.drew b11 o12 fun A13 n14 c15 =>
        vIf (decide ((IntKind.wrap .i64 (4 * (IntKind.wrap .i64 (i10 + 1)))) > (IntKind.wrap .i64 (3 * ((n14 : Nat) : Int)))))
        (Calls Try.prog 27 #[Value.pointer x0] w4.drew fun e17 w16 =>
          e17 = .returned (Value.tuple #[]) ∧ (
            ldA 32 w16 b1 0 fun a18 =>
            Calls Try.prog 26 #[Value.pointer x0, ofL a18] w16 fun e20 w19 =>
            ∃ i21 : Int, ∃ t22 : Bool, e20 = .returned (Value.tuple #[Value.int .i64 i21, Value.bool t22]) ∧ (
              jnC (F8.k7 Q) (x0, (x2), (b1, 0), (i21), ()) w19)))
        (jnC (F8.k7 Q) (x0, (x2), (b1, 0), (i6), ()) w4.drew))
      (jnC (F8.k8 Q) (x0, (x2), (b1, 0), (i6), ()) w4)))
def F8.an : Ann := ⟨[], [(7, [(0, .kP), (2, .kI .i64), (4, .kL), (6, .kI .i64)]), (8, [(0, .kP), (2, .kI .i64), (4, .kL), (6, .kI .i64)])]⟩
theorem F8.eq (x0 : Option Addr) (x1 : List Value) (x2 : Int) (w : World) (Q : Value → World → Prop) : vcFn Try.prog F8.an 8 [Value.pointer x0, ofL x1, Value.int .i64 x2] w Q = F8.vc x0 x1 x2 w Q := by kernel_rfl
theorem F8.of (x0 : Option Addr) (x1 : List Value) (x2 : Int) (w : World) {Q : Value → World → Prop} (h : F8.vc x0 x1 x2 w Q) : Calls Try.prog 8 #[Value.pointer x0, ofL x1, Value.int .i64 x2] w (fun e w' => ∃ v, e = .returned v ∧ Q v w') := vcFn_sound noCount mixed ((F8.eq x0 x1 x2 w Q).symm ▸ h)
/-! ### function 9: (*stillage/slots.Table[int]).Cut -/
def F9.b8c (Q : Value → World → Prop) (C8 : (Option Addr × Int × Int × Int × Unit) → World → Prop) (x0 : Option Addr) (x5 : Int) (x7 : Int) (x8 : Int) (w : World) : Prop :=
  dr x0 fun b13 o14 =>
  ldSl w b13 o14 fun A15 n16 c17 =>
  dr A15 fun b18 o19 =>
  gd (decide (0 ≤ x8)) <|
  gd (decide (x8 < ((n16 : Nat) : Int))) <|
  ldB w b18 (o19 + (x8).toNat * 34) fun t20 =>
  vIf t20
  (Calls Try.prog 28 #[Value.pointer x0, Value.int .i64 x5, Value.int .i64 x8] w fun e22 w21 =>
    ∃ t23 : Bool, e22 = .returned (Value.bool t23) ∧ (
      vIf (!t23)
      (dr x0 fun b24 o25 =>
        ldSl w21.drew b24 o25 fun A26 n27 c28 =>
        dr x0 fun b29 o30 =>
        ldSl w21.drew b29 o30 fun A31 n32 c33 =>
        dr A31 fun b34 o35 =>
        gd (decide (0 ≤ x8)) <|
        gd (decide (x8 < ((n32 : Nat) : Int))) <|
        ldA 34 w21.drew b34 (o35 + (x8).toNat * 34) fun a36 =>
        dr A26 fun b37 o38 =>
        gd (decide (0 ≤ x5)) <|
        gd (decide (x5 < ((n27 : Nat) : Int))) <|
        gd (a36.length == 34) <|
        st w21.drew b37 (o38 + (x5).toNat * 34) a36 fun w39 =>
        gd (decide (x7 ≠ 0)) <|
        jnC C8 (x0, (x8), (x7), ((Int.tmod (IntKind.wrap .i64 (x8 + 1)) x7)), ()) w39)
      (gd (decide (x7 ≠ 0)) <|
        jnC C8 (x0, (x5), (x7), ((Int.tmod (IntKind.wrap .i64 (x8 + 1)) x7)), ()) w21)))
  (dr x0 fun b40 o41 =>
    ldSl w b40 o41 fun A42 n43 c44 =>
    dr A42 fun b45 o46 =>
    gd (decide (0 ≤ x5)) <|
    gd (decide (x5 < ((n43 : Nat) : Int))) <|
    gd (([Value.bool false] ++ ([Value.int .u8 0, Value.int .u8 0, Value.int .u8 0, Value.int .u8 0, Value.int .u8 0, Value.int .u8 0, Value.int .u8 0, Value.int .u8 0, Value.int .u8 0, Value.int .u8 0, Value.int .u8 0, Value.int .u8 0, Value.int .u8 0, Value.int .u8 0, Value.int .u8 0, Value.int .u8 0, Value.int .u8 0, Value.int .u8 0, Value.int .u8 0, Value.int .u8 0, Value.int .u8 0, Value.int .u8 0, Value.int .u8 0, Value.int .u8 0, Value.int .u8 0, Value.int .u8 0, Value.int .u8 0, Value.int .u8 0, Value.int .u8 0, Value.int .u8 0, Value.int .u8 0, Value.int .u8 0] ++ ([Value.int .i64 0] ++ []))).length == 34) <|
    st w b45 (o46 + (x5).toNat * 34) ([Value.bool false] ++ ([Value.int .u8 0, Value.int .u8 0, Value.int .u8 0, Value.int .u8 0, Value.int .u8 0, Value.int .u8 0, Value.int .u8 0, Value.int .u8 0, Value.int .u8 0, Value.int .u8 0, Value.int .u8 0, Value.int .u8 0, Value.int .u8 0, Value.int .u8 0, Value.int .u8 0, Value.int .u8 0, Value.int .u8 0, Value.int .u8 0, Value.int .u8 0, Value.int .u8 0, Value.int .u8 0, Value.int .u8 0, Value.int .u8 0, Value.int .u8 0, Value.int .u8 0, Value.int .u8 0, Value.int .u8 0, Value.int .u8 0, Value.int .u8 0, Value.int .u8 0, Value.int .u8 0, Value.int .u8 0] ++ ([Value.int .i64 0] ++ []))) fun w47 =>
    dr x0 fun b48 o49 =>
    ldI .i64 w47 b48 (o49 + 1) fun i50 =>
    dr x0 fun b51 o52 =>
    st w47 b51 (o52 + 1) [Value.int .i64 (IntKind.wrap .i64 (i50 - 1))] fun w53 =>
    Q (Value.bool true) w53)
def F9.b8 (Q : Value → World → Prop) : (Option Addr × Int × Int × Int × Unit) → World → ((Option Addr × Int × Int × Int × Unit) → World → Prop) → Prop := fun s w C8 => ∀ _ : Nat → Value, F9.b8c Q C8 s.1 s.2.1 s.2.2.1 s.2.2.2.1 w
def F9.l8 (Q : Value → World → Prop) : (Option Addr × Int × Int × Int × Unit) → World → Prop := fun s w => ∃ n, loopC (F9.b8 Q) n s w
def F9.vc (x0 : Option Addr) (x1 : List Value) (w : World) (Q : Value → World → Prop) : Prop :=
  nw w x1 28 fun b1 w2 =>
  vIf x0.isNone
  (Q (Value.bool false) w2)
  (ldA 32 w2 b1 0 fun a3 =>
    Calls Try.prog 26 #[Value.pointer x0, ofL a3] w2 fun e5 w4 =>
    ∃ i6 : Int, ∃ t7 : Bool, e5 = .returned (Value.tuple #[Value.int .i64 i6, Value.bool t7]) ∧ (
      vIf (!t7)
      (Q (Value.bool false) w4)
      (dr x0 fun b8 o9 =>
        ldSl w4 b8 o9 fun A10 n11 c12 =>
        gd (decide (((n11 : Nat) : Int) ≠ 0)) <|
        jnC (F9.l8 Q) (x0, (i6), (((n11 : Nat) : Int)), ((Int.tmod (IntKind.wrap .i64 (i6 + 1)) ((n11 : Nat) : Int))), ()) w4)))
def F9.an : Ann := ⟨[(8, [(0, .kP), (5, .kI .i64), (7, .kI .i64), (8, .kI .i64)])], []⟩
theorem F9.eq (x0 : Option Addr) (x1 : List Value) (w : World) (Q : Value → World → Prop) : vcFn Try.prog F9.an 9 [Value.pointer x0, ofL x1] w Q = F9.vc x0 x1 w Q := by kernel_rfl
theorem F9.of (x0 : Option Addr) (x1 : List Value) (w : World) {Q : Value → World → Prop} (h : F9.vc x0 x1 w Q) : Calls Try.prog 9 #[Value.pointer x0, ofL x1] w (fun e w' => ∃ v, e = .returned v ∧ Q v w') := vcFn_sound noCount mixed ((F9.eq x0 x1 w Q).symm ▸ h)
/-! ### function 10: (*stillage/slots.Table[int]).Get -/
def F10.vc (x0 : Option Addr) (x1 : List Value) (w : World) (Q : Value → World → Prop) : Prop :=
  nw w x1 28 fun b1 w2 =>
  vIf x0.isNone
  (Q (Value.tuple #[Value.int .i64 0, Value.bool false]) w2)
  (ldA 32 w2 b1 0 fun a3 =>
    Calls Try.prog 26 #[Value.pointer x0, ofL a3] w2 fun e5 w4 =>
    ∃ i6 : Int, ∃ t7 : Bool, e5 = .returned (Value.tuple #[Value.int .i64 i6, Value.bool t7]) ∧ (
      vIf (!t7)
      (Q (Value.tuple #[Value.int .i64 0, Value.bool false]) w4)
      (dr x0 fun b8 o9 =>
        ldSl w4 b8 o9 fun A10 n11 c12 =>
        dr A10 fun b13 o14 =>
        gd (decide (0 ≤ i6)) <|
        gd (decide (i6 < ((n11 : Nat) : Int))) <|
        ldI .i64 w4 b13 ((o14 + (i6).toNat * 34) + 33) fun i15 =>
        Q (Value.tuple #[Value.int .i64 i15, Value.bool true]) w4)))
def F10.an : Ann := ⟨[], []⟩
theorem F10.eq (x0 : Option Addr) (x1 : List Value) (w : World) (Q : Value → World → Prop) : vcFn Try.prog F10.an 10 [Value.pointer x0, ofL x1] w Q = F10.vc x0 x1 w Q := by kernel_rfl
theorem F10.of (x0 : Option Addr) (x1 : List Value) (w : World) {Q : Value → World → Prop} (h : F10.vc x0 x1 w Q) : Calls Try.prog 10 #[Value.pointer x0, ofL x1] w (fun e w' => ∃ v, e = .returned v ∧ Q v w') := vcFn_sound noCount mixed ((F10.eq x0 x1 w Q).symm ▸ h)
/-! ### function 11: (*stillage/slots.Table[int]).Len -/
def F11.vc (x0 : Option Addr) (w : World) (Q : Value → World → Prop) : Prop :=
  vIf x0.isNone
  (Q (Value.int .i64 0) w)
  (dr x0 fun b1 o2 =>
    ldI .i64 w b1 (o2 + 1) fun i3 =>
    Q (Value.int .i64 i3) w)
def F11.an : Ann := ⟨[], []⟩
theorem F11.eq (x0 : Option Addr) (w : World) (Q : Value → World → Prop) : vcFn Try.prog F11.an 11 [Value.pointer x0] w Q = F11.vc x0 w Q := by kernel_rfl
theorem F11.of (x0 : Option Addr) (w : World) {Q : Value → World → Prop} (h : F11.vc x0 w Q) : Calls Try.prog 11 #[Value.pointer x0] w (fun e w' => ∃ v, e = .returned v ∧ Q v w') := vcFn_sound noCount mixed ((F11.eq x0 w Q).symm ▸ h)
/-! ### function 12: (*stillage/slots.Table[int]).Slots -/
def F12.vc (x0 : Option Addr) (w : World) (Q : Value → World → Prop) : Prop :=
  vIf x0.isNone
  (Q (Value.int .i64 0) w)
  (dr x0 fun b1 o2 =>
    ldSl w b1 o2 fun A3 n4 c5 =>
    Q (Value.int .i64 ((n4 : Nat) : Int)) w)
def F12.an : Ann := ⟨[], []⟩
theorem F12.eq (x0 : Option Addr) (w : World) (Q : Value → World → Prop) : vcFn Try.prog F12.an 12 [Value.pointer x0] w Q = F12.vc x0 w Q := by kernel_rfl
theorem F12.of (x0 : Option Addr) (w : World) {Q : Value → World → Prop} (h : F12.vc x0 w Q) : Calls Try.prog 12 #[Value.pointer x0] w (fun e w' => ∃ v, e = .returned v ∧ Q v w') := vcFn_sound noCount mixed ((F12.eq x0 w Q).symm ▸ h)
/-! ### function 20: (*stillage/slots.Table[string]).Put -/
def F20.k8c (Q : Value → World → Prop) (x0 : Option Addr) (x2 : ByteArray) (x4 : (Nat × Nat)) (x6 : Int) (w : World) : Prop :=
  dr x0 fun b29 o30 =>
  ldSl w.drew b29 o30 fun A31 n32 c33 =>
  ldA 32 w.drew x4.1 x4.2 fun a34 =>
  gd (a34.length == 32) <|
  dr A31 fun b35 o36 =>
  gd (decide (0 ≤ x6)) <|
  gd (decide (x6 < ((n32 : Nat) : Int))) <|
  gd (([Value.bool true] ++ (a34 ++ ([Value.string x2] ++ []))).length == 34) <|
  st w.drew b35 (o36 + (x6).toNat * 34) ([Value.bool true] ++ (a34 ++ ([Value.string x2] ++ []))) fun w37 =>
  Q (Value.tuple #[]) w37
def F20.k8 (Q : Value → World → Prop) : (Option Addr × ByteArray × (Nat × Nat) × Int × Unit) → World → Prop := fun s w => ∀ _ : Nat → Value, F20.k8c Q s.1 s.2.1 s.2.2.1 s.2.2.2.1 w
def F20.k7c (Q : Value → World → Prop) (x0 : Option Addr) (x2 : ByteArray) (x4 : (Nat × Nat)) (x6 : Int) (w : World) : Prop :=
  dr x0 fun b23 o24 =>
  ldI .i64 w b23 (o24 + 1) fun i25 =>
  dr x0 fun b26 o27 =>
  st w b26 (o27 + 1) [Value.int .i64 (IntKind.wrap .i64 (i25 + 1))] fun w28 =>
  jnC (F20.k8 Q) (x0, x2, (x4.1, x4.2), (x6), ()) w28
def F20.k7 (Q : Value → World → Prop) : (Option Addr × ByteArray × (Nat × Nat) × Int × Unit) → World → Prop := fun s w => ∀ _ : Nat → Value, F20.k7c Q s.1 s.2.1 s.2.2.1 s.2.2.2.1 w
def F20.vc (x0 : Option Addr) (x1 : List Value) (x2 : ByteArray) (w : World) (Q : Value → World → Prop) : Prop :=
  nw w x1 28 fun b1 w2 =>
  vIf x0.isNone
  (Q (Value.tuple #[]) w2)
  (ldA 32 w2 b1 0 fun a3 =>
    Calls Try.prog 31 #[Value.pointer x0, ofL a3] w2 fun e5 w4 =>
    ∃ i6 : Int, ∃ t7 : Bool, e5 = .returned (Value.tuple #[Value.int .i64 i6, Value.bool t7]) ∧ (
      vIf (!t7)
      (dr x0 fun b8 o9 =>
        ldI .i64 w4.drew b8 (o9 + 1) fun i10 =>
        dr x0 fun b11 o12 =>
        ldSl w4.drew b11 o12 fun A13 n14 c15 =>
        vIf (decide ((IntKind.wrap .i64 (4 * (IntKind.wrap .i64 (i10 + 1)))) > (IntKind.wrap .i64 (3 * ((n14 : Nat) : Int)))))
        (Calls Try.prog 32 #[Value.pointer x0] w4.drew fun e17 w16 =>
          e17 = .returned (Value.tuple #[]) ∧ (
            ldA 32 w16 b1 0 fun a18 =>
            Calls Try.prog 31 #[Value.pointer x0, ofL a18] w16 fun e20 w19 =>
            ∃ i21 : Int, ∃ t22 : Bool, e20 = .returned (Value.tuple #[Value.int .i64 i21, Value.bool t22]) ∧ (
              jnC (F20.k7 Q) (x0, x2, (b1, 0), (i21), ()) w19)))
        (jnC (F20.k7 Q) (x0, x2, (b1, 0), (i6), ()) w4.drew))
      (jnC (F20.k8 Q) (x0, x2, (b1, 0), (i6), ()) w4)))
def F20.an : Ann := ⟨[], [(7, [(0, .kP), (2, .kS), (4, .kL), (6, .kI .i64)]), (8, [(0, .kP), (2, .kS), (4, .kL), (6, .kI .i64)])]⟩
theorem F20.eq (x0 : Option Addr) (x1 : List Value) (x2 : ByteArray) (w : World) (Q : Value → World → Prop) : vcFn Try.prog F20.an 20 [Value.pointer x0, ofL x1, Value.string x2] w Q = F20.vc x0 x1 x2 w Q := by kernel_rfl
theorem F20.of (x0 : Option Addr) (x1 : List Value) (x2 : ByteArray) (w : World) {Q : Value → World → Prop} (h : F20.vc x0 x1 x2 w Q) : Calls Try.prog 20 #[Value.pointer x0, ofL x1, Value.string x2] w (fun e w' => ∃ v, e = .returned v ∧ Q v w') := vcFn_sound noCount mixed ((F20.eq x0 x1 x2 w Q).symm ▸ h)
/-! ### function 21: (*stillage/slots.Table[string]).Get -/
def F21.vc (x0 : Option Addr) (x1 : List Value) (w : World) (Q : Value → World → Prop) : Prop :=
  nw w x1 28 fun b1 w2 =>
  vIf x0.isNone
  (Q (Value.tuple #[Value.string (⟨#[]⟩ : ByteArray), Value.bool false]) w2)
  (ldA 32 w2 b1 0 fun a3 =>
    Calls Try.prog 31 #[Value.pointer x0, ofL a3] w2 fun e5 w4 =>
    ∃ i6 : Int, ∃ t7 : Bool, e5 = .returned (Value.tuple #[Value.int .i64 i6, Value.bool t7]) ∧ (
      vIf (!t7)
      (Q (Value.tuple #[Value.string (⟨#[]⟩ : ByteArray), Value.bool false]) w4)
      (dr x0 fun b8 o9 =>
        ldSl w4 b8 o9 fun A10 n11 c12 =>
        dr A10 fun b13 o14 =>
        gd (decide (0 ≤ i6)) <|
        gd (decide (i6 < ((n11 : Nat) : Int))) <|
        ldS w4 b13 ((o14 + (i6).toNat * 34) + 33) fun s15 =>
        Q (Value.tuple #[Value.string s15, Value.bool true]) w4)))
def F21.an : Ann := ⟨[], []⟩
theorem F21.eq (x0 : Option Addr) (x1 : List Value) (w : World) (Q : Value → World → Prop) : vcFn Try.prog F21.an 21 [Value.pointer x0, ofL x1] w Q = F21.vc x0 x1 w Q := by kernel_rfl
theorem F21.of (x0 : Option Addr) (x1 : List Value) (w : World) {Q : Value → World → Prop} (h : F21.vc x0 x1 w Q) : Calls Try.prog 21 #[Value.pointer x0, ofL x1] w (fun e w' => ∃ v, e = .returned v ∧ Q v w') := vcFn_sound noCount mixed ((F21.eq x0 x1 w Q).symm ▸ h)
/-! ### function 22: (*stillage/slots.Table[string]).Cut -/
def F22.b8c (Q : Value → World → Prop) (C8 : (Option Addr × Int × Int × Int × Unit) → World → Prop) (x0 : Option Addr) (x5 : Int) (x7 : Int) (x8 : Int) (w : World) : Prop :=
  dr x0 fun b13 o14 =>
  ldSl w b13 o14 fun A15 n16 c17 =>
  dr A15 fun b18 o19 =>
  gd (decide (0 ≤ x8)) <|
  gd (decide (x8 < ((n16 : Nat) : Int))) <|
  ldB w b18 (o19 + (x8).toNat * 34) fun t20 =>
  vIf t20
  (Calls Try.prog 33 #[Value.pointer x0, Value.int .i64 x5, Value.int .i64 x8] w fun e22 w21 =>
    ∃ t23 : Bool, e22 = .returned (Value.bool t23) ∧ (
      vIf (!t23)
      (dr x0 fun b24 o25 =>
        ldSl w21.drew b24 o25 fun A26 n27 c28 =>
        dr x0 fun b29 o30 =>
        ldSl w21.drew b29 o30 fun A31 n32 c33 =>
        dr A31 fun b34 o35 =>
        gd (decide (0 ≤ x8)) <|
        gd (decide (x8 < ((n32 : Nat) : Int))) <|
        ldA 34 w21.drew b34 (o35 + (x8).toNat * 34) fun a36 =>
        dr A26 fun b37 o38 =>
        gd (decide (0 ≤ x5)) <|
        gd (decide (x5 < ((n27 : Nat) : Int))) <|
        gd (a36.length == 34) <|
        st w21.drew b37 (o38 + (x5).toNat * 34) a36 fun w39 =>
        gd (decide (x7 ≠ 0)) <|
        jnC C8 (x0, (x8), (x7), ((Int.tmod (IntKind.wrap .i64 (x8 + 1)) x7)), ()) w39)
      (gd (decide (x7 ≠ 0)) <|
        jnC C8 (x0, (x5), (x7), ((Int.tmod (IntKind.wrap .i64 (x8 + 1)) x7)), ()) w21)))
  (dr x0 fun b40 o41 =>
    ldSl w b40 o41 fun A42 n43 c44 =>
    dr A42 fun b45 o46 =>
    gd (decide (0 ≤ x5)) <|
    gd (decide (x5 < ((n43 : Nat) : Int))) <|
    gd (([Value.bool false] ++ ([Value.int .u8 0, Value.int .u8 0, Value.int .u8 0, Value.int .u8 0, Value.int .u8 0, Value.int .u8 0, Value.int .u8 0, Value.int .u8 0, Value.int .u8 0, Value.int .u8 0, Value.int .u8 0, Value.int .u8 0, Value.int .u8 0, Value.int .u8 0, Value.int .u8 0, Value.int .u8 0, Value.int .u8 0, Value.int .u8 0, Value.int .u8 0, Value.int .u8 0, Value.int .u8 0, Value.int .u8 0, Value.int .u8 0, Value.int .u8 0, Value.int .u8 0, Value.int .u8 0, Value.int .u8 0, Value.int .u8 0, Value.int .u8 0, Value.int .u8 0, Value.int .u8 0, Value.int .u8 0] ++ ([Value.string (⟨#[]⟩ : ByteArray)] ++ []))).length == 34) <|
    st w b45 (o46 + (x5).toNat * 34) ([Value.bool false] ++ ([Value.int .u8 0, Value.int .u8 0, Value.int .u8 0, Value.int .u8 0, Value.int .u8 0, Value.int .u8 0, Value.int .u8 0, Value.int .u8 0, Value.int .u8 0, Value.int .u8 0, Value.int .u8 0, Value.int .u8 0, Value.int .u8 0, Value.int .u8 0, Value.int .u8 0, Value.int .u8 0, Value.int .u8 0, Value.int .u8 0, Value.int .u8 0, Value.int .u8 0, Value.int .u8 0, Value.int .u8 0, Value.int .u8 0, Value.int .u8 0, Value.int .u8 0, Value.int .u8 0, Value.int .u8 0, Value.int .u8 0, Value.int .u8 0, Value.int .u8 0, Value.int .u8 0, Value.int .u8 0] ++ ([Value.string (⟨#[]⟩ : ByteArray)] ++ []))) fun w47 =>
    dr x0 fun b48 o49 =>
    ldI .i64 w47 b48 (o49 + 1) fun i50 =>
    dr x0 fun b51 o52 =>
    st w47 b51 (o52 + 1) [Value.int .i64 (IntKind.wrap .i64 (i50 - 1))] fun w53 =>
    Q (Value.bool true) w53)
def F22.b8 (Q : Value → World → Prop) : (Option Addr × Int × Int × Int × Unit) → World → ((Option Addr × Int × Int × Int × Unit) → World → Prop) → Prop := fun s w C8 => ∀ _ : Nat → Value, F22.b8c Q C8 s.1 s.2.1 s.2.2.1 s.2.2.2.1 w
def F22.l8 (Q : Value → World → Prop) : (Option Addr × Int × Int × Int × Unit) → World → Prop := fun s w => ∃ n, loopC (F22.b8 Q) n s w
def F22.vc (x0 : Option Addr) (x1 : List Value) (w : World) (Q : Value → World → Prop) : Prop :=
  nw w x1 28 fun b1 w2 =>
  vIf x0.isNone
  (Q (Value.bool false) w2)
  (ldA 32 w2 b1 0 fun a3 =>
    Calls Try.prog 31 #[Value.pointer x0, ofL a3] w2 fun e5 w4 =>
    ∃ i6 : Int, ∃ t7 : Bool, e5 = .returned (Value.tuple #[Value.int .i64 i6, Value.bool t7]) ∧ (
      vIf (!t7)
      (Q (Value.bool false) w4)
      (dr x0 fun b8 o9 =>
        ldSl w4 b8 o9 fun A10 n11 c12 =>
        gd (decide (((n11 : Nat) : Int) ≠ 0)) <|
        jnC (F22.l8 Q) (x0, (i6), (((n11 : Nat) : Int)), ((Int.tmod (IntKind.wrap .i64 (i6 + 1)) ((n11 : Nat) : Int))), ()) w4)))
def F22.an : Ann := ⟨[(8, [(0, .kP), (5, .kI .i64), (7, .kI .i64), (8, .kI .i64)])], []⟩
theorem F22.eq (x0 : Option Addr) (x1 : List Value) (w : World) (Q : Value → World → Prop) : vcFn Try.prog F22.an 22 [Value.pointer x0, ofL x1] w Q = F22.vc x0 x1 w Q := by kernel_rfl
theorem F22.of (x0 : Option Addr) (x1 : List Value) (w : World) {Q : Value → World → Prop} (h : F22.vc x0 x1 w Q) : Calls Try.prog 22 #[Value.pointer x0, ofL x1] w (fun e w' => ∃ v, e = .returned v ∧ Q v w') := vcFn_sound noCount mixed ((F22.eq x0 x1 w Q).symm ▸ h)
/-! ### function 23: (*stillage/slots.Table[string]).Len -/
def F23.vc (x0 : Option Addr) (w : World) (Q : Value → World → Prop) : Prop :=
  vIf x0.isNone
  (Q (Value.int .i64 0) w)
  (dr x0 fun b1 o2 =>
    ldI .i64 w b1 (o2 + 1) fun i3 =>
    Q (Value.int .i64 i3) w)
def F23.an : Ann := ⟨[], []⟩
theorem F23.eq (x0 : Option Addr) (w : World) (Q : Value → World → Prop) : vcFn Try.prog F23.an 23 [Value.pointer x0] w Q = F23.vc x0 w Q := by kernel_rfl
theorem F23.of (x0 : Option Addr) (w : World) {Q : Value → World → Prop} (h : F23.vc x0 w Q) : Calls Try.prog 23 #[Value.pointer x0] w (fun e w' => ∃ v, e = .returned v ∧ Q v w') := vcFn_sound noCount mixed ((F23.eq x0 w Q).symm ▸ h)
/-! ### function 24: (*stillage/slots.Table[string]).Slots -/
def F24.vc (x0 : Option Addr) (w : World) (Q : Value → World → Prop) : Prop :=
  vIf x0.isNone
  (Q (Value.int .i64 0) w)
  (dr x0 fun b1 o2 =>
    ldSl w b1 o2 fun A3 n4 c5 =>
    Q (Value.int .i64 ((n4 : Nat) : Int)) w)
def F24.an : Ann := ⟨[], []⟩
theorem F24.eq (x0 : Option Addr) (w : World) (Q : Value → World → Prop) : vcFn Try.prog F24.an 24 [Value.pointer x0] w Q = F24.vc x0 w Q := by kernel_rfl
theorem F24.of (x0 : Option Addr) (w : World) {Q : Value → World → Prop} (h : F24.vc x0 w Q) : Calls Try.prog 24 #[Value.pointer x0] w (fun e w' => ∃ v, e = .returned v ∧ Q v w') := vcFn_sound noCount mixed ((F24.eq x0 w Q).symm ▸ h)
/-! ### function 25: (*stillage/slots.Table[string]).Row -/
def F25.b5c (Q : Value → World → Prop) (C5 : ((Option Addr × Nat × Nat) × (Option Addr × Nat × Nat) × Int × Int × Unit) → World → Prop) (x3 : (Option Addr × Nat × Nat)) (x11 : (Option Addr × Nat × Nat)) (x12 : Int) (x13 : Int) (w : World) : Prop :=
  vIf (decide (x13 < x12))
  (dr x11.1 fun b6 o7 =>
    gd (decide (0 ≤ x13)) <|
    gd (decide (x13 < ((x11.2.1 : Nat) : Int))) <|
    ldA 34 w b6 (o7 + (x13).toNat * 34) fun a8 =>
    nw w Z66 66 fun b9 w10 =>
    gd (a8.length == 34) <|
    st w10 b9 0 a8 fun w11 =>
    ldB w11 b9 0 fun t12 =>
    vIf t12
    (ldA 32 w11 b9 (0 + 1) fun a13 =>
      gd (a13.length == 32) <|
      nw w11 (a13 ++ []) 28 fun b14 w15 =>
      app w15 32 32 Z28 28 x3.1 x3.2.1 x3.2.2 (Value.slice (some ⟨b14, 0, none⟩) 1 1) fun A16 n17 c18 w19 =>
      jnC C5 ((A16, n17, c18), (x11.1, x11.2.1, x11.2.2), (x12), ((IntKind.wrap .i64 (x13 + 1))), ()) w19)
    (jnC C5 ((x3.1, x3.2.1, x3.2.2), (x11.1, x11.2.1, x11.2.2), (x12), ((IntKind.wrap .i64 (x13 + 1))), ()) w11))
  (Calls Try.prog 29 #[Value.slice x3.1 x3.2.1 x3.2.2] w fun e21 w20 =>
    ∃ (A22 : Option Addr) (n23 c24 : Nat), e21 = .returned (Value.slice A22 n23 c24) ∧ (
      Q (Value.slice A22 n23 c24) w20))
def F25.b5 (Q : Value → World → Prop) : ((Option Addr × Nat × Nat) × (Option Addr × Nat × Nat) × Int × Int × Unit) → World → (((Option Addr × Nat × Nat) × (Option Addr × Nat × Nat) × Int × Int × Unit) → World → Prop) → Prop := fun s w C5 => ∀ _ : Nat → Value, F25.b5c Q C5 s.1 s.2.1 s.2.2.1 s.2.2.2.1 w
def F25.l5 (Q : Value → World → Prop) : ((Option Addr × Nat × Nat) × (Option Addr × Nat × Nat) × Int × Int × Unit) → World → Prop := fun s w => ∃ n, loopC (F25.b5 Q) n s w
def F25.vc (x0 : Option Addr) (w : World) (Q : Value → World → Prop) : Prop :=
  vIf x0.isNone
  (Q (Value.slice none 0 0) w)
  (dr x0 fun b1 o2 =>
    ldSl w b1 o2 fun A3 n4 c5 =>
    jnC (F25.l5 Q) ((none, 0, 0), (A3, n4, c5), (((n4 : Nat) : Int)), (0), ()) w)
def F25.an : Ann := ⟨[(5, [(3, .kSl), (11, .kSl), (12, .kI .i64), (13, .kI .i64)])], []⟩
theorem F25.eq (x0 : Option Addr) (w : World) (Q : Value → World → Prop) : vcFn Try.prog F25.an 25 [Value.pointer x0] w Q = F25.vc x0 w Q := by kernel_rfl
theorem F25.of (x0 : Option Addr) (w : World) {Q : Value → World → Prop} (h : F25.vc x0 w Q) : Calls Try.prog 25 #[Value.pointer x0] w (fun e w' => ∃ v, e = .returned v ∧ Q v w') := vcFn_sound noCount mixed ((F25.eq x0 w Q).symm ▸ h)
/-! ### function 26: (*stillage/slots.Table[int]).find -/
def F26.b2c (Q : Value → World → Prop) (C2 : (Option Addr × (Nat × Nat) × Int × Unit) → World → Prop) (x0 : Option Addr) (x3 : (Nat × Nat)) (x6 : Int) (w : World) : Prop :=
  dr x0 fun b7 o8 =>
  ldSl w b7 o8 fun A9 n10 c11 =>
  dr A9 fun b12 o13 =>
  gd (decide (0 ≤ x6)) <|
  gd (decide (x6 < ((n10 : Nat) : Int))) <|
  ldB w b12 (o13 + (x6).toNat * 34) fun t14 =>
  vIf (!t14)
  (Q (Value.tuple #[Value.int .i64 x6, Value.bool false]) w)
  (ldA 32 w.drew b12 ((o13 + (x6).toNat * 34) + 1) fun a15 =>
    ldA 32 w.drew x3.1 x3.2 fun a16 =>
    eqAB 32 a15 a16 fun t17 =>
    vIf t17
    (Q (Value.tuple #[Value.int .i64 x6, Value.bool true]) w.drew)
    (dr x0 fun b18 o19 =>
      ldSl w.drew b18 o19 fun A20 n21 c22 =>
      gd (decide (((n21 : Nat) : Int) ≠ 0)) <|
      jnC C2 (x0, (x3.1, x3.2), ((Int.tmod (IntKind.wrap .i64 (x6 + 1)) ((n21 : Nat) : Int))), ()) w.drew))
def F26.b2 (Q : Value → World → Prop) : (Option Addr × (Nat × Nat) × Int × Unit) → World → ((Option Addr × (Nat × Nat) × Int × Unit) → World → Prop) → Prop := fun s w C2 => ∀ _ : Nat → Value, F26.b2c Q C2 s.1 s.2.1 s.2.2.1 w
def F26.l2 (Q : Value → World → Prop) : (Option Addr × (Nat × Nat) × Int × Unit) → World → Prop := fun s w => ∃ n, loopC (F26.b2 Q) n s w
def F26.vc (x0 : Option Addr) (x1 : List Value) (w : World) (Q : Value → World → Prop) : Prop :=
  nw w x1 28 fun b1 w2 =>
  ldA 32 w2 b1 0 fun a3 =>
  Calls Try.prog 34 #[Value.pointer x0, ofL a3] w2 fun e5 w4 =>
  ∃ i6 : Int, e5 = .returned (Value.int .i64 i6) ∧ (
    jnC (F26.l2 Q) (x0, (b1, 0), (i6), ()) w4)
def F26.an : Ann := ⟨[(2, [(0, .kP), (3, .kL), (6, .kI .i64)])], []⟩
theorem F26.eq (x0 : Option Addr) (x1 : List Value) (w : World) (Q : Value → World → Prop) : vcFn Try.prog F26.an 26 [Value.pointer x0, ofL x1] w Q = F26.vc x0 x1 w Q := by kernel_rfl
theorem F26.of (x0 : Option Addr) (x1 : List Value) (w : World) {Q : Value → World → Prop} (h : F26.vc x0 x1 w Q) : Calls Try.prog 26 #[Value.pointer x0, ofL x1] w (fun e w' => ∃ v, e = .returned v ∧ Q v w') := vcFn_sound noCount mixed ((F26.eq x0 x1 w Q).symm ▸ h)
/-! ### function 27: (*stillage/slots.Table[int]).grow -/
def F27.b3c (Q : Value → World → Prop) (C3 : (Option Addr × (Option Addr × Nat × Nat) × Int × Int × Unit) → World → Prop) (x0 : Option Addr) (x18 : (Option Addr × Nat × Nat)) (x19 : Int) (x20 : Int) (w : World) : Prop :=
  vIf (decide (x20 < x19))
  (dr x18.1 fun b11 o12 =>
    gd (decide (0 ≤ x20)) <|
    gd (decide (x20 < ((x18.2.1 : Nat) : Int))) <|
    ldA 34 w b11 (o12 + (x20).toNat * 34) fun a13 =>
    nw w Z59 59 fun b14 w15 =>
    gd (a13.length == 34) <|
    st w15 b14 0 a13 fun w16 =>
    ldB w16 b14 0 fun t17 =>
    vIf t17
    (ldA 32 w16 b14 (0 + 1) fun a18 =>
      Calls Try.prog 26 #[Value.pointer x0, ofL a18] w16 fun e20 w19 =>
      ∃ i21 : Int, ∃ t22 : Bool, e20 = .returned (Value.tuple #[Value.int .i64 i21, Value.bool t22]) ∧ (
        dr x0 fun b23 o24 =>
        ldSl w19.drew b23 o24 fun A25 n26 c27 =>
        ldA 34 w19.drew b14 0 fun a28 =>
        dr A25 fun b29 o30 =>
        gd (decide (0 ≤ i21)) <|
        gd (decide (i21 < ((n26 : Nat) : Int))) <|
        gd (a28.length == 34) <|
        st w19.drew b29 (o30 + (i21).toNat * 34) a28 fun w31 =>
        jnC C3 (x0, (x18.1, x18.2.1, x18.2.2), (x19), ((IntKind.wrap .i64 (x20 + 1))), ()) w31))
    (jnC C3 (x0, (x18.1, x18.2.1, x18.2.2), (x19), ((IntKind.wrap .i64 (x20 + 1))), ()) w16))
  (Q (Value.tuple #[]) w)
def F27.b3 (Q : Value → World → Prop) : (Option Addr × (Option Addr × Nat × Nat) × Int × Int × Unit) → World → ((Option Addr × (Option Addr × Nat × Nat) × Int × Int × Unit) → World → Prop) → Prop := fun s w C3 => ∀ _ : Nat → Value, F27.b3c Q C3 s.1 s.2.1 s.2.2.1 s.2.2.2.1 w
def F27.l3 (Q : Value → World → Prop) : (Option Addr × (Option Addr × Nat × Nat) × Int × Int × Unit) → World → Prop := fun s w => ∃ n, loopC (F27.b3 Q) n s w
def F27.vc (x0 : Option Addr) (w : World) (Q : Value → World → Prop) : Prop :=
  dr x0 fun b1 o2 =>
  ldSl w b1 o2 fun A3 n4 c5 =>
  gd (decide (0 ≤ (IntKind.wrap .i64 (2 * ((n4 : Nat) : Int))))) <|
  gd (decide ((IntKind.wrap .i64 (2 * ((n4 : Nat) : Int))) ≤ (IntKind.wrap .i64 (2 * ((n4 : Nat) : Int))))) <|
  gd (decide ((IntKind.wrap .i64 (2 * ((n4 : Nat) : Int))) * 48 ≤ 281474976710656 ∧ (IntKind.wrap .i64 (2 * ((n4 : Nat) : Int))) ≤ 9223372036854775807)) <|
  nw w (zeros ((IntKind.wrap .i64 (2 * ((n4 : Nat) : Int)))).toNat Z59) 59 fun b6 w7 =>
  dr x0 fun b8 o9 =>
  st w7 b8 o9 [Value.slice (some ⟨b6, 0, none⟩) ((IntKind.wrap .i64 (2 * ((n4 : Nat) : Int)))).toNat ((IntKind.wrap .i64 (2 * ((n4 : Nat) : Int)))).toNat] fun w10 =>
  jnC (F27.l3 Q) (x0, (A3, n4, c5), (((n4 : Nat) : Int)), (0), ()) w10
def F27.an : Ann := ⟨[(3, [(0, .kP), (18, .kSl), (19, .kI .i64), (20, .kI .i64)])], []⟩
theorem F27.eq (x0 : Option Addr) (w : World) (Q : Value → World → Prop) : vcFn Try.prog F27.an 27 [Value.pointer x0] w Q = F27.vc x0 w Q := by kernel_rfl
theorem F27.of (x0 : Option Addr) (w : World) {Q : Value → World → Prop} (h : F27.vc x0 w Q) : Calls Try.prog 27 #[Value.pointer x0] w (fun e w' => ∃ v, e = .returned v ∧ Q v w') := vcFn_sound noCount mixed ((F27.eq x0 w Q).symm ▸ h)
/-! ### function 28: (*stillage/slots.Table[int]).between -/
def F28.vc (x0 : Option Addr) (x1 : Int) (x2 : Int) (w : World) (Q : Value → World → Prop) : Prop :=
  dr x0 fun b1 o2 =>
  ldSl w b1 o2 fun A3 n4 c5 =>
  dr A3 fun b6 o7 =>
  gd (decide (0 ≤ x2)) <|
  gd (decide (x2 < ((n4 : Nat) : Int))) <|
  ldA 32 w b6 ((o7 + (x2).toNat * 34) + 1) fun a8 =>
  Calls Try.prog 34 #[Value.pointer x0, ofL a8] w fun e10 w9 =>
  ∃ i11 : Int, e10 = .returned (Value.int .i64 i11) ∧ (
    dr x0 fun b12 o13 =>
    ldSl w9 b12 o13 fun A14 n15 c16 =>
    gd (decide (((n15 : Nat) : Int) ≠ 0)) <|
    gd (decide (((n15 : Nat) : Int) ≠ 0)) <|
    Q (Value.bool (decide ((Int.tmod (IntKind.wrap .i64 ((IntKind.wrap .i64 ((IntKind.wrap .i64 (i11 - x1)) - 1)) + ((n15 : Nat) : Int))) ((n15 : Nat) : Int)) < (Int.tmod (IntKind.wrap .i64 ((IntKind.wrap .i64 (x2 - x1)) + ((n15 : Nat) : Int))) ((n15 : Nat) : Int))))) w9.drew)
def F28.an : Ann := ⟨[], []⟩
theorem F28.eq (x0 : Option Addr) (x1 : Int) (x2 : Int) (w : World) (Q : Value → World → Prop) : vcFn Try.prog F28.an 28 [Value.pointer x0, Value.int .i64 x1, Value.int .i64 x2] w Q = F28.vc x0 x1 x2 w Q := by kernel_rfl
theorem F28.of (x0 : Option Addr) (x1 : Int) (x2 : Int) (w : World) {Q : Value → World → Prop} (h : F28.vc x0 x1 x2 w Q) : Calls Try.prog 28 #[Value.pointer x0, Value.int .i64 x1, Value.int .i64 x2] w (fun e w' => ∃ v, e = .returned v ∧ Q v w') := vcFn_sound noCount mixed ((F28.eq x0 x1 x2 w Q).symm ▸ h)
/-! ### function 34: (*stillage/slots.Table[int]).home -/
def F34.vc (x0 : Option Addr) (x1 : List Value) (w : World) (Q : Value → World → Prop) : Prop :=
  nw w x1 28 fun b1 w2 =>
  ldI .u8 w2.drew b1 0 fun i3 =>
  ldI .u8 w2.drew b1 (0 + 1) fun i4 =>
  dr x0 fun b5 o6 =>
  ldSl w2.drew b5 o6 fun A7 n8 c9 =>
  gd (decide (((n8 : Nat) : Int) ≠ 0)) <|
  Q (Value.int .i64 (Int.tmod (iOr .i64 (IntKind.wrap .i64 i3) (IntKind.wrap .i64 ((IntKind.wrap .i64 i4) * 2 ^ 8))) ((n8 : Nat) : Int))) w2.drew
def F34.an : Ann := ⟨[], []⟩
theorem F34.eq (x0 : Option Addr) (x1 : List Value) (w : World) (Q : Value → World → Prop) : vcFn Try.prog F34.an 34 [Value.pointer x0, ofL x1] w Q = F34.vc x0 x1 w Q := by kernel_rfl
theorem F34.of (x0 : Option Addr) (x1 : List Value) (w : World) {Q : Value → World → Prop} (h : F34.vc x0 x1 w Q) : Calls Try.prog 34 #[Value.pointer x0, ofL x1] w (fun e w' => ∃ v, e = .returned v ∧ Q v w') := vcFn_sound noCount mixed ((F34.eq x0 x1 w Q).symm ▸ h)
end Go.Proofs.Ytbcbpgfjmcmclaa
