/- PRINTED BY MY OWN gen.py out of the translation: each function as a proposition. -/
import Derived.Test.YtbcbpgfjmcmclaaProg
import Derived.Test.YtbcbpgfjmcmclaaG7
namespace Go.Proofs.Ytbcbpgfjmcmclaa
open Go.GV
set_option linter.unusedVariables false
set_option maxRecDepth 100000
theorem noCount : NoCount Try.prog := noCount_of (by kernel_rfl)
theorem mixed : Try.prog.follows .mixedOrders = true := by kernel_rfl
def Z28 : List Value := [Value.int .u8 0, Value.int .u8 0, Value.int .u8 0, Value.int .u8 0, Value.int .u8 0, Value.int .u8 0, Value.int .u8 0, Value.int .u8 0, Value.int .u8 0, Value.int .u8 0, Value.int .u8 0, Value.int .u8 0, Value.int .u8 0, Value.int .u8 0, Value.int .u8 0, Value.int .u8 0, Value.int .u8 0, Value.int .u8 0, Value.int .u8 0, Value.int .u8 0, Value.int .u8 0, Value.int .u8 0, Value.int .u8 0, Value.int .u8 0, Value.int .u8 0, Value.int .u8 0, Value.int .u8 0, Value.int .u8 0, Value.int .u8 0, Value.int .u8 0, Value.int .u8 0, Value.int .u8 0]
def Z45 : List Value := [Value.int .u8 0, Value.int .u8 0, Value.int .u8 0, Value.int .u8 0, Value.int .u8 0, Value.int .u8 0, Value.int .u8 0, Value.int .u8 0, Value.int .u8 0, Value.int .u8 0, Value.int .u8 0, Value.int .u8 0, Value.int .u8 0, Value.int .u8 0, Value.int .u8 0, Value.int .u8 0, Value.int .u8 0, Value.int .u8 0, Value.int .u8 0, Value.int .u8 0, Value.int .u8 0, Value.int .u8 0, Value.int .u8 0, Value.int .u8 0, Value.int .u8 0, Value.int .u8 0, Value.int .u8 0, Value.int .u8 0, Value.int .u8 0, Value.int .u8 0, Value.int .u8 0, Value.int .u8 0, Value.int .i64 0]
def Z59 : List Value := [Value.bool false, Value.int .u8 0, Value.int .u8 0, Value.int .u8 0, Value.int .u8 0, Value.int .u8 0, Value.int .u8 0, Value.int .u8 0, Value.int .u8 0, Value.int .u8 0, Value.int .u8 0, Value.int .u8 0, Value.int .u8 0, Value.int .u8 0, Value.int .u8 0, Value.int .u8 0, Value.int .u8 0, Value.int .u8 0, Value.int .u8 0, Value.int .u8 0, Value.int .u8 0, Value.int .u8 0, Value.int .u8 0, Value.int .u8 0, Value.int .u8 0, Value.int .u8 0, Value.int .u8 0, Value.int .u8 0, Value.int .u8 0, Value.int .u8 0, Value.int .u8 0, Value.int .u8 0, Value.int .u8 0, Value.int .i64 0]
def Z66 : List Value := [Value.bool false, Value.int .u8 0, Value.int .u8 0, Value.int .u8 0, Value.int .u8 0, Value.int .u8 0, Value.int .u8 0, Value.int .u8 0, Value.int .u8 0, Value.int .u8 0, Value.int .u8 0, Value.int .u8 0, Value.int .u8 0, Value.int .u8 0, Value.int .u8 0, Value.int .u8 0, Value.int .u8 0, Value.int .u8 0, Value.int .u8 0, Value.int .u8 0, Value.int .u8 0, Value.int .u8 0, Value.int .u8 0, Value.int .u8 0, Value.int .u8 0, Value.int .u8 0, Value.int .u8 0, Value.int .u8 0, Value.int .u8 0, Value.int .u8 0, Value.int .u8 0, Value.int .u8 0, Value.int .u8 0, Value.string (⟨#[]⟩ : ByteArray)]
/-! ### function 3: stillage/stillagelaw18.SlotsMany -/
def F3.k11c (Q : Value → World → Prop) (C9 : (Int × Int × Int × Option Addr × Int × Unit) → World → Prop) (x0 : Int) (x1 : Int) (x2 : Int) (x7 : Option Addr) (x9 : Int) (w : World) : Prop :=
  Calls Try.prog 9 #[Value.pointer x7, ofL ([Value.int .u8 x2] ++ ([Value.int .u8 0] ++ ([Value.int .u8 (IntKind.wrap .u8 x9)] ++ ([Value.int .u8 (IntKind.wrap .u8 (Int.fdiv x9 (2 ^ 8)))] ++ ([Value.int .u8 0] ++ ([Value.int .u8 0] ++ ([Value.int .u8 0] ++ ([Value.int .u8 0] ++ ([Value.int .u8 0] ++ ([Value.int .u8 0] ++ ([Value.int .u8 0] ++ ([Value.int .u8 0] ++ ([Value.int .u8 0] ++ ([Value.int .u8 0] ++ ([Value.int .u8 0] ++ ([Value.int .u8 0] ++ ([Value.int .u8 0] ++ ([Value.int .u8 0] ++ ([Value.int .u8 0] ++ ([Value.int .u8 0] ++ ([Value.int .u8 0] ++ ([Value.int .u8 0] ++ ([Value.int .u8 0] ++ ([Value.int .u8 0] ++ ([Value.int .u8 0] ++ ([Value.int .u8 0] ++ ([Value.int .u8 0] ++ ([Value.int .u8 0] ++ ([Value.int .u8 0] ++ ([Value.int .u8 0] ++ ([Value.int .u8 0] ++ ([Value.int .u8 0] ++ []))))))))))))))))))))))))))))))))] w fun e13 w12 =>
  ∃ t14 : Bool, e13 = .returned (Value.bool t14) ∧ (
    vIf (!t14)
    (Q (Value.bool false) w12)
    (jnC C9 ((x0), (x1), (x2), x7, ((IntKind.wrap .i64 (x9 + 1))), ()) w12))
def F3.k11 (Q : Value → World → Prop) (C9 : (Int × Int × Int × Option Addr × Int × Unit) → World → Prop) : (Int × Int × Int × Option Addr × Int × Unit) → World → Prop := fun s w => ∀ _ : Nat → Value, F3.k11c Q C9 s.1 s.2.1 s.2.2.1 s.2.2.2.1 s.2.2.2.2.1 w
def F3.b15c (Q : Value → World → Prop) (C15 : (Int × Int × Int × Option Addr × Int × Int × Unit) → World → Prop) (x0 : Int) (x1 : Int) (x2 : Int) (x7 : Option Addr) (x10 : Int) (x11 : Int) (w : World) : Prop :=
  vIf (decide (x11 < x0))
  (Calls Try.prog 10 #[Value.pointer x7, ofL ([Value.int .u8 x2] ++ ([Value.int .u8 0] ++ ([Value.int .u8 (IntKind.wrap .u8 x11)] ++ ([Value.int .u8 (IntKind.wrap .u8 (Int.fdiv x11 (2 ^ 8)))] ++ ([Value.int .u8 0] ++ ([Value.int .u8 0] ++ ([Value.int .u8 0] ++ ([Value.int .u8 0] ++ ([Value.int .u8 0] ++ ([Value.int .u8 0] ++ ([Value.int .u8 0] ++ ([Value.int .u8 0] ++ ([Value.int .u8 0] ++ ([Value.int .u8 0] ++ ([Value.int .u8 0] ++ ([Value.int .u8 0] ++ ([Value.int .u8 0] ++ ([Value.int .u8 0] ++ ([Value.int .u8 0] ++ ([Value.int .u8 0] ++ ([Value.int .u8 0] ++ ([Value.int .u8 0] ++ ([Value.int .u8 0] ++ ([Value.int .u8 0] ++ ([Value.int .u8 0] ++ ([Value.int .u8 0] ++ ([Value.int .u8 0] ++ ([Value.int .u8 0] ++ ([Value.int .u8 0] ++ ([Value.int .u8 0] ++ ([Value.int .u8 0] ++ ([Value.int .u8 0] ++ []))))))))))))))))))))))))))))))))] w fun e16 w15 =>
    ∃ i17 : Int, ∃ t18 : Bool, e16 = .returned (Value.tuple #[Value.int .i64 i17, Value.bool t18]) ∧ (
      vIf (!(t18 == (decide (x11 ≥ x1))))
      (Q (Value.bool false) w15)
      (vIf t18
        (vIf (i17 != x11)
          (Q (Value.bool false) w15)
          (vIf t18
            (jnC C15 ((x0), (x1), (x2), x7, ((IntKind.wrap .i64 (x10 + 1))), ((IntKind.wrap .i64 (x11 + 1))), ()) w15)
            (jnC C15 ((x0), (x1), (x2), x7, (x10), ((IntKind.wrap .i64 (x11 + 1))), ()) w15)))
        (vIf t18
          (jnC C15 ((x0), (x1), (x2), x7, ((IntKind.wrap .i64 (x10 + 1))), ((IntKind.wrap .i64 (x11 + 1))), ()) w15)
          (jnC C15 ((x0), (x1), (x2), x7, (x10), ((IntKind.wrap .i64 (x11 + 1))), ()) w15)))))
  (Calls Try.prog 11 #[Value.pointer x7] w fun e20 w19 =>
    ∃ i21 : Int, e20 = .returned (Value.int .i64 i21) ∧ (
      vIf (i21 == x10)
      (Calls Try.prog 12 #[Value.pointer x7] w19 fun e23 w22 =>
        ∃ i24 : Int, e23 = .returned (Value.int .i64 i24) ∧ (
          vIf (decide ((IntKind.wrap .i64 (4 * x10)) ≤ (IntKind.wrap .i64 (3 * i24))))
          (Calls Try.prog 6 #[] w22 fun e26 w25 =>
            ∃ t27 : Bool, e26 = .returned (Value.bool t27) ∧ (
              Q (Value.bool t27) w25))
          (Q (Value.bool false) w22)))
      (Q (Value.bool false) w19)))
def F3.b15 (Q : Value → World → Prop) : (Int × Int × Int × Option Addr × Int × Int × Unit) → World → ((Int × Int × Int × Option Addr × Int × Int × Unit) → World → Prop) → Prop := fun s w C15 => ∀ _ : Nat → Value, F3.b15c Q C15 s.1 s.2.1 s.2.2.1 s.2.2.2.1 s.2.2.2.2.1 s.2.2.2.2.2.1 w
def F3.l15 (Q : Value → World → Prop) : (Int × Int × Int × Option Addr × Int × Int × Unit) → World → Prop := fun s w => ∃ n, loopC (F3.b15 Q) n s w
def F3.k13c (Q : Value → World → Prop) (x0 : Int) (x1 : Int) (x2 : Int) (x7 : Option Addr) (w : World) : Prop :=
  jnC (F3.l15 Q) ((x0), (x1), (x2), x7, (0), (0), ()) w
def F3.k13 (Q : Value → World → Prop) : (Int × Int × Int × Option Addr × Unit) → World → Prop := fun s w => ∀ _ : Nat → Value, F3.k13c Q s.1 s.2.1 s.2.2.1 s.2.2.2.1 w
def F3.b9c (Q : Value → World → Prop) (C9 : (Int × Int × Int × Option Addr × Int × Unit) → World → Prop) (x0 : Int) (x1 : Int) (x2 : Int) (x7 : Option Addr) (x9 : Int) (w : World) : Prop :=
  vIf (decide (x9 < x0))
  (vIf (decide (x9 < x1))
    (jnC (F3.k11 Q C9) ((x0), (x1), (x2), x7, (x9), ()) w)
    (jnC (F3.k13 Q) ((x0), (x1), (x2), x7, ()) w))
  (jnC (F3.k13 Q) ((x0), (x1), (x2), x7, ()) w)
def F3.b9 (Q : Value → World → Prop) : (Int × Int × Int × Option Addr × Int × Unit) → World → ((Int × Int × Int × Option Addr × Int × Unit) → World → Prop) → Prop := fun s w C9 => ∀ _ : Nat → Value, F3.b9c Q C9 s.1 s.2.1 s.2.2.1 s.2.2.2.1 s.2.2.2.2.1 w
def F3.l9 (Q : Value → World → Prop) : (Int × Int × Int × Option Addr × Int × Unit) → World → Prop := fun s w => ∃ n, loopC (F3.b9 Q) n s w
def F3.b5c (Q : Value → World → Prop) (C5 : (Int × Int × Int × Option Addr × Int × Unit) → World → Prop) (x0 : Int) (x1 : Int) (x2 : Int) (x7 : Option Addr) (x8 : Int) (w : World) : Prop :=
  vIf (decide (x8 < x0))
  (Calls Try.prog 8 #[Value.pointer x7, ofL ([Value.int .u8 x2] ++ ([Value.int .u8 0] ++ ([Value.int .u8 (IntKind.wrap .u8 x8)] ++ ([Value.int .u8 (IntKind.wrap .u8 (Int.fdiv x8 (2 ^ 8)))] ++ ([Value.int .u8 0] ++ ([Value.int .u8 0] ++ ([Value.int .u8 0] ++ ([Value.int .u8 0] ++ ([Value.int .u8 0] ++ ([Value.int .u8 0] ++ ([Value.int .u8 0] ++ ([Value.int .u8 0] ++ ([Value.int .u8 0] ++ ([Value.int .u8 0] ++ ([Value.int .u8 0] ++ ([Value.int .u8 0] ++ ([Value.int .u8 0] ++ ([Value.int .u8 0] ++ ([Value.int .u8 0] ++ ([Value.int .u8 0] ++ ([Value.int .u8 0] ++ ([Value.int .u8 0] ++ ([Value.int .u8 0] ++ ([Value.int .u8 0] ++ ([Value.int .u8 0] ++ ([Value.int .u8 0] ++ ([Value.int .u8 0] ++ ([Value.int .u8 0] ++ ([Value.int .u8 0] ++ ([Value.int .u8 0] ++ ([Value.int .u8 0] ++ ([Value.int .u8 0] ++ [])))))))))))))))))))))))))))))))), Value.int .i64 x8] w fun e11 w10 =>
    e11 = .returned (Value.tuple #[]) ∧ (
      jnC C5 ((x0), (x1), (x2), x7, ((IntKind.wrap .i64 (x8 + 1))), ()) w10))
  (jnC (F3.l9 Q) ((x0), (x1), (x2), x7, (0), ()) w)
def F3.b5 (Q : Value → World → Prop) : (Int × Int × Int × Option Addr × Int × Unit) → World → ((Int × Int × Int × Option Addr × Int × Unit) → World → Prop) → Prop := fun s w C5 => ∀ _ : Nat → Value, F3.b5c Q C5 s.1 s.2.1 s.2.2.1 s.2.2.2.1 s.2.2.2.2.1 w
def F3.l5 (Q : Value → World → Prop) : (Int × Int × Int × Option Addr × Int × Unit) → World → Prop := fun s w => ∃ n, loopC (F3.b5 Q) n s w
def F3.k3c (Q : Value → World → Prop) (x0 : Int) (x1 : Int) (x2 : Int) (w : World) : Prop :=
  Calls Try.prog 7 #[] w fun e8 w7 =>
  ∃ p9 : Option Addr, e8 = .returned (Value.pointer p9) ∧ (
    jnC (F3.l5 Q) ((x0), (x1), (x2), p9, (0), ()) w7)
def F3.k3 (Q : Value → World → Prop) : (Int × Int × Int × Unit) → World → Prop := fun s w => ∀ _ : Nat → Value, F3.k3c Q s.1 s.2.1 s.2.2.1 w
def F3.vc (x0 : Int) (x1 : Int) (x2 : Int) (w : World) (Q : Value → World → Prop) : Prop :=
  vIf (decide (x0 < 0))
  (Calls Try.prog 6 #[] w fun e2 w1 =>
    ∃ t3 : Bool, e2 = .returned (Value.bool t3) ∧ (
      Q (Value.bool t3) w1))
  (vIf (decide (x0 > 600))
    (Calls Try.prog 6 #[] w fun e5 w4 =>
      ∃ t6 : Bool, e5 = .returned (Value.bool t6) ∧ (
        Q (Value.bool t6) w4))
    (jnC (F3.k3 Q) ((x0), (x1), (x2), ()) w))
def F3.an : Ann := ⟨[(5, [(0, .kI .i64), (1, .kI .i64), (2, .kI .u8), (7, .kP), (8, .kI .i64)]), (9, [(0, .kI .i64), (1, .kI .i64), (2, .kI .u8), (7, .kP), (9, .kI .i64)]), (15, [(0, .kI .i64), (1, .kI .i64), (2, .kI .u8), (7, .kP), (10, .kI .i64), (11, .kI .i64)])], [(3, [(0, .kI .i64), (1, .kI .i64), (2, .kI .u8)]), (11, [(0, .kI .i64), (1, .kI .i64), (2, .kI .u8), (7, .kP), (9, .kI .i64)]), (13, [(0, .kI .i64), (1, .kI .i64), (2, .kI .u8), (7, .kP)])]⟩
theorem F3.eq (x0 : Int) (x1 : Int) (x2 : Int) (w : World) (Q : Value → World → Prop) : vcFn Try.prog F3.an 3 [Value.int .i64 x0, Value.int .i64 x1, Value.int .u8 x2] w Q = F3.vc x0 x1 x2 w Q := by kernel_rfl
theorem F3.of (x0 : Int) (x1 : Int) (x2 : Int) (w : World) {Q : Value → World → Prop} (h : F3.vc x0 x1 x2 w Q) : Calls Try.prog 3 #[Value.int .i64 x0, Value.int .i64 x1, Value.int .u8 x2] w (fun e w' => ∃ v, e = .returned v ∧ Q v w') := vcFn_sound noCount mixed ((F3.eq x0 x1 x2 w Q).symm ▸ h)
/-! ### function 4: stillage/stillagelaw18.SlotsDoes -/
def F4.k16c (Q : Value → World → Prop) (C4 : ((Option Addr × Nat × Nat) × Option Addr × (Nat × Nat) × Int × Unit) → World → Prop) (x0 : (Option Addr × Nat × Nat)) (x3 : Option Addr) (x4 : (Nat × Nat)) (x5 : Int) (x6 : (Nat × Nat)) (w : World) : Prop :=
  ldA 32 w x6.1 x6.2 fun a34 =>
  Calls Try.prog 10 #[Value.pointer x3, ofL a34] w fun e36 w35 =>
  ∃ i37 : Int, ∃ t38 : Bool, e36 = .returned (Value.tuple #[Value.int .i64 i37, Value.bool t38]) ∧ (
    ldA 2 w35 x4.1 x4.2 fun a39 =>
    ldA 32 w35 x6.1 x6.2 fun a40 =>
    Calls Try.prog 15 #[ofL a39, ofL a40] w35 fun e42 w41 =>
    ∃ i43 : Int, ∃ t44 : Bool, e42 = .returned (Value.tuple #[Value.int .i64 i43, Value.bool t44]) ∧ (
      vIf (i37 != i43)
      (Q (Value.bool false) w41.drew)
      (vIf (!(t38 == t44))
        (Q (Value.bool false) w41.drew)
        (ldSl w41.drew x4.1 x4.2 fun A45 n46 c47 =>
          Calls Try.prog 11 #[Value.pointer x3] w41.drew fun e49 w48 =>
          ∃ i50 : Int, e49 = .returned (Value.int .i64 i50) ∧ (
            kp w41.drew x4.1 x4.2 1 w48 <|
            vIf (i50 != ((n46 : Nat) : Int))
            (Q (Value.bool false) w48)
            (ldI .i64 w48 x4.1 (x4.2 + 1) fun i51 =>
              Calls Try.prog 12 #[Value.pointer x3] w48 fun e53 w52 =>
              ∃ i54 : Int, e53 = .returned (Value.int .i64 i54) ∧ (
                kp w48 x4.1 (x4.2 + 1) 1 w52 <|
                vIf (i54 != i51)
                (Q (Value.bool false) w52)
                (jnC C4 ((x0.1, x0.2.1, x0.2.2), x3, (x4.1, x4.2), ((IntKind.wrap .i64 (x5 + 1))), ()) w52))))))))
def F4.k16 (Q : Value → World → Prop) (C4 : ((Option Addr × Nat × Nat) × Option Addr × (Nat × Nat) × Int × Unit) → World → Prop) : ((Option Addr × Nat × Nat) × Option Addr × (Nat × Nat) × Int × (Nat × Nat) × Unit) → World → Prop := fun s w => ∀ _ : Nat → Value, F4.k16c Q C4 s.1 s.2.1 s.2.2.1 s.2.2.2.1 s.2.2.2.2.1 w
def F4.b21c (Q : Value → World → Prop) (C21 : (Option Addr × (Nat × Nat) × Int × Unit) → World → Prop) (x3 : Option Addr) (x4 : (Nat × Nat)) (x13 : Int) (w : World) : Prop :=
  ldSl w x4.1 x4.2 fun A71 n72 c73 =>
  vIf (decide (x13 < ((n72 : Nat) : Int)))
  (ldSl w x4.1 x4.2 fun A74 n75 c76 =>
    dr A74 fun b77 o78 =>
    gd (decide (0 ≤ x13)) <|
    gd (decide (x13 < ((n75 : Nat) : Int))) <|
    ldA 32 w b77 (o78 + (x13).toNat * 33) fun a79 =>
    Calls Try.prog 10 #[Value.pointer x3, ofL a79] w fun e81 w80 =>
    ∃ i82 : Int, ∃ t83 : Bool, e81 = .returned (Value.tuple #[Value.int .i64 i82, Value.bool t83]) ∧ (
      vIf (!t83)
      (Q (Value.bool false) w80)
      (ldSl w80 x4.1 x4.2 fun A84 n85 c86 =>
        dr A84 fun b87 o88 =>
        gd (decide (0 ≤ x13)) <|
        gd (decide (x13 < ((n85 : Nat) : Int))) <|
        ldI .i64 w80 b87 ((o88 + (x13).toNat * 33) + 32) fun i89 =>
        vIf (i82 != i89)
        (Q (Value.bool false) w80)
        (jnC C21 (x3, (x4.1, x4.2), ((IntKind.wrap .i64 (x13 + 1))), ()) w80))))
  (ldA 2 w.drew x4.1 x4.2 fun a90 =>
    Calls Try.prog 18 #[Value.pointer x3] w.drew fun e92 w91 =>
    ∃ (A93 : Option Addr) (n94 c95 : Nat), e92 = .returned (Value.slice A93 n94 c95) ∧ (
      kp w.drew x4.1 x4.2 2 w91 <|
      Calls Try.prog 19 #[ofL a90] w91 fun e97 w96 =>
      ∃ (A98 : Option Addr) (n99 c100 : Nat), e97 = .returned (Value.slice A98 n99 c100) ∧ (
        Calls Try.prog 17 #[Value.slice A93 n94 c95, Value.slice A98 n99 c100] w96 fun e102 w101 =>
        ∃ t103 : Bool, e102 = .returned (Value.bool t103) ∧ (
          vIf t103
          (Calls Try.prog 6 #[] w101 fun e105 w104 =>
            ∃ t106 : Bool, e105 = .returned (Value.bool t106) ∧ (
              Q (Value.bool t106) w104))
          (Q (Value.bool false) w101)))))
def F4.b21 (Q : Value → World → Prop) : (Option Addr × (Nat × Nat) × Int × Unit) → World → ((Option Addr × (Nat × Nat) × Int × Unit) → World → Prop) → Prop := fun s w C21 => ∀ _ : Nat → Value, F4.b21c Q C21 s.1 s.2.1 s.2.2.1 w
def F4.l21 (Q : Value → World → Prop) : (Option Addr × (Nat × Nat) × Int × Unit) → World → Prop := fun s w => ∃ n, loopC (F4.b21 Q) n s w
def F4.b4c (Q : Value → World → Prop) (C4 : ((Option Addr × Nat × Nat) × Option Addr × (Nat × Nat) × Int × Unit) → World → Prop) (x0 : (Option Addr × Nat × Nat)) (x3 : Option Addr) (x4 : (Nat × Nat)) (x5 : Int) (w : World) : Prop :=
  vIf (decide (x5 < ((x0.2.1 : Nat) : Int)))
  (dr x0.1 fun b10 o11 =>
    gd (decide (0 ≤ x5)) <|
    gd (decide (x5 < ((x0.2.1 : Nat) : Int))) <|
    ldA 32 w b10 ((o11 + (x5).toNat * 34) + 1) fun a12 =>
    nw w Z28 28 fun b13 w14 =>
    gd (a12.length == 32) <|
    st w14 b13 0 a12 fun w15 =>
    dr x0.1 fun b16 o17 =>
    gd (decide (0 ≤ x5)) <|
    gd (decide (x5 < ((x0.2.1 : Nat) : Int))) <|
    ldI .i64 w15 b16 (o17 + (x5).toNat * 34) fun i18 =>
    vIf (i18 == 0)
    (ldA 32 w15.drew b13 0 fun a19 =>
      dr x0.1 fun b20 o21 =>
      gd (decide (0 ≤ x5)) <|
      gd (decide (x5 < ((x0.2.1 : Nat) : Int))) <|
      ldI .i64 w15.drew b20 ((o21 + (x5).toNat * 34) + 33) fun i22 =>
      Calls Try.prog 8 #[Value.pointer x3, ofL a19, Value.int .i64 i22] w15.drew fun e24 w23 =>
      e24 = .returned (Value.tuple #[]) ∧ (
        ldA 2 w23.drew x4.1 x4.2 fun a25 =>
        ldA 32 w23.drew b13 0 fun a26 =>
        dr x0.1 fun b27 o28 =>
        gd (decide (0 ≤ x5)) <|
        gd (decide (x5 < ((x0.2.1 : Nat) : Int))) <|
        ldI .i64 w23.drew b27 ((o28 + (x5).toNat * 34) + 33) fun i29 =>
        Calls Try.prog 14 #[ofL a25, ofL a26, Value.int .i64 i29] w23.drew fun e31 w30 =>
        ∃ a32 : List Value, e31 = .returned (ofL a32) ∧ (
          gd (a32.length == 2) <|
          st w30 x4.1 x4.2 a32 fun w33 =>
          jnC (F4.k16 Q C4) ((x0.1, x0.2.1, x0.2.2), x3, (x4.1, x4.2), (x5), (b13, 0), ()) w33)))
    (vIf (i18 == 1)
      (ldA 2 w15 x4.1 x4.2 fun a55 =>
        ldA 32 w15 b13 0 fun a56 =>
        Calls Try.prog 15 #[ofL a55, ofL a56] w15 fun e58 w57 =>
        ∃ i59 : Int, ∃ t60 : Bool, e58 = .returned (Value.tuple #[Value.int .i64 i59, Value.bool t60]) ∧ (
          ldA 32 w57 b13 0 fun a61 =>
          Calls Try.prog 9 #[Value.pointer x3, ofL a61] w57 fun e63 w62 =>
          ∃ t64 : Bool, e63 = .returned (Value.bool t64) ∧ (
            vIf (!(t64 == t60))
            (Q (Value.bool false) w62)
            (ldA 2 w62 x4.1 x4.2 fun a65 =>
              ldA 32 w62 b13 0 fun a66 =>
              Calls Try.prog 16 #[ofL a65, ofL a66] w62 fun e68 w67 =>
              ∃ a69 : List Value, e68 = .returned (ofL a69) ∧ (
                gd (a69.length == 2) <|
                st w67 x4.1 x4.2 a69 fun w70 =>
                jnC (F4.k16 Q C4) ((x0.1, x0.2.1, x0.2.2), x3, (x4.1, x4.2), (x5), (b13, 0), ()) w70)))))
      (jnC (F4.k16 Q C4) ((x0.1, x0.2.1, x0.2.2), x3, (x4.1, x4.2), (x5), (b13, 0), ()) w15)))
  (jnC (F4.l21 Q) (x3, (x4.1, x4.2), (0), ()) w)
def F4.b4 (Q : Value → World → Prop) : ((Option Addr × Nat × Nat) × Option Addr × (Nat × Nat) × Int × Unit) → World → (((Option Addr × Nat × Nat) × Option Addr × (Nat × Nat) × Int × Unit) → World → Prop) → Prop := fun s w C4 => ∀ _ : Nat → Value, F4.b4c Q C4 s.1 s.2.1 s.2.2.1 s.2.2.2.1 w
def F4.l4 (Q : Value → World → Prop) : ((Option Addr × Nat × Nat) × Option Addr × (Nat × Nat) × Int × Unit) → World → Prop := fun s w => ∃ n, loopC (F4.b4 Q) n s w
def F4.vc (x0A : Option Addr) (x0n x0c : Nat) (w : World) (Q : Value → World → Prop) : Prop :=
  Calls Try.prog 7 #[] w fun e2 w1 =>
  ∃ p3 : Option Addr, e2 = .returned (Value.pointer p3) ∧ (
    Calls Try.prog 13 #[] w1 fun e5 w4 =>
    ∃ a6 : List Value, e5 = .returned (ofL a6) ∧ (
      nw w4 [Value.slice none 0 0, Value.int .i64 0] 37 fun b7 w8 =>
      gd (a6.length == 2) <|
      st w8 b7 0 a6 fun w9 =>
      jnC (F4.l4 Q) ((x0A, x0n, x0c), p3, (b7, 0), (0), ()) w9))
def F4.an : Ann := ⟨[(4, [(0, .kSl), (3, .kP), (4, .kL), (5, .kI .i64)]), (21, [(3, .kP), (4, .kL), (13, .kI .i64)])], [(16, [(0, .kSl), (3, .kP), (4, .kL), (5, .kI .i64), (6, .kL)])]⟩
theorem F4.eq (x0A : Option Addr) (x0n x0c : Nat) (w : World) (Q : Value → World → Prop) : vcFn Try.prog F4.an 4 [Value.slice x0A x0n x0c] w Q = F4.vc x0A x0n x0c w Q := by kernel_rfl
theorem F4.of (x0A : Option Addr) (x0n x0c : Nat) (w : World) {Q : Value → World → Prop} (h : F4.vc x0A x0n x0c w Q) : Calls Try.prog 4 #[Value.slice x0A x0n x0c] w (fun e w' => ∃ v, e = .returned v ∧ Q v w') := vcFn_sound noCount mixed ((F4.eq x0A x0n x0c w Q).symm ▸ h)
/-! ### function 5: stillage/stillagelaw18.SlotsNone -/
def F5.vc (x0 : List Value) (w : World) (Q : Value → World → Prop) : Prop :=
  nw w x0 28 fun b1 w2 =>
  ldA 32 w2 b1 0 fun a3 =>
  Calls Try.prog 20 #[Value.pointer none, ofL a3, Value.string (⟨#[120]⟩ : ByteArray)] w2 fun e5 w4 =>
  e5 = .returned (Value.tuple #[]) ∧ (
    ldA 32 w4 b1 0 fun a6 =>
    Calls Try.prog 21 #[Value.pointer none, ofL a6] w4 fun e8 w7 =>
    ∃ s9 : ByteArray, ∃ t10 : Bool, e8 = .returned (Value.tuple #[Value.string s9, Value.bool t10]) ∧ (
      vIf (s9.toList == (⟨#[]⟩ : ByteArray).toList)
      (vIf (!t10)
        (ldA 32 w7 b1 0 fun a11 =>
          Calls Try.prog 22 #[Value.pointer none, ofL a11] w7 fun e13 w12 =>
          ∃ t14 : Bool, e13 = .returned (Value.bool t14) ∧ (
            vIf (!t14)
            (Calls Try.prog 23 #[Value.pointer none] w12 fun e16 w15 =>
              ∃ i17 : Int, e16 = .returned (Value.int .i64 i17) ∧ (
                vIf (i17 == 0)
                (Calls Try.prog 24 #[Value.pointer none] w15 fun e19 w18 =>
                  ∃ i20 : Int, e19 = .returned (Value.int .i64 i20) ∧ (
                    vIf (i20 == 0)
                    (Calls Try.prog 25 #[Value.pointer none] w18 fun e22 w21 =>
                      ∃ (A23 : Option Addr) (n24 c25 : Nat), e22 = .returned (Value.slice A23 n24 c25) ∧ (
                        vIf (((n24 : Nat) : Int) == 0)
                        (Calls Try.prog 6 #[] w21 fun e27 w26 =>
                          ∃ t28 : Bool, e27 = .returned (Value.bool t28) ∧ (
                            Q (Value.bool t28) w26))
                        (Q (Value.bool false) w21)))
                    (Q (Value.bool false) w18)))
                (Q (Value.bool false) w15)))
            (Q (Value.bool false) w12)))
        (Q (Value.bool false) w7))
      (Q (Value.bool false) w7)))
def F5.an : Ann := ⟨[], []⟩
theorem F5.eq (x0 : List Value) (w : World) (Q : Value → World → Prop) : vcFn Try.prog F5.an 5 [ofL x0] w Q = F5.vc x0 w Q := by kernel_rfl
theorem F5.of (x0 : List Value) (w : World) {Q : Value → World → Prop} (h : F5.vc x0 w Q) : Calls Try.prog 5 #[ofL x0] w (fun e w' => ∃ v, e = .returned v ∧ Q v w') := vcFn_sound noCount mixed ((F5.eq x0 w Q).symm ▸ h)
/-! ### function 6: stillage/stillagelaw18.lives -/
def F6.vc  (w : World) (Q : Value → World → Prop) : Prop :=
  Calls Try.prog 7 #[] w fun e2 w1 =>
  ∃ p3 : Option Addr, e2 = .returned (Value.pointer p3) ∧ (
    Calls Try.prog 8 #[Value.pointer p3, ofL ([Value.int .u8 1] ++ ([Value.int .u8 0] ++ ([Value.int .u8 0] ++ ([Value.int .u8 0] ++ ([Value.int .u8 0] ++ ([Value.int .u8 0] ++ ([Value.int .u8 0] ++ ([Value.int .u8 0] ++ ([Value.int .u8 0] ++ ([Value.int .u8 0] ++ ([Value.int .u8 0] ++ ([Value.int .u8 0] ++ ([Value.int .u8 0] ++ ([Value.int .u8 0] ++ ([Value.int .u8 0] ++ ([Value.int .u8 0] ++ ([Value.int .u8 0] ++ ([Value.int .u8 0] ++ ([Value.int .u8 0] ++ ([Value.int .u8 0] ++ ([Value.int .u8 0] ++ ([Value.int .u8 0] ++ ([Value.int .u8 0] ++ ([Value.int .u8 0] ++ ([Value.int .u8 0] ++ ([Value.int .u8 0] ++ ([Value.int .u8 0] ++ ([Value.int .u8 0] ++ ([Value.int .u8 0] ++ ([Value.int .u8 0] ++ ([Value.int .u8 0] ++ ([Value.int .u8 0] ++ [])))))))))))))))))))))))))))))))), Value.int .i64 7] w1 fun e5 w4 =>
    e5 = .returned (Value.tuple #[]) ∧ (
      Calls Try.prog 10 #[Value.pointer p3, ofL ([Value.int .u8 1] ++ ([Value.int .u8 0] ++ ([Value.int .u8 0] ++ ([Value.int .u8 0] ++ ([Value.int .u8 0] ++ ([Value.int .u8 0] ++ ([Value.int .u8 0] ++ ([Value.int .u8 0] ++ ([Value.int .u8 0] ++ ([Value.int .u8 0] ++ ([Value.int .u8 0] ++ ([Value.int .u8 0] ++ ([Value.int .u8 0] ++ ([Value.int .u8 0] ++ ([Value.int .u8 0] ++ ([Value.int .u8 0] ++ ([Value.int .u8 0] ++ ([Value.int .u8 0] ++ ([Value.int .u8 0] ++ ([Value.int .u8 0] ++ ([Value.int .u8 0] ++ ([Value.int .u8 0] ++ ([Value.int .u8 0] ++ ([Value.int .u8 0] ++ ([Value.int .u8 0] ++ ([Value.int .u8 0] ++ ([Value.int .u8 0] ++ ([Value.int .u8 0] ++ ([Value.int .u8 0] ++ ([Value.int .u8 0] ++ ([Value.int .u8 0] ++ ([Value.int .u8 0] ++ []))))))))))))))))))))))))))))))))] w4 fun e7 w6 =>
      ∃ i8 : Int, ∃ t9 : Bool, e7 = .returned (Value.tuple #[Value.int .i64 i8, Value.bool t9]) ∧ (
        vIf t9
        (vIf (i8 == 7)
          (Calls Try.prog 11 #[Value.pointer p3] w6 fun e11 w10 =>
            ∃ i12 : Int, e11 = .returned (Value.int .i64 i12) ∧ (
              vIf (i12 == 1)
              (Calls Try.prog 12 #[Value.pointer p3] w10 fun e14 w13 =>
                ∃ i15 : Int, e14 = .returned (Value.int .i64 i15) ∧ (
                  Q (Value.bool (i15 == 8)) w13))
              (Q (Value.bool false) w10)))
          (Q (Value.bool false) w6))
        (Q (Value.bool false) w6))))
def F6.an : Ann := ⟨[], []⟩
theorem F6.eq  (w : World) (Q : Value → World → Prop) : vcFn Try.prog F6.an 6 [] w Q = F6.vc  w Q := by kernel_rfl
theorem F6.of  (w : World) {Q : Value → World → Prop} (h : F6.vc  w Q) : Calls Try.prog 6 #[] w (fun e w' => ∃ v, e = .returned v ∧ Q v w') := vcFn_sound noCount mixed ((F6.eq  w Q).symm ▸ h)
/-! ### function 7: stillage/slots.New[int] -/
def F7.vc  (w : World) (Q : Value → World → Prop) : Prop :=
  nw w (zeros 8 Z59) 59 fun b1 w2 =>
  nw w2 ([Value.slice (some ⟨b1, 0, none⟩) 8 8] ++ ([Value.int .i64 0] ++ [])) 57 fun b3 w4 =>
  Q (Value.pointer (some ⟨b3, 0, none⟩)) w4
def F7.an : Ann := ⟨[], []⟩
theorem F7.eq  (w : World) (Q : Value → World → Prop) : vcFn Try.prog F7.an 7 [] w Q = F7.vc  w Q := by kernel_rfl
theorem F7.of  (w : World) {Q : Value → World → Prop} (h : F7.vc  w Q) : Calls Try.prog 7 #[] w (fun e w' => ∃ v, e = .returned v ∧ Q v w') := vcFn_sound noCount mixed ((F7.eq  w Q).symm ▸ h)
/-! ### function 8: (*stillage/slots.Table[int]).Put -/
def F8.k8c (Q : Value → World → Prop) (x0 : Option Addr) (x2 : Int) (x4 : (Nat × Nat)) (x6 : Int) (w : World) : Prop :=
  dr x0 fun b29 o30 =>
  ldSl w.drew b29 o30 fun A31 n32 c33 =>
  ldA 32 w.drew x4.1 x4.2 fun a34 =>
  gd (a34.length == 32) <|
  dr A31 fun b35 o36 =>
  gd (decide (0 ≤ x6)) <|
  gd (decide (x6 < ((n32 : Nat) : Int))) <|
  gd (([Value.bool true] ++ (a34 ++ ([Value.int .i64 x2] ++ []))).length == 34) <|
  st w.drew b35 (o36 + (x6).toNat * 34) ([Value.bool true] ++ (a34 ++ ([Value.int .i64 x2] ++ []))) fun w37 =>
  Q (Value.tuple #[]) w37
def F8.k8 (Q : Value → World → Prop) : (Option Addr × Int × (Nat × Nat) × Int × Unit) → World → Prop := fun s w => ∀ _ : Nat → Value, F8.k8c Q s.1 s.2.1 s.2.2.1 s.2.2.2.1 w
def F8.k7c (Q : Value → World → Prop) (x0 : Option Addr) (x2 : Int) (x4 : (Nat × Nat)) (x6 : Int) (w : World) : Prop :=
  dr x0 fun b23 o24 =>
  ldI .i64 w b23 (o24 + 1) fun i25 =>
  dr x0 fun b26 o27 =>
  st w b26 (o27 + 1) [Value.int .i64 (IntKind.wrap .i64 (i25 + 1))] fun w28 =>
  jnC (F8.k8 Q) (x0, (x2), (x4.1, x4.2), (x6), ()) w28
def F8.k7 (Q : Value → World → Prop) : (Option Addr × Int × (Nat × Nat) × Int × Unit) → World → Prop := fun s w => ∀ _ : Nat → Value, F8.k7c Q s.1 s.2.1 s.2.2.1 s.2.2.2.1 w
def F8.vc (x0 : Option Addr) (x1 : List Value) (x2 : Int) (w : World) (Q : Value → World → Prop) : Prop :=
  nw w x1 28 fun b1 w2 =>
  vIf x0.isNone
  (Q (Value.tuple #[]) w2)
  (ldA 32 w2 b1 0 fun a3 =>
    Calls Try.prog 26 #[Value.pointer x0, ofL a3] w2 fun e5 w4 =>
    ∃ i6 : Int, ∃ t7 : Bool, e5 = .returned (Value.tuple #[Value.int .i64 i6, Value.bool t7]) ∧ (
      vIf (!t7)
      (dr x0 fun b8 o9 =>
        ldI .i64 w4.drew b8 (o9 + 1) fun i10 =>
        dr x0 fun b11 o12 =>
        ldSl w4.drew b11 o12 fun A13 n14 c15 =>
        vIf (decide ((IntKind.wrap .i64 (4 * (IntKind.wrap .i64 (i10 + 1)))) > (IntKind.wrap .i64 (3 * ((n14 : Nat) : Int)))))
        (Calls Try.prog 27 #[Value.pointer x0] w4.drew fun e17 w16 =>
          e17 = .returned (Value.tuple #[]) ∧ (
            ldA 32 w16 b1 0 fun a18 =>
            Calls Try.prog 26 #[Value.pointer x0, ofL a18] w16 fun e20 w19 =>
            ∃ i21 : Int, ∃ t22 : Bool, e20 = .returned (Value.tuple #[Value.int .i64 i21, Value.bool t22]) ∧ (
              jnC (F8.k7 Q) (x0, (x2), (b1, 0), (i21), ()) w19)))
        (jnC (F8.k7 Q) (x0, (x2), (b1, 0), (i6), ()) w4.drew))
      (jnC (F8.k8 Q) (x0, (x2), (b1, 0), (i6), ()) w4)))
def F8.an : Ann := ⟨[], [(7, [(0, .kP), (2, .kI .i64), (4, .kL), (6, .kI .i64)]), (8, [(0, .kP), (2, .kI .i64), (4, .kL), (6, .kI .i64)])]⟩
theorem F8.eq (x0 : Option Addr) (x1 : List Value) (x2 : Int) (w : World) (Q : Value → World → Prop) : vcFn Try.prog F8.an 8 [Value.pointer x0, ofL x1, Value.int .i64 x2] w Q = F8.vc x0 x1 x2 w Q := by kernel_rfl
theorem F8.of (x0 : Option Addr) (x1 : List Value) (x2 : Int) (w : World) {Q : Value → World → Prop} (h : F8.vc x0 x1 x2 w Q) : Calls Try.prog 8 #[Value.pointer x0, ofL x1, Value.int .i64 x2] w (fun e w' => ∃ v, e = .returned v ∧ Q v w') := vcFn_sound noCount mixed ((F8.eq x0 x1 x2 w Q).symm ▸ h)
/-! ### function 9: (*stillage/slots.Table[int]).Cut -/
def F9.b8c (Q : Value → World → Prop) (C8 : (Option Addr × Int × Int × Int × Unit) → World → Prop) (x0 : Option Addr) (x5 : Int) (x7 : Int) (x8 : Int) (w : World) : Prop :=
  dr x0 fun b13 o14 =>
  ldSl w b13 o14 fun A15 n16 c17 =>
  dr A15 fun b18 o19 =>
  gd (decide (0 ≤ x8)) <|
  gd (decide (x8 < ((n16 : Nat) : Int))) <|
  ldB w b18 (o19 + (x8).toNat * 34) fun t20 =>
  vIf t20
  (Calls Try.prog 28 #[Value.pointer x0, Value.int .i64 x5, Value.int .i64 x8] w fun e22 w21 =>
    ∃ t23 : Bool, e22 = .returned (Value.bool t23) ∧ (
      vIf (!t23)
      (dr x0 fun b24 o25 =>
        ldSl w21.drew b24 o25 fun A26 n27 c28 =>
        dr x0 fun b29 o30 =>
        ldSl w21.drew b29 o30 fun A31 n32 c33 =>
        dr A31 fun b34 o35 =>
        gd (decide (0 ≤ x8)) <|
        gd (decide (x8 < ((n32 : Nat) : Int))) <|
        ldA 34 w21.drew b34 (o35 + (x8).toNat * 34) fun a36 =>
        dr A26 fun b37 o38 =>
        gd (decide (0 ≤ x5)) <|
        gd (decide (x5 < ((n27 : Nat) : Int))) <|
        gd (a36.length == 34) <|
        st w21.drew b37 (o38 + (x5).toNat * 34) a36 fun w39 =>
        gd (decide (x7 ≠ 0)) <|
        jnC C8 (x0, (x8), (x7), ((Int.tmod (IntKind.wrap .i64 (x8 + 1)) x7)), ()) w39)
      (gd (decide (x7 ≠ 0)) <|
        jnC C8 (x0, (x5), (x7), ((Int.tmod (IntKind.wrap .i64 (x8 + 1)) x7)), ()) w21)))
  (dr x0 fun b40 o41 =>
    ldSl w b40 o41 fun A42 n43 c44 =>
    dr A42 fun b45 o46 =>
    gd (decide (0 ≤ x5)) <|
    gd (decide (x5 < ((n43 : Nat) : Int))) <|
    gd (([Value.bool false] ++ ([Value.int .u8 0, Value.int .u8 0, Value.int .u8 0, Value.int .u8 0, Value.int .u8 0, Value.int .u8 0, Value.int .u8 0, Value.int .u8 0, Value.int .u8 0, Value.int .u8 0, Value.int .u8 0, Value.int .u8 0, Value.int .u8 0, Value.int .u8 0, Value.int .u8 0, Value.int .u8 0, Value.int .u8 0, Value.int .u8 0, Value.int .u8 0, Value.int .u8 0, Value.int .u8 0, Value.int .u8 0, Value.int .u8 0, Value.int .u8 0, Value.int .u8 0, Value.int .u8 0, Value.int .u8 0, Value.int .u8 0, Value.int .u8 0, Value.int .u8 0, Value.int .u8 0, Value.int .u8 0] ++ ([Value.int .i64 0] ++ []))).length == 34) <|
    st w b45 (o46 + (x5).toNat * 34) ([Value.bool false] ++ ([Value.int .u8 0, Value.int .u8 0, Value.int .u8 0, Value.int .u8 0, Value.int .u8 0, Value.int .u8 0, Value.int .u8 0, Value.int .u8 0, Value.int .u8 0, Value.int .u8 0, Value.int .u8 0, Value.int .u8 0, Value.int .u8 0, Value.int .u8 0, Value.int .u8 0, Value.int .u8 0, Value.int .u8 0, Value.int .u8 0, Value.int .u8 0, Value.int .u8 0, Value.int .u8 0, Value.int .u8 0, Value.int .u8 0, Value.int .u8 0, Value.int .u8 0, Value.int .u8 0, Value.int .u8 0, Value.int .u8 0, Value.int .u8 0, Value.int .u8 0, Value.int .u8 0, Value.int .u8 0] ++ ([Value.int .i64 0] ++ []))) fun w47 =>
    dr x0 fun b48 o49 =>
    ldI .i64 w47 b48 (o49 + 1) fun i50 =>
    dr x0 fun b51 o52 =>
    st w47 b51 (o52 + 1) [Value.int .i64 (IntKind.wrap .i64 (i50 - 1))] fun w53 =>
    Q (Value.bool true) w53)
def F9.b8 (Q : Value → World → Prop) : (Option Addr × Int × Int × Int × Unit) → World → ((Option Addr × Int × Int × Int × Unit) → World → Prop) → Prop := fun s w C8 => ∀ _ : Nat → Value, F9.b8c Q C8 s.1 s.2.1 s.2.2.1 s.2.2.2.1 w
def F9.l8 (Q : Value → World → Prop) : (Option Addr × Int × Int × Int × Unit) → World → Prop := fun s w => ∃ n, loopC (F9.b8 Q) n s w
def F9.vc (x0 : Option Addr) (x1 : List Value) (w : World) (Q : Value → World → Prop) : Prop :=
  nw w x1 28 fun b1 w2 =>
  vIf x0.isNone
  (Q (Value.bool false) w2)
  (ldA 32 w2 b1 0 fun a3 =>
    Calls Try.prog 26 #[Value.pointer x0, ofL a3] w2 fun e5 w4 =>
    ∃ i6 : Int, ∃ t7 : Bool, e5 = .returned (Value.tuple #[Value.int .i64 i6, Value.bool t7]) ∧ (
      vIf (!t7)
      (Q (Value.bool false) w4)
      (dr x0 fun b8 o9 =>
        ldSl w4 b8 o9 fun A10 n11 c12 =>
        gd (decide (((n11 : Nat) : Int) ≠ 0)) <|
        jnC (F9.l8 Q) (x0, (i6), (((n11 : Nat) : Int)), ((Int.tmod (IntKind.wrap .i64 (i6 + 1)) ((n11 : Nat) : Int))), ()) w4)))
def F9.an : Ann := ⟨[(8, [(0, .kP), (5, .kI .i64), (7, .kI .i64), (8, .kI .i64)])], []⟩
theorem F9.eq (x0 : Option Addr) (x1 : List Value) (w : World) (Q : Value → World → Prop) : vcFn Try.prog F9.an 9 [Value.pointer x0, ofL x1] w Q = F9.vc x0 x1 w Q := by kernel_rfl
theorem F9.of (x0 : Option Addr) (x1 : List Value) (w : World) {Q : Value → World → Prop} (h : F9.vc x0 x1 w Q) : Calls Try.prog 9 #[Value.pointer x0, ofL x1] w (fun e w' => ∃ v, e = .returned v ∧ Q v w') := vcFn_sound noCount mixed ((F9.eq x0 x1 w Q).symm ▸ h)
/-! ### function 10: (*stillage/slots.Table[int]).Get -/
def F10.vc (x0 : Option Addr) (x1 : List Value) (w : World) (Q : Value → World → Prop) : Prop :=
  nw w x1 28 fun b1 w2 =>
  vIf x0.isNone
  (Q (Value.tuple #[Value.int .i64 0, Value.bool false]) w2)
  (ldA 32 w2 b1 0 fun a3 =>
    Calls Try.prog 26 #[Value.pointer x0, ofL a3] w2 fun e5 w4 =>
    ∃ i6 : Int, ∃ t7 : Bool, e5 = .returned (Value.tuple #[Value.int .i64 i6, Value.bool t7]) ∧ (
      vIf (!t7)
      (Q (Value.tuple #[Value.int .i64 0, Value.bool false]) w4)
      (dr x0 fun b8 o9 =>
        ldSl w4 b8 o9 fun A10 n11 c12 =>
        dr A10 fun b13 o14 =>
        gd (decide (0 ≤ i6)) <|
        gd (decide (i6 < ((n11 : Nat) : Int))) <|
        ldI .i64 w4 b13 ((o14 + (i6).toNat * 34) + 33) fun i15 =>
        Q (Value.tuple #[Value.int .i64 i15, Value.bool true]) w4)))
def F10.an : Ann := ⟨[], []⟩
theorem F10.eq (x0 : Option Addr) (x1 : List Value) (w : World) (Q : Value → World → Prop) : vcFn Try.prog F10.an 10 [Value.pointer x0, ofL x1] w Q = F10.vc x0 x1 w Q := by kernel_rfl
theorem F10.of (x0 : Option Addr) (x1 : List Value) (w : World) {Q : Value → World → Prop} (h : F10.vc x0 x1 w Q) : Calls Try.prog 10 #[Value.pointer x0, ofL x1] w (fun e w' => ∃ v, e = .returned v ∧ Q v w') := vcFn_sound noCount mixed ((F10.eq x0 x1 w Q).symm ▸ h)
/-! ### function 11: (*stillage/slots.Table[int]).Len -/
def F11.vc (x0 : Option Addr) (w : World) (Q : Value → World → Prop) : Prop :=
  vIf x0.isNone
  (Q (Value.int .i64 0) w)
  (dr x0 fun b1 o2 =>
    ldI .i64 w b1 (o2 + 1) fun i3 =>
    Q (Value.int .i64 i3) w)
def F11.an : Ann := ⟨[], []⟩
theorem F11.eq (x0 : Option Addr) (w : World) (Q : Value → World → Prop) : vcFn Try.prog F11.an 11 [Value.pointer x0] w Q = F11.vc x0 w Q := by kernel_rfl
theorem F11.of (x0 : Option Addr) (w : World) {Q : Value → World → Prop} (h : F11.vc x0 w Q) : Calls Try.prog 11 #[Value.pointer x0] w (fun e w' => ∃ v, e = .returned v ∧ Q v w') := vcFn_sound noCount mixed ((F11.eq x0 w Q).symm ▸ h)
/-! ### function 12: (*stillage/slots.Table[int]).Slots -/
def F12.vc (x0 : Option Addr) (w : World) (Q : Value → World → Prop) : Prop :=
  vIf x0.isNone
  (Q (Value.int .i64 0) w)
  (dr x0 fun b1 o2 =>
    ldSl w b1 o2 fun A3 n4 c5 =>
    Q (Value.int .i64 ((n4 : Nat) : Int)) w)
def F12.an : Ann := ⟨[], []⟩
theorem F12.eq (x0 : Option Addr) (w : World) (Q : Value → World → Prop) : vcFn Try.prog F12.an 12 [Value.pointer x0] w Q = F12.vc x0 w Q := by kernel_rfl
theorem F12.of (x0 : Option Addr) (w : World) {Q : Value → World → Prop} (h : F12.vc x0 w Q) : Calls Try.prog 12 #[Value.pointer x0] w (fun e w' => ∃ v, e = .returned v ∧ Q v w') := vcFn_sound noCount mixed ((F12.eq x0 w Q).symm ▸ h)
/-! ### function 13: stillage/stillageref18.New -/
def F13.vc  (w : World) (Q : Value → World → Prop) : Prop :=
  nw w [Value.slice none 0 0, Value.int .i64 0] 37 fun b1 w2 =>
  gd (([Value.slice none 0 0] ++ ([Value.int .i64 8] ++ [])).length == 2) <|
  st w2 b1 0 ([Value.slice none 0 0] ++ ([Value.int .i64 8] ++ [])) fun w3 =>
  ldA 2 w3 b1 0 fun a4 =>
  Q (ofL a4) w3
def F13.an : Ann := ⟨[], []⟩
theorem F13.eq  (w : World) (Q : Value → World → Prop) : vcFn Try.prog F13.an 13 [] w Q = F13.vc  w Q := by kernel_rfl
theorem F13.of  (w : World) {Q : Value → World → Prop} (h : F13.vc  w Q) : Calls Try.prog 13 #[] w (fun e w' => ∃ v, e = .returned v ∧ Q v w') := vcFn_sound noCount mixed ((F13.eq  w Q).symm ▸ h)
/-! ### function 14: stillage/stillageref18.Put -/
def F14.vc (x0 : List Value) (x1 : List Value) (x2 : Int) (w : World) (Q : Value → World → Prop) : Prop :=
  nw w x0 37 fun b1 w2 =>
  nw w2 x1 28 fun b3 w4 =>
  nw w4 [Value.slice none 0 0, Value.int .i64 0] 37 fun b5 w6 =>
  ldA 2 w6 b1 0 fun a7 =>
  ldA 32 w6 b3 0 fun a8 =>
  Calls Try.prog 15 #[ofL a7, ofL a8] w6 fun e10 w9 =>
  ∃ i11 : Int, ∃ t12 : Bool, e10 = .returned (Value.tuple #[Value.int .i64 i11, Value.bool t12]) ∧ (
    ldA 2 w9 b1 0 fun a13 =>
    ldA 32 w9 b3 0 fun a14 =>
    Calls Try.prog 16 #[ofL a13, ofL a14] w9 fun e16 w15 =>
    ∃ a17 : List Value, e16 = .returned (ofL a17) ∧ (
      nw w15 [Value.slice none 0 0, Value.int .i64 0] 37 fun b18 w19 =>
      gd (a17.length == 2) <|
      st w19 b18 0 a17 fun w20 =>
      ldSl w20 b18 0 fun A21 n22 c23 =>
      ldA 32 w20 b3 0 fun a24 =>
      gd (a24.length == 32) <|
      gd ((a24 ++ ([Value.int .i64 x2] ++ [])).length == 33) <|
      nw w20 ((a24 ++ ([Value.int .i64 x2] ++ [])) ++ []) 45 fun b25 w26 =>
      app w26 33 40 Z45 45 A21 n22 c23 (Value.slice (some ⟨b25, 0, none⟩) 1 1) fun A27 n28 c29 w30 =>
      st w30 b18 0 [Value.slice A27 n28 c29] fun w31 =>
      vIf (!t12)
      (ldSl w31 b18 0 fun A32 n33 c34 =>
        ldI .i64 w31 b18 (0 + 1) fun i35 =>
        vIf (decide ((IntKind.wrap .i64 (((n33 : Nat) : Int) * 4)) > (IntKind.wrap .i64 (i35 * 3))))
        (ldI .i64 w31 b18 (0 + 1) fun i36 =>
          st w31 b18 (0 + 1) [Value.int .i64 (IntKind.wrap .i64 (i36 * 2))] fun w37 =>
          ldA 2 w37 b18 0 fun a38 =>
          gd (a38.length == 2) <|
          st w37 b5 0 a38 fun w39 =>
          ldA 2 w39 b5 0 fun a40 =>
          Q (ofL a40) w39)
        (ldA 2 w31 b18 0 fun a41 =>
          gd (a41.length == 2) <|
          st w31 b5 0 a41 fun w42 =>
          ldA 2 w42 b5 0 fun a43 =>
          Q (ofL a43) w42))
      (ldA 2 w31 b18 0 fun a44 =>
        gd (a44.length == 2) <|
        st w31 b5 0 a44 fun w45 =>
        ldA 2 w45 b5 0 fun a46 =>
        Q (ofL a46) w45)))
def F14.an : Ann := ⟨[], []⟩
theorem F14.eq (x0 : List Value) (x1 : List Value) (x2 : Int) (w : World) (Q : Value → World → Prop) : vcFn Try.prog F14.an 14 [ofL x0, ofL x1, Value.int .i64 x2] w Q = F14.vc x0 x1 x2 w Q := by kernel_rfl
theorem F14.of (x0 : List Value) (x1 : List Value) (x2 : Int) (w : World) {Q : Value → World → Prop} (h : F14.vc x0 x1 x2 w Q) : Calls Try.prog 14 #[ofL x0, ofL x1, Value.int .i64 x2] w (fun e w' => ∃ v, e = .returned v ∧ Q v w') := vcFn_sound noCount mixed ((F14.eq x0 x1 x2 w Q).symm ▸ h)
/-! ### function 15: stillage/stillageref18.Get -/
def F15.b2c (Q : Value → World → Prop) (C2 : ((Nat × Nat) × (Nat × Nat) × Int × Unit) → World → Prop) (x2 : (Nat × Nat)) (x3 : (Nat × Nat)) (x6 : Int) (w : World) : Prop :=
  ldSl w x2.1 x2.2 fun A5 n6 c7 =>
  vIf (decide (x6 < ((n6 : Nat) : Int)))
  (ldSl w.drew x2.1 x2.2 fun A8 n9 c10 =>
    dr A8 fun b11 o12 =>
    gd (decide (0 ≤ x6)) <|
    gd (decide (x6 < ((n9 : Nat) : Int))) <|
    ldA 32 w.drew b11 (o12 + (x6).toNat * 33) fun a13 =>
    ldA 32 w.drew x3.1 x3.2 fun a14 =>
    eqAB 32 a13 a14 fun t15 =>
    vIf t15
    (ldSl w.drew x2.1 x2.2 fun A16 n17 c18 =>
      dr A16 fun b19 o20 =>
      gd (decide (0 ≤ x6)) <|
      gd (decide (x6 < ((n17 : Nat) : Int))) <|
      ldI .i64 w.drew b19 ((o20 + (x6).toNat * 33) + 32) fun i21 =>
      Q (Value.tuple #[Value.int .i64 i21, Value.bool true]) w.drew)
    (jnC C2 ((x2.1, x2.2), (x3.1, x3.2), ((IntKind.wrap .i64 (x6 + 1))), ()) w.drew))
  (Q (Value.tuple #[Value.int .i64 0, Value.bool false]) w)
def F15.b2 (Q : Value → World → Prop) : ((Nat × Nat) × (Nat × Nat) × Int × Unit) → World → (((Nat × Nat) × (Nat × Nat) × Int × Unit) → World → Prop) → Prop := fun s w C2 => ∀ _ : Nat → Value, F15.b2c Q C2 s.1 s.2.1 s.2.2.1 w
def F15.l2 (Q : Value → World → Prop) : ((Nat × Nat) × (Nat × Nat) × Int × Unit) → World → Prop := fun s w => ∃ n, loopC (F15.b2 Q) n s w
def F15.vc (x0 : List Value) (x1 : List Value) (w : World) (Q : Value → World → Prop) : Prop :=
  nw w x0 37 fun b1 w2 =>
  nw w2 x1 28 fun b3 w4 =>
  jnC (F15.l2 Q) ((b1, 0), (b3, 0), (0), ()) w4
def F15.an : Ann := ⟨[(2, [(2, .kL), (3, .kL), (6, .kI .i64)])], []⟩
theorem F15.eq (x0 : List Value) (x1 : List Value) (w : World) (Q : Value → World → Prop) : vcFn Try.prog F15.an 15 [ofL x0, ofL x1] w Q = F15.vc x0 x1 w Q := by kernel_rfl
theorem F15.of (x0 : List Value) (x1 : List Value) (w : World) {Q : Value → World → Prop} (h : F15.vc x0 x1 w Q) : Calls Try.prog 15 #[ofL x0, ofL x1] w (fun e w' => ∃ v, e = .returned v ∧ Q v w') := vcFn_sound noCount mixed ((F15.eq x0 x1 w Q).symm ▸ h)
/-! ### function 16: stillage/stillageref18.Cut -/
def F16.b3c (Q : Value → World → Prop) (C3 : ((Nat × Nat) × (Nat × Nat) × (Nat × Nat) × (Nat × Nat) × Int × Unit) → World → Prop) (x2 : (Nat × Nat)) (x3 : (Nat × Nat)) (x4 : (Nat × Nat)) (x5 : (Nat × Nat)) (x6 : Int) (w : World) : Prop :=
  ldSl w x2.1 x2.2 fun A11 n12 c13 =>
  vIf (decide (x6 < ((n12 : Nat) : Int)))
  (ldSl w.drew x2.1 x2.2 fun A14 n15 c16 =>
    dr A14 fun b17 o18 =>
    gd (decide (0 ≤ x6)) <|
    gd (decide (x6 < ((n15 : Nat) : Int))) <|
    ldA 32 w.drew b17 (o18 + (x6).toNat * 33) fun a19 =>
    ldA 32 w.drew x3.1 x3.2 fun a20 =>
    eqAB 32 a19 a20 fun t21 =>
    vIf (!t21)
    (ldSl w.drew.drew x5.1 x5.2 fun A22 n23 c24 =>
      ldSl w.drew.drew x2.1 x2.2 fun A25 n26 c27 =>
      dr A25 fun b28 o29 =>
      gd (decide (0 ≤ x6)) <|
      gd (decide (x6 < ((n26 : Nat) : Int))) <|
      ldA 33 w.drew.drew b28 (o29 + (x6).toNat * 33) fun a30 =>
      gd (a30.length == 33) <|
      nw w.drew.drew (a30 ++ []) 45 fun b31 w32 =>
      kp w.drew.drew x5.1 x5.2 1 w32 <|
      app w32 33 40 Z45 45 A22 n23 c24 (Value.slice (some ⟨b31, 0, none⟩) 1 1) fun A33 n34 c35 w36 =>
      st w36 x5.1 x5.2 [Value.slice A33 n34 c35] fun w37 =>
      jnC C3 ((x2.1, x2.2), (x3.1, x3.2), (x4.1, x4.2), (x5.1, x5.2), ((IntKind.wrap .i64 (x6 + 1))), ()) w37)
    (jnC C3 ((x2.1, x2.2), (x3.1, x3.2), (x4.1, x4.2), (x5.1, x5.2), ((IntKind.wrap .i64 (x6 + 1))), ()) w.drew))
  (ldA 2 w x5.1 x5.2 fun a38 =>
    gd (a38.length == 2) <|
    st w x4.1 x4.2 a38 fun w39 =>
    ldA 2 w39 x4.1 x4.2 fun a40 =>
    Q (ofL a40) w39)
def F16.b3 (Q : Value → World → Prop) : ((Nat × Nat) × (Nat × Nat) × (Nat × Nat) × (Nat × Nat) × Int × Unit) → World → (((Nat × Nat) × (Nat × Nat) × (Nat × Nat) × (Nat × Nat) × Int × Unit) → World → Prop) → Prop := fun s w C3 => ∀ _ : Nat → Value, F16.b3c Q C3 s.1 s.2.1 s.2.2.1 s.2.2.2.1 s.2.2.2.2.1 w
def F16.l3 (Q : Value → World → Prop) : ((Nat × Nat) × (Nat × Nat) × (Nat × Nat) × (Nat × Nat) × Int × Unit) → World → Prop := fun s w => ∃ n, loopC (F16.b3 Q) n s w
def F16.vc (x0 : List Value) (x1 : List Value) (w : World) (Q : Value → World → Prop) : Prop :=
  nw w x0 37 fun b1 w2 =>
  nw w2 x1 28 fun b3 w4 =>
  nw w4 [Value.slice none 0 0, Value.int .i64 0] 37 fun b5 w6 =>
  ldI .i64 w6 b1 (0 + 1) fun i7 =>
  nw w6 [Value.slice none 0 0, Value.int .i64 0] 37 fun b8 w9 =>
  gd (([Value.slice none 0 0] ++ ([Value.int .i64 i7] ++ [])).length == 2) <|
  st w9 b8 0 ([Value.slice none 0 0] ++ ([Value.int .i64 i7] ++ [])) fun w10 =>
  jnC (F16.l3 Q) ((b1, 0), (b3, 0), (b5, 0), (b8, 0), (0), ()) w10
def F16.an : Ann := ⟨[(3, [(2, .kL), (3, .kL), (4, .kL), (5, .kL), (6, .kI .i64)])], []⟩
theorem F16.eq (x0 : List Value) (x1 : List Value) (w : World) (Q : Value → World → Prop) : vcFn Try.prog F16.an 16 [ofL x0, ofL x1] w Q = F16.vc x0 x1 w Q := by kernel_rfl
theorem F16.of (x0 : List Value) (x1 : List Value) (w : World) {Q : Value → World → Prop} (h : F16.vc x0 x1 w Q) : Calls Try.prog 16 #[ofL x0, ofL x1] w (fun e w' => ∃ v, e = .returned v ∧ Q v w') := vcFn_sound noCount mixed ((F16.eq x0 x1 w Q).symm ▸ h)
/-! ### function 17: stillage/stillageref06.Same -/
def F17.b4c (Q : Value → World → Prop) (C4 : ((Option Addr × Nat × Nat) × (Option Addr × Nat × Nat) × Int × Unit) → World → Prop) (x0 : (Option Addr × Nat × Nat)) (x1 : (Option Addr × Nat × Nat)) (x5 : Int) (w : World) : Prop :=
  vIf (decide (x5 < ((x0.2.1 : Nat) : Int)))
  (dr x0.1 fun b1 o2 =>
    gd (decide (0 ≤ x5)) <|
    gd (decide (x5 < ((x0.2.1 : Nat) : Int))) <|
    ldA 32 w.drew b1 (o2 + (x5).toNat * 32) fun a3 =>
    dr x1.1 fun b4 o5 =>
    gd (decide (0 ≤ x5)) <|
    gd (decide (x5 < ((x1.2.1 : Nat) : Int))) <|
    ldA 32 w.drew b4 (o5 + (x5).toNat * 32) fun a6 =>
    eqAB 32 a3 a6 fun t7 =>
    vIf (!t7)
    (Q (Value.bool false) w.drew)
    (jnC C4 ((x0.1, x0.2.1, x0.2.2), (x1.1, x1.2.1, x1.2.2), ((IntKind.wrap .i64 (x5 + 1))), ()) w.drew))
  (Q (Value.bool true) w)
def F17.b4 (Q : Value → World → Prop) : ((Option Addr × Nat × Nat) × (Option Addr × Nat × Nat) × Int × Unit) → World → (((Option Addr × Nat × Nat) × (Option Addr × Nat × Nat) × Int × Unit) → World → Prop) → Prop := fun s w C4 => ∀ _ : Nat → Value, F17.b4c Q C4 s.1 s.2.1 s.2.2.1 w
def F17.l4 (Q : Value → World → Prop) : ((Option Addr × Nat × Nat) × (Option Addr × Nat × Nat) × Int × Unit) → World → Prop := fun s w => ∃ n, loopC (F17.b4 Q) n s w
def F17.vc (x0A : Option Addr) (x0n x0c : Nat) (x1A : Option Addr) (x1n x1c : Nat) (w : World) (Q : Value → World → Prop) : Prop :=
  vIf (((x0n : Nat) : Int) != ((x1n : Nat) : Int))
  (Q (Value.bool false) w)
  (jnC (F17.l4 Q) ((x0A, x0n, x0c), (x1A, x1n, x1c), (0), ()) w)
def F17.an : Ann := ⟨[(4, [(0, .kSl), (1, .kSl), (5, .kI .i64)])], []⟩
theorem F17.eq (x0A : Option Addr) (x0n x0c : Nat) (x1A : Option Addr) (x1n x1c : Nat) (w : World) (Q : Value → World → Prop) : vcFn Try.prog F17.an 17 [Value.slice x0A x0n x0c, Value.slice x1A x1n x1c] w Q = F17.vc x0A x0n x0c x1A x1n x1c w Q := by kernel_rfl
theorem F17.of (x0A : Option Addr) (x0n x0c : Nat) (x1A : Option Addr) (x1n x1c : Nat) (w : World) {Q : Value → World → Prop} (h : F17.vc x0A x0n x0c x1A x1n x1c w Q) : Calls Try.prog 17 #[Value.slice x0A x0n x0c, Value.slice x1A x1n x1c] w (fun e w' => ∃ v, e = .returned v ∧ Q v w') := vcFn_sound noCount mixed ((F17.eq x0A x0n x0c x1A x1n x1c w Q).symm ▸ h)
/-! ### function 18: (*stillage/slots.Table[int]).Row -/
def F18.b5c (Q : Value → World → Prop) (C5 : ((Option Addr × Nat × Nat) × (Option Addr × Nat × Nat) × Int × Int × Unit) → World → Prop) (x3 : (Option Addr × Nat × Nat)) (x11 : (Option Addr × Nat × Nat)) (x12 : Int) (x13 : Int) (w : World) : Prop :=
  vIf (decide (x13 < x12))
  (dr x11.1 fun b6 o7 =>
    gd (decide (0 ≤ x13)) <|
    gd (decide (x13 < ((x11.2.1 : Nat) : Int))) <|
    ldA 34 w b6 (o7 + (x13).toNat * 34) fun a8 =>
    nw w Z59 59 fun b9 w10 =>
    gd (a8.length == 34) <|
    st w10 b9 0 a8 fun w11 =>
    ldB w11 b9 0 fun t12 =>
    vIf t12
    (ldA 32 w11 b9 (0 + 1) fun a13 =>
      gd (a13.length == 32) <|
      nw w11 (a13 ++ []) 28 fun b14 w15 =>
      app w15 32 32 Z28 28 x3.1 x3.2.1 x3.2.2 (Value.slice (some ⟨b14, 0, none⟩) 1 1) fun A16 n17 c18 w19 =>
      jnC C5 ((A16, n17, c18), (x11.1, x11.2.1, x11.2.2), (x12), ((IntKind.wrap .i64 (x13 + 1))), ()) w19)
    (jnC C5 ((x3.1, x3.2.1, x3.2.2), (x11.1, x11.2.1, x11.2.2), (x12), ((IntKind.wrap .i64 (x13 + 1))), ()) w11))
  (Calls Try.prog 29 #[Value.slice x3.1 x3.2.1 x3.2.2] w fun e21 w20 =>
    ∃ (A22 : Option Addr) (n23 c24 : Nat), e21 = .returned (Value.slice A22 n23 c24) ∧ (
      Q (Value.slice A22 n23 c24) w20))
def F18.b5 (Q : Value → World → Prop) : ((Option Addr × Nat × Nat) × (Option Addr × Nat × Nat) × Int × Int × Unit) → World → (((Option Addr × Nat × Nat) × (Option Addr × Nat × Nat) × Int × Int × Unit) → World → Prop) → Prop := fun s w C5 => ∀ _ : Nat → Value, F18.b5c Q C5 s.1 s.2.1 s.2.2.1 s.2.2.2.1 w
def F18.l5 (Q : Value → World → Prop) : ((Option Addr × Nat × Nat) × (Option Addr × Nat × Nat) × Int × Int × Unit) → World → Prop := fun s w => ∃ n, loopC (F18.b5 Q) n s w
def F18.vc (x0 : Option Addr) (w : World) (Q : Value → World → Prop) : Prop :=
  vIf x0.isNone
  (Q (Value.slice none 0 0) w)
  (dr x0 fun b1 o2 =>
    ldSl w b1 o2 fun A3 n4 c5 =>
    jnC (F18.l5 Q) ((none, 0, 0), (A3, n4, c5), (((n4 : Nat) : Int)), (0), ()) w)
def F18.an : Ann := ⟨[(5, [(3, .kSl), (11, .kSl), (12, .kI .i64), (13, .kI .i64)])], []⟩
theorem F18.eq (x0 : Option Addr) (w : World) (Q : Value → World → Prop) : vcFn Try.prog F18.an 18 [Value.pointer x0] w Q = F18.vc x0 w Q := by kernel_rfl
theorem F18.of (x0 : Option Addr) (w : World) {Q : Value → World → Prop} (h : F18.vc x0 w Q) : Calls Try.prog 18 #[Value.pointer x0] w (fun e w' => ∃ v, e = .returned v ∧ Q v w') := vcFn_sound noCount mixed ((F18.eq x0 w Q).symm ▸ h)
/-! ### function 19: stillage/stillageref18.Row -/
def F19.b3c (Q : Value → World → Prop) (C3 : ((Nat × Nat) × (Option Addr × Nat × Nat) × Int × Unit) → World → Prop) (x1 : (Nat × Nat)) (x3 : (Option Addr × Nat × Nat)) (x4 : Int) (w : World) : Prop :=
  ldSl w x1.1 x1.2 fun A3 n4 c5 =>
  vIf (decide (x4 < ((n4 : Nat) : Int)))
  (ldSl w x1.1 x1.2 fun A6 n7 c8 =>
    dr A6 fun b9 o10 =>
    gd (decide (0 ≤ x4)) <|
    gd (decide (x4 < ((n7 : Nat) : Int))) <|
    ldA 32 w b9 (o10 + (x4).toNat * 33) fun a11 =>
    gd (a11.length == 32) <|
    nw w (a11 ++ []) 28 fun b12 w13 =>
    app w13 32 32 Z28 28 x3.1 x3.2.1 x3.2.2 (Value.slice (some ⟨b12, 0, none⟩) 1 1) fun A14 n15 c16 w17 =>
    jnC C3 ((x1.1, x1.2), (A14, n15, c16), ((IntKind.wrap .i64 (x4 + 1))), ()) w17)
  (Calls Try.prog 30 #[Value.slice x3.1 x3.2.1 x3.2.2] w fun e19 w18 =>
    ∃ (A20 : Option Addr) (n21 c22 : Nat), e19 = .returned (Value.slice A20 n21 c22) ∧ (
      Q (Value.slice A20 n21 c22) w18))
def F19.b3 (Q : Value → World → Prop) : ((Nat × Nat) × (Option Addr × Nat × Nat) × Int × Unit) → World → (((Nat × Nat) × (Option Addr × Nat × Nat) × Int × Unit) → World → Prop) → Prop := fun s w C3 => ∀ _ : Nat → Value, F19.b3c Q C3 s.1 s.2.1 s.2.2.1 w
def F19.l3 (Q : Value → World → Prop) : ((Nat × Nat) × (Option Addr × Nat × Nat) × Int × Unit) → World → Prop := fun s w => ∃ n, loopC (F19.b3 Q) n s w
def F19.vc (x0 : List Value) (w : World) (Q : Value → World → Prop) : Prop :=
  nw w x0 37 fun b1 w2 =>
  jnC (F19.l3 Q) ((b1, 0), (none, 0, 0), (0), ()) w2
def F19.an : Ann := ⟨[(3, [(1, .kL), (3, .kSl), (4, .kI .i64)])], []⟩
theorem F19.eq (x0 : List Value) (w : World) (Q : Value → World → Prop) : vcFn Try.prog F19.an 19 [ofL x0] w Q = F19.vc x0 w Q := by kernel_rfl
theorem F19.of (x0 : List Value) (w : World) {Q : Value → World → Prop} (h : F19.vc x0 w Q) : Calls Try.prog 19 #[ofL x0] w (fun e w' => ∃ v, e = .returned v ∧ Q v w') := vcFn_sound noCount mixed ((F19.eq x0 w Q).symm ▸ h)
/-! ### function 20: (*stillage/slots.Table[string]).Put -/
def F20.k8c (Q : Value → World → Prop) (x0 : Option Addr) (x2 : ByteArray) (x4 : (Nat × Nat)) (x6 : Int) (w : World) : Prop :=
  dr x0 fun b29 o30 =>
  ldSl w.drew b29 o30 fun A31 n32 c33 =>
  ldA 32 w.drew x4.1 x4.2 fun a34 =>
  gd (a34.length == 32) <|
  dr A31 fun b35 o36 =>
  gd (decide (0 ≤ x6)) <|
  gd (decide (x6 < ((n32 : Nat) : Int))) <|
  gd (([Value.bool true] ++ (a34 ++ ([Value.string x2] ++ []))).length == 34) <|
  st w.drew b35 (o36 + (x6).toNat * 34) ([Value.bool true] ++ (a34 ++ ([Value.string x2] ++ []))) fun w37 =>
  Q (Value.tuple #[]) w37
def F20.k8 (Q : Value → World → Prop) : (Option Addr × ByteArray × (Nat × Nat) × Int × Unit) → World → Prop := fun s w => ∀ _ : Nat → Value, F20.k8c Q s.1 s.2.1 s.2.2.1 s.2.2.2.1 w
def F20.k7c (Q : Value → World → Prop) (x0 : Option Addr) (x2 : ByteArray) (x4 : (Nat × Nat)) (x6 : Int) (w : World) : Prop :=
  dr x0 fun b23 o24 =>
  ldI .i64 w b23 (o24 + 1) fun i25 =>
  dr x0 fun b26 o27 =>
  st w b26 (o27 + 1) [Value.int .i64 (IntKind.wrap .i64 (i25 + 1))] fun w28 =>
  jnC (F20.k8 Q) (x0, x2, (x4.1, x4.2), (x6), ()) w28
def F20.k7 (Q : Value → World → Prop) : (Option Addr × ByteArray × (Nat × Nat) × Int × Unit) → World → Prop := fun s w => ∀ _ : Nat → Value, F20.k7c Q s.1 s.2.1 s.2.2.1 s.2.2.2.1 w
def F20.vc (x0 : Option Addr) (x1 : List Value) (x2 : ByteArray) (w : World) (Q : Value → World → Prop) : Prop :=
  nw w x1 28 fun b1 w2 =>
  vIf x0.isNone
  (Q (Value.tuple #[]) w2)
  (ldA 32 w2 b1 0 fun a3 =>
    Calls Try.prog 31 #[Value.pointer x0, ofL a3] w2 fun e5 w4 =>
    ∃ i6 : Int, ∃ t7 : Bool, e5 = .returned (Value.tuple #[Value.int .i64 i6, Value.bool t7]) ∧ (
      vIf (!t7)
      (dr x0 fun b8 o9 =>
        ldI .i64 w4.drew b8 (o9 + 1) fun i10 =>
        dr x0 fun b11 o12 =>
        ldSl w4.drew b11 o12 fun A13 n14 c15 =>
        vIf (decide ((IntKind.wrap .i64 (4 * (IntKind.wrap .i64 (i10 + 1)))) > (IntKind.wrap .i64 (3 * ((n14 : Nat) : Int)))))
        (Calls Try.prog 32 #[Value.pointer x0] w4.drew fun e17 w16 =>
          e17 = .returned (Value.tuple #[]) ∧ (
            ldA 32 w16 b1 0 fun a18 =>
            Calls Try.prog 31 #[Value.pointer x0, ofL a18] w16 fun e20 w19 =>
            ∃ i21 : Int, ∃ t22 : Bool, e20 = .returned (Value.tuple #[Value.int .i64 i21, Value.bool t22]) ∧ (
              jnC (F20.k7 Q) (x0, x2, (b1, 0), (i21), ()) w19)))
        (jnC (F20.k7 Q) (x0, x2, (b1, 0), (i6), ()) w4.drew))
      (jnC (F20.k8 Q) (x0, x2, (b1, 0), (i6), ()) w4)))
def F20.an : Ann := ⟨[], [(7, [(0, .kP), (2, .kS), (4, .kL), (6, .kI .i64)]), (8, [(0, .kP), (2, .kS), (4, .kL), (6, .kI .i64)])]⟩
theorem F20.eq (x0 : Option Addr) (x1 : List Value) (x2 : ByteArray) (w : World) (Q : Value → World → Prop) : vcFn Try.prog F20.an 20 [Value.pointer x0, ofL x1, Value.string x2] w Q = F20.vc x0 x1 x2 w Q := by kernel_rfl
theorem F20.of (x0 : Option Addr) (x1 : List Value) (x2 : ByteArray) (w : World) {Q : Value → World → Prop} (h : F20.vc x0 x1 x2 w Q) : Calls Try.prog 20 #[Value.pointer x0, ofL x1, Value.string x2] w (fun e w' => ∃ v, e = .returned v ∧ Q v w') := vcFn_sound noCount mixed ((F20.eq x0 x1 x2 w Q).symm ▸ h)
/-! ### function 21: (*stillage/slots.Table[string]).Get -/
def F21.vc (x0 : Option Addr) (x1 : List Value) (w : World) (Q : Value → World → Prop) : Prop :=
  nw w x1 28 fun b1 w2 =>
  vIf x0.isNone
  (Q (Value.tuple #[Value.string (⟨#[]⟩ : ByteArray), Value.bool false]) w2)
  (ldA 32 w2 b1 0 fun a3 =>
    Calls Try.prog 31 #[Value.pointer x0, ofL a3] w2 fun e5 w4 =>
    ∃ i6 : Int, ∃ t7 : Bool, e5 = .returned (Value.tuple #[Value.int .i64 i6, Value.bool t7]) ∧ (
      vIf (!t7)
      (Q (Value.tuple #[Value.string (⟨#[]⟩ : ByteArray), Value.bool false]) w4)
      (dr x0 fun b8 o9 =>
        ldSl w4 b8 o9 fun A10 n11 c12 =>
        dr A10 fun b13 o14 =>
        gd (decide (0 ≤ i6)) <|
        gd (decide (i6 < ((n11 : Nat) : Int))) <|
        ldS w4 b13 ((o14 + (i6).toNat * 34) + 33) fun s15 =>
        Q (Value.tuple #[Value.string s15, Value.bool true]) w4)))
def F21.an : Ann := ⟨[], []⟩
theorem F21.eq (x0 : Option Addr) (x1 : List Value) (w : World) (Q : Value → World → Prop) : vcFn Try.prog F21.an 21 [Value.pointer x0, ofL x1] w Q = F21.vc x0 x1 w Q := by kernel_rfl
theorem F21.of (x0 : Option Addr) (x1 : List Value) (w : World) {Q : Value → World → Prop} (h : F21.vc x0 x1 w Q) : Calls Try.prog 21 #[Value.pointer x0, ofL x1] w (fun e w' => ∃ v, e = .returned v ∧ Q v w') := vcFn_sound noCount mixed ((F21.eq x0 x1 w Q).symm ▸ h)
/-! ### function 22: (*stillage/slots.Table[string]).Cut -/
def F22.b8c (Q : Value → World → Prop) (C8 : (Option Addr × Int × Int × Int × Unit) → World → Prop) (x0 : Option Addr) (x5 : Int) (x7 : Int) (x8 : Int) (w : World) : Prop :=
  dr x0 fun b13 o14 =>
  ldSl w b13 o14 fun A15 n16 c17 =>
  dr A15 fun b18 o19 =>
  gd (decide (0 ≤ x8)) <|
  gd (decide (x8 < ((n16 : Nat) : Int))) <|
  ldB w b18 (o19 + (x8).toNat * 34) fun t20 =>
  vIf t20
  (Calls Try.prog 33 #[Value.pointer x0, Value.int .i64 x5, Value.int .i64 x8] w fun e22 w21 =>
    ∃ t23 : Bool, e22 = .returned (Value.bool t23) ∧ (
      vIf (!t23)
      (dr x0 fun b24 o25 =>
        ldSl w21.drew b24 o25 fun A26 n27 c28 =>
        dr x0 fun b29 o30 =>
        ldSl w21.drew b29 o30 fun A31 n32 c33 =>
        dr A31 fun b34 o35 =>
        gd (decide (0 ≤ x8)) <|
        gd (decide (x8 < ((n32 : Nat) : Int))) <|
        ldA 34 w21.drew b34 (o35 + (x8).toNat * 34) fun a36 =>
        dr A26 fun b37 o38 =>
        gd (decide (0 ≤ x5)) <|
        gd (decide (x5 < ((n27 : Nat) : Int))) <|
        gd (a36.length == 34) <|
        st w21.drew b37 (o38 + (x5).toNat * 34) a36 fun w39 =>
        gd (decide (x7 ≠ 0)) <|
        jnC C8 (x0, (x8), (x7), ((Int.tmod (IntKind.wrap .i64 (x8 + 1)) x7)), ()) w39)
      (gd (decide (x7 ≠ 0)) <|
        jnC C8 (x0, (x5), (x7), ((Int.tmod (IntKind.wrap .i64 (x8 + 1)) x7)), ()) w21)))
  (dr x0 fun b40 o41 =>
    ldSl w b40 o41 fun A42 n43 c44 =>
    dr A42 fun b45 o46 =>
    gd (decide (0 ≤ x5)) <|
    gd (decide (x5 < ((n43 : Nat) : Int))) <|
    gd (([Value.bool false] ++ ([Value.int .u8 0, Value.int .u8 0, Value.int .u8 0, Value.int .u8 0, Value.int .u8 0, Value.int .u8 0, Value.int .u8 0, Value.int .u8 0, Value.int .u8 0, Value.int .u8 0, Value.int .u8 0, Value.int .u8 0, Value.int .u8 0, Value.int .u8 0, Value.int .u8 0, Value.int .u8 0, Value.int .u8 0, Value.int .u8 0, Value.int .u8 0, Value.int .u8 0, Value.int .u8 0, Value.int .u8 0, Value.int .u8 0, Value.int .u8 0, Value.int .u8 0, Value.int .u8 0, Value.int .u8 0, Value.int .u8 0, Value.int .u8 0, Value.int .u8 0, Value.int .u8 0, Value.int .u8 0] ++ ([Value.string (⟨#[]⟩ : ByteArray)] ++ []))).length == 34) <|
    st w b45 (o46 + (x5).toNat * 34) ([Value.bool false] ++ ([Value.int .u8 0, Value.int .u8 0, Value.int .u8 0, Value.int .u8 0, Value.int .u8 0, Value.int .u8 0, Value.int .u8 0, Value.int .u8 0, Value.int .u8 0, Value.int .u8 0, Value.int .u8 0, Value.int .u8 0, Value.int .u8 0, Value.int .u8 0, Value.int .u8 0, Value.int .u8 0, Value.int .u8 0, Value.int .u8 0, Value.int .u8 0, Value.int .u8 0, Value.int .u8 0, Value.int .u8 0, Value.int .u8 0, Value.int .u8 0, Value.int .u8 0, Value.int .u8 0, Value.int .u8 0, Value.int .u8 0, Value.int .u8 0, Value.int .u8 0, Value.int .u8 0, Value.int .u8 0] ++ ([Value.string (⟨#[]⟩ : ByteArray)] ++ []))) fun w47 =>
    dr x0 fun b48 o49 =>
    ldI .i64 w47 b48 (o49 + 1) fun i50 =>
    dr x0 fun b51 o52 =>
    st w47 b51 (o52 + 1) [Value.int .i64 (IntKind.wrap .i64 (i50 - 1))] fun w53 =>
    Q (Value.bool true) w53)
def F22.b8 (Q : Value → World → Prop) : (Option Addr × Int × Int × Int × Unit) → World → ((Option Addr × Int × Int × Int × Unit) → World → Prop) → Prop := fun s w C8 => ∀ _ : Nat → Value, F22.b8c Q C8 s.1 s.2.1 s.2.2.1 s.2.2.2.1 w
def F22.l8 (Q : Value → World → Prop) : (Option Addr × Int × Int × Int × Unit) → World → Prop := fun s w => ∃ n, loopC (F22.b8 Q) n s w
def F22.vc (x0 : Option Addr) (x1 : List Value) (w : World) (Q : Value → World → Prop) : Prop :=
  nw w x1 28 fun b1 w2 =>
  vIf x0.isNone
  (Q (Value.bool false) w2)
  (ldA 32 w2 b1 0 fun a3 =>
    Calls Try.prog 31 #[Value.pointer x0, ofL a3] w2 fun e5 w4 =>
    ∃ i6 : Int, ∃ t7 : Bool, e5 = .returned (Value.tuple #[Value.int .i64 i6, Value.bool t7]) ∧ (
      vIf (!t7)
      (Q (Value.bool false) w4)
      (dr x0 fun b8 o9 =>
        ldSl w4 b8 o9 fun A10 n11 c12 =>
        gd (decide (((n11 : Nat) : Int) ≠ 0)) <|
        jnC (F22.l8 Q) (x0, (i6), (((n11 : Nat) : Int)), ((Int.tmod (IntKind.wrap .i64 (i6 + 1)) ((n11 : Nat) : Int))), ()) w4)))
def F22.an : Ann := ⟨[(8, [(0, .kP), (5, .kI .i64), (7, .kI .i64), (8, .kI .i64)])], []⟩
theorem F22.eq (x0 : Option Addr) (x1 : List Value) (w : World) (Q : Value → World → Prop) : vcFn Try.prog F22.an 22 [Value.pointer x0, ofL x1] w Q = F22.vc x0 x1 w Q := by kernel_rfl
theorem F22.of (x0 : Option Addr) (x1 : List Value) (w : World) {Q : Value → World → Prop} (h : F22.vc x0 x1 w Q) : Calls Try.prog 22 #[Value.pointer x0, ofL x1] w (fun e w' => ∃ v, e = .returned v ∧ Q v w') := vcFn_sound noCount mixed ((F22.eq x0 x1 w Q).symm ▸ h)
/-! ### function 23: (*stillage/slots.Table[string]).Len -/
def F23.vc (x0 : Option Addr) (w : World) (Q : Value → World → Prop) : Prop :=
  vIf x0.isNone
  (Q (Value.int .i64 0) w)
  (dr x0 fun b1 o2 =>
    ldI .i64 w b1 (o2 + 1) fun i3 =>
    Q (Value.int .i64 i3) w)
def F23.an : Ann := ⟨[], []⟩
theorem F23.eq (x0 : Option Addr) (w : World) (Q : Value → World → Prop) : vcFn Try.prog F23.an 23 [Value.pointer x0] w Q = F23.vc x0 w Q := by kernel_rfl
theorem F23.of (x0 : Option Addr) (w : World) {Q : Value → World → Prop} (h : F23.vc x0 w Q) : Calls Try.prog 23 #[Value.pointer x0] w (fun e w' => ∃ v, e = .returned v ∧ Q v w') := vcFn_sound noCount mixed ((F23.eq x0 w Q).symm ▸ h)
/-! ### function 24: (*stillage/slots.Table[string]).Slots -/
def F24.vc (x0 : Option Addr) (w : World) (Q : Value → World → Prop) : Prop :=
  vIf x0.isNone
  (Q (Value.int .i64 0) w)
  (dr x0 fun b1 o2 =>
    ldSl w b1 o2 fun A3 n4 c5 =>
    Q (Value.int .i64 ((n4 : Nat) : Int)) w)
def F24.an : Ann := ⟨[], []⟩
theorem F24.eq (x0 : Option Addr) (w : World) (Q : Value → World → Prop) : vcFn Try.prog F24.an 24 [Value.pointer x0] w Q = F24.vc x0 w Q := by kernel_rfl
theorem F24.of (x0 : Option Addr) (w : World) {Q : Value → World → Prop} (h : F24.vc x0 w Q) : Calls Try.prog 24 #[Value.pointer x0] w (fun e w' => ∃ v, e = .returned v ∧ Q v w') := vcFn_sound noCount mixed ((F24.eq x0 w Q).symm ▸ h)
/-! ### function 25: (*stillage/slots.Table[string]).Row -/
def F25.b5c (Q : Value → World → Prop) (C5 : ((Option Addr × Nat × Nat) × (Option Addr × Nat × Nat) × Int × Int × Unit) → World → Prop) (x3 : (Option Addr × Nat × Nat)) (x11 : (Option Addr × Nat × Nat)) (x12 : Int) (x13 : Int) (w : World) : Prop :=
  vIf (decide (x13 < x12))
  (dr x11.1 fun b6 o7 =>
    gd (decide (0 ≤ x13)) <|
    gd (decide (x13 < ((x11.2.1 : Nat) : Int))) <|
    ldA 34 w b6 (o7 + (x13).toNat * 34) fun a8 =>
    nw w Z66 66 fun b9 w10 =>
    gd (a8.length == 34) <|
    st w10 b9 0 a8 fun w11 =>
    ldB w11 b9 0 fun t12 =>
    vIf t12
    (ldA 32 w11 b9 (0 + 1) fun a13 =>
      gd (a13.length == 32) <|
      nw w11 (a13 ++ []) 28 fun b14 w15 =>
      app w15 32 32 Z28 28 x3.1 x3.2.1 x3.2.2 (Value.slice (some ⟨b14, 0, none⟩) 1 1) fun A16 n17 c18 w19 =>
      jnC C5 ((A16, n17, c18), (x11.1, x11.2.1, x11.2.2), (x12), ((IntKind.wrap .i64 (x13 + 1))), ()) w19)
    (jnC C5 ((x3.1, x3.2.1, x3.2.2), (x11.1, x11.2.1, x11.2.2), (x12), ((IntKind.wrap .i64 (x13 + 1))), ()) w11))
  (Calls Try.prog 29 #[Value.slice x3.1 x3.2.1 x3.2.2] w fun e21 w20 =>
    ∃ (A22 : Option Addr) (n23 c24 : Nat), e21 = .returned (Value.slice A22 n23 c24) ∧ (
      Q (Value.slice A22 n23 c24) w20))
def F25.b5 (Q : Value → World → Prop) : ((Option Addr × Nat × Nat) × (Option Addr × Nat × Nat) × Int × Int × Unit) → World → (((Option Addr × Nat × Nat) × (Option Addr × Nat × Nat) × Int × Int × Unit) → World → Prop) → Prop := fun s w C5 => ∀ _ : Nat → Value, F25.b5c Q C5 s.1 s.2.1 s.2.2.1 s.2.2.2.1 w
def F25.l5 (Q : Value → World → Prop) : ((Option Addr × Nat × Nat) × (Option Addr × Nat × Nat) × Int × Int × Unit) → World → Prop := fun s w => ∃ n, loopC (F25.b5 Q) n s w
def F25.vc (x0 : Option Addr) (w : World) (Q : Value → World → Prop) : Prop :=
  vIf x0.isNone
  (Q (Value.slice none 0 0) w)
  (dr x0 fun b1 o2 =>
    ldSl w b1 o2 fun A3 n4 c5 =>
    jnC (F25.l5 Q) ((none, 0, 0), (A3, n4, c5), (((n4 : Nat) : Int)), (0), ()) w)
def F25.an : Ann := ⟨[(5, [(3, .kSl), (11, .kSl), (12, .kI .i64), (13, .kI .i64)])], []⟩
theorem F25.eq (x0 : Option Addr) (w : World) (Q : Value → World → Prop) : vcFn Try.prog F25.an 25 [Value.pointer x0] w Q = F25.vc x0 w Q := by kernel_rfl
theorem F25.of (x0 : Option Addr) (w : World) {Q : Value → World → Prop} (h : F25.vc x0 w Q) : Calls Try.prog 25 #[Value.pointer x0] w (fun e w' => ∃ v, e = .returned v ∧ Q v w') := vcFn_sound noCount mixed ((F25.eq x0 w Q).symm ▸ h)
/-! ### function 26: (*stillage/slots.Table[int]).find -/
def F26.b2c (Q : Value → World → Prop) (C2 : (Option Addr × (Nat × Nat) × Int × Unit) → World → Prop) (x0 : Option Addr) (x3 : (Nat × Nat)) (x6 : Int) (w : World) : Prop :=
  dr x0 fun b7 o8 =>
  ldSl w b7 o8 fun A9 n10 c11 =>
  dr A9 fun b12 o13 =>
  gd (decide (0 ≤ x6)) <|
  gd (decide (x6 < ((n10 : Nat) : Int))) <|
  ldB w b12 (o13 + (x6).toNat * 34) fun t14 =>
  vIf (!t14)
  (Q (Value.tuple #[Value.int .i64 x6, Value.bool false]) w)
  (ldA 32 w.drew b12 ((o13 + (x6).toNat * 34) + 1) fun a15 =>
    ldA 32 w.drew x3.1 x3.2 fun a16 =>
    eqAB 32 a15 a16 fun t17 =>
    vIf t17
    (Q (Value.tuple #[Value.int .i64 x6, Value.bool true]) w.drew)
    (dr x0 fun b18 o19 =>
      ldSl w.drew b18 o19 fun A20 n21 c22 =>
      gd (decide (((n21 : Nat) : Int) ≠ 0)) <|
      jnC C2 (x0, (x3.1, x3.2), ((Int.tmod (IntKind.wrap .i64 (x6 + 1)) ((n21 : Nat) : Int))), ()) w.drew))
def F26.b2 (Q : Value → World → Prop) : (Option Addr × (Nat × Nat) × Int × Unit) → World → ((Option Addr × (Nat × Nat) × Int × Unit) → World → Prop) → Prop := fun s w C2 => ∀ _ : Nat → Value, F26.b2c Q C2 s.1 s.2.1 s.2.2.1 w
def F26.l2 (Q : Value → World → Prop) : (Option Addr × (Nat × Nat) × Int × Unit) → World → Prop := fun s w => ∃ n, loopC (F26.b2 Q) n s w
def F26.vc (x0 : Option Addr) (x1 : List Value) (w : World) (Q : Value → World → Prop) : Prop :=
  nw w x1 28 fun b1 w2 =>
  ldA 32 w2 b1 0 fun a3 =>
  Calls Try.prog 34 #[Value.pointer x0, ofL a3] w2 fun e5 w4 =>
  ∃ i6 : Int, e5 = .returned (Value.int .i64 i6) ∧ (
    jnC (F26.l2 Q) (x0, (b1, 0), (i6), ()) w4)
def F26.an : Ann := ⟨[(2, [(0, .kP), (3, .kL), (6, .kI .i64)])], []⟩
theorem F26.eq (x0 : Option Addr) (x1 : List Value) (w : World) (Q : Value → World → Prop) : vcFn Try.prog F26.an 26 [Value.pointer x0, ofL x1] w Q = F26.vc x0 x1 w Q := by kernel_rfl
theorem F26.of (x0 : Option Addr) (x1 : List Value) (w : World) {Q : Value → World → Prop} (h : F26.vc x0 x1 w Q) : Calls Try.prog 26 #[Value.pointer x0, ofL x1] w (fun e w' => ∃ v, e = .returned v ∧ Q v w') := vcFn_sound noCount mixed ((F26.eq x0 x1 w Q).symm ▸ h)
/-! ### function 27: (*stillage/slots.Table[int]).grow -/
def F27.b3c (Q : Value → World → Prop) (C3 : (Option Addr × (Option Addr × Nat × Nat) × Int × Int × Unit) → World → Prop) (x0 : Option Addr) (x18 : (Option Addr × Nat × Nat)) (x19 : Int) (x20 : Int) (w : World) : Prop :=
  vIf (decide (x20 < x19))
  (dr x18.1 fun b11 o12 =>
    gd (decide (0 ≤ x20)) <|
    gd (decide (x20 < ((x18.2.1 : Nat) : Int))) <|
    ldA 34 w b11 (o12 + (x20).toNat * 34) fun a13 =>
    nw w Z59 59 fun b14 w15 =>
    gd (a13.length == 34) <|
    st w15 b14 0 a13 fun w16 =>
    ldB w16 b14 0 fun t17 =>
    vIf t17
    (ldA 32 w16 b14 (0 + 1) fun a18 =>
      Calls Try.prog 26 #[Value.pointer x0, ofL a18] w16 fun e20 w19 =>
      ∃ i21 : Int, ∃ t22 : Bool, e20 = .returned (Value.tuple #[Value.int .i64 i21, Value.bool t22]) ∧ (
        dr x0 fun b23 o24 =>
        ldSl w19.drew b23 o24 fun A25 n26 c27 =>
        ldA 34 w19.drew b14 0 fun a28 =>
        dr A25 fun b29 o30 =>
        gd (decide (0 ≤ i21)) <|
        gd (decide (i21 < ((n26 : Nat) : Int))) <|
        gd (a28.length == 34) <|
        st w19.drew b29 (o30 + (i21).toNat * 34) a28 fun w31 =>
        jnC C3 (x0, (x18.1, x18.2.1, x18.2.2), (x19), ((IntKind.wrap .i64 (x20 + 1))), ()) w31))
    (jnC C3 (x0, (x18.1, x18.2.1, x18.2.2), (x19), ((IntKind.wrap .i64 (x20 + 1))), ()) w16))
  (Q (Value.tuple #[]) w)
def F27.b3 (Q : Value → World → Prop) : (Option Addr × (Option Addr × Nat × Nat) × Int × Int × Unit) → World → ((Option Addr × (Option Addr × Nat × Nat) × Int × Int × Unit) → World → Prop) → Prop := fun s w C3 => ∀ _ : Nat → Value, F27.b3c Q C3 s.1 s.2.1 s.2.2.1 s.2.2.2.1 w
def F27.l3 (Q : Value → World → Prop) : (Option Addr × (Option Addr × Nat × Nat) × Int × Int × Unit) → World → Prop := fun s w => ∃ n, loopC (F27.b3 Q) n s w
def F27.vc (x0 : Option Addr) (w : World) (Q : Value → World → Prop) : Prop :=
  dr x0 fun b1 o2 =>
  ldSl w b1 o2 fun A3 n4 c5 =>
  gd (decide (0 ≤ (IntKind.wrap .i64 (2 * ((n4 : Nat) : Int))))) <|
  gd (decide ((IntKind.wrap .i64 (2 * ((n4 : Nat) : Int))) ≤ (IntKind.wrap .i64 (2 * ((n4 : Nat) : Int))))) <|
  gd (decide ((IntKind.wrap .i64 (2 * ((n4 : Nat) : Int))) * 48 ≤ 281474976710656 ∧ (IntKind.wrap .i64 (2 * ((n4 : Nat) : Int))) ≤ 9223372036854775807)) <|
  nw w (zeros ((IntKind.wrap .i64 (2 * ((n4 : Nat) : Int)))).toNat Z59) 59 fun b6 w7 =>
  dr x0 fun b8 o9 =>
  st w7 b8 o9 [Value.slice (some ⟨b6, 0, none⟩) ((IntKind.wrap .i64 (2 * ((n4 : Nat) : Int)))).toNat ((IntKind.wrap .i64 (2 * ((n4 : Nat) : Int)))).toNat] fun w10 =>
  jnC (F27.l3 Q) (x0, (A3, n4, c5), (((n4 : Nat) : Int)), (0), ()) w10
def F27.an : Ann := ⟨[(3, [(0, .kP), (18, .kSl), (19, .kI .i64), (20, .kI .i64)])], []⟩
theorem F27.eq (x0 : Option Addr) (w : World) (Q : Value → World → Prop) : vcFn Try.prog F27.an 27 [Value.pointer x0] w Q = F27.vc x0 w Q := by kernel_rfl
theorem F27.of (x0 : Option Addr) (w : World) {Q : Value → World → Prop} (h : F27.vc x0 w Q) : Calls Try.prog 27 #[Value.pointer x0] w (fun e w' => ∃ v, e = .returned v ∧ Q v w') := vcFn_sound noCount mixed ((F27.eq x0 w Q).symm ▸ h)
/-! ### function 28: (*stillage/slots.Table[int]).between -/
def F28.vc (x0 : Option Addr) (x1 : Int) (x2 : Int) (w : World) (Q : Value → World → Prop) : Prop :=
  dr x0 fun b1 o2 =>
  ldSl w b1 o2 fun A3 n4 c5 =>
  dr A3 fun b6 o7 =>
  gd (decide (0 ≤ x2)) <|
  gd (decide (x2 < ((n4 : Nat) : Int))) <|
  ldA 32 w b6 ((o7 + (x2).toNat * 34) + 1) fun a8 =>
  Calls Try.prog 34 #[Value.pointer x0, ofL a8] w fun e10 w9 =>
  ∃ i11 : Int, e10 = .returned (Value.int .i64 i11) ∧ (
    dr x0 fun b12 o13 =>
    ldSl w9 b12 o13 fun A14 n15 c16 =>
    gd (decide (((n15 : Nat) : Int) ≠ 0)) <|
    gd (decide (((n15 : Nat) : Int) ≠ 0)) <|
    Q (Value.bool (decide ((Int.tmod (IntKind.wrap .i64 ((IntKind.wrap .i64 ((IntKind.wrap .i64 (i11 - x1)) - 1)) + ((n15 : Nat) : Int))) ((n15 : Nat) : Int)) < (Int.tmod (IntKind.wrap .i64 ((IntKind.wrap .i64 (x2 - x1)) + ((n15 : Nat) : Int))) ((n15 : Nat) : Int))))) w9.drew)
def F28.an : Ann := ⟨[], []⟩
theorem F28.eq (x0 : Option Addr) (x1 : Int) (x2 : Int) (w : World) (Q : Value → World → Prop) : vcFn Try.prog F28.an 28 [Value.pointer x0, Value.int .i64 x1, Value.int .i64 x2] w Q = F28.vc x0 x1 x2 w Q := by kernel_rfl
theorem F28.of (x0 : Option Addr) (x1 : Int) (x2 : Int) (w : World) {Q : Value → World → Prop} (h : F28.vc x0 x1 x2 w Q) : Calls Try.prog 28 #[Value.pointer x0, Value.int .i64 x1, Value.int .i64 x2] w (fun e w' => ∃ v, e = .returned v ∧ Q v w') := vcFn_sound noCount mixed ((F28.eq x0 x1 x2 w Q).symm ▸ h)
/-! ### function 29: stillage/digest.Row -/
def F29.vc (x0A : Option Addr) (x0n x0c : Nat) (w : World) (Q : Value → World → Prop) : Prop :=
  Calls Try.prog 35 #[Value.slice x0A x0n x0c] w fun e2 w1 =>
  ∃ (A3 : Option Addr) (n4 c5 : Nat), e2 = .returned (Value.slice A3 n4 c5) ∧ (
    Calls Try.prog 36 #[Value.slice A3 n4 c5, Value.func (.func 37) #[] #[]] w1 fun e7 w6 =>
    e7 = .returned (Value.tuple #[]) ∧ (
      Calls Try.prog 38 #[Value.slice A3 n4 c5] w6 fun e9 w8 =>
      ∃ (A10 : Option Addr) (n11 c12 : Nat), e9 = .returned (Value.slice A10 n11 c12) ∧ (
        Q (Value.slice A10 n11 c12) w8)))
def F29.an : Ann := ⟨[], []⟩
theorem F29.eq (x0A : Option Addr) (x0n x0c : Nat) (w : World) (Q : Value → World → Prop) : vcFn Try.prog F29.an 29 [Value.slice x0A x0n x0c] w Q = F29.vc x0A x0n x0c w Q := by kernel_rfl
theorem F29.of (x0A : Option Addr) (x0n x0c : Nat) (w : World) {Q : Value → World → Prop} (h : F29.vc x0A x0n x0c w Q) : Calls Try.prog 29 #[Value.slice x0A x0n x0c] w (fun e w' => ∃ v, e = .returned v ∧ Q v w') := vcFn_sound noCount mixed ((F29.eq x0A x0n x0c w Q).symm ▸ h)
/-! ### function 30: stillage/stillageref06.Row -/
def F30.b3c (Q : Value → World → Prop) (C3 : ((Option Addr × Nat × Nat) × (Option Addr × Nat × Nat) × Int × Unit) → World → Prop) (x0 : (Option Addr × Nat × Nat)) (x3 : (Option Addr × Nat × Nat)) (x4 : Int) (w : World) : Prop :=
  vIf (decide (x4 < ((x0.2.1 : Nat) : Int)))
  (dr x0.1 fun b1 o2 =>
    gd (decide (0 ≤ x4)) <|
    gd (decide (x4 < ((x0.2.1 : Nat) : Int))) <|
    ldA 32 w b1 (o2 + (x4).toNat * 32) fun a3 =>
    Calls Try.prog 39 #[Value.slice x3.1 x3.2.1 x3.2.2, ofL a3] w fun e5 w4 =>
    ∃ (A6 : Option Addr) (n7 c8 : Nat), e5 = .returned (Value.slice A6 n7 c8) ∧ (
      jnC C3 ((x0.1, x0.2.1, x0.2.2), (A6, n7, c8), ((IntKind.wrap .i64 (x4 + 1))), ()) w4))
  (Q (Value.slice x3.1 x3.2.1 x3.2.2) w)
def F30.b3 (Q : Value → World → Prop) : ((Option Addr × Nat × Nat) × (Option Addr × Nat × Nat) × Int × Unit) → World → (((Option Addr × Nat × Nat) × (Option Addr × Nat × Nat) × Int × Unit) → World → Prop) → Prop := fun s w C3 => ∀ _ : Nat → Value, F30.b3c Q C3 s.1 s.2.1 s.2.2.1 w
def F30.l3 (Q : Value → World → Prop) : ((Option Addr × Nat × Nat) × (Option Addr × Nat × Nat) × Int × Unit) → World → Prop := fun s w => ∃ n, loopC (F30.b3 Q) n s w
def F30.vc (x0A : Option Addr) (x0n x0c : Nat) (w : World) (Q : Value → World → Prop) : Prop :=
  jnC (F30.l3 Q) ((x0A, x0n, x0c), (none, 0, 0), (0), ()) w
def F30.an : Ann := ⟨[(3, [(0, .kSl), (3, .kSl), (4, .kI .i64)])], []⟩
theorem F30.eq (x0A : Option Addr) (x0n x0c : Nat) (w : World) (Q : Value → World → Prop) : vcFn Try.prog F30.an 30 [Value.slice x0A x0n x0c] w Q = F30.vc x0A x0n x0c w Q := by kernel_rfl
theorem F30.of (x0A : Option Addr) (x0n x0c : Nat) (w : World) {Q : Value → World → Prop} (h : F30.vc x0A x0n x0c w Q) : Calls Try.prog 30 #[Value.slice x0A x0n x0c] w (fun e w' => ∃ v, e = .returned v ∧ Q v w') := vcFn_sound noCount mixed ((F30.eq x0A x0n x0c w Q).symm ▸ h)
/-! ### function 34: (*stillage/slots.Table[int]).home -/
def F34.vc (x0 : Option Addr) (x1 : List Value) (w : World) (Q : Value → World → Prop) : Prop :=
  nw w x1 28 fun b1 w2 =>
  ldI .u8 w2.drew b1 0 fun i3 =>
  ldI .u8 w2.drew b1 (0 + 1) fun i4 =>
  dr x0 fun b5 o6 =>
  ldSl w2.drew b5 o6 fun A7 n8 c9 =>
  gd (decide (((n8 : Nat) : Int) ≠ 0)) <|
  Q (Value.int .i64 (Int.tmod (iOr .i64 (IntKind.wrap .i64 i3) (IntKind.wrap .i64 ((IntKind.wrap .i64 i4) * 2 ^ 8))) ((n8 : Nat) : Int))) w2.drew
def F34.an : Ann := ⟨[], []⟩
theorem F34.eq (x0 : Option Addr) (x1 : List Value) (w : World) (Q : Value → World → Prop) : vcFn Try.prog F34.an 34 [Value.pointer x0, ofL x1] w Q = F34.vc x0 x1 w Q := by kernel_rfl
theorem F34.of (x0 : Option Addr) (x1 : List Value) (w : World) {Q : Value → World → Prop} (h : F34.vc x0 x1 w Q) : Calls Try.prog 34 #[Value.pointer x0, ofL x1] w (fun e w' => ∃ v, e = .returned v ∧ Q v w') := vcFn_sound noCount mixed ((F34.eq x0 x1 w Q).symm ▸ h)
/-! ### function 35: slices.Clone[[]stillage/api.Digest,stillage/api.Digest] -/
def F35.vc (x0A : Option Addr) (x0n x0c : Nat) (w : World) (Q : Value → World → Prop) : Prop :=
  vIf x0A.isNone
  (Q (Value.slice none 0 0) w)
  (nw w [] 28 fun b1 w2 =>
    app w2 32 32 Z28 28 (some ⟨b1, 0, none⟩) 0 0 (Value.slice x0A x0n x0c) fun A3 n4 c5 w6 =>
    Q (Value.slice A3 n4 c5) w6)
def F35.an : Ann := ⟨[], []⟩
theorem F35.eq (x0A : Option Addr) (x0n x0c : Nat) (w : World) (Q : Value → World → Prop) : vcFn Try.prog F35.an 35 [Value.slice x0A x0n x0c] w Q = F35.vc x0A x0n x0c w Q := by kernel_rfl
theorem F35.of (x0A : Option Addr) (x0n x0c : Nat) (w : World) {Q : Value → World → Prop} (h : F35.vc x0A x0n x0c w Q) : Calls Try.prog 35 #[Value.slice x0A x0n x0c] w (fun e w' => ∃ v, e = .returned v ∧ Q v w') := vcFn_sound noCount mixed ((F35.eq x0A x0n x0c w Q).symm ▸ h)
/-! ### function 37: stillage/digest.Cmp -/
def F37.vc (x0 : List Value) (x1 : List Value) (w : World) (Q : Value → World → Prop) : Prop :=
  nw w x0 28 fun b1 w2 =>
  nw w2 x1 28 fun b3 w4 =>
  ldA 32 w4 b1 0 fun a5 =>
  ldA 32 w4 b3 0 fun a6 =>
  eqAB 32 a5 a6 fun t7 =>
  vIf t7
  (Q (Value.int .i64 0) w4)
  (Calls Try.prog 43 #[Value.slice (some ⟨b1, 0, none⟩) 32 32, Value.slice (some ⟨b3, 0, none⟩) 32 32] w4.drew fun e9 w8 =>
    ∃ i10 : Int, e9 = .returned (Value.int .i64 i10) ∧ (
      Q (Value.int .i64 i10) w8))
def F37.an : Ann := ⟨[], []⟩
theorem F37.eq (x0 : List Value) (x1 : List Value) (w : World) (Q : Value → World → Prop) : vcFn Try.prog F37.an 37 [ofL x0, ofL x1] w Q = F37.vc x0 x1 w Q := by kernel_rfl
theorem F37.of (x0 : List Value) (x1 : List Value) (w : World) {Q : Value → World → Prop} (h : F37.vc x0 x1 w Q) : Calls Try.prog 37 #[ofL x0, ofL x1] w (fun e w' => ∃ v, e = .returned v ∧ Q v w') := vcFn_sound noCount mixed ((F37.eq x0 x1 w Q).symm ▸ h)
/-! ### function 38: slices.Compact[[]stillage/api.Digest,stillage/api.Digest] -/
def F38.k15c (Q : Value → World → Prop) (C4 : ((Option Addr × Nat × Nat) × Int × Unit) → World → Prop) (x0 : (Option Addr × Nat × Nat)) (x3 : Int) (w : World) : Prop :=
  gd (decide (0 ≤ x3)) <|
  gd (decide (x3 ≤ ((x0.2.2 : Nat) : Int))) <|
  Q (Value.slice (slA x0.1 x0.2.2 0 32) (x3).toNat x0.2.2) w
def F38.k15 (Q : Value → World → Prop) (C4 : ((Option Addr × Nat × Nat) × Int × Unit) → World → Prop) : ((Option Addr × Nat × Nat) × Int × Unit) → World → Prop := fun s w => ∀ _ : Nat → Value, F38.k15c Q C4 s.1 s.2.1 w
def F38.b9c (Q : Value → World → Prop) (C4 : ((Option Addr × Nat × Nat) × Int × Unit) → World → Prop) (C9 : ((Option Addr × Nat × Nat) × Int × (Option Addr × Nat × Nat) × Int × Unit) → World → Prop) (x0 : (Option Addr × Nat × Nat)) (x3 : Int) (x4 : (Option Addr × Nat × Nat)) (x5 : Int) (w : World) : Prop :=
  vIf (decide (x5 < ((x4.2.1 : Nat) : Int)))
  (dr x4.1 fun b8 o9 =>
    gd (decide (0 ≤ x5)) <|
    gd (decide (x5 < ((x4.2.1 : Nat) : Int))) <|
    ldA 32 w.drew b8 (o9 + (x5).toNat * 32) fun a10 =>
    dr x4.1 fun b11 o12 =>
    gd (decide (0 ≤ (IntKind.wrap .i64 (x5 - 1)))) <|
    gd (decide ((IntKind.wrap .i64 (x5 - 1)) < ((x4.2.1 : Nat) : Int))) <|
    ldA 32 w.drew b11 (o12 + ((IntKind.wrap .i64 (x5 - 1))).toNat * 32) fun a13 =>
    eqAB 32 a10 a13 fun t14 =>
    vIf (!t14)
    (dr x4.1 fun b15 o16 =>
      gd (decide (0 ≤ x5)) <|
      gd (decide (x5 < ((x4.2.1 : Nat) : Int))) <|
      ldA 32 w.drew b15 (o16 + (x5).toNat * 32) fun a17 =>
      dr x0.1 fun b18 o19 =>
      gd (decide (0 ≤ x3)) <|
      gd (decide (x3 < ((x0.2.1 : Nat) : Int))) <|
      gd (a17.length == 32) <|
      st w.drew b18 (o19 + (x3).toNat * 32) a17 fun w20 =>
      jnC C9 ((x0.1, x0.2.1, x0.2.2), ((IntKind.wrap .i64 (x3 + 1))), (x4.1, x4.2.1, x4.2.2), ((IntKind.wrap .i64 (x5 + 1))), ()) w20)
    (jnC C9 ((x0.1, x0.2.1, x0.2.2), (x3), (x4.1, x4.2.1, x4.2.2), ((IntKind.wrap .i64 (x5 + 1))), ()) w.drew))
  (gd (decide (0 ≤ x3)) <|
    gd (decide (x3 ≤ ((x0.2.1 : Nat) : Int))) <|
    vIf ((x0.2.1 - (x3).toNat) == 0)
    (jnC (F38.k15 Q C4) ((x0.1, x0.2.1, x0.2.2), (x3), ()) w)
    (dr (slA x0.1 x0.2.2 (x3).toNat 32) fun b22 o23 =>
      st w b22 o23 (zeros (x0.2.1 - (x3).toNat) Z28) fun w21 =>
      jnC (F38.k15 Q C4) ((x0.1, x0.2.1, x0.2.2), (x3), ()) w21))
def F38.b9 (Q : Value → World → Prop) (C4 : ((Option Addr × Nat × Nat) × Int × Unit) → World → Prop) : ((Option Addr × Nat × Nat) × Int × (Option Addr × Nat × Nat) × Int × Unit) → World → (((Option Addr × Nat × Nat) × Int × (Option Addr × Nat × Nat) × Int × Unit) → World → Prop) → Prop := fun s w C9 => ∀ _ : Nat → Value, F38.b9c Q C4 C9 s.1 s.2.1 s.2.2.1 s.2.2.2.1 w
def F38.l9 (Q : Value → World → Prop) (C4 : ((Option Addr × Nat × Nat) × Int × Unit) → World → Prop) : ((Option Addr × Nat × Nat) × Int × (Option Addr × Nat × Nat) × Int × Unit) → World → Prop := fun s w => ∃ n, loopC (F38.b9 Q C4) n s w
def F38.b4c (Q : Value → World → Prop) (C4 : ((Option Addr × Nat × Nat) × Int × Unit) → World → Prop) (x0 : (Option Addr × Nat × Nat)) (x3 : Int) (w : World) : Prop :=
  vIf (decide (x3 < ((x0.2.1 : Nat) : Int)))
  (dr x0.1 fun b1 o2 =>
    gd (decide (0 ≤ x3)) <|
    gd (decide (x3 < ((x0.2.1 : Nat) : Int))) <|
    ldA 32 w.drew b1 (o2 + (x3).toNat * 32) fun a3 =>
    dr x0.1 fun b4 o5 =>
    gd (decide (0 ≤ (IntKind.wrap .i64 (x3 - 1)))) <|
    gd (decide ((IntKind.wrap .i64 (x3 - 1)) < ((x0.2.1 : Nat) : Int))) <|
    ldA 32 w.drew b4 (o5 + ((IntKind.wrap .i64 (x3 - 1))).toNat * 32) fun a6 =>
    eqAB 32 a3 a6 fun t7 =>
    vIf t7
    (gd (decide (0 ≤ x3)) <|
      gd (decide (x3 ≤ ((x0.2.1 : Nat) : Int))) <|
      jnC (F38.l9 Q C4) ((x0.1, x0.2.1, x0.2.2), (x3), ((slA x0.1 x0.2.2 (x3).toNat 32), (x0.2.1 - (x3).toNat), (x0.2.2 - (x3).toNat)), (1), ()) w.drew)
    (jnC C4 ((x0.1, x0.2.1, x0.2.2), ((IntKind.wrap .i64 (x3 + 1))), ()) w.drew))
  (Q (Value.slice x0.1 x0.2.1 x0.2.2) w)
def F38.b4 (Q : Value → World → Prop) : ((Option Addr × Nat × Nat) × Int × Unit) → World → (((Option Addr × Nat × Nat) × Int × Unit) → World → Prop) → Prop := fun s w C4 => ∀ _ : Nat → Value, F38.b4c Q C4 s.1 s.2.1 w
def F38.l4 (Q : Value → World → Prop) : ((Option Addr × Nat × Nat) × Int × Unit) → World → Prop := fun s w => ∃ n, loopC (F38.b4 Q) n s w
def F38.vc (x0A : Option Addr) (x0n x0c : Nat) (w : World) (Q : Value → World → Prop) : Prop :=
  vIf (decide (((x0n : Nat) : Int) < 2))
  (Q (Value.slice x0A x0n x0c) w)
  (jnC (F38.l4 Q) ((x0A, x0n, x0c), (1), ()) w)
def F38.an : Ann := ⟨[(4, [(0, .kSl), (3, .kI .i64)]), (9, [(0, .kSl), (3, .kI .i64), (4, .kSl), (5, .kI .i64)])], [(15, [(0, .kSl), (3, .kI .i64)])]⟩
theorem F38.eq (x0A : Option Addr) (x0n x0c : Nat) (w : World) (Q : Value → World → Prop) : vcFn Try.prog F38.an 38 [Value.slice x0A x0n x0c] w Q = F38.vc x0A x0n x0c w Q := by kernel_rfl
theorem F38.of (x0A : Option Addr) (x0n x0c : Nat) (w : World) {Q : Value → World → Prop} (h : F38.vc x0A x0n x0c w Q) : Calls Try.prog 38 #[Value.slice x0A x0n x0c] w (fun e w' => ∃ v, e = .returned v ∧ Q v w') := vcFn_sound noCount mixed ((F38.eq x0A x0n x0c w Q).symm ▸ h)
/-! ### function 39: stillage/stillageref06.Put -/
def F39.k10c (Q : Value → World → Prop) (C4 : ((Option Addr × Nat × Nat) × (Nat × Nat) × (Option Addr × Nat × Nat) × Bool × Int × Unit) → World → Prop) (x0 : (Option Addr × Nat × Nat)) (x3 : (Nat × Nat)) (x5 : (Option Addr × Nat × Nat)) (x6 : Bool) (x7 : Int) (w : World) : Prop :=
  dr x0.1 fun b22 o23 =>
  gd (decide (0 ≤ x7)) <|
  gd (decide (x7 < ((x0.2.1 : Nat) : Int))) <|
  ldA 32 w b22 (o23 + (x7).toNat * 32) fun a24 =>
  gd (a24.length == 32) <|
  nw w (a24 ++ []) 28 fun b25 w26 =>
  app w26 32 32 Z28 28 x5.1 x5.2.1 x5.2.2 (Value.slice (some ⟨b25, 0, none⟩) 1 1) fun A27 n28 c29 w30 =>
  jnC C4 ((x0.1, x0.2.1, x0.2.2), (x3.1, x3.2), (A27, n28, c29), x6, ((IntKind.wrap .i64 (x7 + 1))), ()) w30
def F39.k10 (Q : Value → World → Prop) (C4 : ((Option Addr × Nat × Nat) × (Nat × Nat) × (Option Addr × Nat × Nat) × Bool × Int × Unit) → World → Prop) : ((Option Addr × Nat × Nat) × (Nat × Nat) × (Option Addr × Nat × Nat) × Bool × Int × Unit) → World → Prop := fun s w => ∀ _ : Nat → Value, F39.k10c Q C4 s.1 s.2.1 s.2.2.1 s.2.2.2.1 s.2.2.2.2.1 w
def F39.k7c (Q : Value → World → Prop) (C4 : ((Option Addr × Nat × Nat) × (Nat × Nat) × (Option Addr × Nat × Nat) × Bool × Int × Unit) → World → Prop) (x0 : (Option Addr × Nat × Nat)) (x3 : (Nat × Nat)) (x5 : (Option Addr × Nat × Nat)) (x6 : Bool) (x7 : Int) (x24 : Bool) (w : World) : Prop :=
  vIf x24
  (dr x0.1 fun b10 o11 =>
    gd (decide (0 ≤ x7)) <|
    gd (decide (x7 < ((x0.2.1 : Nat) : Int))) <|
    ldA 32 w.drew b10 (o11 + (x7).toNat * 32) fun a12 =>
    ldA 32 w.drew x3.1 x3.2 fun a13 =>
    eqAB 32 a12 a13 fun t14 =>
    vIf (!t14)
    (ldA 32 w.drew x3.1 x3.2 fun a15 =>
      gd (a15.length == 32) <|
      nw w.drew (a15 ++ []) 28 fun b16 w17 =>
      app w17 32 32 Z28 28 x5.1 x5.2.1 x5.2.2 (Value.slice (some ⟨b16, 0, none⟩) 1 1) fun A18 n19 c20 w21 =>
      jnC (F39.k10 Q C4) ((x0.1, x0.2.1, x0.2.2), (x3.1, x3.2), (A18, n19, c20), true, (x7), ()) w21)
    (jnC (F39.k10 Q C4) ((x0.1, x0.2.1, x0.2.2), (x3.1, x3.2), (x5.1, x5.2.1, x5.2.2), true, (x7), ()) w.drew))
  (jnC (F39.k10 Q C4) ((x0.1, x0.2.1, x0.2.2), (x3.1, x3.2), (x5.1, x5.2.1, x5.2.2), x6, (x7), ()) w)
def F39.k7 (Q : Value → World → Prop) (C4 : ((Option Addr × Nat × Nat) × (Nat × Nat) × (Option Addr × Nat × Nat) × Bool × Int × Unit) → World → Prop) : ((Option Addr × Nat × Nat) × (Nat × Nat) × (Option Addr × Nat × Nat) × Bool × Int × Bool × Unit) → World → Prop := fun s w => ∀ _ : Nat → Value, F39.k7c Q C4 s.1 s.2.1 s.2.2.1 s.2.2.2.1 s.2.2.2.2.1 s.2.2.2.2.2.1 w
def F39.b4c (Q : Value → World → Prop) (C4 : ((Option Addr × Nat × Nat) × (Nat × Nat) × (Option Addr × Nat × Nat) × Bool × Int × Unit) → World → Prop) (x0 : (Option Addr × Nat × Nat)) (x3 : (Nat × Nat)) (x5 : (Option Addr × Nat × Nat)) (x6 : Bool) (x7 : Int) (w : World) : Prop :=
  vIf (decide (x7 < ((x0.2.1 : Nat) : Int)))
  (vIf (!x6)
    (dr x0.1 fun b3 o4 =>
      gd (decide (0 ≤ x7)) <|
      gd (decide (x7 < ((x0.2.1 : Nat) : Int))) <|
      ldA 32 w.drew b3 (o4 + (x7).toNat * 32) fun a5 =>
      ldA 32 w.drew x3.1 x3.2 fun a6 =>
      Calls Try.prog 44 #[ofL a5, ofL a6] w.drew fun e8 w7 =>
      ∃ t9 : Bool, e8 = .returned (Value.bool t9) ∧ (
        jnC (F39.k7 Q C4) ((x0.1, x0.2.1, x0.2.2), (x3.1, x3.2), (x5.1, x5.2.1, x5.2.2), x6, (x7), (!t9), ()) w7))
    (jnC (F39.k7 Q C4) ((x0.1, x0.2.1, x0.2.2), (x3.1, x3.2), (x5.1, x5.2.1, x5.2.2), x6, (x7), false, ()) w.drew))
  (vIf (!x6)
    (ldA 32 w x3.1 x3.2 fun a31 =>
      gd (a31.length == 32) <|
      nw w (a31 ++ []) 28 fun b32 w33 =>
      app w33 32 32 Z28 28 x5.1 x5.2.1 x5.2.2 (Value.slice (some ⟨b32, 0, none⟩) 1 1) fun A34 n35 c36 w37 =>
      Q (Value.slice A34 n35 c36) w37)
    (Q (Value.slice x5.1 x5.2.1 x5.2.2) w))
def F39.b4 (Q : Value → World → Prop) : ((Option Addr × Nat × Nat) × (Nat × Nat) × (Option Addr × Nat × Nat) × Bool × Int × Unit) → World → (((Option Addr × Nat × Nat) × (Nat × Nat) × (Option Addr × Nat × Nat) × Bool × Int × Unit) → World → Prop) → Prop := fun s w C4 => ∀ _ : Nat → Value, F39.b4c Q C4 s.1 s.2.1 s.2.2.1 s.2.2.2.1 s.2.2.2.2.1 w
def F39.l4 (Q : Value → World → Prop) : ((Option Addr × Nat × Nat) × (Nat × Nat) × (Option Addr × Nat × Nat) × Bool × Int × Unit) → World → Prop := fun s w => ∃ n, loopC (F39.b4 Q) n s w
def F39.vc (x0A : Option Addr) (x0n x0c : Nat) (x1 : List Value) (w : World) (Q : Value → World → Prop) : Prop :=
  nw w x1 28 fun b1 w2 =>
  jnC (F39.l4 Q) ((x0A, x0n, x0c), (b1, 0), (none, 0, 0), false, (0), ()) w2
def F39.an : Ann := ⟨[(4, [(0, .kSl), (3, .kL), (5, .kSl), (6, .kB), (7, .kI .i64)])], [(7, [(0, .kSl), (3, .kL), (5, .kSl), (6, .kB), (7, .kI .i64), (24, .kB)]), (10, [(0, .kSl), (3, .kL), (5, .kSl), (6, .kB), (7, .kI .i64)])]⟩
theorem F39.eq (x0A : Option Addr) (x0n x0c : Nat) (x1 : List Value) (w : World) (Q : Value → World → Prop) : vcFn Try.prog F39.an 39 [Value.slice x0A x0n x0c, ofL x1] w Q = F39.vc x0A x0n x0c x1 w Q := by kernel_rfl
theorem F39.of (x0A : Option Addr) (x0n x0c : Nat) (x1 : List Value) (w : World) {Q : Value → World → Prop} (h : F39.vc x0A x0n x0c x1 w Q) : Calls Try.prog 39 #[Value.slice x0A x0n x0c, ofL x1] w (fun e w' => ∃ v, e = .returned v ∧ Q v w') := vcFn_sound noCount mixed ((F39.eq x0A x0n x0c x1 w Q).symm ▸ h)
/-! ### function 43: bytes.Compare -/
def F43.vc (x0A : Option Addr) (x0n x0c : Nat) (x1A : Option Addr) (x1n x1c : Nat) (w : World) (Q : Value → World → Prop) : Prop :=
  extC Try.prog 55 #[Value.slice x0A x0n x0c, Value.slice x1A x1n x1c] w fun v3 w1 =>
  ∃ i4 : Int, v3 = Value.int .i64 i4 ∧ (
    Q (Value.int .i64 i4) w1)
def F43.an : Ann := ⟨[], []⟩
theorem F43.eq (x0A : Option Addr) (x0n x0c : Nat) (x1A : Option Addr) (x1n x1c : Nat) (w : World) (Q : Value → World → Prop) : vcFn Try.prog F43.an 43 [Value.slice x0A x0n x0c, Value.slice x1A x1n x1c] w Q = F43.vc x0A x0n x0c x1A x1n x1c w Q := by kernel_rfl
theorem F43.of (x0A : Option Addr) (x0n x0c : Nat) (x1A : Option Addr) (x1n x1c : Nat) (w : World) {Q : Value → World → Prop} (h : F43.vc x0A x0n x0c x1A x1n x1c w Q) : Calls Try.prog 43 #[Value.slice x0A x0n x0c, Value.slice x1A x1n x1c] w (fun e w' => ∃ v, e = .returned v ∧ Q v w') := vcFn_sound noCount mixed ((F43.eq x0A x0n x0c x1A x1n x1c w Q).symm ▸ h)
/-! ### function 44: stillage/stillageref06.Less -/
def F44.b2c (Q : Value → World → Prop) (C2 : ((Nat × Nat) × (Nat × Nat) × Int × Unit) → World → Prop) (x2 : (Nat × Nat)) (x3 : (Nat × Nat)) (x5 : Int) (w : World) : Prop :=
  vIf (decide (x5 < 32))
  (gd (decide (0 ≤ x5)) <|
    gd (decide (x5 < 32)) <|
    ldI .u8 w.drew x2.1 (x2.2 + (x5).toNat * 1) fun i5 =>
    gd (decide (0 ≤ x5)) <|
    gd (decide (x5 < 32)) <|
    ldI .u8 w.drew x3.1 (x3.2 + (x5).toNat * 1) fun i6 =>
    vIf (i5 != i6)
    (gd (decide (0 ≤ x5)) <|
      gd (decide (x5 < 32)) <|
      ldI .u8 w.drew.drew x2.1 (x2.2 + (x5).toNat * 1) fun i7 =>
      gd (decide (0 ≤ x5)) <|
      gd (decide (x5 < 32)) <|
      ldI .u8 w.drew.drew x3.1 (x3.2 + (x5).toNat * 1) fun i8 =>
      Q (Value.bool (decide (i7 < i8))) w.drew.drew)
    (jnC C2 ((x2.1, x2.2), (x3.1, x3.2), ((IntKind.wrap .i64 (x5 + 1))), ()) w.drew))
  (Q (Value.bool false) w)
def F44.b2 (Q : Value → World → Prop) : ((Nat × Nat) × (Nat × Nat) × Int × Unit) → World → (((Nat × Nat) × (Nat × Nat) × Int × Unit) → World → Prop) → Prop := fun s w C2 => ∀ _ : Nat → Value, F44.b2c Q C2 s.1 s.2.1 s.2.2.1 w
def F44.l2 (Q : Value → World → Prop) : ((Nat × Nat) × (Nat × Nat) × Int × Unit) → World → Prop := fun s w => ∃ n, loopC (F44.b2 Q) n s w
def F44.vc (x0 : List Value) (x1 : List Value) (w : World) (Q : Value → World → Prop) : Prop :=
  nw w x0 28 fun b1 w2 =>
  nw w2 x1 28 fun b3 w4 =>
  jnC (F44.l2 Q) ((b1, 0), (b3, 0), (0), ()) w4
def F44.an : Ann := ⟨[(2, [(2, .kL), (3, .kL), (5, .kI .i64)])], []⟩
theorem F44.eq (x0 : List Value) (x1 : List Value) (w : World) (Q : Value → World → Prop) : vcFn Try.prog F44.an 44 [ofL x0, ofL x1] w Q = F44.vc x0 x1 w Q := by kernel_rfl
theorem F44.of (x0 : List Value) (x1 : List Value) (w : World) {Q : Value → World → Prop} (h : F44.vc x0 x1 w Q) : Calls Try.prog 44 #[ofL x0, ofL x1] w (fun e w' => ∃ v, e = .returned v ∧ Q v w') := vcFn_sound noCount mixed ((F44.eq x0 x1 w Q).symm ▸ h)
end Go.Proofs.Ytbcbpgfjmcmclaa
