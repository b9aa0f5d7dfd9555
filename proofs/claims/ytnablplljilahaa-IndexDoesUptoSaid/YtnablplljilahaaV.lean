/- PRINTED BY MY OWN gen.py out of the translation: each function as a proposition. -/
import Derived.Test.YtnablplljilahaaProg
import Derived.Test.YtnablplljilahaaG7
namespace Go.Proofs.Ytnablplljilahaa
open Go.GV
set_option linter.unusedVariables false
set_option maxRecDepth 100000
theorem noCount : NoCount Try.prog := noCount_of (by kernel_rfl)
theorem mixed : Try.prog.follows .mixedOrders = true := by kernel_rfl
def Z29 : List Value := [Value.int .u8 0, Value.int .u8 0, Value.int .u8 0, Value.int .u8 0, Value.int .u8 0, Value.int .u8 0, Value.int .u8 0, Value.int .u8 0, Value.int .u8 0, Value.int .u8 0, Value.int .u8 0, Value.int .u8 0, Value.int .u8 0, Value.int .u8 0, Value.int .u8 0, Value.int .u8 0, Value.int .u8 0, Value.int .u8 0, Value.int .u8 0, Value.int .u8 0, Value.int .u8 0, Value.int .u8 0, Value.int .u8 0, Value.int .u8 0, Value.int .u8 0, Value.int .u8 0, Value.int .u8 0, Value.int .u8 0, Value.int .u8 0, Value.int .u8 0, Value.int .u8 0, Value.int .u8 0]
def Z33 : List Value := [Value.int .i64 0, Value.int .u64 0, Value.int .u8 0, Value.int .u8 0, Value.int .u8 0, Value.int .u8 0, Value.int .u8 0, Value.int .u8 0, Value.int .u8 0, Value.int .u8 0, Value.int .u8 0, Value.int .u8 0, Value.int .u8 0, Value.int .u8 0, Value.int .u8 0, Value.int .u8 0, Value.int .u8 0, Value.int .u8 0, Value.int .u8 0, Value.int .u8 0, Value.int .u8 0, Value.int .u8 0, Value.int .u8 0, Value.int .u8 0, Value.int .u8 0, Value.int .u8 0, Value.int .u8 0, Value.int .u8 0, Value.int .u8 0, Value.int .u8 0, Value.int .u8 0, Value.int .u8 0, Value.int .u8 0, Value.int .u8 0, Value.string (⟨#[]⟩ : ByteArray), Value.int .i64 0, Value.int .i64 0, Value.int .i64 0, Value.int .i64 0]
def Z42 : List Value := [Value.int .u8 0, Value.int .u8 0, Value.int .u8 0, Value.int .u8 0, Value.int .u8 0, Value.int .u8 0, Value.int .u8 0, Value.int .u8 0, Value.int .u8 0, Value.int .u8 0, Value.int .u8 0, Value.int .u8 0, Value.int .u8 0, Value.int .u8 0, Value.int .u8 0, Value.int .u8 0, Value.int .u8 0, Value.int .u8 0, Value.int .u8 0, Value.int .u8 0, Value.int .u8 0, Value.int .u8 0, Value.int .u8 0, Value.int .u8 0, Value.int .u8 0, Value.int .u8 0, Value.int .u8 0, Value.int .u8 0, Value.int .u8 0, Value.int .u8 0, Value.int .u8 0, Value.int .u8 0, Value.int .i64 0, Value.int .i64 0, Value.int .i64 0, Value.int .i64 0, Value.int .i64 0, Value.slice none 0 0]
def Z79 : List Value := [Value.bool false, Value.int .u8 0, Value.int .u8 0, Value.int .u8 0, Value.int .u8 0, Value.int .u8 0, Value.int .u8 0, Value.int .u8 0, Value.int .u8 0, Value.int .u8 0, Value.int .u8 0, Value.int .u8 0, Value.int .u8 0, Value.int .u8 0, Value.int .u8 0, Value.int .u8 0, Value.int .u8 0, Value.int .u8 0, Value.int .u8 0, Value.int .u8 0, Value.int .u8 0, Value.int .u8 0, Value.int .u8 0, Value.int .u8 0, Value.int .u8 0, Value.int .u8 0, Value.int .u8 0, Value.int .u8 0, Value.int .u8 0, Value.int .u8 0, Value.int .u8 0, Value.int .u8 0, Value.int .u8 0, Value.int .u8 0, Value.int .u8 0, Value.int .u8 0, Value.int .u8 0, Value.int .u8 0, Value.int .u8 0, Value.int .u8 0, Value.int .u8 0, Value.int .u8 0, Value.int .u8 0, Value.int .u8 0, Value.int .u8 0, Value.int .u8 0, Value.int .u8 0, Value.int .u8 0, Value.int .u8 0, Value.int .u8 0, Value.int .u8 0, Value.int .u8 0, Value.int .u8 0, Value.int .u8 0, Value.int .u8 0, Value.int .u8 0, Value.int .u8 0, Value.int .u8 0, Value.int .u8 0, Value.int .u8 0, Value.int .u8 0, Value.int .u8 0, Value.int .u8 0, Value.int .u8 0, Value.int .u8 0, Value.int .i64 0, Value.int .i64 0, Value.int .i64 0, Value.int .i64 0, Value.int .i64 0, Value.slice none 0 0]
/-! ### function 3: stillage/stillagelaw20.IndexDoes -/
def F3.k11c (Q : Value → World → Prop) (C4 : ((Option Addr × Nat × Nat) × Option Addr × (Option Addr × Nat × Nat) × Int × Unit) → World → Prop) (x1 : (Option Addr × Nat × Nat)) (x5 : Option Addr) (x6 : (Option Addr × Nat × Nat)) (x7 : Int) (w : World) : Prop :=
  dr x1.1 fun b25 o26 =>
  gd (decide (0 ≤ x7)) <|
  gd (decide (x7 < ((x1.2.1 : Nat) : Int))) <|
  ldA 32 w b25 (((o26 + (x7).toNat * 41) + 1) + 2) fun a27 =>
  Calls Try.prog 12 #[Value.pointer x5, ofL a27] w fun e29 w28 =>
  ∃ a30 : List Value, ∃ t31 : Bool, e29 = .returned (Value.tuple #[ofL a30, Value.bool t31]) ∧ (
    nw w28 Z42 42 fun b32 w33 =>
    gd (a30.length == 38) <|
    st w33 b32 0 a30 fun w34 =>
    dr x1.1 fun b35 o36 =>
    gd (decide (0 ≤ x7)) <|
    gd (decide (x7 < ((x1.2.1 : Nat) : Int))) <|
    ldA 32 w34 b35 (((o36 + (x7).toNat * 41) + 1) + 2) fun a37 =>
    Calls Try.prog 13 #[Value.slice x6.1 x6.2.1 x6.2.2, ofL a37] w34 fun e39 w38 =>
    ∃ a40 : List Value, ∃ t41 : Bool, e39 = .returned (Value.tuple #[ofL a40, Value.bool t41]) ∧ (
      nw w38 Z42 42 fun b42 w43 =>
      gd (a40.length == 38) <|
      st w43 b42 0 a40 fun w44 =>
      Calls Try.prog 14 #[Value.pointer x5] w44 fun e46 w45 =>
      ∃ i47 : Int, ∃ i48 : Int, e46 = .returned (Value.tuple #[Value.int .i64 i47, Value.int .i64 i48]) ∧ (
        Calls Try.prog 15 #[Value.slice x6.1 x6.2.1 x6.2.2] w45 fun e50 w49 =>
        ∃ i51 : Int, ∃ i52 : Int, e50 = .returned (Value.tuple #[Value.int .i64 i51, Value.int .i64 i52]) ∧ (
          ldA 38 w49 b32 0 fun a53 =>
          ldA 38 w49 b42 0 fun a54 =>
          Calls Try.prog 16 #[ofL a53, ofL a54] w49 fun e56 w55 =>
          ∃ t57 : Bool, e56 = .returned (Value.bool t57) ∧ (
            vIf (!t57)
            (Q (Value.bool false) w55)
            (vIf (!(t31 == t41))
              (Q (Value.bool false) w55)
              (vIf (i47 != i51)
                (Q (Value.bool false) w55)
                (vIf (i48 != i52)
                  (Q (Value.bool false) w55)
                  (Calls Try.prog 18 #[Value.pointer x5] w55 fun e59 w58 =>
                    ∃ (A60 : Option Addr) (n61 c62 : Nat), e59 = .returned (Value.slice A60 n61 c62) ∧ (
                      Calls Try.prog 17 #[Value.slice A60 n61 c62, Value.slice x6.1 x6.2.1 x6.2.2] w58 fun e64 w63 =>
                      ∃ t65 : Bool, e64 = .returned (Value.bool t65) ∧ (
                        vIf (!t65)
                        (Q (Value.bool false) w63)
                        (jnC C4 ((x1.1, x1.2.1, x1.2.2), x5, (x6.1, x6.2.1, x6.2.2), ((IntKind.wrap .i64 (x7 + 1))), ()) w63))))))))))))
def F3.k11 (Q : Value → World → Prop) (C4 : ((Option Addr × Nat × Nat) × Option Addr × (Option Addr × Nat × Nat) × Int × Unit) → World → Prop) : ((Option Addr × Nat × Nat) × Option Addr × (Option Addr × Nat × Nat) × Int × Unit) → World → Prop := fun s w => ∀ _ : Nat → Value, F3.k11c Q C4 s.1 s.2.1 s.2.2.1 s.2.2.2.1 w
def F3.b4c (Q : Value → World → Prop) (C4 : ((Option Addr × Nat × Nat) × Option Addr × (Option Addr × Nat × Nat) × Int × Unit) → World → Prop) (x1 : (Option Addr × Nat × Nat)) (x5 : Option Addr) (x6 : (Option Addr × Nat × Nat)) (x7 : Int) (w : World) : Prop :=
  vIf (decide (x7 < ((x1.2.1 : Nat) : Int)))
  (dr x1.1 fun b9 o10 =>
    gd (decide (0 ≤ x7)) <|
    gd (decide (x7 < ((x1.2.1 : Nat) : Int))) <|
    ldI .i64 w b9 (o10 + (x7).toNat * 41) fun i11 =>
    vIf (i11 == 0)
    (dr x1.1 fun b12 o13 =>
      gd (decide (0 ≤ x7)) <|
      gd (decide (x7 < ((x1.2.1 : Nat) : Int))) <|
      ldA 39 w b12 ((o13 + (x7).toNat * 41) + 1) fun a14 =>
      Calls Try.prog 8 #[Value.pointer x5, ofL a14] w fun e16 w15 =>
      e16 = .returned (Value.tuple #[]) ∧ (
        dr x1.1 fun b17 o18 =>
        gd (decide (0 ≤ x7)) <|
        gd (decide (x7 < ((x1.2.1 : Nat) : Int))) <|
        ldA 39 w15 b17 ((o18 + (x7).toNat * 41) + 1) fun a19 =>
        Calls Try.prog 9 #[Value.slice x6.1 x6.2.1 x6.2.2, ofL a19] w15 fun e21 w20 =>
        ∃ (A22 : Option Addr) (n23 c24 : Nat), e21 = .returned (Value.slice A22 n23 c24) ∧ (
          jnC (F3.k11 Q C4) ((x1.1, x1.2.1, x1.2.2), x5, (A22, n23, c24), (x7), ()) w20)))
    (dr x1.1 fun b66 o67 =>
      gd (decide (0 ≤ x7)) <|
      gd (decide (x7 < ((x1.2.1 : Nat) : Int))) <|
      ldSl w b66 ((o67 + (x7).toNat * 41) + 40) fun A68 n69 c70 =>
      Calls Try.prog 10 #[Value.pointer x5, Value.slice A68 n69 c70] w fun e72 w71 =>
      e72 = .returned (Value.tuple #[]) ∧ (
        dr x1.1 fun b73 o74 =>
        gd (decide (0 ≤ x7)) <|
        gd (decide (x7 < ((x1.2.1 : Nat) : Int))) <|
        ldSl w71 b73 ((o74 + (x7).toNat * 41) + 40) fun A75 n76 c77 =>
        Calls Try.prog 11 #[Value.slice x6.1 x6.2.1 x6.2.2, Value.slice A75 n76 c77] w71 fun e79 w78 =>
        ∃ (A80 : Option Addr) (n81 c82 : Nat), e79 = .returned (Value.slice A80 n81 c82) ∧ (
          jnC (F3.k11 Q C4) ((x1.1, x1.2.1, x1.2.2), x5, (A80, n81, c82), (x7), ()) w78))))
  (Calls Try.prog 18 #[Value.pointer x5] w fun e84 w83 =>
    ∃ (A85 : Option Addr) (n86 c87 : Nat), e84 = .returned (Value.slice A85 n86 c87) ∧ (
      Calls Try.prog 17 #[Value.slice A85 n86 c87, Value.slice x6.1 x6.2.1 x6.2.2] w83 fun e89 w88 =>
      ∃ t90 : Bool, e89 = .returned (Value.bool t90) ∧ (
        vIf t90
        (Calls Try.prog 19 #[] w88 fun e92 w91 =>
          ∃ t93 : Bool, e92 = .returned (Value.bool t93) ∧ (
            Q (Value.bool t93) w91))
        (Q (Value.bool false) w88))))
def F3.b4 (Q : Value → World → Prop) : ((Option Addr × Nat × Nat) × Option Addr × (Option Addr × Nat × Nat) × Int × Unit) → World → (((Option Addr × Nat × Nat) × Option Addr × (Option Addr × Nat × Nat) × Int × Unit) → World → Prop) → Prop := fun s w C4 => ∀ _ : Nat → Value, F3.b4c Q C4 s.1 s.2.1 s.2.2.1 s.2.2.2.1 w
def F3.l4 (Q : Value → World → Prop) : ((Option Addr × Nat × Nat) × Option Addr × (Option Addr × Nat × Nat) × Int × Unit) → World → Prop := fun s w => ∃ n, loopC (F3.b4 Q) n s w
def F3.vc (x0A : Option Addr) (x0n x0c : Nat) (x1A : Option Addr) (x1n x1c : Nat) (w : World) (Q : Value → World → Prop) : Prop :=
  Calls Try.prog 6 #[Value.slice x0A x0n x0c] w fun e2 w1 =>
  ∃ p3 : Option Addr, e2 = .returned (Value.pointer p3) ∧ (
    Calls Try.prog 7 #[Value.slice x0A x0n x0c] w1 fun e5 w4 =>
    ∃ (A6 : Option Addr) (n7 c8 : Nat), e5 = .returned (Value.slice A6 n7 c8) ∧ (
      jnC (F3.l4 Q) ((x1A, x1n, x1c), p3, (A6, n7, c8), (0), ()) w4))
def F3.an : Ann := ⟨[(4, [(1, .kSl), (5, .kP), (6, .kSl), (7, .kI .i64)])], [(11, [(1, .kSl), (5, .kP), (6, .kSl), (7, .kI .i64)])]⟩
theorem F3.eq (x0A : Option Addr) (x0n x0c : Nat) (x1A : Option Addr) (x1n x1c : Nat) (w : World) (Q : Value → World → Prop) : vcFn Try.prog F3.an 3 [Value.slice x0A x0n x0c, Value.slice x1A x1n x1c] w Q = F3.vc x0A x0n x0c x1A x1n x1c w Q := by kernel_rfl
theorem F3.of (x0A : Option Addr) (x0n x0c : Nat) (x1A : Option Addr) (x1n x1c : Nat) (w : World) {Q : Value → World → Prop} (h : F3.vc x0A x0n x0c x1A x1n x1c w Q) : Calls Try.prog 3 #[Value.slice x0A x0n x0c, Value.slice x1A x1n x1c] w (fun e w' => ∃ v, e = .returned v ∧ Q v w') := vcFn_sound noCount mixed ((F3.eq x0A x0n x0c x1A x1n x1c w Q).symm ▸ h)
/-! ### function 4: stillage/stillagelaw20.IndexAgain -/
def F4.b9c (Q : Value → World → Prop) (C9 : ((Option Addr × Nat × Nat) × (Option Addr × Nat × Nat) × Option Addr × Option Addr × Int × Unit) → World → Prop) (x5 : (Option Addr × Nat × Nat)) (x6 : (Option Addr × Nat × Nat)) (x7 : Option Addr) (x9 : Option Addr) (x10 : Int) (w : World) : Prop :=
  vIf (decide (x10 < ((x5.2.1 : Nat) : Int)))
  (dr x5.1 fun b31 o32 =>
    gd (decide (0 ≤ x10)) <|
    gd (decide (x10 < ((x5.2.1 : Nat) : Int))) <|
    ldA 39 w b31 (o32 + (x10).toNat * 39) fun a33 =>
    Calls Try.prog 8 #[Value.pointer x7, ofL a33] w fun e35 w34 =>
    e35 = .returned (Value.tuple #[]) ∧ (
      dr x5.1 fun b36 o37 =>
      gd (decide (0 ≤ x10)) <|
      gd (decide (x10 < ((x5.2.1 : Nat) : Int))) <|
      ldA 39 w34 b36 (o37 + (x10).toNat * 39) fun a38 =>
      Calls Try.prog 8 #[Value.pointer x9, ofL a38] w34 fun e40 w39 =>
      e40 = .returned (Value.tuple #[]) ∧ (
        jnC C9 ((x5.1, x5.2.1, x5.2.2), (x6.1, x6.2.1, x6.2.2), x7, x9, ((IntKind.wrap .i64 (x10 + 1))), ()) w39)))
  (Calls Try.prog 10 #[Value.pointer x7, Value.slice x6.1 x6.2.1 x6.2.2] w fun e42 w41 =>
    e42 = .returned (Value.tuple #[]) ∧ (
      Calls Try.prog 10 #[Value.pointer x9, Value.slice x6.1 x6.2.1 x6.2.2] w41 fun e44 w43 =>
      e44 = .returned (Value.tuple #[]) ∧ (
        Calls Try.prog 18 #[Value.pointer x7] w43 fun e46 w45 =>
        ∃ (A47 : Option Addr) (n48 c49 : Nat), e46 = .returned (Value.slice A47 n48 c49) ∧ (
          Calls Try.prog 18 #[Value.pointer x9] w45 fun e51 w50 =>
          ∃ (A52 : Option Addr) (n53 c54 : Nat), e51 = .returned (Value.slice A52 n53 c54) ∧ (
            Calls Try.prog 17 #[Value.slice A47 n48 c49, Value.slice A52 n53 c54] w50 fun e56 w55 =>
            ∃ t57 : Bool, e56 = .returned (Value.bool t57) ∧ (
              vIf t57
              (Calls Try.prog 19 #[] w55 fun e59 w58 =>
                ∃ t60 : Bool, e59 = .returned (Value.bool t60) ∧ (
                  Q (Value.bool t60) w58))
              (Q (Value.bool false) w55)))))))
def F4.b9 (Q : Value → World → Prop) : ((Option Addr × Nat × Nat) × (Option Addr × Nat × Nat) × Option Addr × Option Addr × Int × Unit) → World → (((Option Addr × Nat × Nat) × (Option Addr × Nat × Nat) × Option Addr × Option Addr × Int × Unit) → World → Prop) → Prop := fun s w C9 => ∀ _ : Nat → Value, F4.b9c Q C9 s.1 s.2.1 s.2.2.1 s.2.2.2.1 s.2.2.2.2.1 w
def F4.l9 (Q : Value → World → Prop) : ((Option Addr × Nat × Nat) × (Option Addr × Nat × Nat) × Option Addr × Option Addr × Int × Unit) → World → Prop := fun s w => ∃ n, loopC (F4.b9 Q) n s w
def F4.b4c (Q : Value → World → Prop) (C4 : ((Option Addr × Nat × Nat) × (Option Addr × Nat × Nat) × (Option Addr × Nat × Nat) × Option Addr × Int × Unit) → World → Prop) (x4 : (Option Addr × Nat × Nat)) (x5 : (Option Addr × Nat × Nat)) (x6 : (Option Addr × Nat × Nat)) (x7 : Option Addr) (x8 : Int) (w : World) : Prop :=
  vIf (decide (x8 < ((x4.2.1 : Nat) : Int)))
  (dr x4.1 fun b18 o19 =>
    gd (decide (0 ≤ x8)) <|
    gd (decide (x8 < ((x4.2.1 : Nat) : Int))) <|
    ldA 39 w b18 (o19 + (x8).toNat * 39) fun a20 =>
    Calls Try.prog 8 #[Value.pointer x7, ofL a20] w fun e22 w21 =>
    e22 = .returned (Value.tuple #[]) ∧ (
      jnC C4 ((x4.1, x4.2.1, x4.2.2), (x5.1, x5.2.1, x5.2.2), (x6.1, x6.2.1, x6.2.2), x7, ((IntKind.wrap .i64 (x8 + 1))), ()) w21))
  (Calls Try.prog 18 #[Value.pointer x7] w fun e24 w23 =>
    ∃ (A25 : Option Addr) (n26 c27 : Nat), e24 = .returned (Value.slice A25 n26 c27) ∧ (
      Calls Try.prog 6 #[Value.slice A25 n26 c27] w23 fun e29 w28 =>
      ∃ p30 : Option Addr, e29 = .returned (Value.pointer p30) ∧ (
        jnC (F4.l9 Q) ((x5.1, x5.2.1, x5.2.2), (x6.1, x6.2.1, x6.2.2), x7, p30, (0), ()) w28)))
def F4.b4 (Q : Value → World → Prop) : ((Option Addr × Nat × Nat) × (Option Addr × Nat × Nat) × (Option Addr × Nat × Nat) × Option Addr × Int × Unit) → World → (((Option Addr × Nat × Nat) × (Option Addr × Nat × Nat) × (Option Addr × Nat × Nat) × Option Addr × Int × Unit) → World → Prop) → Prop := fun s w C4 => ∀ _ : Nat → Value, F4.b4c Q C4 s.1 s.2.1 s.2.2.1 s.2.2.2.1 s.2.2.2.2.1 w
def F4.l4 (Q : Value → World → Prop) : ((Option Addr × Nat × Nat) × (Option Addr × Nat × Nat) × (Option Addr × Nat × Nat) × Option Addr × Int × Unit) → World → Prop := fun s w => ∃ n, loopC (F4.b4 Q) n s w
def F4.vc (x0 : List Value) (w : World) (Q : Value → World → Prop) : Prop :=
  nw w x0 56 fun b1 w2 =>
  ldSl w2.drew b1 0 fun A3 n4 c5 =>
  ldSl w2.drew b1 (0 + 1) fun A6 n7 c8 =>
  ldSl w2.drew b1 (0 + 2) fun A9 n10 c11 =>
  ldSl w2.drew b1 (0 + 3) fun A12 n13 c14 =>
  Calls Try.prog 6 #[Value.slice A3 n4 c5] w2.drew fun e16 w15 =>
  ∃ p17 : Option Addr, e16 = .returned (Value.pointer p17) ∧ (
    jnC (F4.l4 Q) ((A6, n7, c8), (A9, n10, c11), (A12, n13, c14), p17, (0), ()) w15)
def F4.an : Ann := ⟨[(4, [(4, .kSl), (5, .kSl), (6, .kSl), (7, .kP), (8, .kI .i64)]), (9, [(5, .kSl), (6, .kSl), (7, .kP), (9, .kP), (10, .kI .i64)])], []⟩
theorem F4.eq (x0 : List Value) (w : World) (Q : Value → World → Prop) : vcFn Try.prog F4.an 4 [ofL x0] w Q = F4.vc x0 w Q := by kernel_rfl
theorem F4.of (x0 : List Value) (w : World) {Q : Value → World → Prop} (h : F4.vc x0 w Q) : Calls Try.prog 4 #[ofL x0] w (fun e w' => ∃ v, e = .returned v ∧ Q v w') := vcFn_sound noCount mixed ((F4.eq x0 w Q).symm ▸ h)
/-! ### function 5: stillage/stillagelaw20.IndexNone -/
def F5.vc (x0 : List Value) (x1A : Option Addr) (x1n x1c : Nat) (w : World) (Q : Value → World → Prop) : Prop :=
  nw w x0 33 fun b1 w2 =>
  ldA 39 w2 b1 0 fun a3 =>
  Calls Try.prog 8 #[Value.pointer none, ofL a3] w2 fun e5 w4 =>
  e5 = .returned (Value.tuple #[]) ∧ (
    Calls Try.prog 10 #[Value.pointer none, Value.slice x1A x1n x1c] w4 fun e7 w6 =>
    e7 = .returned (Value.tuple #[]) ∧ (
      ldA 32 w6 b1 (0 + 2) fun a8 =>
      Calls Try.prog 12 #[Value.pointer none, ofL a8] w6 fun e10 w9 =>
      ∃ a11 : List Value, ∃ t12 : Bool, e10 = .returned (Value.tuple #[ofL a11, Value.bool t12]) ∧ (
        nw w9 Z42 42 fun b13 w14 =>
        gd (a11.length == 38) <|
        st w14 b13 0 a11 fun w15 =>
        Calls Try.prog 14 #[Value.pointer none] w15 fun e17 w16 =>
        ∃ i18 : Int, ∃ i19 : Int, e17 = .returned (Value.tuple #[Value.int .i64 i18, Value.int .i64 i19]) ∧ (
          ldA 38 w16 b13 0 fun a20 =>
          Calls Try.prog 16 #[ofL a20, ofL ([Value.int .u8 0, Value.int .u8 0, Value.int .u8 0, Value.int .u8 0, Value.int .u8 0, Value.int .u8 0, Value.int .u8 0, Value.int .u8 0, Value.int .u8 0, Value.int .u8 0, Value.int .u8 0, Value.int .u8 0, Value.int .u8 0, Value.int .u8 0, Value.int .u8 0, Value.int .u8 0, Value.int .u8 0, Value.int .u8 0, Value.int .u8 0, Value.int .u8 0, Value.int .u8 0, Value.int .u8 0, Value.int .u8 0, Value.int .u8 0, Value.int .u8 0, Value.int .u8 0, Value.int .u8 0, Value.int .u8 0, Value.int .u8 0, Value.int .u8 0, Value.int .u8 0, Value.int .u8 0] ++ ([Value.int .i64 0] ++ ([Value.int .i64 0] ++ ([Value.int .i64 0, Value.int .i64 0, Value.int .i64 0] ++ ([Value.slice none 0 0] ++ [])))))] w16 fun e22 w21 =>
          ∃ t23 : Bool, e22 = .returned (Value.bool t23) ∧ (
            vIf t23
            (vIf (!t12)
              (vIf (i18 == 0)
                (vIf (i19 == 0)
                  (Calls Try.prog 18 #[Value.pointer none] w21 fun e25 w24 =>
                    ∃ (A26 : Option Addr) (n27 c28 : Nat), e25 = .returned (Value.slice A26 n27 c28) ∧ (
                      vIf (((n27 : Nat) : Int) == 0)
                      (Calls Try.prog 19 #[] w24 fun e30 w29 =>
                        ∃ t31 : Bool, e30 = .returned (Value.bool t31) ∧ (
                          Q (Value.bool t31) w29))
                      (Q (Value.bool false) w24)))
                  (Q (Value.bool false) w21))
                (Q (Value.bool false) w21))
              (Q (Value.bool false) w21))
            (Q (Value.bool false) w21))))))
def F5.an : Ann := ⟨[], []⟩
theorem F5.eq (x0 : List Value) (x1A : Option Addr) (x1n x1c : Nat) (w : World) (Q : Value → World → Prop) : vcFn Try.prog F5.an 5 [ofL x0, Value.slice x1A x1n x1c] w Q = F5.vc x0 x1A x1n x1c w Q := by kernel_rfl
theorem F5.of (x0 : List Value) (x1A : Option Addr) (x1n x1c : Nat) (w : World) {Q : Value → World → Prop} (h : F5.vc x0 x1A x1n x1c w Q) : Calls Try.prog 5 #[ofL x0, Value.slice x1A x1n x1c] w (fun e w' => ∃ v, e = .returned v ∧ Q v w') := vcFn_sound noCount mixed ((F5.eq x0 x1A x1n x1c w Q).symm ▸ h)
/-! ### function 6: stillage/index.New -/
def F6.b3c (Q : Value → World → Prop) (C3 : ((Nat × Nat) × (Option Addr × Nat × Nat) × Int × Int × Unit) → World → Prop) (x3 : (Nat × Nat)) (x9 : (Option Addr × Nat × Nat)) (x10 : Int) (x11 : Int) (w : World) : Prop :=
  vIf (decide (x11 < x10))
  (dr x9.1 fun b6 o7 =>
    gd (decide (0 ≤ x11)) <|
    gd (decide (x11 < ((x9.2.1 : Nat) : Int))) <|
    ldA 38 w b6 (o7 + (x11).toNat * 38) fun a8 =>
    nw w Z42 42 fun b9 w10 =>
    gd (a8.length == 38) <|
    st w10 b9 0 a8 fun w11 =>
    ldP w11.drew x3.1 x3.2 fun p12 =>
    ldA 32 w11.drew b9 0 fun a13 =>
    ldA 38 w11.drew b9 0 fun a14 =>
    Calls Try.prog 22 #[ofL a14] w11.drew fun e16 w15 =>
    ∃ a17 : List Value, e16 = .returned (ofL a17) ∧ (
      kp w11.drew b9 0 32 w15 <|
      kp w11.drew x3.1 x3.2 1 w15 <|
      Calls Try.prog 21 #[Value.pointer p12, ofL a13, ofL a17] w15 fun e19 w18 =>
      e19 = .returned (Value.tuple #[]) ∧ (
        jnC C3 ((x3.1, x3.2), (x9.1, x9.2.1, x9.2.2), (x10), ((IntKind.wrap .i64 (x11 + 1))), ()) w18)))
  (Q (Value.pointer (some ⟨x3.1, x3.2, none⟩)) w)
def F6.b3 (Q : Value → World → Prop) : ((Nat × Nat) × (Option Addr × Nat × Nat) × Int × Int × Unit) → World → (((Nat × Nat) × (Option Addr × Nat × Nat) × Int × Int × Unit) → World → Prop) → Prop := fun s w C3 => ∀ _ : Nat → Value, F6.b3c Q C3 s.1 s.2.1 s.2.2.1 s.2.2.2.1 w
def F6.l3 (Q : Value → World → Prop) : ((Nat × Nat) × (Option Addr × Nat × Nat) × Int × Int × Unit) → World → Prop := fun s w => ∃ n, loopC (F6.b3 Q) n s w
def F6.vc (x0A : Option Addr) (x0n x0c : Nat) (w : World) (Q : Value → World → Prop) : Prop :=
  Calls Try.prog 20 #[] w fun e2 w1 =>
  ∃ p3 : Option Addr, e2 = .returned (Value.pointer p3) ∧ (
    nw w1 ([Value.pointer p3] ++ []) 62 fun b4 w5 =>
    jnC (F6.l3 Q) ((b4, 0), (x0A, x0n, x0c), (((x0n : Nat) : Int)), (0), ()) w5)
def F6.an : Ann := ⟨[(3, [(3, .kL), (9, .kSl), (10, .kI .i64), (11, .kI .i64)])], []⟩
theorem F6.eq (x0A : Option Addr) (x0n x0c : Nat) (w : World) (Q : Value → World → Prop) : vcFn Try.prog F6.an 6 [Value.slice x0A x0n x0c] w Q = F6.vc x0A x0n x0c w Q := by kernel_rfl
theorem F6.of (x0A : Option Addr) (x0n x0c : Nat) (w : World) {Q : Value → World → Prop} (h : F6.vc x0A x0n x0c w Q) : Calls Try.prog 6 #[Value.slice x0A x0n x0c] w (fun e w' => ∃ v, e = .returned v ∧ Q v w') := vcFn_sound noCount mixed ((F6.eq x0A x0n x0c w Q).symm ▸ h)
/-! ### function 7: stillage/stillageref20.New -/
def F7.b3c (Q : Value → World → Prop) (C3 : ((Option Addr × Nat × Nat) × (Option Addr × Nat × Nat) × Int × Unit) → World → Prop) (x0 : (Option Addr × Nat × Nat)) (x3 : (Option Addr × Nat × Nat)) (x4 : Int) (w : World) : Prop :=
  vIf (decide (x4 < ((x0.2.1 : Nat) : Int)))
  (dr x0.1 fun b1 o2 =>
    gd (decide (0 ≤ x4)) <|
    gd (decide (x4 < ((x0.2.1 : Nat) : Int))) <|
    ldA 38 w b1 (o2 + (x4).toNat * 38) fun a3 =>
    Calls Try.prog 23 #[Value.slice x3.1 x3.2.1 x3.2.2, ofL a3] w fun e5 w4 =>
    ∃ (A6 : Option Addr) (n7 c8 : Nat), e5 = .returned (Value.slice A6 n7 c8) ∧ (
      jnC C3 ((x0.1, x0.2.1, x0.2.2), (A6, n7, c8), ((IntKind.wrap .i64 (x4 + 1))), ()) w4))
  (Q (Value.slice x3.1 x3.2.1 x3.2.2) w)
def F7.b3 (Q : Value → World → Prop) : ((Option Addr × Nat × Nat) × (Option Addr × Nat × Nat) × Int × Unit) → World → (((Option Addr × Nat × Nat) × (Option Addr × Nat × Nat) × Int × Unit) → World → Prop) → Prop := fun s w C3 => ∀ _ : Nat → Value, F7.b3c Q C3 s.1 s.2.1 s.2.2.1 w
def F7.l3 (Q : Value → World → Prop) : ((Option Addr × Nat × Nat) × (Option Addr × Nat × Nat) × Int × Unit) → World → Prop := fun s w => ∃ n, loopC (F7.b3 Q) n s w
def F7.vc (x0A : Option Addr) (x0n x0c : Nat) (w : World) (Q : Value → World → Prop) : Prop :=
  jnC (F7.l3 Q) ((x0A, x0n, x0c), (none, 0, 0), (0), ()) w
def F7.an : Ann := ⟨[(3, [(0, .kSl), (3, .kSl), (4, .kI .i64)])], []⟩
theorem F7.eq (x0A : Option Addr) (x0n x0c : Nat) (w : World) (Q : Value → World → Prop) : vcFn Try.prog F7.an 7 [Value.slice x0A x0n x0c] w Q = F7.vc x0A x0n x0c w Q := by kernel_rfl
theorem F7.of (x0A : Option Addr) (x0n x0c : Nat) (w : World) {Q : Value → World → Prop} (h : F7.vc x0A x0n x0c w Q) : Calls Try.prog 7 #[Value.slice x0A x0n x0c] w (fun e w' => ∃ v, e = .returned v ∧ Q v w') := vcFn_sound noCount mixed ((F7.eq x0A x0n x0c w Q).symm ▸ h)
/-! ### function 8: (*stillage/index.Index).Apply -/
def F8.k6c (Q : Value → World → Prop) (x0 : Option Addr) (x3 : (Nat × Nat)) (x4 : (Nat × Nat)) (x5 : Bool) (x19 : Int) (x20 : Bool) (w : World) : Prop :=
  vIf x20
  (dr x0 fun b15 o16 =>
    ldP w.drew b15 o16 fun p17 =>
    ldA 32 w.drew x3.1 (x3.2 + 2) fun a18 =>
    ldA 38 w.drew x4.1 x4.2 fun a19 =>
    ldA 39 w.drew x3.1 x3.2 fun a20 =>
    Calls Try.prog 25 #[ofL a19, ofL a20] w.drew fun e22 w21 =>
    ∃ a23 : List Value, e22 = .returned (ofL a23) ∧ (
      kp w.drew x3.1 (x3.2 + 2) 32 w21 <|
      kp w.drew b15 o16 1 w21 <|
      Calls Try.prog 21 #[Value.pointer p17, ofL a18, ofL a23] w21 fun e25 w24 =>
      e25 = .returned (Value.tuple #[]) ∧ (
        Q (Value.tuple #[]) w24)))
  (vIf (x19 == 5)
    (vIf x5
      (dr x0 fun b26 o27 =>
        ldP w.drew b26 o27 fun p28 =>
        ldA 32 w.drew x3.1 (x3.2 + 2) fun a29 =>
        ldA 38 w.drew x4.1 x4.2 fun a30 =>
        ldA 39 w.drew x3.1 x3.2 fun a31 =>
        Calls Try.prog 26 #[ofL a30, ofL a31] w.drew fun e33 w32 =>
        ∃ a34 : List Value, e33 = .returned (ofL a34) ∧ (
          kp w.drew x3.1 (x3.2 + 2) 32 w32 <|
          kp w.drew b26 o27 1 w32 <|
          Calls Try.prog 21 #[Value.pointer p28, ofL a29, ofL a34] w32 fun e36 w35 =>
          e36 = .returned (Value.tuple #[]) ∧ (
            Q (Value.tuple #[]) w35)))
      (Q (Value.tuple #[]) w))
    (Q (Value.tuple #[]) w))
def F8.k6 (Q : Value → World → Prop) : (Option Addr × (Nat × Nat) × (Nat × Nat) × Bool × Int × Bool × Unit) → World → Prop := fun s w => ∀ _ : Nat → Value, F8.k6c Q s.1 s.2.1 s.2.2.1 s.2.2.2.1 s.2.2.2.2.1 s.2.2.2.2.2.1 w
def F8.vc (x0 : Option Addr) (x1 : List Value) (w : World) (Q : Value → World → Prop) : Prop :=
  nw w x1 33 fun b1 w2 =>
  vIf x0.isNone
  (Q (Value.tuple #[]) w2)
  (dr x0 fun b3 o4 =>
    ldP w2.drew b3 o4 fun p5 =>
    ldA 32 w2.drew b1 (0 + 2) fun a6 =>
    (Calls Try.prog 24 #[Value.pointer p5, ofL a6] w2.drew fun e8 w7 =>
      ∃ a9 : List Value, ∃ t10 : Bool, e8 = .returned (Value.tuple #[ofL a9, Value.bool t10]) ∧ (
        nw w7 Z42 42 fun b11 w12 =>
        kp w2.drew b1 (0 + 2) 32 w12 <|
        kp w2.drew b3 o4 1 w12 <|
        gd (a9.length == 38) <|
        st w12 b11 0 a9 fun w13 =>
        ldI .i64 w13 b1 0 fun i14 =>
        vIf (i14 == 1)
        (jnC (F8.k6 Q) (x0, (b1, 0), (b11, 0), t10, (i14), (i14 == 1), ()) w13)
        (jnC (F8.k6 Q) (x0, (b1, 0), (b11, 0), t10, (i14), (i14 == 2), ()) w13))) ∧
    (nw w2.drew Z42 42 fun b37 w38 =>
      kp w2.drew b1 (0 + 2) 32 w38 <|
      kp w2.drew b3 o4 1 w38 <|
      Calls Try.prog 24 #[Value.pointer p5, ofL a6] w38 fun e40 w39 =>
      ∃ a41 : List Value, ∃ t42 : Bool, e40 = .returned (Value.tuple #[ofL a41, Value.bool t42]) ∧ (
        gd (a41.length == 38) <|
        st w39 b37 0 a41 fun w43 =>
        ldI .i64 w43 b1 0 fun i44 =>
        vIf (i44 == 1)
        (jnC (F8.k6 Q) (x0, (b1, 0), (b37, 0), t42, (i44), (i44 == 1), ()) w43)
        (jnC (F8.k6 Q) (x0, (b1, 0), (b37, 0), t42, (i44), (i44 == 2), ()) w43))))
def F8.an : Ann := ⟨[], [(6, [(0, .kP), (3, .kL), (4, .kL), (5, .kB), (19, .kI .i64), (20, .kB)])]⟩
theorem F8.eq (x0 : Option Addr) (x1 : List Value) (w : World) (Q : Value → World → Prop) : vcFn Try.prog F8.an 8 [Value.pointer x0, ofL x1] w Q = F8.vc x0 x1 w Q := by kernel_rfl
theorem F8.of (x0 : Option Addr) (x1 : List Value) (w : World) {Q : Value → World → Prop} (h : F8.vc x0 x1 w Q) : Calls Try.prog 8 #[Value.pointer x0, ofL x1] w (fun e w' => ∃ v, e = .returned v ∧ Q v w') := vcFn_sound noCount mixed ((F8.eq x0 x1 w Q).symm ▸ h)
/-! ### function 9: stillage/stillageref20.Apply -/
def F9.k5c (Q : Value → World → Prop) (x0 : (Option Addr × Nat × Nat)) (x3 : (Nat × Nat)) (x5 : (Nat × Nat)) (x32 : Bool) (w : World) : Prop :=
  vIf x32
  (ldA 38 w x5.1 x5.2 fun a23 =>
    ldA 39 w x3.1 x3.2 fun a24 =>
    Calls Try.prog 28 #[ofL a23, ofL a24] w fun e26 w25 =>
    ∃ a27 : List Value, e26 = .returned (ofL a27) ∧ (
      Calls Try.prog 23 #[Value.slice x0.1 x0.2.1 x0.2.2, ofL a27] w25 fun e29 w28 =>
      ∃ (A30 : Option Addr) (n31 c32 : Nat), e29 = .returned (Value.slice A30 n31 c32) ∧ (
        Q (Value.slice A30 n31 c32) w28)))
  (Q (Value.slice x0.1 x0.2.1 x0.2.2) w)
def F9.k5 (Q : Value → World → Prop) : ((Option Addr × Nat × Nat) × (Nat × Nat) × (Nat × Nat) × Bool × Unit) → World → Prop := fun s w => ∀ _ : Nat → Value, F9.k5c Q s.1 s.2.1 s.2.2.1 s.2.2.2.1 w
def F9.k4c (Q : Value → World → Prop) (x0 : (Option Addr × Nat × Nat)) (x3 : (Nat × Nat)) (x5 : (Nat × Nat)) (x6 : Bool) (w : World) : Prop :=
  ldI .i64 w x3.1 x3.2 fun i22 =>
  vIf (i22 == 5)
  (jnC (F9.k5 Q) ((x0.1, x0.2.1, x0.2.2), (x3.1, x3.2), (x5.1, x5.2), x6, ()) w)
  (jnC (F9.k5 Q) ((x0.1, x0.2.1, x0.2.2), (x3.1, x3.2), (x5.1, x5.2), false, ()) w)
def F9.k4 (Q : Value → World → Prop) : ((Option Addr × Nat × Nat) × (Nat × Nat) × (Nat × Nat) × Bool × Unit) → World → Prop := fun s w => ∀ _ : Nat → Value, F9.k4c Q s.1 s.2.1 s.2.2.1 s.2.2.2.1 w
def F9.k3c (Q : Value → World → Prop) (x0 : (Option Addr × Nat × Nat)) (x3 : (Nat × Nat)) (x5 : (Nat × Nat)) (x6 : Bool) (x21 : Bool) (w : World) : Prop :=
  vIf x21
  (ldA 38 w x5.1 x5.2 fun a12 =>
    ldA 39 w x3.1 x3.2 fun a13 =>
    Calls Try.prog 27 #[ofL a12, ofL a13] w fun e15 w14 =>
    ∃ a16 : List Value, e15 = .returned (ofL a16) ∧ (
      Calls Try.prog 23 #[Value.slice x0.1 x0.2.1 x0.2.2, ofL a16] w14 fun e18 w17 =>
      ∃ (A19 : Option Addr) (n20 c21 : Nat), e18 = .returned (Value.slice A19 n20 c21) ∧ (
        Q (Value.slice A19 n20 c21) w17)))
  (jnC (F9.k4 Q) ((x0.1, x0.2.1, x0.2.2), (x3.1, x3.2), (x5.1, x5.2), x6, ()) w)
def F9.k3 (Q : Value → World → Prop) : ((Option Addr × Nat × Nat) × (Nat × Nat) × (Nat × Nat) × Bool × Bool × Unit) → World → Prop := fun s w => ∀ _ : Nat → Value, F9.k3c Q s.1 s.2.1 s.2.2.1 s.2.2.2.1 s.2.2.2.2.1 w
def F9.vc (x0A : Option Addr) (x0n x0c : Nat) (x1 : List Value) (w : World) (Q : Value → World → Prop) : Prop :=
  nw w x1 33 fun b1 w2 =>
  ldA 32 w2 b1 (0 + 2) fun a3 =>
  Calls Try.prog 13 #[Value.slice x0A x0n x0c, ofL a3] w2 fun e5 w4 =>
  ∃ a6 : List Value, ∃ t7 : Bool, e5 = .returned (Value.tuple #[ofL a6, Value.bool t7]) ∧ (
    nw w4 Z42 42 fun b8 w9 =>
    gd (a6.length == 38) <|
    st w9 b8 0 a6 fun w10 =>
    ldI .i64 w10 b1 0 fun i11 =>
    vIf (i11 == 1)
    (jnC (F9.k3 Q) ((x0A, x0n, x0c), (b1, 0), (b8, 0), t7, true, ()) w10)
    (ldI .i64 w10 b1 0 fun i33 =>
      jnC (F9.k3 Q) ((x0A, x0n, x0c), (b1, 0), (b8, 0), t7, (i33 == 2), ()) w10))
def F9.an : Ann := ⟨[], [(3, [(0, .kSl), (3, .kL), (5, .kL), (6, .kB), (21, .kB)]), (4, [(0, .kSl), (3, .kL), (5, .kL), (6, .kB)]), (5, [(0, .kSl), (3, .kL), (5, .kL), (32, .kB)])]⟩
theorem F9.eq (x0A : Option Addr) (x0n x0c : Nat) (x1 : List Value) (w : World) (Q : Value → World → Prop) : vcFn Try.prog F9.an 9 [Value.slice x0A x0n x0c, ofL x1] w Q = F9.vc x0A x0n x0c x1 w Q := by kernel_rfl
theorem F9.of (x0A : Option Addr) (x0n x0c : Nat) (x1 : List Value) (w : World) {Q : Value → World → Prop} (h : F9.vc x0A x0n x0c x1 w Q) : Calls Try.prog 9 #[Value.slice x0A x0n x0c, ofL x1] w (fun e w' => ∃ v, e = .returned v ∧ Q v w') := vcFn_sound noCount mixed ((F9.eq x0A x0n x0c x1 w Q).symm ▸ h)
/-! ### function 10: (*stillage/index.Index).Keep -/
def F10.b2c (Q : Value → World → Prop) (C2 : (Option Addr × (Option Addr × Nat × Nat) × (Option Addr × Nat × Nat) × Int × Int × Unit) → World → Prop) (x0 : Option Addr) (x1 : (Option Addr × Nat × Nat)) (x11 : (Option Addr × Nat × Nat)) (x12 : Int) (x13 : Int) (w : World) : Prop :=
  vIf (decide (x13 < x12))
  (dr x11.1 fun b6 o7 =>
    gd (decide (0 ≤ x13)) <|
    gd (decide (x13 < ((x11.2.1 : Nat) : Int))) <|
    ldA 38 w b6 (o7 + (x13).toNat * 38) fun a8 =>
    nw w Z42 42 fun b9 w10 =>
    gd (a8.length == 38) <|
    st w10 b9 0 a8 fun w11 =>
    ldA 38 w11 b9 0 fun a12 =>
    Calls Try.prog 29 #[ofL a12, Value.slice x1.1 x1.2.1 x1.2.2] w11 fun e14 w13 =>
    ∃ a15 : List Value, ∃ t16 : Bool, e14 = .returned (Value.tuple #[ofL a15, Value.bool t16]) ∧ (
      nw w13 Z42 42 fun b17 w18 =>
      gd (a15.length == 38) <|
      st w18 b17 0 a15 fun w19 =>
      vIf t16
      (dr x0 fun b20 o21 =>
        ldP w19.drew b20 o21 fun p22 =>
        ldA 32 w19.drew b9 0 fun a23 =>
        ldA 38 w19.drew b17 0 fun a24 =>
        Calls Try.prog 21 #[Value.pointer p22, ofL a23, ofL a24] w19.drew fun e26 w25 =>
        e26 = .returned (Value.tuple #[]) ∧ (
          jnC C2 (x0, (x1.1, x1.2.1, x1.2.2), (x11.1, x11.2.1, x11.2.2), (x12), ((IntKind.wrap .i64 (x13 + 1))), ()) w25))
      (dr x0 fun b27 o28 =>
        ldP w19.drew b27 o28 fun p29 =>
        ldA 32 w19.drew b9 0 fun a30 =>
        Calls Try.prog 30 #[Value.pointer p29, ofL a30] w19.drew fun e32 w31 =>
        ∃ t33 : Bool, e32 = .returned (Value.bool t33) ∧ (
          jnC C2 (x0, (x1.1, x1.2.1, x1.2.2), (x11.1, x11.2.1, x11.2.2), (x12), ((IntKind.wrap .i64 (x13 + 1))), ()) w31))))
  (Q (Value.tuple #[]) w)
def F10.b2 (Q : Value → World → Prop) : (Option Addr × (Option Addr × Nat × Nat) × (Option Addr × Nat × Nat) × Int × Int × Unit) → World → ((Option Addr × (Option Addr × Nat × Nat) × (Option Addr × Nat × Nat) × Int × Int × Unit) → World → Prop) → Prop := fun s w C2 => ∀ _ : Nat → Value, F10.b2c Q C2 s.1 s.2.1 s.2.2.1 s.2.2.2.1 s.2.2.2.2.1 w
def F10.l2 (Q : Value → World → Prop) : (Option Addr × (Option Addr × Nat × Nat) × (Option Addr × Nat × Nat) × Int × Int × Unit) → World → Prop := fun s w => ∃ n, loopC (F10.b2 Q) n s w
def F10.vc (x0 : Option Addr) (x1A : Option Addr) (x1n x1c : Nat) (w : World) (Q : Value → World → Prop) : Prop :=
  vIf x0.isNone
  (Q (Value.tuple #[]) w)
  (Calls Try.prog 18 #[Value.pointer x0] w fun e2 w1 =>
    ∃ (A3 : Option Addr) (n4 c5 : Nat), e2 = .returned (Value.slice A3 n4 c5) ∧ (
      jnC (F10.l2 Q) (x0, (x1A, x1n, x1c), (A3, n4, c5), (((n4 : Nat) : Int)), (0), ()) w1))
def F10.an : Ann := ⟨[(2, [(0, .kP), (1, .kSl), (11, .kSl), (12, .kI .i64), (13, .kI .i64)])], []⟩
theorem F10.eq (x0 : Option Addr) (x1A : Option Addr) (x1n x1c : Nat) (w : World) (Q : Value → World → Prop) : vcFn Try.prog F10.an 10 [Value.pointer x0, Value.slice x1A x1n x1c] w Q = F10.vc x0 x1A x1n x1c w Q := by kernel_rfl
theorem F10.of (x0 : Option Addr) (x1A : Option Addr) (x1n x1c : Nat) (w : World) {Q : Value → World → Prop} (h : F10.vc x0 x1A x1n x1c w Q) : Calls Try.prog 10 #[Value.pointer x0, Value.slice x1A x1n x1c] w (fun e w' => ∃ v, e = .returned v ∧ Q v w') := vcFn_sound noCount mixed ((F10.eq x0 x1A x1n x1c w Q).symm ▸ h)
/-! ### function 11: stillage/stillageref20.Keep -/
def F11.b3c (Q : Value → World → Prop) (C3 : ((Option Addr × Nat × Nat) × (Option Addr × Nat × Nat) × (Option Addr × Nat × Nat) × Int × Unit) → World → Prop) (x0 : (Option Addr × Nat × Nat)) (x1 : (Option Addr × Nat × Nat)) (x5 : (Option Addr × Nat × Nat)) (x6 : Int) (w : World) : Prop :=
  vIf (decide (x6 < ((x0.2.1 : Nat) : Int)))
  (dr x0.1 fun b1 o2 =>
    gd (decide (0 ≤ x6)) <|
    gd (decide (x6 < ((x0.2.1 : Nat) : Int))) <|
    ldA 38 w b1 (o2 + (x6).toNat * 38) fun a3 =>
    Calls Try.prog 31 #[ofL a3, Value.slice x1.1 x1.2.1 x1.2.2] w fun e5 w4 =>
    ∃ a6 : List Value, ∃ t7 : Bool, e5 = .returned (Value.tuple #[ofL a6, Value.bool t7]) ∧ (
      nw w4 Z42 42 fun b8 w9 =>
      gd (a6.length == 38) <|
      st w9 b8 0 a6 fun w10 =>
      vIf t7
      (ldA 38 w10 b8 0 fun a11 =>
        gd (a11.length == 38) <|
        nw w10 (a11 ++ []) 42 fun b12 w13 =>
        app w13 38 96 Z42 42 x5.1 x5.2.1 x5.2.2 (Value.slice (some ⟨b12, 0, none⟩) 1 1) fun A14 n15 c16 w17 =>
        jnC C3 ((x0.1, x0.2.1, x0.2.2), (x1.1, x1.2.1, x1.2.2), (A14, n15, c16), ((IntKind.wrap .i64 (x6 + 1))), ()) w17)
      (jnC C3 ((x0.1, x0.2.1, x0.2.2), (x1.1, x1.2.1, x1.2.2), (x5.1, x5.2.1, x5.2.2), ((IntKind.wrap .i64 (x6 + 1))), ()) w10)))
  (Q (Value.slice x5.1 x5.2.1 x5.2.2) w)
def F11.b3 (Q : Value → World → Prop) : ((Option Addr × Nat × Nat) × (Option Addr × Nat × Nat) × (Option Addr × Nat × Nat) × Int × Unit) → World → (((Option Addr × Nat × Nat) × (Option Addr × Nat × Nat) × (Option Addr × Nat × Nat) × Int × Unit) → World → Prop) → Prop := fun s w C3 => ∀ _ : Nat → Value, F11.b3c Q C3 s.1 s.2.1 s.2.2.1 s.2.2.2.1 w
def F11.l3 (Q : Value → World → Prop) : ((Option Addr × Nat × Nat) × (Option Addr × Nat × Nat) × (Option Addr × Nat × Nat) × Int × Unit) → World → Prop := fun s w => ∃ n, loopC (F11.b3 Q) n s w
def F11.vc (x0A : Option Addr) (x0n x0c : Nat) (x1A : Option Addr) (x1n x1c : Nat) (w : World) (Q : Value → World → Prop) : Prop :=
  jnC (F11.l3 Q) ((x0A, x0n, x0c), (x1A, x1n, x1c), (none, 0, 0), (0), ()) w
def F11.an : Ann := ⟨[(3, [(0, .kSl), (1, .kSl), (5, .kSl), (6, .kI .i64)])], []⟩
theorem F11.eq (x0A : Option Addr) (x0n x0c : Nat) (x1A : Option Addr) (x1n x1c : Nat) (w : World) (Q : Value → World → Prop) : vcFn Try.prog F11.an 11 [Value.slice x0A x0n x0c, Value.slice x1A x1n x1c] w Q = F11.vc x0A x0n x0c x1A x1n x1c w Q := by kernel_rfl
theorem F11.of (x0A : Option Addr) (x0n x0c : Nat) (x1A : Option Addr) (x1n x1c : Nat) (w : World) {Q : Value → World → Prop} (h : F11.vc x0A x0n x0c x1A x1n x1c w Q) : Calls Try.prog 11 #[Value.slice x0A x0n x0c, Value.slice x1A x1n x1c] w (fun e w' => ∃ v, e = .returned v ∧ Q v w') := vcFn_sound noCount mixed ((F11.eq x0A x0n x0c x1A x1n x1c w Q).symm ▸ h)
/-! ### function 12: (*stillage/index.Index).Get -/
def F12.vc (x0 : Option Addr) (x1 : List Value) (w : World) (Q : Value → World → Prop) : Prop :=
  nw w x1 29 fun b1 w2 =>
  nw w2 Z42 42 fun b3 w4 =>
  vIf x0.isNone
  (gd (([Value.int .u8 0, Value.int .u8 0, Value.int .u8 0, Value.int .u8 0, Value.int .u8 0, Value.int .u8 0, Value.int .u8 0, Value.int .u8 0, Value.int .u8 0, Value.int .u8 0, Value.int .u8 0, Value.int .u8 0, Value.int .u8 0, Value.int .u8 0, Value.int .u8 0, Value.int .u8 0, Value.int .u8 0, Value.int .u8 0, Value.int .u8 0, Value.int .u8 0, Value.int .u8 0, Value.int .u8 0, Value.int .u8 0, Value.int .u8 0, Value.int .u8 0, Value.int .u8 0, Value.int .u8 0, Value.int .u8 0, Value.int .u8 0, Value.int .u8 0, Value.int .u8 0, Value.int .u8 0] ++ ([Value.int .i64 0] ++ ([Value.int .i64 0] ++ ([Value.int .i64 0, Value.int .i64 0, Value.int .i64 0] ++ ([Value.slice none 0 0] ++ []))))).length == 38) <|
    st w4 b3 0 ([Value.int .u8 0, Value.int .u8 0, Value.int .u8 0, Value.int .u8 0, Value.int .u8 0, Value.int .u8 0, Value.int .u8 0, Value.int .u8 0, Value.int .u8 0, Value.int .u8 0, Value.int .u8 0, Value.int .u8 0, Value.int .u8 0, Value.int .u8 0, Value.int .u8 0, Value.int .u8 0, Value.int .u8 0, Value.int .u8 0, Value.int .u8 0, Value.int .u8 0, Value.int .u8 0, Value.int .u8 0, Value.int .u8 0, Value.int .u8 0, Value.int .u8 0, Value.int .u8 0, Value.int .u8 0, Value.int .u8 0, Value.int .u8 0, Value.int .u8 0, Value.int .u8 0, Value.int .u8 0] ++ ([Value.int .i64 0] ++ ([Value.int .i64 0] ++ ([Value.int .i64 0, Value.int .i64 0, Value.int .i64 0] ++ ([Value.slice none 0 0] ++ []))))) fun w5 =>
    ldA 38 w5 b3 0 fun a6 =>
    Q (Value.tuple #[ofL a6, Value.bool false]) w5)
  (dr x0 fun b7 o8 =>
    ldP w4.drew b7 o8 fun p9 =>
    ldA 32 w4.drew b1 0 fun a10 =>
    (Calls Try.prog 24 #[Value.pointer p9, ofL a10] w4.drew fun e12 w11 =>
      ∃ a13 : List Value, ∃ t14 : Bool, e12 = .returned (Value.tuple #[ofL a13, Value.bool t14]) ∧ (
        nw w11 Z42 42 fun b15 w16 =>
        kp w4.drew b1 0 32 w16 <|
        kp w4.drew b7 o8 1 w16 <|
        gd (a13.length == 38) <|
        st w16 b15 0 a13 fun w17 =>
        ldA 38 w17 b15 0 fun a18 =>
        Calls Try.prog 22 #[ofL a18] w17 fun e20 w19 =>
        ∃ a21 : List Value, e20 = .returned (ofL a21) ∧ (
          gd (a21.length == 38) <|
          st w19 b3 0 a21 fun w22 =>
          ldA 38 w22 b3 0 fun a23 =>
          Q (Value.tuple #[ofL a23, Value.bool t14]) w22))) ∧
    (nw w4.drew Z42 42 fun b24 w25 =>
      kp w4.drew b1 0 32 w25 <|
      kp w4.drew b7 o8 1 w25 <|
      Calls Try.prog 24 #[Value.pointer p9, ofL a10] w25 fun e27 w26 =>
      ∃ a28 : List Value, ∃ t29 : Bool, e27 = .returned (Value.tuple #[ofL a28, Value.bool t29]) ∧ (
        gd (a28.length == 38) <|
        st w26 b24 0 a28 fun w30 =>
        ldA 38 w30 b24 0 fun a31 =>
        Calls Try.prog 22 #[ofL a31] w30 fun e33 w32 =>
        ∃ a34 : List Value, e33 = .returned (ofL a34) ∧ (
          gd (a34.length == 38) <|
          st w32 b3 0 a34 fun w35 =>
          ldA 38 w35 b3 0 fun a36 =>
          Q (Value.tuple #[ofL a36, Value.bool t29]) w35))))
def F12.an : Ann := ⟨[], []⟩
theorem F12.eq (x0 : Option Addr) (x1 : List Value) (w : World) (Q : Value → World → Prop) : vcFn Try.prog F12.an 12 [Value.pointer x0, ofL x1] w Q = F12.vc x0 x1 w Q := by kernel_rfl
theorem F12.of (x0 : Option Addr) (x1 : List Value) (w : World) {Q : Value → World → Prop} (h : F12.vc x0 x1 w Q) : Calls Try.prog 12 #[Value.pointer x0, ofL x1] w (fun e w' => ∃ v, e = .returned v ∧ Q v w') := vcFn_sound noCount mixed ((F12.eq x0 x1 w Q).symm ▸ h)
/-! ### function 13: stillage/stillageref20.Get -/
def F13.b2c (Q : Value → World → Prop) (C2 : ((Option Addr × Nat × Nat) × (Nat × Nat) × (Nat × Nat) × Int × Unit) → World → Prop) (x0 : (Option Addr × Nat × Nat)) (x3 : (Nat × Nat)) (x4 : (Nat × Nat)) (x6 : Int) (w : World) : Prop :=
  vIf (decide (x6 < ((x0.2.1 : Nat) : Int)))
  (dr x0.1 fun b5 o6 =>
    gd (decide (0 ≤ x6)) <|
    gd (decide (x6 < ((x0.2.1 : Nat) : Int))) <|
    ldA 32 w.drew b5 (o6 + (x6).toNat * 38) fun a7 =>
    ldA 32 w.drew x3.1 x3.2 fun a8 =>
    eqAB 32 a7 a8 fun t9 =>
    vIf t9
    (dr x0.1 fun b10 o11 =>
      gd (decide (0 ≤ x6)) <|
      gd (decide (x6 < ((x0.2.1 : Nat) : Int))) <|
      ldA 38 w.drew b10 (o11 + (x6).toNat * 38) fun a12 =>
      gd (a12.length == 38) <|
      st w.drew x4.1 x4.2 a12 fun w13 =>
      ldA 38 w13 x4.1 x4.2 fun a14 =>
      Q (Value.tuple #[ofL a14, Value.bool true]) w13)
    (jnC C2 ((x0.1, x0.2.1, x0.2.2), (x3.1, x3.2), (x4.1, x4.2), ((IntKind.wrap .i64 (x6 + 1))), ()) w.drew))
  (gd (([Value.int .u8 0, Value.int .u8 0, Value.int .u8 0, Value.int .u8 0, Value.int .u8 0, Value.int .u8 0, Value.int .u8 0, Value.int .u8 0, Value.int .u8 0, Value.int .u8 0, Value.int .u8 0, Value.int .u8 0, Value.int .u8 0, Value.int .u8 0, Value.int .u8 0, Value.int .u8 0, Value.int .u8 0, Value.int .u8 0, Value.int .u8 0, Value.int .u8 0, Value.int .u8 0, Value.int .u8 0, Value.int .u8 0, Value.int .u8 0, Value.int .u8 0, Value.int .u8 0, Value.int .u8 0, Value.int .u8 0, Value.int .u8 0, Value.int .u8 0, Value.int .u8 0, Value.int .u8 0] ++ ([Value.int .i64 0] ++ ([Value.int .i64 0] ++ ([Value.int .i64 0, Value.int .i64 0, Value.int .i64 0] ++ ([Value.slice none 0 0] ++ []))))).length == 38) <|
    st w x4.1 x4.2 ([Value.int .u8 0, Value.int .u8 0, Value.int .u8 0, Value.int .u8 0, Value.int .u8 0, Value.int .u8 0, Value.int .u8 0, Value.int .u8 0, Value.int .u8 0, Value.int .u8 0, Value.int .u8 0, Value.int .u8 0, Value.int .u8 0, Value.int .u8 0, Value.int .u8 0, Value.int .u8 0, Value.int .u8 0, Value.int .u8 0, Value.int .u8 0, Value.int .u8 0, Value.int .u8 0, Value.int .u8 0, Value.int .u8 0, Value.int .u8 0, Value.int .u8 0, Value.int .u8 0, Value.int .u8 0, Value.int .u8 0, Value.int .u8 0, Value.int .u8 0, Value.int .u8 0, Value.int .u8 0] ++ ([Value.int .i64 0] ++ ([Value.int .i64 0] ++ ([Value.int .i64 0, Value.int .i64 0, Value.int .i64 0] ++ ([Value.slice none 0 0] ++ []))))) fun w15 =>
    ldA 38 w15 x4.1 x4.2 fun a16 =>
    Q (Value.tuple #[ofL a16, Value.bool false]) w15)
def F13.b2 (Q : Value → World → Prop) : ((Option Addr × Nat × Nat) × (Nat × Nat) × (Nat × Nat) × Int × Unit) → World → (((Option Addr × Nat × Nat) × (Nat × Nat) × (Nat × Nat) × Int × Unit) → World → Prop) → Prop := fun s w C2 => ∀ _ : Nat → Value, F13.b2c Q C2 s.1 s.2.1 s.2.2.1 s.2.2.2.1 w
def F13.l2 (Q : Value → World → Prop) : ((Option Addr × Nat × Nat) × (Nat × Nat) × (Nat × Nat) × Int × Unit) → World → Prop := fun s w => ∃ n, loopC (F13.b2 Q) n s w
def F13.vc (x0A : Option Addr) (x0n x0c : Nat) (x1 : List Value) (w : World) (Q : Value → World → Prop) : Prop :=
  nw w x1 29 fun b1 w2 =>
  nw w2 Z42 42 fun b3 w4 =>
  jnC (F13.l2 Q) ((x0A, x0n, x0c), (b1, 0), (b3, 0), (0), ()) w4
def F13.an : Ann := ⟨[(2, [(0, .kSl), (3, .kL), (4, .kL), (6, .kI .i64)])], []⟩
theorem F13.eq (x0A : Option Addr) (x0n x0c : Nat) (x1 : List Value) (w : World) (Q : Value → World → Prop) : vcFn Try.prog F13.an 13 [Value.slice x0A x0n x0c, ofL x1] w Q = F13.vc x0A x0n x0c x1 w Q := by kernel_rfl
theorem F13.of (x0A : Option Addr) (x0n x0c : Nat) (x1 : List Value) (w : World) {Q : Value → World → Prop} (h : F13.vc x0A x0n x0c x1 w Q) : Calls Try.prog 13 #[Value.slice x0A x0n x0c, ofL x1] w (fun e w' => ∃ v, e = .returned v ∧ Q v w') := vcFn_sound noCount mixed ((F13.eq x0A x0n x0c x1 w Q).symm ▸ h)
/-! ### function 14: (*stillage/index.Index).Count -/
def F14.b3c (Q : Value → World → Prop) (C3 : (Int × Int × (Option Addr × Nat × Nat) × Int × Int × Unit) → World → Prop) (x4 : Int) (x5 : Int) (x9 : (Option Addr × Nat × Nat)) (x10 : Int) (x11 : Int) (w : World) : Prop :=
  vIf (decide (x11 < x10))
  (dr x9.1 fun b6 o7 =>
    gd (decide (0 ≤ x11)) <|
    gd (decide (x11 < ((x9.2.1 : Nat) : Int))) <|
    ldA 38 w b6 (o7 + (x11).toNat * 38) fun a8 =>
    nw w Z42 42 fun b9 w10 =>
    gd (a8.length == 38) <|
    st w10 b9 0 a8 fun w11 =>
    ldI .i64 w11 b9 (0 + 32) fun i12 =>
    vIf (i12 != 5)
    (ldI .i64 w11 b9 (0 + 33) fun i13 =>
      jnC C3 (((IntKind.wrap .i64 (x4 + 1))), ((IntKind.wrap .i64 (x5 + i13))), (x9.1, x9.2.1, x9.2.2), (x10), ((IntKind.wrap .i64 (x11 + 1))), ()) w11)
    (jnC C3 ((x4), (x5), (x9.1, x9.2.1, x9.2.2), (x10), ((IntKind.wrap .i64 (x11 + 1))), ()) w11))
  (Q (Value.tuple #[Value.int .i64 x4, Value.int .i64 x5]) w)
def F14.b3 (Q : Value → World → Prop) : (Int × Int × (Option Addr × Nat × Nat) × Int × Int × Unit) → World → ((Int × Int × (Option Addr × Nat × Nat) × Int × Int × Unit) → World → Prop) → Prop := fun s w C3 => ∀ _ : Nat → Value, F14.b3c Q C3 s.1 s.2.1 s.2.2.1 s.2.2.2.1 s.2.2.2.2.1 w
def F14.l3 (Q : Value → World → Prop) : (Int × Int × (Option Addr × Nat × Nat) × Int × Int × Unit) → World → Prop := fun s w => ∃ n, loopC (F14.b3 Q) n s w
def F14.vc (x0 : Option Addr) (w : World) (Q : Value → World → Prop) : Prop :=
  Calls Try.prog 18 #[Value.pointer x0] w fun e2 w1 =>
  ∃ (A3 : Option Addr) (n4 c5 : Nat), e2 = .returned (Value.slice A3 n4 c5) ∧ (
    jnC (F14.l3 Q) ((0), (0), (A3, n4, c5), (((n4 : Nat) : Int)), (0), ()) w1)
def F14.an : Ann := ⟨[(3, [(4, .kI .i64), (5, .kI .i64), (9, .kSl), (10, .kI .i64), (11, .kI .i64)])], []⟩
theorem F14.eq (x0 : Option Addr) (w : World) (Q : Value → World → Prop) : vcFn Try.prog F14.an 14 [Value.pointer x0] w Q = F14.vc x0 w Q := by kernel_rfl
theorem F14.of (x0 : Option Addr) (w : World) {Q : Value → World → Prop} (h : F14.vc x0 w Q) : Calls Try.prog 14 #[Value.pointer x0] w (fun e w' => ∃ v, e = .returned v ∧ Q v w') := vcFn_sound noCount mixed ((F14.eq x0 w Q).symm ▸ h)
/-! ### function 15: stillage/stillageref20.Count -/
def F15.b3c (Q : Value → World → Prop) (C3 : ((Option Addr × Nat × Nat) × Int × Int × Int × Unit) → World → Prop) (x0 : (Option Addr × Nat × Nat)) (x4 : Int) (x5 : Int) (x6 : Int) (w : World) : Prop :=
  vIf (decide (x6 < ((x0.2.1 : Nat) : Int)))
  (dr x0.1 fun b1 o2 =>
    gd (decide (0 ≤ x6)) <|
    gd (decide (x6 < ((x0.2.1 : Nat) : Int))) <|
    ldI .i64 w b1 ((o2 + (x6).toNat * 38) + 32) fun i3 =>
    vIf (i3 != 5)
    (dr x0.1 fun b4 o5 =>
      gd (decide (0 ≤ x6)) <|
      gd (decide (x6 < ((x0.2.1 : Nat) : Int))) <|
      ldI .i64 w b4 ((o5 + (x6).toNat * 38) + 33) fun i6 =>
      jnC C3 ((x0.1, x0.2.1, x0.2.2), ((IntKind.wrap .i64 (x4 + 1))), ((IntKind.wrap .i64 (x5 + i6))), ((IntKind.wrap .i64 (x6 + 1))), ()) w)
    (jnC C3 ((x0.1, x0.2.1, x0.2.2), (x4), (x5), ((IntKind.wrap .i64 (x6 + 1))), ()) w))
  (Q (Value.tuple #[Value.int .i64 x4, Value.int .i64 x5]) w)
def F15.b3 (Q : Value → World → Prop) : ((Option Addr × Nat × Nat) × Int × Int × Int × Unit) → World → (((Option Addr × Nat × Nat) × Int × Int × Int × Unit) → World → Prop) → Prop := fun s w C3 => ∀ _ : Nat → Value, F15.b3c Q C3 s.1 s.2.1 s.2.2.1 s.2.2.2.1 w
def F15.l3 (Q : Value → World → Prop) : ((Option Addr × Nat × Nat) × Int × Int × Int × Unit) → World → Prop := fun s w => ∃ n, loopC (F15.b3 Q) n s w
def F15.vc (x0A : Option Addr) (x0n x0c : Nat) (w : World) (Q : Value → World → Prop) : Prop :=
  jnC (F15.l3 Q) ((x0A, x0n, x0c), (0), (0), (0), ()) w
def F15.an : Ann := ⟨[(3, [(0, .kSl), (4, .kI .i64), (5, .kI .i64), (6, .kI .i64)])], []⟩
theorem F15.eq (x0A : Option Addr) (x0n x0c : Nat) (w : World) (Q : Value → World → Prop) : vcFn Try.prog F15.an 15 [Value.slice x0A x0n x0c] w Q = F15.vc x0A x0n x0c w Q := by kernel_rfl
theorem F15.of (x0A : Option Addr) (x0n x0c : Nat) (w : World) {Q : Value → World → Prop} (h : F15.vc x0A x0n x0c w Q) : Calls Try.prog 15 #[Value.slice x0A x0n x0c] w (fun e w' => ∃ v, e = .returned v ∧ Q v w') := vcFn_sound noCount mixed ((F15.eq x0A x0n x0c w Q).symm ▸ h)
/-! ### function 16: stillage/stillageref19.Same -/
def F16.vc (x0 : List Value) (x1 : List Value) (w : World) (Q : Value → World → Prop) : Prop :=
  nw w x0 42 fun b1 w2 =>
  nw w2 x1 42 fun b3 w4 =>
  ldA 32 w4 b1 0 fun a5 =>
  ldA 32 w4 b3 0 fun a6 =>
  eqAB 32 a5 a6 fun t7 =>
  vIf t7
  (ldI .i64 w4 b1 (0 + 32) fun i8 =>
    ldI .i64 w4 b3 (0 + 32) fun i9 =>
    vIf (i8 == i9)
    (ldI .i64 w4 b1 (0 + 33) fun i10 =>
      ldI .i64 w4 b3 (0 + 33) fun i11 =>
      vIf (i10 == i11)
      (ldA 3 w4 b1 (0 + 34) fun a12 =>
        ldA 3 w4 b3 (0 + 34) fun a13 =>
        eqI64 3 a12 a13 fun t14 =>
        vIf t14
        (ldSl w4 b1 (0 + 37) fun A15 n16 c17 =>
          ldSl w4 b3 (0 + 37) fun A18 n19 c20 =>
          Calls Try.prog 32 #[Value.slice A15 n16 c17, Value.slice A18 n19 c20] w4 fun e22 w21 =>
          ∃ t23 : Bool, e22 = .returned (Value.bool t23) ∧ (
            Q (Value.bool t23) w21))
        (Q (Value.bool false) w4))
      (Q (Value.bool false) w4))
    (Q (Value.bool false) w4))
  (Q (Value.bool false) w4)
def F16.an : Ann := ⟨[], []⟩
theorem F16.eq (x0 : List Value) (x1 : List Value) (w : World) (Q : Value → World → Prop) : vcFn Try.prog F16.an 16 [ofL x0, ofL x1] w Q = F16.vc x0 x1 w Q := by kernel_rfl
theorem F16.of (x0 : List Value) (x1 : List Value) (w : World) {Q : Value → World → Prop} (h : F16.vc x0 x1 w Q) : Calls Try.prog 16 #[ofL x0, ofL x1] w (fun e w' => ∃ v, e = .returned v ∧ Q v w') := vcFn_sound noCount mixed ((F16.eq x0 x1 w Q).symm ▸ h)
/-! ### function 17: stillage/stillageref20.Same -/
def F17.b4c (Q : Value → World → Prop) (C4 : ((Option Addr × Nat × Nat) × (Option Addr × Nat × Nat) × Int × Unit) → World → Prop) (x0 : (Option Addr × Nat × Nat)) (x1 : (Option Addr × Nat × Nat)) (x5 : Int) (w : World) : Prop :=
  vIf (decide (x5 < ((x0.2.1 : Nat) : Int)))
  (dr x0.1 fun b1 o2 =>
    gd (decide (0 ≤ x5)) <|
    gd (decide (x5 < ((x0.2.1 : Nat) : Int))) <|
    ldA 38 w.drew b1 (o2 + (x5).toNat * 38) fun a3 =>
    dr x1.1 fun b4 o5 =>
    gd (decide (0 ≤ x5)) <|
    gd (decide (x5 < ((x1.2.1 : Nat) : Int))) <|
    ldA 38 w.drew b4 (o5 + (x5).toNat * 38) fun a6 =>
    Calls Try.prog 16 #[ofL a3, ofL a6] w.drew fun e8 w7 =>
    ∃ t9 : Bool, e8 = .returned (Value.bool t9) ∧ (
      vIf (!t9)
      (Q (Value.bool false) w7)
      (jnC C4 ((x0.1, x0.2.1, x0.2.2), (x1.1, x1.2.1, x1.2.2), ((IntKind.wrap .i64 (x5 + 1))), ()) w7)))
  (Q (Value.bool true) w)
def F17.b4 (Q : Value → World → Prop) : ((Option Addr × Nat × Nat) × (Option Addr × Nat × Nat) × Int × Unit) → World → (((Option Addr × Nat × Nat) × (Option Addr × Nat × Nat) × Int × Unit) → World → Prop) → Prop := fun s w C4 => ∀ _ : Nat → Value, F17.b4c Q C4 s.1 s.2.1 s.2.2.1 w
def F17.l4 (Q : Value → World → Prop) : ((Option Addr × Nat × Nat) × (Option Addr × Nat × Nat) × Int × Unit) → World → Prop := fun s w => ∃ n, loopC (F17.b4 Q) n s w
def F17.vc (x0A : Option Addr) (x0n x0c : Nat) (x1A : Option Addr) (x1n x1c : Nat) (w : World) (Q : Value → World → Prop) : Prop :=
  vIf (((x0n : Nat) : Int) != ((x1n : Nat) : Int))
  (Q (Value.bool false) w)
  (jnC (F17.l4 Q) ((x0A, x0n, x0c), (x1A, x1n, x1c), (0), ()) w)
def F17.an : Ann := ⟨[(4, [(0, .kSl), (1, .kSl), (5, .kI .i64)])], []⟩
theorem F17.eq (x0A : Option Addr) (x0n x0c : Nat) (x1A : Option Addr) (x1n x1c : Nat) (w : World) (Q : Value → World → Prop) : vcFn Try.prog F17.an 17 [Value.slice x0A x0n x0c, Value.slice x1A x1n x1c] w Q = F17.vc x0A x0n x0c x1A x1n x1c w Q := by kernel_rfl
theorem F17.of (x0A : Option Addr) (x0n x0c : Nat) (x1A : Option Addr) (x1n x1c : Nat) (w : World) {Q : Value → World → Prop} (h : F17.vc x0A x0n x0c x1A x1n x1c w Q) : Calls Try.prog 17 #[Value.slice x0A x0n x0c, Value.slice x1A x1n x1c] w (fun e w' => ∃ v, e = .returned v ∧ Q v w') := vcFn_sound noCount mixed ((F17.eq x0A x0n x0c x1A x1n x1c w Q).symm ▸ h)
/-! ### function 18: (*stillage/index.Index).Row -/
def F18.b6c (Q : Value → World → Prop) (C6 : (Option Addr × Unit × (Option Addr × Nat × Nat) × (Option Addr × Nat × Nat) × Int × Int × Unit) → World → Prop) (x0 : Option Addr) (x3 : Unit) (x4 : (Option Addr × Nat × Nat)) (x15 : (Option Addr × Nat × Nat)) (x16 : Int) (x17 : Int) (w : World) : Prop :=
  vIf (decide (x17 < x16))
  (dr x15.1 fun b9 o10 =>
    gd (decide (0 ≤ x17)) <|
    gd (decide (x17 < ((x15.2.1 : Nat) : Int))) <|
    ldA 32 w b9 (o10 + (x17).toNat * 32) fun a11 =>
    nw w Z29 29 fun b12 w13 =>
    gd (a11.length == 32) <|
    st w13 b12 0 a11 fun w14 =>
    ldA 32 w14 b12 0 fun a15 =>
    Calls Try.prog 12 #[Value.pointer x0, ofL a15] w14 fun e17 w16 =>
    ∃ a18 : List Value, ∃ t19 : Bool, e17 = .returned (Value.tuple #[ofL a18, Value.bool t19]) ∧ (
      nw w16 Z42 42 fun b20 w21 =>
      gd (a18.length == 38) <|
      st w21 b20 0 a18 fun w22 =>
      ldA 38 w22 b20 0 fun a23 =>
      gd (a23.length == 38) <|
      nw w22 (a23 ++ []) 42 fun b24 w25 =>
      app w25 38 96 Z42 42 x4.1 x4.2.1 x4.2.2 (Value.slice (some ⟨b24, 0, none⟩) 1 1) fun A26 n27 c28 w29 =>
      jnC C6 (x0, (), (A26, n27, c28), (x15.1, x15.2.1, x15.2.2), (x16), ((IntKind.wrap .i64 (x17 + 1))), ()) w29))
  (Q (Value.slice x4.1 x4.2.1 x4.2.2) w)
def F18.b6 (Q : Value → World → Prop) : (Option Addr × Unit × (Option Addr × Nat × Nat) × (Option Addr × Nat × Nat) × Int × Int × Unit) → World → ((Option Addr × Unit × (Option Addr × Nat × Nat) × (Option Addr × Nat × Nat) × Int × Int × Unit) → World → Prop) → Prop := fun s w C6 => ∀ _ : Nat → Value, F18.b6c Q C6 s.1 s.2.1 s.2.2.1 s.2.2.2.1 s.2.2.2.2.1 s.2.2.2.2.2.1 w
def F18.l6 (Q : Value → World → Prop) : (Option Addr × Unit × (Option Addr × Nat × Nat) × (Option Addr × Nat × Nat) × Int × Int × Unit) → World → Prop := fun s w => ∃ n, loopC (F18.b6 Q) n s w
def F18.vc (x0 : Option Addr) (w : World) (Q : Value → World → Prop) : Prop :=
  vIf x0.isNone
  (Q (Value.slice none 0 0) w)
  (dr x0 fun b1 o2 =>
    ldP w b1 o2 fun p3 =>
    Calls Try.prog 33 #[Value.pointer p3] w fun e5 w4 =>
    ∃ (A6 : Option Addr) (n7 c8 : Nat), e5 = .returned (Value.slice A6 n7 c8) ∧ (
      jnC (F18.l6 Q) (x0, (), (none, 0, 0), (A6, n7, c8), (((n7 : Nat) : Int)), (0), ()) w4))
def F18.an : Ann := ⟨[(6, [(0, .kP), (3, .kF 12), (4, .kSl), (15, .kSl), (16, .kI .i64), (17, .kI .i64)])], []⟩
theorem F18.eq (x0 : Option Addr) (w : World) (Q : Value → World → Prop) : vcFn Try.prog F18.an 18 [Value.pointer x0] w Q = F18.vc x0 w Q := by kernel_rfl
theorem F18.of (x0 : Option Addr) (w : World) {Q : Value → World → Prop} (h : F18.vc x0 w Q) : Calls Try.prog 18 #[Value.pointer x0] w (fun e w' => ∃ v, e = .returned v ∧ Q v w') := vcFn_sound noCount mixed ((F18.eq x0 w Q).symm ▸ h)
/-! ### function 19: stillage/stillagelaw20.lives -/
def F19.vc  (w : World) (Q : Value → World → Prop) : Prop :=
  Calls Try.prog 6 #[Value.slice none 0 0] w fun e2 w1 =>
  ∃ p3 : Option Addr, e2 = .returned (Value.pointer p3) ∧ (
    gd (([Value.int .u8 1] ++ ([Value.int .u8 0] ++ ([Value.int .u8 0] ++ ([Value.int .u8 0] ++ ([Value.int .u8 0] ++ ([Value.int .u8 0] ++ ([Value.int .u8 0] ++ ([Value.int .u8 0] ++ ([Value.int .u8 0] ++ ([Value.int .u8 0] ++ ([Value.int .u8 0] ++ ([Value.int .u8 0] ++ ([Value.int .u8 0] ++ ([Value.int .u8 0] ++ ([Value.int .u8 0] ++ ([Value.int .u8 0] ++ ([Value.int .u8 0] ++ ([Value.int .u8 0] ++ ([Value.int .u8 0] ++ ([Value.int .u8 0] ++ ([Value.int .u8 0] ++ ([Value.int .u8 0] ++ ([Value.int .u8 0] ++ ([Value.int .u8 0] ++ ([Value.int .u8 0] ++ ([Value.int .u8 0] ++ ([Value.int .u8 0] ++ ([Value.int .u8 0] ++ ([Value.int .u8 0] ++ ([Value.int .u8 0] ++ ([Value.int .u8 0] ++ ([Value.int .u8 0] ++ [])))))))))))))))))))))))))))))))).length == 32) <|
    gd (([Value.int .i64 1] ++ ([Value.int .i64 0] ++ ([Value.int .i64 0] ++ []))).length == 3) <|
    nw w1 Z33 33 fun b4 w5 =>
    gd (([Value.int .i64 1] ++ ([Value.int .u64 0] ++ (([Value.int .u8 1] ++ ([Value.int .u8 0] ++ ([Value.int .u8 0] ++ ([Value.int .u8 0] ++ ([Value.int .u8 0] ++ ([Value.int .u8 0] ++ ([Value.int .u8 0] ++ ([Value.int .u8 0] ++ ([Value.int .u8 0] ++ ([Value.int .u8 0] ++ ([Value.int .u8 0] ++ ([Value.int .u8 0] ++ ([Value.int .u8 0] ++ ([Value.int .u8 0] ++ ([Value.int .u8 0] ++ ([Value.int .u8 0] ++ ([Value.int .u8 0] ++ ([Value.int .u8 0] ++ ([Value.int .u8 0] ++ ([Value.int .u8 0] ++ ([Value.int .u8 0] ++ ([Value.int .u8 0] ++ ([Value.int .u8 0] ++ ([Value.int .u8 0] ++ ([Value.int .u8 0] ++ ([Value.int .u8 0] ++ ([Value.int .u8 0] ++ ([Value.int .u8 0] ++ ([Value.int .u8 0] ++ ([Value.int .u8 0] ++ ([Value.int .u8 0] ++ ([Value.int .u8 0] ++ [])))))))))))))))))))))))))))))))) ++ ([Value.string (⟨#[]⟩ : ByteArray)] ++ ([Value.int .i64 9] ++ (([Value.int .i64 1] ++ ([Value.int .i64 0] ++ ([Value.int .i64 0] ++ []))) ++ [])))))).length == 39) <|
    st w5 b4 0 ([Value.int .i64 1] ++ ([Value.int .u64 0] ++ (([Value.int .u8 1] ++ ([Value.int .u8 0] ++ ([Value.int .u8 0] ++ ([Value.int .u8 0] ++ ([Value.int .u8 0] ++ ([Value.int .u8 0] ++ ([Value.int .u8 0] ++ ([Value.int .u8 0] ++ ([Value.int .u8 0] ++ ([Value.int .u8 0] ++ ([Value.int .u8 0] ++ ([Value.int .u8 0] ++ ([Value.int .u8 0] ++ ([Value.int .u8 0] ++ ([Value.int .u8 0] ++ ([Value.int .u8 0] ++ ([Value.int .u8 0] ++ ([Value.int .u8 0] ++ ([Value.int .u8 0] ++ ([Value.int .u8 0] ++ ([Value.int .u8 0] ++ ([Value.int .u8 0] ++ ([Value.int .u8 0] ++ ([Value.int .u8 0] ++ ([Value.int .u8 0] ++ ([Value.int .u8 0] ++ ([Value.int .u8 0] ++ ([Value.int .u8 0] ++ ([Value.int .u8 0] ++ ([Value.int .u8 0] ++ ([Value.int .u8 0] ++ ([Value.int .u8 0] ++ [])))))))))))))))))))))))))))))))) ++ ([Value.string (⟨#[]⟩ : ByteArray)] ++ ([Value.int .i64 9] ++ (([Value.int .i64 1] ++ ([Value.int .i64 0] ++ ([Value.int .i64 0] ++ []))) ++ [])))))) fun w6 =>
    ldA 39 w6 b4 0 fun a7 =>
    Calls Try.prog 8 #[Value.pointer p3, ofL a7] w6 fun e9 w8 =>
    e9 = .returned (Value.tuple #[]) ∧ (
      Calls Try.prog 14 #[Value.pointer p3] w8 fun e11 w10 =>
      ∃ i12 : Int, ∃ i13 : Int, e11 = .returned (Value.tuple #[Value.int .i64 i12, Value.int .i64 i13]) ∧ (
        st w10 b4 0 [Value.int .i64 5] fun w14 =>
        ldA 39 w14 b4 0 fun a15 =>
        Calls Try.prog 8 #[Value.pointer p3, ofL a15] w14 fun e17 w16 =>
        e17 = .returned (Value.tuple #[]) ∧ (
          Calls Try.prog 14 #[Value.pointer p3] w16 fun e19 w18 =>
          ∃ i20 : Int, ∃ i21 : Int, e19 = .returned (Value.tuple #[Value.int .i64 i20, Value.int .i64 i21]) ∧ (
            vIf (i12 == 1)
            (vIf (i13 == 9)
              (vIf (i20 == 0)
                (Calls Try.prog 18 #[Value.pointer p3] w18 fun e23 w22 =>
                  ∃ (A24 : Option Addr) (n25 c26 : Nat), e23 = .returned (Value.slice A24 n25 c26) ∧ (
                    Q (Value.bool (((n25 : Nat) : Int) == 1)) w22))
                (Q (Value.bool false) w18))
              (Q (Value.bool false) w18))
            (Q (Value.bool false) w18))))))
def F19.an : Ann := ⟨[], []⟩
theorem F19.eq  (w : World) (Q : Value → World → Prop) : vcFn Try.prog F19.an 19 [] w Q = F19.vc  w Q := by kernel_rfl
theorem F19.of  (w : World) {Q : Value → World → Prop} (h : F19.vc  w Q) : Calls Try.prog 19 #[] w (fun e w' => ∃ v, e = .returned v ∧ Q v w') := vcFn_sound noCount mixed ((F19.eq  w Q).symm ▸ h)
/-! ### function 20: stillage/slots.New[stillage/api.Entry] -/
def F20.vc  (w : World) (Q : Value → World → Prop) : Prop :=
  nw w (zeros 8 Z79) 79 fun b1 w2 =>
  nw w2 ([Value.slice (some ⟨b1, 0, none⟩) 8 8] ++ ([Value.int .i64 0] ++ [])) 75 fun b3 w4 =>
  Q (Value.pointer (some ⟨b3, 0, none⟩)) w4
def F20.an : Ann := ⟨[], []⟩
theorem F20.eq  (w : World) (Q : Value → World → Prop) : vcFn Try.prog F20.an 20 [] w Q = F20.vc  w Q := by kernel_rfl
theorem F20.of  (w : World) {Q : Value → World → Prop} (h : F20.vc  w Q) : Calls Try.prog 20 #[] w (fun e w' => ∃ v, e = .returned v ∧ Q v w') := vcFn_sound noCount mixed ((F20.eq  w Q).symm ▸ h)
/-! ### function 21: (*stillage/slots.Table[stillage/api.Entry]).Put -/
def F21.k8c (Q : Value → World → Prop) (x0 : Option Addr) (x4 : (Nat × Nat)) (x5 : (Nat × Nat)) (x6 : Int) (w : World) : Prop :=
  dr x0 fun b31 o32 =>
  ldSl w.drew b31 o32 fun A33 n34 c35 =>
  ldA 32 w.drew x4.1 x4.2 fun a36 =>
  ldA 38 w.drew x5.1 x5.2 fun a37 =>
  gd (a36.length == 32) <|
  gd (a37.length == 38) <|
  dr A33 fun b38 o39 =>
  gd (decide (0 ≤ x6)) <|
  gd (decide (x6 < ((n34 : Nat) : Int))) <|
  gd (([Value.bool true] ++ (a36 ++ (a37 ++ []))).length == 71) <|
  st w.drew b38 (o39 + (x6).toNat * 71) ([Value.bool true] ++ (a36 ++ (a37 ++ []))) fun w40 =>
  Q (Value.tuple #[]) w40
def F21.k8 (Q : Value → World → Prop) : (Option Addr × (Nat × Nat) × (Nat × Nat) × Int × Unit) → World → Prop := fun s w => ∀ _ : Nat → Value, F21.k8c Q s.1 s.2.1 s.2.2.1 s.2.2.2.1 w
def F21.k7c (Q : Value → World → Prop) (x0 : Option Addr) (x4 : (Nat × Nat)) (x5 : (Nat × Nat)) (x6 : Int) (w : World) : Prop :=
  dr x0 fun b25 o26 =>
  ldI .i64 w b25 (o26 + 1) fun i27 =>
  dr x0 fun b28 o29 =>
  st w b28 (o29 + 1) [Value.int .i64 (IntKind.wrap .i64 (i27 + 1))] fun w30 =>
  jnC (F21.k8 Q) (x0, (x4.1, x4.2), (x5.1, x5.2), (x6), ()) w30
def F21.k7 (Q : Value → World → Prop) : (Option Addr × (Nat × Nat) × (Nat × Nat) × Int × Unit) → World → Prop := fun s w => ∀ _ : Nat → Value, F21.k7c Q s.1 s.2.1 s.2.2.1 s.2.2.2.1 w
def F21.vc (x0 : Option Addr) (x1 : List Value) (x2 : List Value) (w : World) (Q : Value → World → Prop) : Prop :=
  nw w x1 29 fun b1 w2 =>
  nw w2 x2 42 fun b3 w4 =>
  vIf x0.isNone
  (Q (Value.tuple #[]) w4)
  (ldA 32 w4 b1 0 fun a5 =>
    Calls Try.prog 34 #[Value.pointer x0, ofL a5] w4 fun e7 w6 =>
    ∃ i8 : Int, ∃ t9 : Bool, e7 = .returned (Value.tuple #[Value.int .i64 i8, Value.bool t9]) ∧ (
      vIf (!t9)
      (dr x0 fun b10 o11 =>
        ldI .i64 w6.drew b10 (o11 + 1) fun i12 =>
        dr x0 fun b13 o14 =>
        ldSl w6.drew b13 o14 fun A15 n16 c17 =>
        vIf (decide ((IntKind.wrap .i64 (4 * (IntKind.wrap .i64 (i12 + 1)))) > (IntKind.wrap .i64 (3 * ((n16 : Nat) : Int)))))
        (Calls Try.prog 35 #[Value.pointer x0] w6.drew fun e19 w18 =>
          e19 = .returned (Value.tuple #[]) ∧ (
            ldA 32 w18 b1 0 fun a20 =>
            Calls Try.prog 34 #[Value.pointer x0, ofL a20] w18 fun e22 w21 =>
            ∃ i23 : Int, ∃ t24 : Bool, e22 = .returned (Value.tuple #[Value.int .i64 i23, Value.bool t24]) ∧ (
              jnC (F21.k7 Q) (x0, (b1, 0), (b3, 0), (i23), ()) w21)))
        (jnC (F21.k7 Q) (x0, (b1, 0), (b3, 0), (i8), ()) w6.drew))
      (jnC (F21.k8 Q) (x0, (b1, 0), (b3, 0), (i8), ()) w6)))
def F21.an : Ann := ⟨[], [(7, [(0, .kP), (4, .kL), (5, .kL), (6, .kI .i64)]), (8, [(0, .kP), (4, .kL), (5, .kL), (6, .kI .i64)])]⟩
theorem F21.eq (x0 : Option Addr) (x1 : List Value) (x2 : List Value) (w : World) (Q : Value → World → Prop) : vcFn Try.prog F21.an 21 [Value.pointer x0, ofL x1, ofL x2] w Q = F21.vc x0 x1 x2 w Q := by kernel_rfl
theorem F21.of (x0 : Option Addr) (x1 : List Value) (x2 : List Value) (w : World) {Q : Value → World → Prop} (h : F21.vc x0 x1 x2 w Q) : Calls Try.prog 21 #[Value.pointer x0, ofL x1, ofL x2] w (fun e w' => ∃ v, e = .returned v ∧ Q v w') := vcFn_sound noCount mixed ((F21.eq x0 x1 x2 w Q).symm ▸ h)
/-! ### function 22: stillage/index.fresh -/
def F22.vc (x0 : List Value) (w : World) (Q : Value → World → Prop) : Prop :=
  nw w x0 42 fun b1 w2 =>
  nw w2 Z42 42 fun b3 w4 =>
  ldSl w4 b1 (0 + 37) fun A5 n6 c7 =>
  Calls Try.prog 36 #[Value.slice A5 n6 c7] w4 fun e9 w8 =>
  ∃ (A10 : Option Addr) (n11 c12 : Nat), e9 = .returned (Value.slice A10 n11 c12) ∧ (
    st w8 b1 (0 + 37) [Value.slice A10 n11 c12] fun w13 =>
    ldA 38 w13 b1 0 fun a14 =>
    gd (a14.length == 38) <|
    st w13 b3 0 a14 fun w15 =>
    ldA 38 w15 b3 0 fun a16 =>
    Q (ofL a16) w15)
def F22.an : Ann := ⟨[], []⟩
theorem F22.eq (x0 : List Value) (w : World) (Q : Value → World → Prop) : vcFn Try.prog F22.an 22 [ofL x0] w Q = F22.vc x0 w Q := by kernel_rfl
theorem F22.of (x0 : List Value) (w : World) {Q : Value → World → Prop} (h : F22.vc x0 w Q) : Calls Try.prog 22 #[ofL x0] w (fun e w' => ∃ v, e = .returned v ∧ Q v w') := vcFn_sound noCount mixed ((F22.eq x0 w Q).symm ▸ h)
/-! ### function 23: stillage/stillageref20.Set -/
def F23.k9c (Q : Value → World → Prop) (C4 : ((Option Addr × Nat × Nat) × (Nat × Nat) × (Option Addr × Nat × Nat) × Bool × Int × Unit) → World → Prop) (x0 : (Option Addr × Nat × Nat)) (x3 : (Nat × Nat)) (x5 : (Option Addr × Nat × Nat)) (x6 : Bool) (x7 : Int) (w : World) : Prop :=
  dr x0.1 fun b17 o18 =>
  gd (decide (0 ≤ x7)) <|
  gd (decide (x7 < ((x0.2.1 : Nat) : Int))) <|
  ldA 32 w.drew b17 (o18 + (x7).toNat * 38) fun a19 =>
  ldA 32 w.drew x3.1 x3.2 fun a20 =>
  eqAB 32 a19 a20 fun t21 =>
  vIf (!t21)
  (dr x0.1 fun b22 o23 =>
    gd (decide (0 ≤ x7)) <|
    gd (decide (x7 < ((x0.2.1 : Nat) : Int))) <|
    ldA 38 w.drew b22 (o23 + (x7).toNat * 38) fun a24 =>
    gd (a24.length == 38) <|
    nw w.drew (a24 ++ []) 42 fun b25 w26 =>
    app w26 38 96 Z42 42 x5.1 x5.2.1 x5.2.2 (Value.slice (some ⟨b25, 0, none⟩) 1 1) fun A27 n28 c29 w30 =>
    jnC C4 ((x0.1, x0.2.1, x0.2.2), (x3.1, x3.2), (A27, n28, c29), x6, ((IntKind.wrap .i64 (x7 + 1))), ()) w30)
  (jnC C4 ((x0.1, x0.2.1, x0.2.2), (x3.1, x3.2), (x5.1, x5.2.1, x5.2.2), x6, ((IntKind.wrap .i64 (x7 + 1))), ()) w.drew)
def F23.k9 (Q : Value → World → Prop) (C4 : ((Option Addr × Nat × Nat) × (Nat × Nat) × (Option Addr × Nat × Nat) × Bool × Int × Unit) → World → Prop) : ((Option Addr × Nat × Nat) × (Nat × Nat) × (Option Addr × Nat × Nat) × Bool × Int × Unit) → World → Prop := fun s w => ∀ _ : Nat → Value, F23.k9c Q C4 s.1 s.2.1 s.2.2.1 s.2.2.2.1 s.2.2.2.2.1 w
def F23.k7c (Q : Value → World → Prop) (C4 : ((Option Addr × Nat × Nat) × (Nat × Nat) × (Option Addr × Nat × Nat) × Bool × Int × Unit) → World → Prop) (x0 : (Option Addr × Nat × Nat)) (x3 : (Nat × Nat)) (x5 : (Option Addr × Nat × Nat)) (x6 : Bool) (x7 : Int) (x26 : Bool) (w : World) : Prop :=
  vIf x26
  (ldA 38 w x3.1 x3.2 fun a10 =>
    gd (a10.length == 38) <|
    nw w (a10 ++ []) 42 fun b11 w12 =>
    app w12 38 96 Z42 42 x5.1 x5.2.1 x5.2.2 (Value.slice (some ⟨b11, 0, none⟩) 1 1) fun A13 n14 c15 w16 =>
    jnC (F23.k9 Q C4) ((x0.1, x0.2.1, x0.2.2), (x3.1, x3.2), (A13, n14, c15), true, (x7), ()) w16)
  (jnC (F23.k9 Q C4) ((x0.1, x0.2.1, x0.2.2), (x3.1, x3.2), (x5.1, x5.2.1, x5.2.2), x6, (x7), ()) w)
def F23.k7 (Q : Value → World → Prop) (C4 : ((Option Addr × Nat × Nat) × (Nat × Nat) × (Option Addr × Nat × Nat) × Bool × Int × Unit) → World → Prop) : ((Option Addr × Nat × Nat) × (Nat × Nat) × (Option Addr × Nat × Nat) × Bool × Int × Bool × Unit) → World → Prop := fun s w => ∀ _ : Nat → Value, F23.k7c Q C4 s.1 s.2.1 s.2.2.1 s.2.2.2.1 s.2.2.2.2.1 s.2.2.2.2.2.1 w
def F23.b4c (Q : Value → World → Prop) (C4 : ((Option Addr × Nat × Nat) × (Nat × Nat) × (Option Addr × Nat × Nat) × Bool × Int × Unit) → World → Prop) (x0 : (Option Addr × Nat × Nat)) (x3 : (Nat × Nat)) (x5 : (Option Addr × Nat × Nat)) (x6 : Bool) (x7 : Int) (w : World) : Prop :=
  vIf (decide (x7 < ((x0.2.1 : Nat) : Int)))
  (vIf (!x6)
    (dr x0.1 fun b3 o4 =>
      gd (decide (0 ≤ x7)) <|
      gd (decide (x7 < ((x0.2.1 : Nat) : Int))) <|
      ldA 32 w.drew b3 (o4 + (x7).toNat * 38) fun a5 =>
      ldA 32 w.drew x3.1 x3.2 fun a6 =>
      Calls Try.prog 37 #[ofL a5, ofL a6] w.drew fun e8 w7 =>
      ∃ t9 : Bool, e8 = .returned (Value.bool t9) ∧ (
        jnC (F23.k7 Q C4) ((x0.1, x0.2.1, x0.2.2), (x3.1, x3.2), (x5.1, x5.2.1, x5.2.2), x6, (x7), (!t9), ()) w7))
    (jnC (F23.k7 Q C4) ((x0.1, x0.2.1, x0.2.2), (x3.1, x3.2), (x5.1, x5.2.1, x5.2.2), x6, (x7), false, ()) w.drew))
  (vIf (!x6)
    (ldA 38 w x3.1 x3.2 fun a31 =>
      gd (a31.length == 38) <|
      nw w (a31 ++ []) 42 fun b32 w33 =>
      app w33 38 96 Z42 42 x5.1 x5.2.1 x5.2.2 (Value.slice (some ⟨b32, 0, none⟩) 1 1) fun A34 n35 c36 w37 =>
      Q (Value.slice A34 n35 c36) w37)
    (Q (Value.slice x5.1 x5.2.1 x5.2.2) w))
def F23.b4 (Q : Value → World → Prop) : ((Option Addr × Nat × Nat) × (Nat × Nat) × (Option Addr × Nat × Nat) × Bool × Int × Unit) → World → (((Option Addr × Nat × Nat) × (Nat × Nat) × (Option Addr × Nat × Nat) × Bool × Int × Unit) → World → Prop) → Prop := fun s w C4 => ∀ _ : Nat → Value, F23.b4c Q C4 s.1 s.2.1 s.2.2.1 s.2.2.2.1 s.2.2.2.2.1 w
def F23.l4 (Q : Value → World → Prop) : ((Option Addr × Nat × Nat) × (Nat × Nat) × (Option Addr × Nat × Nat) × Bool × Int × Unit) → World → Prop := fun s w => ∃ n, loopC (F23.b4 Q) n s w
def F23.vc (x0A : Option Addr) (x0n x0c : Nat) (x1 : List Value) (w : World) (Q : Value → World → Prop) : Prop :=
  nw w x1 42 fun b1 w2 =>
  jnC (F23.l4 Q) ((x0A, x0n, x0c), (b1, 0), (none, 0, 0), false, (0), ()) w2
def F23.an : Ann := ⟨[(4, [(0, .kSl), (3, .kL), (5, .kSl), (6, .kB), (7, .kI .i64)])], [(7, [(0, .kSl), (3, .kL), (5, .kSl), (6, .kB), (7, .kI .i64), (26, .kB)]), (9, [(0, .kSl), (3, .kL), (5, .kSl), (6, .kB), (7, .kI .i64)])]⟩
theorem F23.eq (x0A : Option Addr) (x0n x0c : Nat) (x1 : List Value) (w : World) (Q : Value → World → Prop) : vcFn Try.prog F23.an 23 [Value.slice x0A x0n x0c, ofL x1] w Q = F23.vc x0A x0n x0c x1 w Q := by kernel_rfl
theorem F23.of (x0A : Option Addr) (x0n x0c : Nat) (x1 : List Value) (w : World) {Q : Value → World → Prop} (h : F23.vc x0A x0n x0c x1 w Q) : Calls Try.prog 23 #[Value.slice x0A x0n x0c, ofL x1] w (fun e w' => ∃ v, e = .returned v ∧ Q v w') := vcFn_sound noCount mixed ((F23.eq x0A x0n x0c x1 w Q).symm ▸ h)
/-! ### function 24: (*stillage/slots.Table[stillage/api.Entry]).Get -/
def F24.vc (x0 : Option Addr) (x1 : List Value) (w : World) (Q : Value → World → Prop) : Prop :=
  nw w x1 29 fun b1 w2 =>
  nw w2 Z42 42 fun b3 w4 =>
  nw w4 Z42 42 fun b5 w6 =>
  vIf x0.isNone
  (ldA 38 w6 b5 0 fun a7 =>
    gd (a7.length == 38) <|
    st w6 b3 0 a7 fun w8 =>
    ldA 38 w8 b3 0 fun a9 =>
    Q (Value.tuple #[ofL a9, Value.bool false]) w8)
  (ldA 32 w6 b1 0 fun a10 =>
    Calls Try.prog 34 #[Value.pointer x0, ofL a10] w6 fun e12 w11 =>
    ∃ i13 : Int, ∃ t14 : Bool, e12 = .returned (Value.tuple #[Value.int .i64 i13, Value.bool t14]) ∧ (
      vIf (!t14)
      (ldA 38 w11 b5 0 fun a15 =>
        gd (a15.length == 38) <|
        st w11 b3 0 a15 fun w16 =>
        ldA 38 w16 b3 0 fun a17 =>
        Q (Value.tuple #[ofL a17, Value.bool false]) w16)
      (dr x0 fun b18 o19 =>
        ldSl w11 b18 o19 fun A20 n21 c22 =>
        dr A20 fun b23 o24 =>
        gd (decide (0 ≤ i13)) <|
        gd (decide (i13 < ((n21 : Nat) : Int))) <|
        ldA 38 w11 b23 ((o24 + (i13).toNat * 71) + 33) fun a25 =>
        gd (a25.length == 38) <|
        st w11 b3 0 a25 fun w26 =>
        ldA 38 w26 b3 0 fun a27 =>
        Q (Value.tuple #[ofL a27, Value.bool true]) w26)))
def F24.an : Ann := ⟨[], []⟩
theorem F24.eq (x0 : Option Addr) (x1 : List Value) (w : World) (Q : Value → World → Prop) : vcFn Try.prog F24.an 24 [Value.pointer x0, ofL x1] w Q = F24.vc x0 x1 w Q := by kernel_rfl
theorem F24.of (x0 : Option Addr) (x1 : List Value) (w : World) {Q : Value → World → Prop} (h : F24.vc x0 x1 w Q) : Calls Try.prog 24 #[Value.pointer x0, ofL x1] w (fun e w' => ∃ v, e = .returned v ∧ Q v w') := vcFn_sound noCount mixed ((F24.eq x0 x1 w Q).symm ▸ h)
/-! ### function 25: stillage/entry.Put -/
def F25.vc (x0 : List Value) (x1 : List Value) (w : World) (Q : Value → World → Prop) : Prop :=
  nw w x0 42 fun b1 w2 =>
  nw w2 x1 33 fun b3 w4 =>
  nw w4 Z42 42 fun b5 w6 =>
  ldA 32 w6.drew b3 (0 + 2) fun a7 =>
  ldI .i64 w6.drew b3 0 fun i8 =>
  ldI .i64 w6.drew b3 (0 + 35) fun i9 =>
  ldA 3 w6.drew b3 (0 + 36) fun a10 =>
  ldSl w6.drew b1 (0 + 37) fun A11 n12 c13 =>
  ldI .i64 w6.drew b3 (0 + 36) fun i14 =>
  nw w6.drew ([Value.int .i64 i14] ++ []) 3 fun b15 w16 =>
  kp w6.drew b1 (0 + 37) 1 w16 <|
  kp w6.drew b3 (0 + 36) 3 w16 <|
  kp w6.drew b3 (0 + 35) 1 w16 <|
  kp w6.drew b3 0 1 w16 <|
  kp w6.drew b3 (0 + 2) 32 w16 <|
  nw w16 ([Value.slice A11 n12 c13] ++ ([Value.slice (some ⟨b15, 0, none⟩) 1 1] ++ [])) 34 fun b17 w18 =>
  kp w6.drew b3 (0 + 36) 3 w18 <|
  kp w6.drew b3 (0 + 35) 1 w18 <|
  kp w6.drew b3 0 1 w18 <|
  kp w6.drew b3 (0 + 2) 32 w18 <|
  Calls Try.prog 38 #[Value.slice (some ⟨b17, 0, none⟩) 2 2] w18 fun e20 w19 =>
  ∃ (A21 : Option Addr) (n22 c23 : Nat), e20 = .returned (Value.slice A21 n22 c23) ∧ (
    kp w6.drew b3 (0 + 36) 3 w19 <|
    kp w6.drew b3 (0 + 35) 1 w19 <|
    kp w6.drew b3 0 1 w19 <|
    kp w6.drew b3 (0 + 2) 32 w19 <|
    gd (a7.length == 32) <|
    gd (a10.length == 3) <|
    gd ((a7 ++ ([Value.int .i64 i8] ++ ([Value.int .i64 i9] ++ (a10 ++ ([Value.slice A21 n22 c23] ++ []))))).length == 38) <|
    st w19 b5 0 (a7 ++ ([Value.int .i64 i8] ++ ([Value.int .i64 i9] ++ (a10 ++ ([Value.slice A21 n22 c23] ++ []))))) fun w24 =>
    ldA 38 w24 b5 0 fun a25 =>
    Q (ofL a25) w24)
def F25.an : Ann := ⟨[], []⟩
theorem F25.eq (x0 : List Value) (x1 : List Value) (w : World) (Q : Value → World → Prop) : vcFn Try.prog F25.an 25 [ofL x0, ofL x1] w Q = F25.vc x0 x1 w Q := by kernel_rfl
theorem F25.of (x0 : List Value) (x1 : List Value) (w : World) {Q : Value → World → Prop} (h : F25.vc x0 x1 w Q) : Calls Try.prog 25 #[ofL x0, ofL x1] w (fun e w' => ∃ v, e = .returned v ∧ Q v w') := vcFn_sound noCount mixed ((F25.eq x0 x1 w Q).symm ▸ h)
/-! ### function 26: stillage/entry.Delete -/
def F26.vc (x0 : List Value) (x1 : List Value) (w : World) (Q : Value → World → Prop) : Prop :=
  nw w x0 42 fun b1 w2 =>
  nw w2 x1 33 fun b3 w4 =>
  nw w4 Z42 42 fun b5 w6 =>
  ldA 32 w6.drew b1 0 fun a7 =>
  ldA 3 w6.drew b3 (0 + 36) fun a8 =>
  ldSl w6.drew b1 (0 + 37) fun A9 n10 c11 =>
  nw w6.drew ([Value.slice A9 n10 c11] ++ []) 34 fun b12 w13 =>
  kp w6.drew b3 (0 + 36) 3 w13 <|
  kp w6.drew b1 0 32 w13 <|
  Calls Try.prog 38 #[Value.slice (some ⟨b12, 0, none⟩) 1 1] w13 fun e15 w14 =>
  ∃ (A16 : Option Addr) (n17 c18 : Nat), e15 = .returned (Value.slice A16 n17 c18) ∧ (
    kp w6.drew b3 (0 + 36) 3 w14 <|
    kp w6.drew b1 0 32 w14 <|
    gd (a7.length == 32) <|
    gd (a8.length == 3) <|
    gd ((a7 ++ ([Value.int .i64 5] ++ ([Value.int .i64 0] ++ (a8 ++ ([Value.slice A16 n17 c18] ++ []))))).length == 38) <|
    st w14 b5 0 (a7 ++ ([Value.int .i64 5] ++ ([Value.int .i64 0] ++ (a8 ++ ([Value.slice A16 n17 c18] ++ []))))) fun w19 =>
    ldA 38 w19 b5 0 fun a20 =>
    Q (ofL a20) w19)
def F26.an : Ann := ⟨[], []⟩
theorem F26.eq (x0 : List Value) (x1 : List Value) (w : World) (Q : Value → World → Prop) : vcFn Try.prog F26.an 26 [ofL x0, ofL x1] w Q = F26.vc x0 x1 w Q := by kernel_rfl
theorem F26.of (x0 : List Value) (x1 : List Value) (w : World) {Q : Value → World → Prop} (h : F26.vc x0 x1 w Q) : Calls Try.prog 26 #[ofL x0, ofL x1] w (fun e w' => ∃ v, e = .returned v ∧ Q v w') := vcFn_sound noCount mixed ((F26.eq x0 x1 w Q).symm ▸ h)
/-! ### function 27: stillage/stillageref19.Put -/
def F27.vc (x0 : List Value) (x1 : List Value) (w : World) (Q : Value → World → Prop) : Prop :=
  nw w x0 42 fun b1 w2 =>
  nw w2 x1 33 fun b3 w4 =>
  nw w4 Z42 42 fun b5 w6 =>
  ldA 32 w6.drew b3 (0 + 2) fun a7 =>
  ldI .i64 w6.drew b3 0 fun i8 =>
  ldI .i64 w6.drew b3 (0 + 35) fun i9 =>
  ldA 3 w6.drew b3 (0 + 36) fun a10 =>
  ldSl w6.drew b1 (0 + 37) fun A11 n12 c13 =>
  ldI .i64 w6.drew b3 (0 + 36) fun i14 =>
  Calls Try.prog 40 #[Value.slice A11 n12 c13] w6.drew fun e16 w15 =>
  ∃ (A17 : Option Addr) (n18 c19 : Nat), e16 = .returned (Value.slice A17 n18 c19) ∧ (
    kp w6.drew b3 (0 + 36) 1 w15 <|
    kp w6.drew b3 (0 + 36) 3 w15 <|
    kp w6.drew b3 (0 + 35) 1 w15 <|
    kp w6.drew b3 0 1 w15 <|
    kp w6.drew b3 (0 + 2) 32 w15 <|
    Calls Try.prog 39 #[Value.slice A17 n18 c19, Value.int .i64 i14] w15 fun e21 w20 =>
    ∃ (A22 : Option Addr) (n23 c24 : Nat), e21 = .returned (Value.slice A22 n23 c24) ∧ (
      kp w6.drew b3 (0 + 36) 3 w20 <|
      kp w6.drew b3 (0 + 35) 1 w20 <|
      kp w6.drew b3 0 1 w20 <|
      kp w6.drew b3 (0 + 2) 32 w20 <|
      gd (a7.length == 32) <|
      gd (a10.length == 3) <|
      gd ((a7 ++ ([Value.int .i64 i8] ++ ([Value.int .i64 i9] ++ (a10 ++ ([Value.slice A22 n23 c24] ++ []))))).length == 38) <|
      st w20 b5 0 (a7 ++ ([Value.int .i64 i8] ++ ([Value.int .i64 i9] ++ (a10 ++ ([Value.slice A22 n23 c24] ++ []))))) fun w25 =>
      ldA 38 w25 b5 0 fun a26 =>
      Q (ofL a26) w25))
def F27.an : Ann := ⟨[], []⟩
theorem F27.eq (x0 : List Value) (x1 : List Value) (w : World) (Q : Value → World → Prop) : vcFn Try.prog F27.an 27 [ofL x0, ofL x1] w Q = F27.vc x0 x1 w Q := by kernel_rfl
theorem F27.of (x0 : List Value) (x1 : List Value) (w : World) {Q : Value → World → Prop} (h : F27.vc x0 x1 w Q) : Calls Try.prog 27 #[ofL x0, ofL x1] w (fun e w' => ∃ v, e = .returned v ∧ Q v w') := vcFn_sound noCount mixed ((F27.eq x0 x1 w Q).symm ▸ h)
/-! ### function 28: stillage/stillageref19.Delete -/
def F28.vc (x0 : List Value) (x1 : List Value) (w : World) (Q : Value → World → Prop) : Prop :=
  nw w x0 42 fun b1 w2 =>
  nw w2 x1 33 fun b3 w4 =>
  nw w4 Z42 42 fun b5 w6 =>
  ldA 32 w6.drew b1 0 fun a7 =>
  ldA 3 w6.drew b3 (0 + 36) fun a8 =>
  ldSl w6.drew b1 (0 + 37) fun A9 n10 c11 =>
  Calls Try.prog 40 #[Value.slice A9 n10 c11] w6.drew fun e13 w12 =>
  ∃ (A14 : Option Addr) (n15 c16 : Nat), e13 = .returned (Value.slice A14 n15 c16) ∧ (
    kp w6.drew b3 (0 + 36) 3 w12 <|
    kp w6.drew b1 0 32 w12 <|
    gd (a7.length == 32) <|
    gd (a8.length == 3) <|
    gd ((a7 ++ ([Value.int .i64 5] ++ ([Value.int .i64 0] ++ (a8 ++ ([Value.slice A14 n15 c16] ++ []))))).length == 38) <|
    st w12 b5 0 (a7 ++ ([Value.int .i64 5] ++ ([Value.int .i64 0] ++ (a8 ++ ([Value.slice A14 n15 c16] ++ []))))) fun w17 =>
    ldA 38 w17 b5 0 fun a18 =>
    Q (ofL a18) w17)
def F28.an : Ann := ⟨[], []⟩
theorem F28.eq (x0 : List Value) (x1 : List Value) (w : World) (Q : Value → World → Prop) : vcFn Try.prog F28.an 28 [ofL x0, ofL x1] w Q = F28.vc x0 x1 w Q := by kernel_rfl
theorem F28.of (x0 : List Value) (x1 : List Value) (w : World) {Q : Value → World → Prop} (h : F28.vc x0 x1 w Q) : Calls Try.prog 28 #[ofL x0, ofL x1] w (fun e w' => ∃ v, e = .returned v ∧ Q v w') := vcFn_sound noCount mixed ((F28.eq x0 x1 w Q).symm ▸ h)
/-! ### function 29: stillage/entry.Keep -/
def F29.k6c (Q : Value → World → Prop) (x2 : (Nat × Nat)) (x4 : (Nat × Nat)) (x6 : (Option Addr × Nat × Nat)) (w : World) : Prop :=
  st w x2.1 (x2.2 + 37) [Value.slice x6.1 x6.2.1 x6.2.2] fun w22 =>
  ldA 38 w22 x2.1 x2.2 fun a23 =>
  gd (a23.length == 38) <|
  st w22 x4.1 x4.2 a23 fun w24 =>
  ldA 38 w24 x4.1 x4.2 fun a25 =>
  Q (Value.tuple #[ofL a25, Value.bool true]) w24
def F29.k6 (Q : Value → World → Prop) : ((Nat × Nat) × (Nat × Nat) × (Option Addr × Nat × Nat) × Unit) → World → Prop := fun s w => ∀ _ : Nat → Value, F29.k6c Q s.1 s.2.1 s.2.2.1 w
def F29.k3c (Q : Value → World → Prop) (x2 : (Nat × Nat)) (x4 : (Nat × Nat)) (x6 : (Option Addr × Nat × Nat)) (x7 : Bool) (x17 : Bool) (w : World) : Prop :=
  vIf x17
  (gd (([Value.int .u8 0, Value.int .u8 0, Value.int .u8 0, Value.int .u8 0, Value.int .u8 0, Value.int .u8 0, Value.int .u8 0, Value.int .u8 0, Value.int .u8 0, Value.int .u8 0, Value.int .u8 0, Value.int .u8 0, Value.int .u8 0, Value.int .u8 0, Value.int .u8 0, Value.int .u8 0, Value.int .u8 0, Value.int .u8 0, Value.int .u8 0, Value.int .u8 0, Value.int .u8 0, Value.int .u8 0, Value.int .u8 0, Value.int .u8 0, Value.int .u8 0, Value.int .u8 0, Value.int .u8 0, Value.int .u8 0, Value.int .u8 0, Value.int .u8 0, Value.int .u8 0, Value.int .u8 0] ++ ([Value.int .i64 0] ++ ([Value.int .i64 0] ++ ([Value.int .i64 0, Value.int .i64 0, Value.int .i64 0] ++ ([Value.slice none 0 0] ++ []))))).length == 38) <|
    st w x4.1 x4.2 ([Value.int .u8 0, Value.int .u8 0, Value.int .u8 0, Value.int .u8 0, Value.int .u8 0, Value.int .u8 0, Value.int .u8 0, Value.int .u8 0, Value.int .u8 0, Value.int .u8 0, Value.int .u8 0, Value.int .u8 0, Value.int .u8 0, Value.int .u8 0, Value.int .u8 0, Value.int .u8 0, Value.int .u8 0, Value.int .u8 0, Value.int .u8 0, Value.int .u8 0, Value.int .u8 0, Value.int .u8 0, Value.int .u8 0, Value.int .u8 0, Value.int .u8 0, Value.int .u8 0, Value.int .u8 0, Value.int .u8 0, Value.int .u8 0, Value.int .u8 0, Value.int .u8 0, Value.int .u8 0] ++ ([Value.int .i64 0] ++ ([Value.int .i64 0] ++ ([Value.int .i64 0, Value.int .i64 0, Value.int .i64 0] ++ ([Value.slice none 0 0] ++ []))))) fun w17 =>
    ldA 38 w17 x4.1 x4.2 fun a18 =>
    Q (Value.tuple #[ofL a18, Value.bool false]) w17)
  (vIf (!x7)
    (ldA 32 w x2.1 x2.2 fun a19 =>
      gd (a19.length == 32) <|
      gd ((a19 ++ ([Value.int .i64 5] ++ ([Value.int .i64 0] ++ ([Value.int .i64 0, Value.int .i64 0, Value.int .i64 0] ++ ([Value.slice x6.1 x6.2.1 x6.2.2] ++ []))))).length == 38) <|
      st w x4.1 x4.2 (a19 ++ ([Value.int .i64 5] ++ ([Value.int .i64 0] ++ ([Value.int .i64 0, Value.int .i64 0, Value.int .i64 0] ++ ([Value.slice x6.1 x6.2.1 x6.2.2] ++ []))))) fun w20 =>
      ldA 38 w20 x4.1 x4.2 fun a21 =>
      Q (Value.tuple #[ofL a21, Value.bool true]) w20)
    (jnC (F29.k6 Q) ((x2.1, x2.2), (x4.1, x4.2), (x6.1, x6.2.1, x6.2.2), ()) w))
def F29.k3 (Q : Value → World → Prop) : ((Nat × Nat) × (Nat × Nat) × (Option Addr × Nat × Nat) × Bool × Bool × Unit) → World → Prop := fun s w => ∀ _ : Nat → Value, F29.k3c Q s.1 s.2.1 s.2.2.1 s.2.2.2.1 s.2.2.2.2.1 w
def F29.vc (x0 : List Value) (x1A : Option Addr) (x1n x1c : Nat) (w : World) (Q : Value → World → Prop) : Prop :=
  nw w x0 42 fun b1 w2 =>
  nw w2 Z42 42 fun b3 w4 =>
  ldSl w4.drew b1 (0 + 37) fun A5 n6 c7 =>
  ldI .i64 w4.drew b1 (0 + 34) fun i8 =>
  Calls Try.prog 41 #[Value.slice A5 n6 c7, Value.slice x1A x1n x1c] w4.drew fun e10 w9 =>
  ∃ (A11 : Option Addr) (n12 c13 : Nat), e10 = .returned (Value.slice A11 n12 c13) ∧ (
    kp w4.drew b1 (0 + 34) 1 w9 <|
    Calls Try.prog 42 #[Value.slice x1A x1n x1c, Value.int .i64 i8] w9 fun e15 w14 =>
    ∃ t16 : Bool, e15 = .returned (Value.bool t16) ∧ (
      vIf (((n12 : Nat) : Int) == 0)
      (vIf (!t16)
        (jnC (F29.k3 Q) ((b1, 0), (b3, 0), (A11, n12, c13), t16, true, ()) w14)
        (ldI .i64 w14 b1 (0 + 32) fun i26 =>
          jnC (F29.k3 Q) ((b1, 0), (b3, 0), (A11, n12, c13), t16, (i26 == 5), ()) w14))
      (jnC (F29.k3 Q) ((b1, 0), (b3, 0), (A11, n12, c13), t16, false, ()) w14)))
def F29.an : Ann := ⟨[], [(3, [(2, .kL), (4, .kL), (6, .kSl), (7, .kB), (17, .kB)]), (6, [(2, .kL), (4, .kL), (6, .kSl)])]⟩
theorem F29.eq (x0 : List Value) (x1A : Option Addr) (x1n x1c : Nat) (w : World) (Q : Value → World → Prop) : vcFn Try.prog F29.an 29 [ofL x0, Value.slice x1A x1n x1c] w Q = F29.vc x0 x1A x1n x1c w Q := by kernel_rfl
theorem F29.of (x0 : List Value) (x1A : Option Addr) (x1n x1c : Nat) (w : World) {Q : Value → World → Prop} (h : F29.vc x0 x1A x1n x1c w Q) : Calls Try.prog 29 #[ofL x0, Value.slice x1A x1n x1c] w (fun e w' => ∃ v, e = .returned v ∧ Q v w') := vcFn_sound noCount mixed ((F29.eq x0 x1A x1n x1c w Q).symm ▸ h)
/-! ### function 30: (*stillage/slots.Table[stillage/api.Entry]).Cut -/
def F30.b8c (Q : Value → World → Prop) (C8 : (Option Addr × Int × Int × Int × Unit) → World → Prop) (x0 : Option Addr) (x5 : Int) (x7 : Int) (x8 : Int) (w : World) : Prop :=
  dr x0 fun b13 o14 =>
  ldSl w b13 o14 fun A15 n16 c17 =>
  dr A15 fun b18 o19 =>
  gd (decide (0 ≤ x8)) <|
  gd (decide (x8 < ((n16 : Nat) : Int))) <|
  ldB w b18 (o19 + (x8).toNat * 71) fun t20 =>
  vIf t20
  (Calls Try.prog 43 #[Value.pointer x0, Value.int .i64 x5, Value.int .i64 x8] w fun e22 w21 =>
    ∃ t23 : Bool, e22 = .returned (Value.bool t23) ∧ (
      vIf (!t23)
      (dr x0 fun b24 o25 =>
        ldSl w21.drew b24 o25 fun A26 n27 c28 =>
        dr x0 fun b29 o30 =>
        ldSl w21.drew b29 o30 fun A31 n32 c33 =>
        dr A31 fun b34 o35 =>
        gd (decide (0 ≤ x8)) <|
        gd (decide (x8 < ((n32 : Nat) : Int))) <|
        ldA 71 w21.drew b34 (o35 + (x8).toNat * 71) fun a36 =>
        dr A26 fun b37 o38 =>
        gd (decide (0 ≤ x5)) <|
        gd (decide (x5 < ((n27 : Nat) : Int))) <|
        gd (a36.length == 71) <|
        st w21.drew b37 (o38 + (x5).toNat * 71) a36 fun w39 =>
        gd (decide (x7 ≠ 0)) <|
        jnC C8 (x0, (x8), (x7), ((Int.tmod (IntKind.wrap .i64 (x8 + 1)) x7)), ()) w39)
      (gd (decide (x7 ≠ 0)) <|
        jnC C8 (x0, (x5), (x7), ((Int.tmod (IntKind.wrap .i64 (x8 + 1)) x7)), ()) w21)))
  (dr x0 fun b40 o41 =>
    ldSl w b40 o41 fun A42 n43 c44 =>
    dr A42 fun b45 o46 =>
    gd (decide (0 ≤ x5)) <|
    gd (decide (x5 < ((n43 : Nat) : Int))) <|
    gd (([Value.bool false] ++ ([Value.int .u8 0, Value.int .u8 0, Value.int .u8 0, Value.int .u8 0, Value.int .u8 0, Value.int .u8 0, Value.int .u8 0, Value.int .u8 0, Value.int .u8 0, Value.int .u8 0, Value.int .u8 0, Value.int .u8 0, Value.int .u8 0, Value.int .u8 0, Value.int .u8 0, Value.int .u8 0, Value.int .u8 0, Value.int .u8 0, Value.int .u8 0, Value.int .u8 0, Value.int .u8 0, Value.int .u8 0, Value.int .u8 0, Value.int .u8 0, Value.int .u8 0, Value.int .u8 0, Value.int .u8 0, Value.int .u8 0, Value.int .u8 0, Value.int .u8 0, Value.int .u8 0, Value.int .u8 0] ++ ([Value.int .u8 0, Value.int .u8 0, Value.int .u8 0, Value.int .u8 0, Value.int .u8 0, Value.int .u8 0, Value.int .u8 0, Value.int .u8 0, Value.int .u8 0, Value.int .u8 0, Value.int .u8 0, Value.int .u8 0, Value.int .u8 0, Value.int .u8 0, Value.int .u8 0, Value.int .u8 0, Value.int .u8 0, Value.int .u8 0, Value.int .u8 0, Value.int .u8 0, Value.int .u8 0, Value.int .u8 0, Value.int .u8 0, Value.int .u8 0, Value.int .u8 0, Value.int .u8 0, Value.int .u8 0, Value.int .u8 0, Value.int .u8 0, Value.int .u8 0, Value.int .u8 0, Value.int .u8 0, Value.int .i64 0, Value.int .i64 0, Value.int .i64 0, Value.int .i64 0, Value.int .i64 0, Value.slice none 0 0] ++ []))).length == 71) <|
    st w b45 (o46 + (x5).toNat * 71) ([Value.bool false] ++ ([Value.int .u8 0, Value.int .u8 0, Value.int .u8 0, Value.int .u8 0, Value.int .u8 0, Value.int .u8 0, Value.int .u8 0, Value.int .u8 0, Value.int .u8 0, Value.int .u8 0, Value.int .u8 0, Value.int .u8 0, Value.int .u8 0, Value.int .u8 0, Value.int .u8 0, Value.int .u8 0, Value.int .u8 0, Value.int .u8 0, Value.int .u8 0, Value.int .u8 0, Value.int .u8 0, Value.int .u8 0, Value.int .u8 0, Value.int .u8 0, Value.int .u8 0, Value.int .u8 0, Value.int .u8 0, Value.int .u8 0, Value.int .u8 0, Value.int .u8 0, Value.int .u8 0, Value.int .u8 0] ++ ([Value.int .u8 0, Value.int .u8 0, Value.int .u8 0, Value.int .u8 0, Value.int .u8 0, Value.int .u8 0, Value.int .u8 0, Value.int .u8 0, Value.int .u8 0, Value.int .u8 0, Value.int .u8 0, Value.int .u8 0, Value.int .u8 0, Value.int .u8 0, Value.int .u8 0, Value.int .u8 0, Value.int .u8 0, Value.int .u8 0, Value.int .u8 0, Value.int .u8 0, Value.int .u8 0, Value.int .u8 0, Value.int .u8 0, Value.int .u8 0, Value.int .u8 0, Value.int .u8 0, Value.int .u8 0, Value.int .u8 0, Value.int .u8 0, Value.int .u8 0, Value.int .u8 0, Value.int .u8 0, Value.int .i64 0, Value.int .i64 0, Value.int .i64 0, Value.int .i64 0, Value.int .i64 0, Value.slice none 0 0] ++ []))) fun w47 =>
    dr x0 fun b48 o49 =>
    ldI .i64 w47 b48 (o49 + 1) fun i50 =>
    dr x0 fun b51 o52 =>
    st w47 b51 (o52 + 1) [Value.int .i64 (IntKind.wrap .i64 (i50 - 1))] fun w53 =>
    Q (Value.bool true) w53)
def F30.b8 (Q : Value → World → Prop) : (Option Addr × Int × Int × Int × Unit) → World → ((Option Addr × Int × Int × Int × Unit) → World → Prop) → Prop := fun s w C8 => ∀ _ : Nat → Value, F30.b8c Q C8 s.1 s.2.1 s.2.2.1 s.2.2.2.1 w
def F30.l8 (Q : Value → World → Prop) : (Option Addr × Int × Int × Int × Unit) → World → Prop := fun s w => ∃ n, loopC (F30.b8 Q) n s w
def F30.vc (x0 : Option Addr) (x1 : List Value) (w : World) (Q : Value → World → Prop) : Prop :=
  nw w x1 29 fun b1 w2 =>
  vIf x0.isNone
  (Q (Value.bool false) w2)
  (ldA 32 w2 b1 0 fun a3 =>
    Calls Try.prog 34 #[Value.pointer x0, ofL a3] w2 fun e5 w4 =>
    ∃ i6 : Int, ∃ t7 : Bool, e5 = .returned (Value.tuple #[Value.int .i64 i6, Value.bool t7]) ∧ (
      vIf (!t7)
      (Q (Value.bool false) w4)
      (dr x0 fun b8 o9 =>
        ldSl w4 b8 o9 fun A10 n11 c12 =>
        gd (decide (((n11 : Nat) : Int) ≠ 0)) <|
        jnC (F30.l8 Q) (x0, (i6), (((n11 : Nat) : Int)), ((Int.tmod (IntKind.wrap .i64 (i6 + 1)) ((n11 : Nat) : Int))), ()) w4)))
def F30.an : Ann := ⟨[(8, [(0, .kP), (5, .kI .i64), (7, .kI .i64), (8, .kI .i64)])], []⟩
theorem F30.eq (x0 : Option Addr) (x1 : List Value) (w : World) (Q : Value → World → Prop) : vcFn Try.prog F30.an 30 [Value.pointer x0, ofL x1] w Q = F30.vc x0 x1 w Q := by kernel_rfl
theorem F30.of (x0 : Option Addr) (x1 : List Value) (w : World) {Q : Value → World → Prop} (h : F30.vc x0 x1 w Q) : Calls Try.prog 30 #[Value.pointer x0, ofL x1] w (fun e w' => ∃ v, e = .returned v ∧ Q v w') := vcFn_sound noCount mixed ((F30.eq x0 x1 w Q).symm ▸ h)
/-! ### function 31: stillage/stillageref19.Keep -/
def F31.k5c (Q : Value → World → Prop) (x2 : (Nat × Nat)) (x4 : (Nat × Nat)) (x6 : (Option Addr × Nat × Nat)) (w : World) : Prop :=
  vIf (decide (((x6.2.1 : Nat) : Int) > 0))
  (ldA 32 w x2.1 x2.2 fun a22 =>
    gd (a22.length == 32) <|
    gd ((a22 ++ ([Value.int .i64 5] ++ ([Value.int .i64 0] ++ ([Value.int .i64 0, Value.int .i64 0, Value.int .i64 0] ++ ([Value.slice x6.1 x6.2.1 x6.2.2] ++ []))))).length == 38) <|
    st w x4.1 x4.2 (a22 ++ ([Value.int .i64 5] ++ ([Value.int .i64 0] ++ ([Value.int .i64 0, Value.int .i64 0, Value.int .i64 0] ++ ([Value.slice x6.1 x6.2.1 x6.2.2] ++ []))))) fun w23 =>
    ldA 38 w23 x4.1 x4.2 fun a24 =>
    Q (Value.tuple #[ofL a24, Value.bool true]) w23)
  (gd (([Value.int .u8 0, Value.int .u8 0, Value.int .u8 0, Value.int .u8 0, Value.int .u8 0, Value.int .u8 0, Value.int .u8 0, Value.int .u8 0, Value.int .u8 0, Value.int .u8 0, Value.int .u8 0, Value.int .u8 0, Value.int .u8 0, Value.int .u8 0, Value.int .u8 0, Value.int .u8 0, Value.int .u8 0, Value.int .u8 0, Value.int .u8 0, Value.int .u8 0, Value.int .u8 0, Value.int .u8 0, Value.int .u8 0, Value.int .u8 0, Value.int .u8 0, Value.int .u8 0, Value.int .u8 0, Value.int .u8 0, Value.int .u8 0, Value.int .u8 0, Value.int .u8 0, Value.int .u8 0] ++ ([Value.int .i64 0] ++ ([Value.int .i64 0] ++ ([Value.int .i64 0, Value.int .i64 0, Value.int .i64 0] ++ ([Value.slice none 0 0] ++ []))))).length == 38) <|
    st w x4.1 x4.2 ([Value.int .u8 0, Value.int .u8 0, Value.int .u8 0, Value.int .u8 0, Value.int .u8 0, Value.int .u8 0, Value.int .u8 0, Value.int .u8 0, Value.int .u8 0, Value.int .u8 0, Value.int .u8 0, Value.int .u8 0, Value.int .u8 0, Value.int .u8 0, Value.int .u8 0, Value.int .u8 0, Value.int .u8 0, Value.int .u8 0, Value.int .u8 0, Value.int .u8 0, Value.int .u8 0, Value.int .u8 0, Value.int .u8 0, Value.int .u8 0, Value.int .u8 0, Value.int .u8 0, Value.int .u8 0, Value.int .u8 0, Value.int .u8 0, Value.int .u8 0, Value.int .u8 0, Value.int .u8 0] ++ ([Value.int .i64 0] ++ ([Value.int .i64 0] ++ ([Value.int .i64 0, Value.int .i64 0, Value.int .i64 0] ++ ([Value.slice none 0 0] ++ []))))) fun w25 =>
    ldA 38 w25 x4.1 x4.2 fun a26 =>
    Q (Value.tuple #[ofL a26, Value.bool false]) w25)
def F31.k5 (Q : Value → World → Prop) : ((Nat × Nat) × (Nat × Nat) × (Option Addr × Nat × Nat) × Unit) → World → Prop := fun s w => ∀ _ : Nat → Value, F31.k5c Q s.1 s.2.1 s.2.2.1 w
def F31.k3c (Q : Value → World → Prop) (x2 : (Nat × Nat)) (x4 : (Nat × Nat)) (x6 : (Option Addr × Nat × Nat)) (x25 : Bool) (w : World) : Prop :=
  vIf x25
  (st w x2.1 (x2.2 + 37) [Value.slice x6.1 x6.2.1 x6.2.2] fun w18 =>
    ldA 38 w18 x2.1 x2.2 fun a19 =>
    gd (a19.length == 38) <|
    st w18 x4.1 x4.2 a19 fun w20 =>
    ldA 38 w20 x4.1 x4.2 fun a21 =>
    Q (Value.tuple #[ofL a21, Value.bool true]) w20)
  (jnC (F31.k5 Q) ((x2.1, x2.2), (x4.1, x4.2), (x6.1, x6.2.1, x6.2.2), ()) w)
def F31.k3 (Q : Value → World → Prop) : ((Nat × Nat) × (Nat × Nat) × (Option Addr × Nat × Nat) × Bool × Unit) → World → Prop := fun s w => ∀ _ : Nat → Value, F31.k3c Q s.1 s.2.1 s.2.2.1 s.2.2.2.1 w
def F31.vc (x0 : List Value) (x1A : Option Addr) (x1n x1c : Nat) (w : World) (Q : Value → World → Prop) : Prop :=
  nw w x0 42 fun b1 w2 =>
  nw w2 Z42 42 fun b3 w4 =>
  ldSl w4 b1 (0 + 37) fun A5 n6 c7 =>
  Calls Try.prog 44 #[Value.slice A5 n6 c7, Value.slice x1A x1n x1c] w4 fun e9 w8 =>
  ∃ (A10 : Option Addr) (n11 c12 : Nat), e9 = .returned (Value.slice A10 n11 c12) ∧ (
    ldI .i64 w8 b1 (0 + 34) fun i13 =>
    Calls Try.prog 45 #[Value.slice x1A x1n x1c, Value.int .i64 i13] w8 fun e15 w14 =>
    ∃ t16 : Bool, e15 = .returned (Value.bool t16) ∧ (
      vIf t16
      (ldI .i64 w14 b1 (0 + 32) fun i17 =>
        vIf (i17 != 5)
        (jnC (F31.k3 Q) ((b1, 0), (b3, 0), (A10, n11, c12), true, ()) w14)
        (jnC (F31.k3 Q) ((b1, 0), (b3, 0), (A10, n11, c12), (decide (((n11 : Nat) : Int) > 0)), ()) w14))
      (jnC (F31.k3 Q) ((b1, 0), (b3, 0), (A10, n11, c12), false, ()) w14)))
def F31.an : Ann := ⟨[], [(3, [(2, .kL), (4, .kL), (6, .kSl), (25, .kB)]), (5, [(2, .kL), (4, .kL), (6, .kSl)])]⟩
theorem F31.eq (x0 : List Value) (x1A : Option Addr) (x1n x1c : Nat) (w : World) (Q : Value → World → Prop) : vcFn Try.prog F31.an 31 [ofL x0, Value.slice x1A x1n x1c] w Q = F31.vc x0 x1A x1n x1c w Q := by kernel_rfl
theorem F31.of (x0 : List Value) (x1A : Option Addr) (x1n x1c : Nat) (w : World) {Q : Value → World → Prop} (h : F31.vc x0 x1A x1n x1c w Q) : Calls Try.prog 31 #[ofL x0, Value.slice x1A x1n x1c] w (fun e w' => ∃ v, e = .returned v ∧ Q v w') := vcFn_sound noCount mixed ((F31.eq x0 x1A x1n x1c w Q).symm ▸ h)
/-! ### function 32: stillage/stillageref11.Ints -/
def F32.b4c (Q : Value → World → Prop) (C4 : ((Option Addr × Nat × Nat) × (Option Addr × Nat × Nat) × Int × Unit) → World → Prop) (x0 : (Option Addr × Nat × Nat)) (x1 : (Option Addr × Nat × Nat)) (x5 : Int) (w : World) : Prop :=
  vIf (decide (x5 < ((x0.2.1 : Nat) : Int)))
  (dr x0.1 fun b1 o2 =>
    gd (decide (0 ≤ x5)) <|
    gd (decide (x5 < ((x0.2.1 : Nat) : Int))) <|
    ldI .i64 w.drew b1 (o2 + (x5).toNat * 1) fun i3 =>
    dr x1.1 fun b4 o5 =>
    gd (decide (0 ≤ x5)) <|
    gd (decide (x5 < ((x1.2.1 : Nat) : Int))) <|
    ldI .i64 w.drew b4 (o5 + (x5).toNat * 1) fun i6 =>
    vIf (i3 != i6)
    (Q (Value.bool false) w.drew)
    (jnC C4 ((x0.1, x0.2.1, x0.2.2), (x1.1, x1.2.1, x1.2.2), ((IntKind.wrap .i64 (x5 + 1))), ()) w.drew))
  (Q (Value.bool true) w)
def F32.b4 (Q : Value → World → Prop) : ((Option Addr × Nat × Nat) × (Option Addr × Nat × Nat) × Int × Unit) → World → (((Option Addr × Nat × Nat) × (Option Addr × Nat × Nat) × Int × Unit) → World → Prop) → Prop := fun s w C4 => ∀ _ : Nat → Value, F32.b4c Q C4 s.1 s.2.1 s.2.2.1 w
def F32.l4 (Q : Value → World → Prop) : ((Option Addr × Nat × Nat) × (Option Addr × Nat × Nat) × Int × Unit) → World → Prop := fun s w => ∃ n, loopC (F32.b4 Q) n s w
def F32.vc (x0A : Option Addr) (x0n x0c : Nat) (x1A : Option Addr) (x1n x1c : Nat) (w : World) (Q : Value → World → Prop) : Prop :=
  vIf (((x0n : Nat) : Int) != ((x1n : Nat) : Int))
  (Q (Value.bool false) w)
  (jnC (F32.l4 Q) ((x0A, x0n, x0c), (x1A, x1n, x1c), (0), ()) w)
def F32.an : Ann := ⟨[(4, [(0, .kSl), (1, .kSl), (5, .kI .i64)])], []⟩
theorem F32.eq (x0A : Option Addr) (x0n x0c : Nat) (x1A : Option Addr) (x1n x1c : Nat) (w : World) (Q : Value → World → Prop) : vcFn Try.prog F32.an 32 [Value.slice x0A x0n x0c, Value.slice x1A x1n x1c] w Q = F32.vc x0A x0n x0c x1A x1n x1c w Q := by kernel_rfl
theorem F32.of (x0A : Option Addr) (x0n x0c : Nat) (x1A : Option Addr) (x1n x1c : Nat) (w : World) {Q : Value → World → Prop} (h : F32.vc x0A x0n x0c x1A x1n x1c w Q) : Calls Try.prog 32 #[Value.slice x0A x0n x0c, Value.slice x1A x1n x1c] w (fun e w' => ∃ v, e = .returned v ∧ Q v w') := vcFn_sound noCount mixed ((F32.eq x0A x0n x0c x1A x1n x1c w Q).symm ▸ h)
/-! ### function 33: (*stillage/slots.Table[stillage/api.Entry]).Row -/
def F33.b5c (Q : Value → World → Prop) (C5 : ((Option Addr × Nat × Nat) × (Option Addr × Nat × Nat) × Int × Int × Unit) → World → Prop) (x3 : (Option Addr × Nat × Nat)) (x11 : (Option Addr × Nat × Nat)) (x12 : Int) (x13 : Int) (w : World) : Prop :=
  vIf (decide (x13 < x12))
  (dr x11.1 fun b6 o7 =>
    gd (decide (0 ≤ x13)) <|
    gd (decide (x13 < ((x11.2.1 : Nat) : Int))) <|
    ldA 71 w b6 (o7 + (x13).toNat * 71) fun a8 =>
    nw w Z79 79 fun b9 w10 =>
    gd (a8.length == 71) <|
    st w10 b9 0 a8 fun w11 =>
    ldB w11 b9 0 fun t12 =>
    vIf t12
    (ldA 32 w11 b9 (0 + 1) fun a13 =>
      gd (a13.length == 32) <|
      nw w11 (a13 ++ []) 29 fun b14 w15 =>
      app w15 32 32 Z29 29 x3.1 x3.2.1 x3.2.2 (Value.slice (some ⟨b14, 0, none⟩) 1 1) fun A16 n17 c18 w19 =>
      jnC C5 ((A16, n17, c18), (x11.1, x11.2.1, x11.2.2), (x12), ((IntKind.wrap .i64 (x13 + 1))), ()) w19)
    (jnC C5 ((x3.1, x3.2.1, x3.2.2), (x11.1, x11.2.1, x11.2.2), (x12), ((IntKind.wrap .i64 (x13 + 1))), ()) w11))
  (Calls Try.prog 46 #[Value.slice x3.1 x3.2.1 x3.2.2] w fun e21 w20 =>
    ∃ (A22 : Option Addr) (n23 c24 : Nat), e21 = .returned (Value.slice A22 n23 c24) ∧ (
      Q (Value.slice A22 n23 c24) w20))
def F33.b5 (Q : Value → World → Prop) : ((Option Addr × Nat × Nat) × (Option Addr × Nat × Nat) × Int × Int × Unit) → World → (((Option Addr × Nat × Nat) × (Option Addr × Nat × Nat) × Int × Int × Unit) → World → Prop) → Prop := fun s w C5 => ∀ _ : Nat → Value, F33.b5c Q C5 s.1 s.2.1 s.2.2.1 s.2.2.2.1 w
def F33.l5 (Q : Value → World → Prop) : ((Option Addr × Nat × Nat) × (Option Addr × Nat × Nat) × Int × Int × Unit) → World → Prop := fun s w => ∃ n, loopC (F33.b5 Q) n s w
def F33.vc (x0 : Option Addr) (w : World) (Q : Value → World → Prop) : Prop :=
  vIf x0.isNone
  (Q (Value.slice none 0 0) w)
  (dr x0 fun b1 o2 =>
    ldSl w b1 o2 fun A3 n4 c5 =>
    jnC (F33.l5 Q) ((none, 0, 0), (A3, n4, c5), (((n4 : Nat) : Int)), (0), ()) w)
def F33.an : Ann := ⟨[(5, [(3, .kSl), (11, .kSl), (12, .kI .i64), (13, .kI .i64)])], []⟩
theorem F33.eq (x0 : Option Addr) (w : World) (Q : Value → World → Prop) : vcFn Try.prog F33.an 33 [Value.pointer x0] w Q = F33.vc x0 w Q := by kernel_rfl
theorem F33.of (x0 : Option Addr) (w : World) {Q : Value → World → Prop} (h : F33.vc x0 w Q) : Calls Try.prog 33 #[Value.pointer x0] w (fun e w' => ∃ v, e = .returned v ∧ Q v w') := vcFn_sound noCount mixed ((F33.eq x0 w Q).symm ▸ h)
/-! ### function 34: (*stillage/slots.Table[stillage/api.Entry]).find -/
def F34.b2c (Q : Value → World → Prop) (C2 : (Option Addr × (Nat × Nat) × Int × Unit) → World → Prop) (x0 : Option Addr) (x3 : (Nat × Nat)) (x6 : Int) (w : World) : Prop :=
  dr x0 fun b7 o8 =>
  ldSl w b7 o8 fun A9 n10 c11 =>
  dr A9 fun b12 o13 =>
  gd (decide (0 ≤ x6)) <|
  gd (decide (x6 < ((n10 : Nat) : Int))) <|
  ldB w b12 (o13 + (x6).toNat * 71) fun t14 =>
  vIf (!t14)
  (Q (Value.tuple #[Value.int .i64 x6, Value.bool false]) w)
  (ldA 32 w.drew b12 ((o13 + (x6).toNat * 71) + 1) fun a15 =>
    ldA 32 w.drew x3.1 x3.2 fun a16 =>
    eqAB 32 a15 a16 fun t17 =>
    vIf t17
    (Q (Value.tuple #[Value.int .i64 x6, Value.bool true]) w.drew)
    (dr x0 fun b18 o19 =>
      ldSl w.drew b18 o19 fun A20 n21 c22 =>
      gd (decide (((n21 : Nat) : Int) ≠ 0)) <|
      jnC C2 (x0, (x3.1, x3.2), ((Int.tmod (IntKind.wrap .i64 (x6 + 1)) ((n21 : Nat) : Int))), ()) w.drew))
def F34.b2 (Q : Value → World → Prop) : (Option Addr × (Nat × Nat) × Int × Unit) → World → ((Option Addr × (Nat × Nat) × Int × Unit) → World → Prop) → Prop := fun s w C2 => ∀ _ : Nat → Value, F34.b2c Q C2 s.1 s.2.1 s.2.2.1 w
def F34.l2 (Q : Value → World → Prop) : (Option Addr × (Nat × Nat) × Int × Unit) → World → Prop := fun s w => ∃ n, loopC (F34.b2 Q) n s w
def F34.vc (x0 : Option Addr) (x1 : List Value) (w : World) (Q : Value → World → Prop) : Prop :=
  nw w x1 29 fun b1 w2 =>
  ldA 32 w2 b1 0 fun a3 =>
  Calls Try.prog 47 #[Value.pointer x0, ofL a3] w2 fun e5 w4 =>
  ∃ i6 : Int, e5 = .returned (Value.int .i64 i6) ∧ (
    jnC (F34.l2 Q) (x0, (b1, 0), (i6), ()) w4)
def F34.an : Ann := ⟨[(2, [(0, .kP), (3, .kL), (6, .kI .i64)])], []⟩
theorem F34.eq (x0 : Option Addr) (x1 : List Value) (w : World) (Q : Value → World → Prop) : vcFn Try.prog F34.an 34 [Value.pointer x0, ofL x1] w Q = F34.vc x0 x1 w Q := by kernel_rfl
theorem F34.of (x0 : Option Addr) (x1 : List Value) (w : World) {Q : Value → World → Prop} (h : F34.vc x0 x1 w Q) : Calls Try.prog 34 #[Value.pointer x0, ofL x1] w (fun e w' => ∃ v, e = .returned v ∧ Q v w') := vcFn_sound noCount mixed ((F34.eq x0 x1 w Q).symm ▸ h)
/-! ### function 35: (*stillage/slots.Table[stillage/api.Entry]).grow -/
def F35.b3c (Q : Value → World → Prop) (C3 : (Option Addr × (Option Addr × Nat × Nat) × Int × Int × Unit) → World → Prop) (x0 : Option Addr) (x18 : (Option Addr × Nat × Nat)) (x19 : Int) (x20 : Int) (w : World) : Prop :=
  vIf (decide (x20 < x19))
  (dr x18.1 fun b11 o12 =>
    gd (decide (0 ≤ x20)) <|
    gd (decide (x20 < ((x18.2.1 : Nat) : Int))) <|
    ldA 71 w b11 (o12 + (x20).toNat * 71) fun a13 =>
    nw w Z79 79 fun b14 w15 =>
    gd (a13.length == 71) <|
    st w15 b14 0 a13 fun w16 =>
    ldB w16 b14 0 fun t17 =>
    vIf t17
    (ldA 32 w16 b14 (0 + 1) fun a18 =>
      Calls Try.prog 34 #[Value.pointer x0, ofL a18] w16 fun e20 w19 =>
      ∃ i21 : Int, ∃ t22 : Bool, e20 = .returned (Value.tuple #[Value.int .i64 i21, Value.bool t22]) ∧ (
        dr x0 fun b23 o24 =>
        ldSl w19.drew b23 o24 fun A25 n26 c27 =>
        ldA 71 w19.drew b14 0 fun a28 =>
        dr A25 fun b29 o30 =>
        gd (decide (0 ≤ i21)) <|
        gd (decide (i21 < ((n26 : Nat) : Int))) <|
        gd (a28.length == 71) <|
        st w19.drew b29 (o30 + (i21).toNat * 71) a28 fun w31 =>
        jnC C3 (x0, (x18.1, x18.2.1, x18.2.2), (x19), ((IntKind.wrap .i64 (x20 + 1))), ()) w31))
    (jnC C3 (x0, (x18.1, x18.2.1, x18.2.2), (x19), ((IntKind.wrap .i64 (x20 + 1))), ()) w16))
  (Q (Value.tuple #[]) w)
def F35.b3 (Q : Value → World → Prop) : (Option Addr × (Option Addr × Nat × Nat) × Int × Int × Unit) → World → ((Option Addr × (Option Addr × Nat × Nat) × Int × Int × Unit) → World → Prop) → Prop := fun s w C3 => ∀ _ : Nat → Value, F35.b3c Q C3 s.1 s.2.1 s.2.2.1 s.2.2.2.1 w
def F35.l3 (Q : Value → World → Prop) : (Option Addr × (Option Addr × Nat × Nat) × Int × Int × Unit) → World → Prop := fun s w => ∃ n, loopC (F35.b3 Q) n s w
def F35.vc (x0 : Option Addr) (w : World) (Q : Value → World → Prop) : Prop :=
  dr x0 fun b1 o2 =>
  ldSl w b1 o2 fun A3 n4 c5 =>
  gd (decide (0 ≤ (IntKind.wrap .i64 (2 * ((n4 : Nat) : Int))))) <|
  gd (decide ((IntKind.wrap .i64 (2 * ((n4 : Nat) : Int))) ≤ (IntKind.wrap .i64 (2 * ((n4 : Nat) : Int))))) <|
  gd (decide ((IntKind.wrap .i64 (2 * ((n4 : Nat) : Int))) * 136 ≤ 281474976710656 ∧ (IntKind.wrap .i64 (2 * ((n4 : Nat) : Int))) ≤ 9223372036854775807)) <|
  nw w (zeros ((IntKind.wrap .i64 (2 * ((n4 : Nat) : Int)))).toNat Z79) 79 fun b6 w7 =>
  dr x0 fun b8 o9 =>
  st w7 b8 o9 [Value.slice (some ⟨b6, 0, none⟩) ((IntKind.wrap .i64 (2 * ((n4 : Nat) : Int)))).toNat ((IntKind.wrap .i64 (2 * ((n4 : Nat) : Int)))).toNat] fun w10 =>
  jnC (F35.l3 Q) (x0, (A3, n4, c5), (((n4 : Nat) : Int)), (0), ()) w10
def F35.an : Ann := ⟨[(3, [(0, .kP), (18, .kSl), (19, .kI .i64), (20, .kI .i64)])], []⟩
theorem F35.eq (x0 : Option Addr) (w : World) (Q : Value → World → Prop) : vcFn Try.prog F35.an 35 [Value.pointer x0] w Q = F35.vc x0 w Q := by kernel_rfl
theorem F35.of (x0 : Option Addr) (w : World) {Q : Value → World → Prop} (h : F35.vc x0 w Q) : Calls Try.prog 35 #[Value.pointer x0] w (fun e w' => ∃ v, e = .returned v ∧ Q v w') := vcFn_sound noCount mixed ((F35.eq x0 w Q).symm ▸ h)
/-! ### function 36: slices.Clone[[]int,int] -/
def F36.vc (x0A : Option Addr) (x0n x0c : Nat) (w : World) (Q : Value → World → Prop) : Prop :=
  vIf x0A.isNone
  (Q (Value.slice none 0 0) w)
  (nw w [] 3 fun b1 w2 =>
    app w2 1 8 [Value.int .i64 0] 3 (some ⟨b1, 0, none⟩) 0 0 (Value.slice x0A x0n x0c) fun A3 n4 c5 w6 =>
    Q (Value.slice A3 n4 c5) w6)
def F36.an : Ann := ⟨[], []⟩
theorem F36.eq (x0A : Option Addr) (x0n x0c : Nat) (w : World) (Q : Value → World → Prop) : vcFn Try.prog F36.an 36 [Value.slice x0A x0n x0c] w Q = F36.vc x0A x0n x0c w Q := by kernel_rfl
theorem F36.of (x0A : Option Addr) (x0n x0c : Nat) (w : World) {Q : Value → World → Prop} (h : F36.vc x0A x0n x0c w Q) : Calls Try.prog 36 #[Value.slice x0A x0n x0c] w (fun e w' => ∃ v, e = .returned v ∧ Q v w') := vcFn_sound noCount mixed ((F36.eq x0A x0n x0c w Q).symm ▸ h)
/-! ### function 37: stillage/stillageref06.Less -/
def F37.b2c (Q : Value → World → Prop) (C2 : ((Nat × Nat) × (Nat × Nat) × Int × Unit) → World → Prop) (x2 : (Nat × Nat)) (x3 : (Nat × Nat)) (x5 : Int) (w : World) : Prop :=
  vIf (decide (x5 < 32))
  (gd (decide (0 ≤ x5)) <|
    gd (decide (x5 < 32)) <|
    ldI .u8 w.drew x2.1 (x2.2 + (x5).toNat * 1) fun i5 =>
    gd (decide (0 ≤ x5)) <|
    gd (decide (x5 < 32)) <|
    ldI .u8 w.drew x3.1 (x3.2 + (x5).toNat * 1) fun i6 =>
    vIf (i5 != i6)
    (gd (decide (0 ≤ x5)) <|
      gd (decide (x5 < 32)) <|
      ldI .u8 w.drew.drew x2.1 (x2.2 + (x5).toNat * 1) fun i7 =>
      gd (decide (0 ≤ x5)) <|
      gd (decide (x5 < 32)) <|
      ldI .u8 w.drew.drew x3.1 (x3.2 + (x5).toNat * 1) fun i8 =>
      Q (Value.bool (decide (i7 < i8))) w.drew.drew)
    (jnC C2 ((x2.1, x2.2), (x3.1, x3.2), ((IntKind.wrap .i64 (x5 + 1))), ()) w.drew))
  (Q (Value.bool false) w)
def F37.b2 (Q : Value → World → Prop) : ((Nat × Nat) × (Nat × Nat) × Int × Unit) → World → (((Nat × Nat) × (Nat × Nat) × Int × Unit) → World → Prop) → Prop := fun s w C2 => ∀ _ : Nat → Value, F37.b2c Q C2 s.1 s.2.1 s.2.2.1 w
def F37.l2 (Q : Value → World → Prop) : ((Nat × Nat) × (Nat × Nat) × Int × Unit) → World → Prop := fun s w => ∃ n, loopC (F37.b2 Q) n s w
def F37.vc (x0 : List Value) (x1 : List Value) (w : World) (Q : Value → World → Prop) : Prop :=
  nw w x0 29 fun b1 w2 =>
  nw w2 x1 29 fun b3 w4 =>
  jnC (F37.l2 Q) ((b1, 0), (b3, 0), (0), ()) w4
def F37.an : Ann := ⟨[(2, [(2, .kL), (3, .kL), (5, .kI .i64)])], []⟩
theorem F37.eq (x0 : List Value) (x1 : List Value) (w : World) (Q : Value → World → Prop) : vcFn Try.prog F37.an 37 [ofL x0, ofL x1] w Q = F37.vc x0 x1 w Q := by kernel_rfl
theorem F37.of (x0 : List Value) (x1 : List Value) (w : World) {Q : Value → World → Prop} (h : F37.vc x0 x1 w Q) : Calls Try.prog 37 #[ofL x0, ofL x1] w (fun e w' => ∃ v, e = .returned v ∧ Q v w') := vcFn_sound noCount mixed ((F37.eq x0 x1 w Q).symm ▸ h)
/-! ### function 38: stillage/entry.row -/
def F38.vc (x0A : Option Addr) (x0n x0c : Nat) (w : World) (Q : Value → World → Prop) : Prop :=
  Calls Try.prog 48 #[Value.slice x0A x0n x0c] w fun e2 w1 =>
  ∃ (A3 : Option Addr) (n4 c5 : Nat), e2 = .returned (Value.slice A3 n4 c5) ∧ (
    Calls Try.prog 49 #[Value.slice A3 n4 c5] w1 fun e7 w6 =>
    e7 = .returned (Value.tuple #[]) ∧ (
      Calls Try.prog 50 #[Value.slice A3 n4 c5] w6 fun e9 w8 =>
      ∃ (A10 : Option Addr) (n11 c12 : Nat), e9 = .returned (Value.slice A10 n11 c12) ∧ (
        Q (Value.slice A10 n11 c12) w8)))
def F38.an : Ann := ⟨[], []⟩
theorem F38.eq (x0A : Option Addr) (x0n x0c : Nat) (w : World) (Q : Value → World → Prop) : vcFn Try.prog F38.an 38 [Value.slice x0A x0n x0c] w Q = F38.vc x0A x0n x0c w Q := by kernel_rfl
theorem F38.of (x0A : Option Addr) (x0n x0c : Nat) (w : World) {Q : Value → World → Prop} (h : F38.vc x0A x0n x0c w Q) : Calls Try.prog 38 #[Value.slice x0A x0n x0c] w (fun e w' => ∃ v, e = .returned v ∧ Q v w') := vcFn_sound noCount mixed ((F38.eq x0A x0n x0c w Q).symm ▸ h)
/-! ### function 39: stillage/stillageref19.Add -/
def F39.k10c (Q : Value → World → Prop) (C4 : ((Option Addr × Nat × Nat) × Int × (Option Addr × Nat × Nat) × Bool × Int × Unit) → World → Prop) (x0 : (Option Addr × Nat × Nat)) (x1 : Int) (x5 : (Option Addr × Nat × Nat)) (x6 : Bool) (x7 : Int) (w : World) : Prop :=
  dr x0.1 fun b13 o14 =>
  gd (decide (0 ≤ x7)) <|
  gd (decide (x7 < ((x0.2.1 : Nat) : Int))) <|
  ldI .i64 w b13 (o14 + (x7).toNat * 1) fun i15 =>
  nw w ([Value.int .i64 i15] ++ []) 3 fun b16 w17 =>
  app w17 1 8 [Value.int .i64 0] 3 x5.1 x5.2.1 x5.2.2 (Value.slice (some ⟨b16, 0, none⟩) 1 1) fun A18 n19 c20 w21 =>
  jnC C4 ((x0.1, x0.2.1, x0.2.2), (x1), (A18, n19, c20), x6, ((IntKind.wrap .i64 (x7 + 1))), ()) w21
def F39.k10 (Q : Value → World → Prop) (C4 : ((Option Addr × Nat × Nat) × Int × (Option Addr × Nat × Nat) × Bool × Int × Unit) → World → Prop) : ((Option Addr × Nat × Nat) × Int × (Option Addr × Nat × Nat) × Bool × Int × Unit) → World → Prop := fun s w => ∀ _ : Nat → Value, F39.k10c Q C4 s.1 s.2.1 s.2.2.1 s.2.2.2.1 s.2.2.2.2.1 w
def F39.k7c (Q : Value → World → Prop) (C4 : ((Option Addr × Nat × Nat) × Int × (Option Addr × Nat × Nat) × Bool × Int × Unit) → World → Prop) (x0 : (Option Addr × Nat × Nat)) (x1 : Int) (x5 : (Option Addr × Nat × Nat)) (x6 : Bool) (x7 : Int) (x23 : Bool) (w : World) : Prop :=
  vIf x23
  (dr x0.1 fun b4 o5 =>
    gd (decide (0 ≤ x7)) <|
    gd (decide (x7 < ((x0.2.1 : Nat) : Int))) <|
    ldI .i64 w b4 (o5 + (x7).toNat * 1) fun i6 =>
    vIf (decide (x1 < i6))
    (nw w ([Value.int .i64 x1] ++ []) 3 fun b7 w8 =>
      app w8 1 8 [Value.int .i64 0] 3 x5.1 x5.2.1 x5.2.2 (Value.slice (some ⟨b7, 0, none⟩) 1 1) fun A9 n10 c11 w12 =>
      jnC (F39.k10 Q C4) ((x0.1, x0.2.1, x0.2.2), (x1), (A9, n10, c11), true, (x7), ()) w12)
    (jnC (F39.k10 Q C4) ((x0.1, x0.2.1, x0.2.2), (x1), (x5.1, x5.2.1, x5.2.2), true, (x7), ()) w))
  (jnC (F39.k10 Q C4) ((x0.1, x0.2.1, x0.2.2), (x1), (x5.1, x5.2.1, x5.2.2), x6, (x7), ()) w)
def F39.k7 (Q : Value → World → Prop) (C4 : ((Option Addr × Nat × Nat) × Int × (Option Addr × Nat × Nat) × Bool × Int × Unit) → World → Prop) : ((Option Addr × Nat × Nat) × Int × (Option Addr × Nat × Nat) × Bool × Int × Bool × Unit) → World → Prop := fun s w => ∀ _ : Nat → Value, F39.k7c Q C4 s.1 s.2.1 s.2.2.1 s.2.2.2.1 s.2.2.2.2.1 s.2.2.2.2.2.1 w
def F39.b4c (Q : Value → World → Prop) (C4 : ((Option Addr × Nat × Nat) × Int × (Option Addr × Nat × Nat) × Bool × Int × Unit) → World → Prop) (x0 : (Option Addr × Nat × Nat)) (x1 : Int) (x5 : (Option Addr × Nat × Nat)) (x6 : Bool) (x7 : Int) (w : World) : Prop :=
  vIf (decide (x7 < ((x0.2.1 : Nat) : Int)))
  (vIf (!x6)
    (dr x0.1 fun b1 o2 =>
      gd (decide (0 ≤ x7)) <|
      gd (decide (x7 < ((x0.2.1 : Nat) : Int))) <|
      ldI .i64 w b1 (o2 + (x7).toNat * 1) fun i3 =>
      jnC (F39.k7 Q C4) ((x0.1, x0.2.1, x0.2.2), (x1), (x5.1, x5.2.1, x5.2.2), x6, (x7), (decide (x1 ≤ i3)), ()) w)
    (jnC (F39.k7 Q C4) ((x0.1, x0.2.1, x0.2.2), (x1), (x5.1, x5.2.1, x5.2.2), x6, (x7), false, ()) w))
  (vIf (!x6)
    (nw w ([Value.int .i64 x1] ++ []) 3 fun b22 w23 =>
      app w23 1 8 [Value.int .i64 0] 3 x5.1 x5.2.1 x5.2.2 (Value.slice (some ⟨b22, 0, none⟩) 1 1) fun A24 n25 c26 w27 =>
      Q (Value.slice A24 n25 c26) w27)
    (Q (Value.slice x5.1 x5.2.1 x5.2.2) w))
def F39.b4 (Q : Value → World → Prop) : ((Option Addr × Nat × Nat) × Int × (Option Addr × Nat × Nat) × Bool × Int × Unit) → World → (((Option Addr × Nat × Nat) × Int × (Option Addr × Nat × Nat) × Bool × Int × Unit) → World → Prop) → Prop := fun s w C4 => ∀ _ : Nat → Value, F39.b4c Q C4 s.1 s.2.1 s.2.2.1 s.2.2.2.1 s.2.2.2.2.1 w
def F39.l4 (Q : Value → World → Prop) : ((Option Addr × Nat × Nat) × Int × (Option Addr × Nat × Nat) × Bool × Int × Unit) → World → Prop := fun s w => ∃ n, loopC (F39.b4 Q) n s w
def F39.vc (x0A : Option Addr) (x0n x0c : Nat) (x1 : Int) (w : World) (Q : Value → World → Prop) : Prop :=
  jnC (F39.l4 Q) ((x0A, x0n, x0c), (x1), (none, 0, 0), false, (0), ()) w
def F39.an : Ann := ⟨[(4, [(0, .kSl), (1, .kI .i64), (5, .kSl), (6, .kB), (7, .kI .i64)])], [(7, [(0, .kSl), (1, .kI .i64), (5, .kSl), (6, .kB), (7, .kI .i64), (23, .kB)]), (10, [(0, .kSl), (1, .kI .i64), (5, .kSl), (6, .kB), (7, .kI .i64)])]⟩
theorem F39.eq (x0A : Option Addr) (x0n x0c : Nat) (x1 : Int) (w : World) (Q : Value → World → Prop) : vcFn Try.prog F39.an 39 [Value.slice x0A x0n x0c, Value.int .i64 x1] w Q = F39.vc x0A x0n x0c x1 w Q := by kernel_rfl
theorem F39.of (x0A : Option Addr) (x0n x0c : Nat) (x1 : Int) (w : World) {Q : Value → World → Prop} (h : F39.vc x0A x0n x0c x1 w Q) : Calls Try.prog 39 #[Value.slice x0A x0n x0c, Value.int .i64 x1] w (fun e w' => ∃ v, e = .returned v ∧ Q v w') := vcFn_sound noCount mixed ((F39.eq x0A x0n x0c x1 w Q).symm ▸ h)
/-! ### function 40: stillage/stillageref19.Row -/
def F40.b3c (Q : Value → World → Prop) (C3 : ((Option Addr × Nat × Nat) × (Option Addr × Nat × Nat) × Int × Unit) → World → Prop) (x0 : (Option Addr × Nat × Nat)) (x3 : (Option Addr × Nat × Nat)) (x4 : Int) (w : World) : Prop :=
  vIf (decide (x4 < ((x0.2.1 : Nat) : Int)))
  (dr x0.1 fun b1 o2 =>
    gd (decide (0 ≤ x4)) <|
    gd (decide (x4 < ((x0.2.1 : Nat) : Int))) <|
    ldI .i64 w b1 (o2 + (x4).toNat * 1) fun i3 =>
    Calls Try.prog 39 #[Value.slice x3.1 x3.2.1 x3.2.2, Value.int .i64 i3] w fun e5 w4 =>
    ∃ (A6 : Option Addr) (n7 c8 : Nat), e5 = .returned (Value.slice A6 n7 c8) ∧ (
      jnC C3 ((x0.1, x0.2.1, x0.2.2), (A6, n7, c8), ((IntKind.wrap .i64 (x4 + 1))), ()) w4))
  (Q (Value.slice x3.1 x3.2.1 x3.2.2) w)
def F40.b3 (Q : Value → World → Prop) : ((Option Addr × Nat × Nat) × (Option Addr × Nat × Nat) × Int × Unit) → World → (((Option Addr × Nat × Nat) × (Option Addr × Nat × Nat) × Int × Unit) → World → Prop) → Prop := fun s w C3 => ∀ _ : Nat → Value, F40.b3c Q C3 s.1 s.2.1 s.2.2.1 w
def F40.l3 (Q : Value → World → Prop) : ((Option Addr × Nat × Nat) × (Option Addr × Nat × Nat) × Int × Unit) → World → Prop := fun s w => ∃ n, loopC (F40.b3 Q) n s w
def F40.vc (x0A : Option Addr) (x0n x0c : Nat) (w : World) (Q : Value → World → Prop) : Prop :=
  jnC (F40.l3 Q) ((x0A, x0n, x0c), (none, 0, 0), (0), ()) w
def F40.an : Ann := ⟨[(3, [(0, .kSl), (3, .kSl), (4, .kI .i64)])], []⟩
theorem F40.eq (x0A : Option Addr) (x0n x0c : Nat) (w : World) (Q : Value → World → Prop) : vcFn Try.prog F40.an 40 [Value.slice x0A x0n x0c] w Q = F40.vc x0A x0n x0c w Q := by kernel_rfl
theorem F40.of (x0A : Option Addr) (x0n x0c : Nat) (w : World) {Q : Value → World → Prop} (h : F40.vc x0A x0n x0c w Q) : Calls Try.prog 40 #[Value.slice x0A x0n x0c] w (fun e w' => ∃ v, e = .returned v ∧ Q v w') := vcFn_sound noCount mixed ((F40.eq x0A x0n x0c w Q).symm ▸ h)
/-! ### function 41: stillage/entry.left -/
def F41.vc (x0A : Option Addr) (x0n x0c : Nat) (x1A : Option Addr) (x1n x1c : Nat) (w : World) (Q : Value → World → Prop) : Prop :=
  nw w [Value.slice x1A x1n x1c] 34 fun b1 w2 =>
  nw w2 ([Value.slice x0A x0n x0c] ++ []) 34 fun b3 w4 =>
  Calls Try.prog 38 #[Value.slice (some ⟨b3, 0, none⟩) 1 1] w4 fun e6 w5 =>
  ∃ (A7 : Option Addr) (n8 c9 : Nat), e6 = .returned (Value.slice A7 n8 c9) ∧ (
    Calls Try.prog 51 #[Value.slice A7 n8 c9, Value.func (.func 52) #[] #[Value.pointer (some ⟨b1, 0, none⟩)]] w5 fun e11 w10 =>
    ∃ (A12 : Option Addr) (n13 c14 : Nat), e11 = .returned (Value.slice A12 n13 c14) ∧ (
      Q (Value.slice A12 n13 c14) w10))
def F41.an : Ann := ⟨[], []⟩
theorem F41.eq (x0A : Option Addr) (x0n x0c : Nat) (x1A : Option Addr) (x1n x1c : Nat) (w : World) (Q : Value → World → Prop) : vcFn Try.prog F41.an 41 [Value.slice x0A x0n x0c, Value.slice x1A x1n x1c] w Q = F41.vc x0A x0n x0c x1A x1n x1c w Q := by kernel_rfl
theorem F41.of (x0A : Option Addr) (x0n x0c : Nat) (x1A : Option Addr) (x1n x1c : Nat) (w : World) {Q : Value → World → Prop} (h : F41.vc x0A x0n x0c x1A x1n x1c w Q) : Calls Try.prog 41 #[Value.slice x0A x0n x0c, Value.slice x1A x1n x1c] w (fun e w' => ∃ v, e = .returned v ∧ Q v w') := vcFn_sound noCount mixed ((F41.eq x0A x0n x0c x1A x1n x1c w Q).symm ▸ h)
/-! ### function 42: slices.Contains[[]int,int] -/
def F42.vc (x0A : Option Addr) (x0n x0c : Nat) (x1 : Int) (w : World) (Q : Value → World → Prop) : Prop :=
  Calls Try.prog 53 #[Value.slice x0A x0n x0c, Value.int .i64 x1] w fun e2 w1 =>
  ∃ i3 : Int, e2 = .returned (Value.int .i64 i3) ∧ (
    Q (Value.bool (decide (i3 ≥ 0))) w1)
def F42.an : Ann := ⟨[], []⟩
theorem F42.eq (x0A : Option Addr) (x0n x0c : Nat) (x1 : Int) (w : World) (Q : Value → World → Prop) : vcFn Try.prog F42.an 42 [Value.slice x0A x0n x0c, Value.int .i64 x1] w Q = F42.vc x0A x0n x0c x1 w Q := by kernel_rfl
theorem F42.of (x0A : Option Addr) (x0n x0c : Nat) (x1 : Int) (w : World) {Q : Value → World → Prop} (h : F42.vc x0A x0n x0c x1 w Q) : Calls Try.prog 42 #[Value.slice x0A x0n x0c, Value.int .i64 x1] w (fun e w' => ∃ v, e = .returned v ∧ Q v w') := vcFn_sound noCount mixed ((F42.eq x0A x0n x0c x1 w Q).symm ▸ h)
/-! ### function 43: (*stillage/slots.Table[stillage/api.Entry]).between -/
def F43.vc (x0 : Option Addr) (x1 : Int) (x2 : Int) (w : World) (Q : Value → World → Prop) : Prop :=
  dr x0 fun b1 o2 =>
  ldSl w b1 o2 fun A3 n4 c5 =>
  dr A3 fun b6 o7 =>
  gd (decide (0 ≤ x2)) <|
  gd (decide (x2 < ((n4 : Nat) : Int))) <|
  ldA 32 w b6 ((o7 + (x2).toNat * 71) + 1) fun a8 =>
  Calls Try.prog 47 #[Value.pointer x0, ofL a8] w fun e10 w9 =>
  ∃ i11 : Int, e10 = .returned (Value.int .i64 i11) ∧ (
    dr x0 fun b12 o13 =>
    ldSl w9 b12 o13 fun A14 n15 c16 =>
    gd (decide (((n15 : Nat) : Int) ≠ 0)) <|
    gd (decide (((n15 : Nat) : Int) ≠ 0)) <|
    Q (Value.bool (decide ((Int.tmod (IntKind.wrap .i64 ((IntKind.wrap .i64 ((IntKind.wrap .i64 (i11 - x1)) - 1)) + ((n15 : Nat) : Int))) ((n15 : Nat) : Int)) < (Int.tmod (IntKind.wrap .i64 ((IntKind.wrap .i64 (x2 - x1)) + ((n15 : Nat) : Int))) ((n15 : Nat) : Int))))) w9.drew)
def F43.an : Ann := ⟨[], []⟩
theorem F43.eq (x0 : Option Addr) (x1 : Int) (x2 : Int) (w : World) (Q : Value → World → Prop) : vcFn Try.prog F43.an 43 [Value.pointer x0, Value.int .i64 x1, Value.int .i64 x2] w Q = F43.vc x0 x1 x2 w Q := by kernel_rfl
theorem F43.of (x0 : Option Addr) (x1 : Int) (x2 : Int) (w : World) {Q : Value → World → Prop} (h : F43.vc x0 x1 x2 w Q) : Calls Try.prog 43 #[Value.pointer x0, Value.int .i64 x1, Value.int .i64 x2] w (fun e w' => ∃ v, e = .returned v ∧ Q v w') := vcFn_sound noCount mixed ((F43.eq x0 x1 x2 w Q).symm ▸ h)
/-! ### function 44: stillage/stillageref19.both -/
def F44.b3c (Q : Value → World → Prop) (C3 : ((Option Addr × Nat × Nat) × (Option Addr × Nat × Nat) × (Option Addr × Nat × Nat) × Int × Unit) → World → Prop) (x0 : (Option Addr × Nat × Nat)) (x1 : (Option Addr × Nat × Nat)) (x5 : (Option Addr × Nat × Nat)) (x6 : Int) (w : World) : Prop :=
  vIf (decide (x6 < ((x0.2.1 : Nat) : Int)))
  (dr x0.1 fun b1 o2 =>
    gd (decide (0 ≤ x6)) <|
    gd (decide (x6 < ((x0.2.1 : Nat) : Int))) <|
    ldI .i64 w b1 (o2 + (x6).toNat * 1) fun i3 =>
    Calls Try.prog 45 #[Value.slice x1.1 x1.2.1 x1.2.2, Value.int .i64 i3] w fun e5 w4 =>
    ∃ t6 : Bool, e5 = .returned (Value.bool t6) ∧ (
      vIf t6
      (dr x0.1 fun b7 o8 =>
        gd (decide (0 ≤ x6)) <|
        gd (decide (x6 < ((x0.2.1 : Nat) : Int))) <|
        ldI .i64 w4 b7 (o8 + (x6).toNat * 1) fun i9 =>
        Calls Try.prog 39 #[Value.slice x5.1 x5.2.1 x5.2.2, Value.int .i64 i9] w4 fun e11 w10 =>
        ∃ (A12 : Option Addr) (n13 c14 : Nat), e11 = .returned (Value.slice A12 n13 c14) ∧ (
          jnC C3 ((x0.1, x0.2.1, x0.2.2), (x1.1, x1.2.1, x1.2.2), (A12, n13, c14), ((IntKind.wrap .i64 (x6 + 1))), ()) w10))
      (jnC C3 ((x0.1, x0.2.1, x0.2.2), (x1.1, x1.2.1, x1.2.2), (x5.1, x5.2.1, x5.2.2), ((IntKind.wrap .i64 (x6 + 1))), ()) w4)))
  (Q (Value.slice x5.1 x5.2.1 x5.2.2) w)
def F44.b3 (Q : Value → World → Prop) : ((Option Addr × Nat × Nat) × (Option Addr × Nat × Nat) × (Option Addr × Nat × Nat) × Int × Unit) → World → (((Option Addr × Nat × Nat) × (Option Addr × Nat × Nat) × (Option Addr × Nat × Nat) × Int × Unit) → World → Prop) → Prop := fun s w C3 => ∀ _ : Nat → Value, F44.b3c Q C3 s.1 s.2.1 s.2.2.1 s.2.2.2.1 w
def F44.l3 (Q : Value → World → Prop) : ((Option Addr × Nat × Nat) × (Option Addr × Nat × Nat) × (Option Addr × Nat × Nat) × Int × Unit) → World → Prop := fun s w => ∃ n, loopC (F44.b3 Q) n s w
def F44.vc (x0A : Option Addr) (x0n x0c : Nat) (x1A : Option Addr) (x1n x1c : Nat) (w : World) (Q : Value → World → Prop) : Prop :=
  jnC (F44.l3 Q) ((x0A, x0n, x0c), (x1A, x1n, x1c), (none, 0, 0), (0), ()) w
def F44.an : Ann := ⟨[(3, [(0, .kSl), (1, .kSl), (5, .kSl), (6, .kI .i64)])], []⟩
theorem F44.eq (x0A : Option Addr) (x0n x0c : Nat) (x1A : Option Addr) (x1n x1c : Nat) (w : World) (Q : Value → World → Prop) : vcFn Try.prog F44.an 44 [Value.slice x0A x0n x0c, Value.slice x1A x1n x1c] w Q = F44.vc x0A x0n x0c x1A x1n x1c w Q := by kernel_rfl
theorem F44.of (x0A : Option Addr) (x0n x0c : Nat) (x1A : Option Addr) (x1n x1c : Nat) (w : World) {Q : Value → World → Prop} (h : F44.vc x0A x0n x0c x1A x1n x1c w Q) : Calls Try.prog 44 #[Value.slice x0A x0n x0c, Value.slice x1A x1n x1c] w (fun e w' => ∃ v, e = .returned v ∧ Q v w') := vcFn_sound noCount mixed ((F44.eq x0A x0n x0c x1A x1n x1c w Q).symm ▸ h)
/-! ### function 45: stillage/stillageref19.in -/
def F45.b2c (Q : Value → World → Prop) (C2 : ((Option Addr × Nat × Nat) × Int × Int × Unit) → World → Prop) (x0 : (Option Addr × Nat × Nat)) (x1 : Int) (x5 : Int) (w : World) : Prop :=
  vIf (decide (x5 < ((x0.2.1 : Nat) : Int)))
  (dr x0.1 fun b1 o2 =>
    gd (decide (0 ≤ x5)) <|
    gd (decide (x5 < ((x0.2.1 : Nat) : Int))) <|
    ldI .i64 w b1 (o2 + (x5).toNat * 1) fun i3 =>
    vIf (i3 == x1)
    (Q (Value.bool true) w)
    (jnC C2 ((x0.1, x0.2.1, x0.2.2), (x1), ((IntKind.wrap .i64 (x5 + 1))), ()) w))
  (Q (Value.bool false) w)
def F45.b2 (Q : Value → World → Prop) : ((Option Addr × Nat × Nat) × Int × Int × Unit) → World → (((Option Addr × Nat × Nat) × Int × Int × Unit) → World → Prop) → Prop := fun s w C2 => ∀ _ : Nat → Value, F45.b2c Q C2 s.1 s.2.1 s.2.2.1 w
def F45.l2 (Q : Value → World → Prop) : ((Option Addr × Nat × Nat) × Int × Int × Unit) → World → Prop := fun s w => ∃ n, loopC (F45.b2 Q) n s w
def F45.vc (x0A : Option Addr) (x0n x0c : Nat) (x1 : Int) (w : World) (Q : Value → World → Prop) : Prop :=
  jnC (F45.l2 Q) ((x0A, x0n, x0c), (x1), (0), ()) w
def F45.an : Ann := ⟨[(2, [(0, .kSl), (1, .kI .i64), (5, .kI .i64)])], []⟩
theorem F45.eq (x0A : Option Addr) (x0n x0c : Nat) (x1 : Int) (w : World) (Q : Value → World → Prop) : vcFn Try.prog F45.an 45 [Value.slice x0A x0n x0c, Value.int .i64 x1] w Q = F45.vc x0A x0n x0c x1 w Q := by kernel_rfl
theorem F45.of (x0A : Option Addr) (x0n x0c : Nat) (x1 : Int) (w : World) {Q : Value → World → Prop} (h : F45.vc x0A x0n x0c x1 w Q) : Calls Try.prog 45 #[Value.slice x0A x0n x0c, Value.int .i64 x1] w (fun e w' => ∃ v, e = .returned v ∧ Q v w') := vcFn_sound noCount mixed ((F45.eq x0A x0n x0c x1 w Q).symm ▸ h)
/-! ### function 46: stillage/digest.Row -/
def F46.vc (x0A : Option Addr) (x0n x0c : Nat) (w : World) (Q : Value → World → Prop) : Prop :=
  Calls Try.prog 54 #[Value.slice x0A x0n x0c] w fun e2 w1 =>
  ∃ (A3 : Option Addr) (n4 c5 : Nat), e2 = .returned (Value.slice A3 n4 c5) ∧ (
    Calls Try.prog 55 #[Value.slice A3 n4 c5, Value.func (.func 56) #[] #[]] w1 fun e7 w6 =>
    e7 = .returned (Value.tuple #[]) ∧ (
      Calls Try.prog 57 #[Value.slice A3 n4 c5] w6 fun e9 w8 =>
      ∃ (A10 : Option Addr) (n11 c12 : Nat), e9 = .returned (Value.slice A10 n11 c12) ∧ (
        Q (Value.slice A10 n11 c12) w8)))
def F46.an : Ann := ⟨[], []⟩
theorem F46.eq (x0A : Option Addr) (x0n x0c : Nat) (w : World) (Q : Value → World → Prop) : vcFn Try.prog F46.an 46 [Value.slice x0A x0n x0c] w Q = F46.vc x0A x0n x0c w Q := by kernel_rfl
theorem F46.of (x0A : Option Addr) (x0n x0c : Nat) (w : World) {Q : Value → World → Prop} (h : F46.vc x0A x0n x0c w Q) : Calls Try.prog 46 #[Value.slice x0A x0n x0c] w (fun e w' => ∃ v, e = .returned v ∧ Q v w') := vcFn_sound noCount mixed ((F46.eq x0A x0n x0c w Q).symm ▸ h)
/-! ### function 47: (*stillage/slots.Table[stillage/api.Entry]).home -/
def F47.vc (x0 : Option Addr) (x1 : List Value) (w : World) (Q : Value → World → Prop) : Prop :=
  nw w x1 29 fun b1 w2 =>
  ldI .u8 w2.drew b1 0 fun i3 =>
  ldI .u8 w2.drew b1 (0 + 1) fun i4 =>
  dr x0 fun b5 o6 =>
  ldSl w2.drew b5 o6 fun A7 n8 c9 =>
  gd (decide (((n8 : Nat) : Int) ≠ 0)) <|
  Q (Value.int .i64 (Int.tmod (iOr .i64 (IntKind.wrap .i64 i3) (IntKind.wrap .i64 ((IntKind.wrap .i64 i4) * 2 ^ 8))) ((n8 : Nat) : Int))) w2.drew
def F47.an : Ann := ⟨[], []⟩
theorem F47.eq (x0 : Option Addr) (x1 : List Value) (w : World) (Q : Value → World → Prop) : vcFn Try.prog F47.an 47 [Value.pointer x0, ofL x1] w Q = F47.vc x0 x1 w Q := by kernel_rfl
theorem F47.of (x0 : Option Addr) (x1 : List Value) (w : World) {Q : Value → World → Prop} (h : F47.vc x0 x1 w Q) : Calls Try.prog 47 #[Value.pointer x0, ofL x1] w (fun e w' => ∃ v, e = .returned v ∧ Q v w') := vcFn_sound noCount mixed ((F47.eq x0 x1 w Q).symm ▸ h)
/-! ### function 48: slices.Concat[[]int,int] -/
def F48.b11c (Q : Value → World → Prop) (C11 : ((Option Addr × Nat × Nat) × (Option Addr × Nat × Nat) × Int × Int × Unit) → World → Prop) (x6 : (Option Addr × Nat × Nat)) (x25 : (Option Addr × Nat × Nat)) (x26 : Int) (x27 : Int) (w : World) : Prop :=
  vIf (decide (x27 < x26))
  (dr x25.1 fun b11 o12 =>
    gd (decide (0 ≤ x27)) <|
    gd (decide (x27 < ((x25.2.1 : Nat) : Int))) <|
    ldSl w b11 (o12 + (x27).toNat * 1) fun A13 n14 c15 =>
    app w 1 8 [Value.int .i64 0] 3 x6.1 x6.2.1 x6.2.2 (Value.slice A13 n14 c15) fun A16 n17 c18 w19 =>
    jnC C11 ((A16, n17, c18), (x25.1, x25.2.1, x25.2.2), (x26), ((IntKind.wrap .i64 (x27 + 1))), ()) w19)
  (Q (Value.slice x6.1 x6.2.1 x6.2.2) w)
def F48.b11 (Q : Value → World → Prop) : ((Option Addr × Nat × Nat) × (Option Addr × Nat × Nat) × Int × Int × Unit) → World → (((Option Addr × Nat × Nat) × (Option Addr × Nat × Nat) × Int × Int × Unit) → World → Prop) → Prop := fun s w C11 => ∀ _ : Nat → Value, F48.b11c Q C11 s.1 s.2.1 s.2.2.1 s.2.2.2.1 w
def F48.l11 (Q : Value → World → Prop) : ((Option Addr × Nat × Nat) × (Option Addr × Nat × Nat) × Int × Int × Unit) → World → Prop := fun s w => ∃ n, loopC (F48.b11 Q) n s w
def F48.b3c (Q : Value → World → Prop) (C3 : ((Option Addr × Nat × Nat) × Int × (Option Addr × Nat × Nat) × Int × Int × Unit) → World → Prop) (x0 : (Option Addr × Nat × Nat)) (x3 : Int) (x9 : (Option Addr × Nat × Nat)) (x10 : Int) (x11 : Int) (w : World) : Prop :=
  vIf (decide (x11 < x10))
  (dr x9.1 fun b1 o2 =>
    gd (decide (0 ≤ x11)) <|
    gd (decide (x11 < ((x9.2.1 : Nat) : Int))) <|
    ldSl w b1 (o2 + (x11).toNat * 1) fun A3 n4 c5 =>
    vIf (decide ((IntKind.wrap .i64 (x3 + ((n4 : Nat) : Int))) < 0))
    (False)
    (jnC C3 ((x0.1, x0.2.1, x0.2.2), ((IntKind.wrap .i64 (x3 + ((n4 : Nat) : Int)))), (x9.1, x9.2.1, x9.2.2), (x10), ((IntKind.wrap .i64 (x11 + 1))), ()) w))
  (Calls Try.prog 58 #[Value.slice none 0 0, Value.int .i64 x3] w fun e7 w6 =>
    ∃ (A8 : Option Addr) (n9 c10 : Nat), e7 = .returned (Value.slice A8 n9 c10) ∧ (
      jnC (F48.l11 Q) ((A8, n9, c10), (x0.1, x0.2.1, x0.2.2), (((x0.2.1 : Nat) : Int)), (0), ()) w6))
def F48.b3 (Q : Value → World → Prop) : ((Option Addr × Nat × Nat) × Int × (Option Addr × Nat × Nat) × Int × Int × Unit) → World → (((Option Addr × Nat × Nat) × Int × (Option Addr × Nat × Nat) × Int × Int × Unit) → World → Prop) → Prop := fun s w C3 => ∀ _ : Nat → Value, F48.b3c Q C3 s.1 s.2.1 s.2.2.1 s.2.2.2.1 s.2.2.2.2.1 w
def F48.l3 (Q : Value → World → Prop) : ((Option Addr × Nat × Nat) × Int × (Option Addr × Nat × Nat) × Int × Int × Unit) → World → Prop := fun s w => ∃ n, loopC (F48.b3 Q) n s w
def F48.vc (x0A : Option Addr) (x0n x0c : Nat) (w : World) (Q : Value → World → Prop) : Prop :=
  jnC (F48.l3 Q) ((x0A, x0n, x0c), (0), (x0A, x0n, x0c), (((x0n : Nat) : Int)), (0), ()) w
def F48.an : Ann := ⟨[(3, [(0, .kSl), (3, .kI .i64), (9, .kSl), (10, .kI .i64), (11, .kI .i64)]), (11, [(6, .kSl), (25, .kSl), (26, .kI .i64), (27, .kI .i64)])], []⟩
theorem F48.eq (x0A : Option Addr) (x0n x0c : Nat) (w : World) (Q : Value → World → Prop) : vcFn Try.prog F48.an 48 [Value.slice x0A x0n x0c] w Q = F48.vc x0A x0n x0c w Q := by kernel_rfl
theorem F48.of (x0A : Option Addr) (x0n x0c : Nat) (w : World) {Q : Value → World → Prop} (h : F48.vc x0A x0n x0c w Q) : Calls Try.prog 48 #[Value.slice x0A x0n x0c] w (fun e w' => ∃ v, e = .returned v ∧ Q v w') := vcFn_sound noCount mixed ((F48.eq x0A x0n x0c w Q).symm ▸ h)
/-! ### function 50: slices.Compact[[]int,int] -/
def F50.k15c (Q : Value → World → Prop) (C4 : ((Option Addr × Nat × Nat) × Int × Unit) → World → Prop) (x0 : (Option Addr × Nat × Nat)) (x3 : Int) (w : World) : Prop :=
  gd (decide (0 ≤ x3)) <|
  gd (decide (x3 ≤ ((x0.2.2 : Nat) : Int))) <|
  Q (Value.slice (slA x0.1 x0.2.2 0 1) (x3).toNat x0.2.2) w
def F50.k15 (Q : Value → World → Prop) (C4 : ((Option Addr × Nat × Nat) × Int × Unit) → World → Prop) : ((Option Addr × Nat × Nat) × Int × Unit) → World → Prop := fun s w => ∀ _ : Nat → Value, F50.k15c Q C4 s.1 s.2.1 w
def F50.b9c (Q : Value → World → Prop) (C4 : ((Option Addr × Nat × Nat) × Int × Unit) → World → Prop) (C9 : ((Option Addr × Nat × Nat) × Int × (Option Addr × Nat × Nat) × Int × Unit) → World → Prop) (x0 : (Option Addr × Nat × Nat)) (x3 : Int) (x4 : (Option Addr × Nat × Nat)) (x5 : Int) (w : World) : Prop :=
  vIf (decide (x5 < ((x4.2.1 : Nat) : Int)))
  (dr x4.1 fun b7 o8 =>
    gd (decide (0 ≤ x5)) <|
    gd (decide (x5 < ((x4.2.1 : Nat) : Int))) <|
    ldI .i64 w.drew b7 (o8 + (x5).toNat * 1) fun i9 =>
    dr x4.1 fun b10 o11 =>
    gd (decide (0 ≤ (IntKind.wrap .i64 (x5 - 1)))) <|
    gd (decide ((IntKind.wrap .i64 (x5 - 1)) < ((x4.2.1 : Nat) : Int))) <|
    ldI .i64 w.drew b10 (o11 + ((IntKind.wrap .i64 (x5 - 1))).toNat * 1) fun i12 =>
    vIf (i9 != i12)
    (dr x4.1 fun b13 o14 =>
      gd (decide (0 ≤ x5)) <|
      gd (decide (x5 < ((x4.2.1 : Nat) : Int))) <|
      ldI .i64 w.drew b13 (o14 + (x5).toNat * 1) fun i15 =>
      dr x0.1 fun b16 o17 =>
      gd (decide (0 ≤ x3)) <|
      gd (decide (x3 < ((x0.2.1 : Nat) : Int))) <|
      st w.drew b16 (o17 + (x3).toNat * 1) [Value.int .i64 i15] fun w18 =>
      jnC C9 ((x0.1, x0.2.1, x0.2.2), ((IntKind.wrap .i64 (x3 + 1))), (x4.1, x4.2.1, x4.2.2), ((IntKind.wrap .i64 (x5 + 1))), ()) w18)
    (jnC C9 ((x0.1, x0.2.1, x0.2.2), (x3), (x4.1, x4.2.1, x4.2.2), ((IntKind.wrap .i64 (x5 + 1))), ()) w.drew))
  (gd (decide (0 ≤ x3)) <|
    gd (decide (x3 ≤ ((x0.2.1 : Nat) : Int))) <|
    vIf ((x0.2.1 - (x3).toNat) == 0)
    (jnC (F50.k15 Q C4) ((x0.1, x0.2.1, x0.2.2), (x3), ()) w)
    (dr (slA x0.1 x0.2.2 (x3).toNat 1) fun b20 o21 =>
      st w b20 o21 (zeros (x0.2.1 - (x3).toNat) [Value.int .i64 0]) fun w19 =>
      jnC (F50.k15 Q C4) ((x0.1, x0.2.1, x0.2.2), (x3), ()) w19))
def F50.b9 (Q : Value → World → Prop) (C4 : ((Option Addr × Nat × Nat) × Int × Unit) → World → Prop) : ((Option Addr × Nat × Nat) × Int × (Option Addr × Nat × Nat) × Int × Unit) → World → (((Option Addr × Nat × Nat) × Int × (Option Addr × Nat × Nat) × Int × Unit) → World → Prop) → Prop := fun s w C9 => ∀ _ : Nat → Value, F50.b9c Q C4 C9 s.1 s.2.1 s.2.2.1 s.2.2.2.1 w
def F50.l9 (Q : Value → World → Prop) (C4 : ((Option Addr × Nat × Nat) × Int × Unit) → World → Prop) : ((Option Addr × Nat × Nat) × Int × (Option Addr × Nat × Nat) × Int × Unit) → World → Prop := fun s w => ∃ n, loopC (F50.b9 Q C4) n s w
def F50.b4c (Q : Value → World → Prop) (C4 : ((Option Addr × Nat × Nat) × Int × Unit) → World → Prop) (x0 : (Option Addr × Nat × Nat)) (x3 : Int) (w : World) : Prop :=
  vIf (decide (x3 < ((x0.2.1 : Nat) : Int)))
  (dr x0.1 fun b1 o2 =>
    gd (decide (0 ≤ x3)) <|
    gd (decide (x3 < ((x0.2.1 : Nat) : Int))) <|
    ldI .i64 w.drew b1 (o2 + (x3).toNat * 1) fun i3 =>
    dr x0.1 fun b4 o5 =>
    gd (decide (0 ≤ (IntKind.wrap .i64 (x3 - 1)))) <|
    gd (decide ((IntKind.wrap .i64 (x3 - 1)) < ((x0.2.1 : Nat) : Int))) <|
    ldI .i64 w.drew b4 (o5 + ((IntKind.wrap .i64 (x3 - 1))).toNat * 1) fun i6 =>
    vIf (i3 == i6)
    (gd (decide (0 ≤ x3)) <|
      gd (decide (x3 ≤ ((x0.2.1 : Nat) : Int))) <|
      jnC (F50.l9 Q C4) ((x0.1, x0.2.1, x0.2.2), (x3), ((slA x0.1 x0.2.2 (x3).toNat 1), (x0.2.1 - (x3).toNat), (x0.2.2 - (x3).toNat)), (1), ()) w.drew)
    (jnC C4 ((x0.1, x0.2.1, x0.2.2), ((IntKind.wrap .i64 (x3 + 1))), ()) w.drew))
  (Q (Value.slice x0.1 x0.2.1 x0.2.2) w)
def F50.b4 (Q : Value → World → Prop) : ((Option Addr × Nat × Nat) × Int × Unit) → World → (((Option Addr × Nat × Nat) × Int × Unit) → World → Prop) → Prop := fun s w C4 => ∀ _ : Nat → Value, F50.b4c Q C4 s.1 s.2.1 w
def F50.l4 (Q : Value → World → Prop) : ((Option Addr × Nat × Nat) × Int × Unit) → World → Prop := fun s w => ∃ n, loopC (F50.b4 Q) n s w
def F50.vc (x0A : Option Addr) (x0n x0c : Nat) (w : World) (Q : Value → World → Prop) : Prop :=
  vIf (decide (((x0n : Nat) : Int) < 2))
  (Q (Value.slice x0A x0n x0c) w)
  (jnC (F50.l4 Q) ((x0A, x0n, x0c), (1), ()) w)
def F50.an : Ann := ⟨[(4, [(0, .kSl), (3, .kI .i64)]), (9, [(0, .kSl), (3, .kI .i64), (4, .kSl), (5, .kI .i64)])], [(15, [(0, .kSl), (3, .kI .i64)])]⟩
theorem F50.eq (x0A : Option Addr) (x0n x0c : Nat) (w : World) (Q : Value → World → Prop) : vcFn Try.prog F50.an 50 [Value.slice x0A x0n x0c] w Q = F50.vc x0A x0n x0c w Q := by kernel_rfl
theorem F50.of (x0A : Option Addr) (x0n x0c : Nat) (w : World) {Q : Value → World → Prop} (h : F50.vc x0A x0n x0c w Q) : Calls Try.prog 50 #[Value.slice x0A x0n x0c] w (fun e w' => ∃ v, e = .returned v ∧ Q v w') := vcFn_sound noCount mixed ((F50.eq x0A x0n x0c w Q).symm ▸ h)
/-! ### function 51: slices.DeleteFunc[[]int,int] -/
def F51s.k12c (Q : Value → World → Prop) (x0 : (Option Addr × Nat × Nat)) (x5 : Int) (w : World) : Prop :=
  gd (decide (0 ≤ x5)) <|
  gd (decide (x5 ≤ ((x0.2.2 : Nat) : Int))) <|
  Q (Value.slice (slA x0.1 x0.2.2 0 1) (x5).toNat x0.2.2) w
def F51s.k12 (Q : Value → World → Prop) : ((Option Addr × Nat × Nat) × Int × Unit) → World → Prop := fun s w => ∀ _ : Nat → Value, F51s.k12c Q s.1 s.2.1 w
def F51s.b5c (Q : Value → World → Prop) (C5 : ((Option Addr × Nat × Nat) × (Nat × Nat) × Int × Int × Unit) → World → Prop) (x0 : (Option Addr × Nat × Nat)) (x1 : (Nat × Nat)) (x5 : Int) (x6 : Int) (w : World) : Prop :=
  vIf (decide (x6 < ((x0.2.1 : Nat) : Int)))
  (dr x0.1 fun b4 o5 =>
    gd (decide (0 ≤ x6)) <|
    gd (decide (x6 < ((x0.2.1 : Nat) : Int))) <|
    ldI .i64 w b4 (o5 + (x6).toNat * 1) fun i6 =>
    Calls Try.prog 52 #[Value.int .i64 i6, Value.pointer (some ⟨x1.1, x1.2, none⟩)] w fun e8 w7 =>
    ∃ t9 : Bool, e8 = .returned (Value.bool t9) ∧ (
      vIf (!t9)
      (dr x0.1 fun b10 o11 =>
        gd (decide (0 ≤ x5)) <|
        gd (decide (x5 < ((x0.2.1 : Nat) : Int))) <|
        st w7 b10 (o11 + (x5).toNat * 1) [Value.int .i64 i6] fun w12 =>
        jnC C5 ((x0.1, x0.2.1, x0.2.2), (x1.1, x1.2), ((IntKind.wrap .i64 (x5 + 1))), ((IntKind.wrap .i64 (x6 + 1))), ()) w12)
      (jnC C5 ((x0.1, x0.2.1, x0.2.2), (x1.1, x1.2), (x5), ((IntKind.wrap .i64 (x6 + 1))), ()) w7)))
  (gd (decide (0 ≤ x5)) <|
    gd (decide (x5 ≤ ((x0.2.1 : Nat) : Int))) <|
    vIf ((x0.2.1 - (x5).toNat) == 0)
    (jnC (F51s.k12 Q) ((x0.1, x0.2.1, x0.2.2), (x5), ()) w)
    (dr (slA x0.1 x0.2.2 (x5).toNat 1) fun b14 o15 =>
      st w b14 o15 (zeros (x0.2.1 - (x5).toNat) [Value.int .i64 0]) fun w13 =>
      jnC (F51s.k12 Q) ((x0.1, x0.2.1, x0.2.2), (x5), ()) w13))
def F51s.b5 (Q : Value → World → Prop) : ((Option Addr × Nat × Nat) × (Nat × Nat) × Int × Int × Unit) → World → (((Option Addr × Nat × Nat) × (Nat × Nat) × Int × Int × Unit) → World → Prop) → Prop := fun s w C5 => ∀ _ : Nat → Value, F51s.b5c Q C5 s.1 s.2.1 s.2.2.1 s.2.2.2.1 w
def F51s.l5 (Q : Value → World → Prop) : ((Option Addr × Nat × Nat) × (Nat × Nat) × Int × Int × Unit) → World → Prop := fun s w => ∃ n, loopC (F51s.b5 Q) n s w
def F51s.vc (x0A : Option Addr) (x0n x0c : Nat) (x1 : Nat × Nat) (w : World) (Q : Value → World → Prop) : Prop :=
  Calls Try.prog 61 #[Value.slice x0A x0n x0c, Value.func (.func 52) #[] #[Value.pointer (some ⟨x1.1, x1.2, none⟩)]] w fun e2 w1 =>
  ∃ i3 : Int, e2 = .returned (Value.int .i64 i3) ∧ (
    vIf (i3 == (-1))
    (Q (Value.slice x0A x0n x0c) w1)
    (jnC (F51s.l5 Q) ((x0A, x0n, x0c), (x1.1, x1.2), (i3), ((IntKind.wrap .i64 (i3 + 1))), ()) w1))
def F51s.an : Ann := ⟨[(5, [(0, .kSl), (1, .kG 52), (5, .kI .i64), (6, .kI .i64)])], [(12, [(0, .kSl), (5, .kI .i64)])]⟩
theorem F51s.eq (x0A : Option Addr) (x0n x0c : Nat) (x1 : Nat × Nat) (w : World) (Q : Value → World → Prop) : vcFn Try.prog F51s.an 51 [Value.slice x0A x0n x0c, Value.func (.func 52) #[] #[Value.pointer (some ⟨x1.1, x1.2, none⟩)]] w Q = F51s.vc x0A x0n x0c x1 w Q := by kernel_rfl
theorem F51s.of (x0A : Option Addr) (x0n x0c : Nat) (x1 : Nat × Nat) (w : World) {Q : Value → World → Prop} (h : F51s.vc x0A x0n x0c x1 w Q) : Calls Try.prog 51 #[Value.slice x0A x0n x0c, Value.func (.func 52) #[] #[Value.pointer (some ⟨x1.1, x1.2, none⟩)]] w (fun e w' => ∃ v, e = .returned v ∧ Q v w') := vcFn_sound noCount mixed ((F51s.eq x0A x0n x0c x1 w Q).symm ▸ h)
/-! ### function 52: stillage/entry.left$1 -/
def F52.vc (x0 : Int) (x1 : Nat × Nat) (w : World) (Q : Value → World → Prop) : Prop :=
  ldSl w x1.1 x1.2 fun A1 n2 c3 =>
  Calls Try.prog 42 #[Value.slice A1 n2 c3, Value.int .i64 x0] w fun e5 w4 =>
  ∃ t6 : Bool, e5 = .returned (Value.bool t6) ∧ (
    Q (Value.bool (!t6)) w4)
def F52.an : Ann := ⟨[], []⟩
theorem F52.eq (x0 : Int) (x1 : Nat × Nat) (w : World) (Q : Value → World → Prop) : vcFn Try.prog F52.an 52 [Value.int .i64 x0, Value.pointer (some ⟨x1.1, x1.2, none⟩)] w Q = F52.vc x0 x1 w Q := by kernel_rfl
theorem F52.of (x0 : Int) (x1 : Nat × Nat) (w : World) {Q : Value → World → Prop} (h : F52.vc x0 x1 w Q) : Calls Try.prog 52 #[Value.int .i64 x0, Value.pointer (some ⟨x1.1, x1.2, none⟩)] w (fun e w' => ∃ v, e = .returned v ∧ Q v w') := vcFn_sound noCount mixed ((F52.eq x0 x1 w Q).symm ▸ h)
/-! ### function 53: slices.Index[[]int,int] -/
def F53.b2c (Q : Value → World → Prop) (C2 : ((Option Addr × Nat × Nat) × Int × Int × Int × Unit) → World → Prop) (x0 : (Option Addr × Nat × Nat)) (x1 : Int) (x7 : Int) (x8 : Int) (w : World) : Prop :=
  vIf (decide (x8 < x7))
  (dr x0.1 fun b1 o2 =>
    gd (decide (0 ≤ x8)) <|
    gd (decide (x8 < ((x0.2.1 : Nat) : Int))) <|
    ldI .i64 w b1 (o2 + (x8).toNat * 1) fun i3 =>
    vIf (x1 == i3)
    (Q (Value.int .i64 x8) w)
    (jnC C2 ((x0.1, x0.2.1, x0.2.2), (x1), (x7), ((IntKind.wrap .i64 (x8 + 1))), ()) w))
  (Q (Value.int .i64 (-1)) w)
def F53.b2 (Q : Value → World → Prop) : ((Option Addr × Nat × Nat) × Int × Int × Int × Unit) → World → (((Option Addr × Nat × Nat) × Int × Int × Int × Unit) → World → Prop) → Prop := fun s w C2 => ∀ _ : Nat → Value, F53.b2c Q C2 s.1 s.2.1 s.2.2.1 s.2.2.2.1 w
def F53.l2 (Q : Value → World → Prop) : ((Option Addr × Nat × Nat) × Int × Int × Int × Unit) → World → Prop := fun s w => ∃ n, loopC (F53.b2 Q) n s w
def F53.vc (x0A : Option Addr) (x0n x0c : Nat) (x1 : Int) (w : World) (Q : Value → World → Prop) : Prop :=
  jnC (F53.l2 Q) ((x0A, x0n, x0c), (x1), (((x0n : Nat) : Int)), (0), ()) w
def F53.an : Ann := ⟨[(2, [(0, .kSl), (1, .kI .i64), (7, .kI .i64), (8, .kI .i64)])], []⟩
theorem F53.eq (x0A : Option Addr) (x0n x0c : Nat) (x1 : Int) (w : World) (Q : Value → World → Prop) : vcFn Try.prog F53.an 53 [Value.slice x0A x0n x0c, Value.int .i64 x1] w Q = F53.vc x0A x0n x0c x1 w Q := by kernel_rfl
theorem F53.of (x0A : Option Addr) (x0n x0c : Nat) (x1 : Int) (w : World) {Q : Value → World → Prop} (h : F53.vc x0A x0n x0c x1 w Q) : Calls Try.prog 53 #[Value.slice x0A x0n x0c, Value.int .i64 x1] w (fun e w' => ∃ v, e = .returned v ∧ Q v w') := vcFn_sound noCount mixed ((F53.eq x0A x0n x0c x1 w Q).symm ▸ h)
/-! ### function 54: slices.Clone[[]stillage/api.Digest,stillage/api.Digest] -/
def F54.vc (x0A : Option Addr) (x0n x0c : Nat) (w : World) (Q : Value → World → Prop) : Prop :=
  vIf x0A.isNone
  (Q (Value.slice none 0 0) w)
  (nw w [] 29 fun b1 w2 =>
    app w2 32 32 Z29 29 (some ⟨b1, 0, none⟩) 0 0 (Value.slice x0A x0n x0c) fun A3 n4 c5 w6 =>
    Q (Value.slice A3 n4 c5) w6)
def F54.an : Ann := ⟨[], []⟩
theorem F54.eq (x0A : Option Addr) (x0n x0c : Nat) (w : World) (Q : Value → World → Prop) : vcFn Try.prog F54.an 54 [Value.slice x0A x0n x0c] w Q = F54.vc x0A x0n x0c w Q := by kernel_rfl
theorem F54.of (x0A : Option Addr) (x0n x0c : Nat) (w : World) {Q : Value → World → Prop} (h : F54.vc x0A x0n x0c w Q) : Calls Try.prog 54 #[Value.slice x0A x0n x0c] w (fun e w' => ∃ v, e = .returned v ∧ Q v w') := vcFn_sound noCount mixed ((F54.eq x0A x0n x0c w Q).symm ▸ h)
/-! ### function 56: stillage/digest.Cmp -/
def F56.vc (x0 : List Value) (x1 : List Value) (w : World) (Q : Value → World → Prop) : Prop :=
  nw w x0 29 fun b1 w2 =>
  nw w2 x1 29 fun b3 w4 =>
  ldA 32 w4 b1 0 fun a5 =>
  ldA 32 w4 b3 0 fun a6 =>
  eqAB 32 a5 a6 fun t7 =>
  vIf t7
  (Q (Value.int .i64 0) w4)
  (Calls Try.prog 63 #[Value.slice (some ⟨b1, 0, none⟩) 32 32, Value.slice (some ⟨b3, 0, none⟩) 32 32] w4.drew fun e9 w8 =>
    ∃ i10 : Int, e9 = .returned (Value.int .i64 i10) ∧ (
      Q (Value.int .i64 i10) w8))
def F56.an : Ann := ⟨[], []⟩
theorem F56.eq (x0 : List Value) (x1 : List Value) (w : World) (Q : Value → World → Prop) : vcFn Try.prog F56.an 56 [ofL x0, ofL x1] w Q = F56.vc x0 x1 w Q := by kernel_rfl
theorem F56.of (x0 : List Value) (x1 : List Value) (w : World) {Q : Value → World → Prop} (h : F56.vc x0 x1 w Q) : Calls Try.prog 56 #[ofL x0, ofL x1] w (fun e w' => ∃ v, e = .returned v ∧ Q v w') := vcFn_sound noCount mixed ((F56.eq x0 x1 w Q).symm ▸ h)
/-! ### function 57: slices.Compact[[]stillage/api.Digest,stillage/api.Digest] -/
def F57.k15c (Q : Value → World → Prop) (C4 : ((Option Addr × Nat × Nat) × Int × Unit) → World → Prop) (x0 : (Option Addr × Nat × Nat)) (x3 : Int) (w : World) : Prop :=
  gd (decide (0 ≤ x3)) <|
  gd (decide (x3 ≤ ((x0.2.2 : Nat) : Int))) <|
  Q (Value.slice (slA x0.1 x0.2.2 0 32) (x3).toNat x0.2.2) w
def F57.k15 (Q : Value → World → Prop) (C4 : ((Option Addr × Nat × Nat) × Int × Unit) → World → Prop) : ((Option Addr × Nat × Nat) × Int × Unit) → World → Prop := fun s w => ∀ _ : Nat → Value, F57.k15c Q C4 s.1 s.2.1 w
def F57.b9c (Q : Value → World → Prop) (C4 : ((Option Addr × Nat × Nat) × Int × Unit) → World → Prop) (C9 : ((Option Addr × Nat × Nat) × Int × (Option Addr × Nat × Nat) × Int × Unit) → World → Prop) (x0 : (Option Addr × Nat × Nat)) (x3 : Int) (x4 : (Option Addr × Nat × Nat)) (x5 : Int) (w : World) : Prop :=
  vIf (decide (x5 < ((x4.2.1 : Nat) : Int)))
  (dr x4.1 fun b8 o9 =>
    gd (decide (0 ≤ x5)) <|
    gd (decide (x5 < ((x4.2.1 : Nat) : Int))) <|
    ldA 32 w.drew b8 (o9 + (x5).toNat * 32) fun a10 =>
    dr x4.1 fun b11 o12 =>
    gd (decide (0 ≤ (IntKind.wrap .i64 (x5 - 1)))) <|
    gd (decide ((IntKind.wrap .i64 (x5 - 1)) < ((x4.2.1 : Nat) : Int))) <|
    ldA 32 w.drew b11 (o12 + ((IntKind.wrap .i64 (x5 - 1))).toNat * 32) fun a13 =>
    eqAB 32 a10 a13 fun t14 =>
    vIf (!t14)
    (dr x4.1 fun b15 o16 =>
      gd (decide (0 ≤ x5)) <|
      gd (decide (x5 < ((x4.2.1 : Nat) : Int))) <|
      ldA 32 w.drew b15 (o16 + (x5).toNat * 32) fun a17 =>
      dr x0.1 fun b18 o19 =>
      gd (decide (0 ≤ x3)) <|
      gd (decide (x3 < ((x0.2.1 : Nat) : Int))) <|
      gd (a17.length == 32) <|
      st w.drew b18 (o19 + (x3).toNat * 32) a17 fun w20 =>
      jnC C9 ((x0.1, x0.2.1, x0.2.2), ((IntKind.wrap .i64 (x3 + 1))), (x4.1, x4.2.1, x4.2.2), ((IntKind.wrap .i64 (x5 + 1))), ()) w20)
    (jnC C9 ((x0.1, x0.2.1, x0.2.2), (x3), (x4.1, x4.2.1, x4.2.2), ((IntKind.wrap .i64 (x5 + 1))), ()) w.drew))
  (gd (decide (0 ≤ x3)) <|
    gd (decide (x3 ≤ ((x0.2.1 : Nat) : Int))) <|
    vIf ((x0.2.1 - (x3).toNat) == 0)
    (jnC (F57.k15 Q C4) ((x0.1, x0.2.1, x0.2.2), (x3), ()) w)
    (dr (slA x0.1 x0.2.2 (x3).toNat 32) fun b22 o23 =>
      st w b22 o23 (zeros (x0.2.1 - (x3).toNat) Z29) fun w21 =>
      jnC (F57.k15 Q C4) ((x0.1, x0.2.1, x0.2.2), (x3), ()) w21))
def F57.b9 (Q : Value → World → Prop) (C4 : ((Option Addr × Nat × Nat) × Int × Unit) → World → Prop) : ((Option Addr × Nat × Nat) × Int × (Option Addr × Nat × Nat) × Int × Unit) → World → (((Option Addr × Nat × Nat) × Int × (Option Addr × Nat × Nat) × Int × Unit) → World → Prop) → Prop := fun s w C9 => ∀ _ : Nat → Value, F57.b9c Q C4 C9 s.1 s.2.1 s.2.2.1 s.2.2.2.1 w
def F57.l9 (Q : Value → World → Prop) (C4 : ((Option Addr × Nat × Nat) × Int × Unit) → World → Prop) : ((Option Addr × Nat × Nat) × Int × (Option Addr × Nat × Nat) × Int × Unit) → World → Prop := fun s w => ∃ n, loopC (F57.b9 Q C4) n s w
def F57.b4c (Q : Value → World → Prop) (C4 : ((Option Addr × Nat × Nat) × Int × Unit) → World → Prop) (x0 : (Option Addr × Nat × Nat)) (x3 : Int) (w : World) : Prop :=
  vIf (decide (x3 < ((x0.2.1 : Nat) : Int)))
  (dr x0.1 fun b1 o2 =>
    gd (decide (0 ≤ x3)) <|
    gd (decide (x3 < ((x0.2.1 : Nat) : Int))) <|
    ldA 32 w.drew b1 (o2 + (x3).toNat * 32) fun a3 =>
    dr x0.1 fun b4 o5 =>
    gd (decide (0 ≤ (IntKind.wrap .i64 (x3 - 1)))) <|
    gd (decide ((IntKind.wrap .i64 (x3 - 1)) < ((x0.2.1 : Nat) : Int))) <|
    ldA 32 w.drew b4 (o5 + ((IntKind.wrap .i64 (x3 - 1))).toNat * 32) fun a6 =>
    eqAB 32 a3 a6 fun t7 =>
    vIf t7
    (gd (decide (0 ≤ x3)) <|
      gd (decide (x3 ≤ ((x0.2.1 : Nat) : Int))) <|
      jnC (F57.l9 Q C4) ((x0.1, x0.2.1, x0.2.2), (x3), ((slA x0.1 x0.2.2 (x3).toNat 32), (x0.2.1 - (x3).toNat), (x0.2.2 - (x3).toNat)), (1), ()) w.drew)
    (jnC C4 ((x0.1, x0.2.1, x0.2.2), ((IntKind.wrap .i64 (x3 + 1))), ()) w.drew))
  (Q (Value.slice x0.1 x0.2.1 x0.2.2) w)
def F57.b4 (Q : Value → World → Prop) : ((Option Addr × Nat × Nat) × Int × Unit) → World → (((Option Addr × Nat × Nat) × Int × Unit) → World → Prop) → Prop := fun s w C4 => ∀ _ : Nat → Value, F57.b4c Q C4 s.1 s.2.1 w
def F57.l4 (Q : Value → World → Prop) : ((Option Addr × Nat × Nat) × Int × Unit) → World → Prop := fun s w => ∃ n, loopC (F57.b4 Q) n s w
def F57.vc (x0A : Option Addr) (x0n x0c : Nat) (w : World) (Q : Value → World → Prop) : Prop :=
  vIf (decide (((x0n : Nat) : Int) < 2))
  (Q (Value.slice x0A x0n x0c) w)
  (jnC (F57.l4 Q) ((x0A, x0n, x0c), (1), ()) w)
def F57.an : Ann := ⟨[(4, [(0, .kSl), (3, .kI .i64)]), (9, [(0, .kSl), (3, .kI .i64), (4, .kSl), (5, .kI .i64)])], [(15, [(0, .kSl), (3, .kI .i64)])]⟩
theorem F57.eq (x0A : Option Addr) (x0n x0c : Nat) (w : World) (Q : Value → World → Prop) : vcFn Try.prog F57.an 57 [Value.slice x0A x0n x0c] w Q = F57.vc x0A x0n x0c w Q := by kernel_rfl
theorem F57.of (x0A : Option Addr) (x0n x0c : Nat) (w : World) {Q : Value → World → Prop} (h : F57.vc x0A x0n x0c w Q) : Calls Try.prog 57 #[Value.slice x0A x0n x0c] w (fun e w' => ∃ v, e = .returned v ∧ Q v w') := vcFn_sound noCount mixed ((F57.eq x0A x0n x0c w Q).symm ▸ h)
/-! ### function 58: slices.Grow[[]int,int] -/
def F58.k3c (Q : Value → World → Prop) (x0 : (Option Addr × Nat × Nat)) (x1 : Int) (w : World) : Prop :=
  vIf (decide ((IntKind.wrap .i64 (x1 - (IntKind.wrap .i64 (((x0.2.2 : Nat) : Int) - ((x0.2.1 : Nat) : Int))))) > 0))
  (gd (decide (0 ≤ ((x0.2.2 : Nat) : Int))) <|
    gd (decide (((x0.2.2 : Nat) : Int) ≤ ((x0.2.2 : Nat) : Int))) <|
    appZ w 1 8 [Value.int .i64 0] 3 (slA x0.1 x0.2.2 0 1) ((((x0.2.2 : Nat) : Int)).toNat) x0.2.2 (IntKind.wrap .i64 (x1 - (IntKind.wrap .i64 (((x0.2.2 : Nat) : Int) - ((x0.2.1 : Nat) : Int))))) fun A1 n2 c3 w4 =>
    gd (decide (0 ≤ ((x0.2.1 : Nat) : Int))) <|
    gd (decide (((x0.2.1 : Nat) : Int) ≤ ((c3 : Nat) : Int))) <|
    Q (Value.slice (slA A1 c3 0 1) (((x0.2.1 : Nat) : Int)).toNat c3) w4)
  (Q (Value.slice x0.1 x0.2.1 x0.2.2) w)
def F58.k3 (Q : Value → World → Prop) : ((Option Addr × Nat × Nat) × Int × Unit) → World → Prop := fun s w => ∀ _ : Nat → Value, F58.k3c Q s.1 s.2.1 w
def F58.vc (x0A : Option Addr) (x0n x0c : Nat) (x1 : Int) (w : World) (Q : Value → World → Prop) : Prop :=
  vIf (decide (x1 < 0))
  (False)
  (jnC (F58.k3 Q) ((x0A, x0n, x0c), (x1), ()) w)
def F58.an : Ann := ⟨[], [(3, [(0, .kSl), (1, .kI .i64)])]⟩
theorem F58.eq (x0A : Option Addr) (x0n x0c : Nat) (x1 : Int) (w : World) (Q : Value → World → Prop) : vcFn Try.prog F58.an 58 [Value.slice x0A x0n x0c, Value.int .i64 x1] w Q = F58.vc x0A x0n x0c x1 w Q := by kernel_rfl
theorem F58.of (x0A : Option Addr) (x0n x0c : Nat) (x1 : Int) (w : World) {Q : Value → World → Prop} (h : F58.vc x0A x0n x0c x1 w Q) : Calls Try.prog 58 #[Value.slice x0A x0n x0c, Value.int .i64 x1] w (fun e w' => ∃ v, e = .returned v ∧ Q v w') := vcFn_sound noCount mixed ((F58.eq x0A x0n x0c x1 w Q).symm ▸ h)
/-! ### function 61: slices.IndexFunc[[]int,int] -/
def F61t.b2c (Q : Value → World → Prop) (C2 : ((Option Addr × Nat × Nat) × (Nat × Nat) × Int × Int × Unit) → World → Prop) (x0 : (Option Addr × Nat × Nat)) (x1 : (Nat × Nat)) (x7 : Int) (x8 : Int) (w : World) : Prop :=
  vIf (decide (x8 < x7))
  (dr x0.1 fun b1 o2 =>
    gd (decide (0 ≤ x8)) <|
    gd (decide (x8 < ((x0.2.1 : Nat) : Int))) <|
    ldI .i64 w b1 (o2 + (x8).toNat * 1) fun i3 =>
    Calls Try.prog 52 #[Value.int .i64 i3, Value.pointer (some ⟨x1.1, x1.2, none⟩)] w fun e5 w4 =>
    ∃ t6 : Bool, e5 = .returned (Value.bool t6) ∧ (
      vIf t6
      (Q (Value.int .i64 x8) w4)
      (jnC C2 ((x0.1, x0.2.1, x0.2.2), (x1.1, x1.2), (x7), ((IntKind.wrap .i64 (x8 + 1))), ()) w4)))
  (Q (Value.int .i64 (-1)) w)
def F61t.b2 (Q : Value → World → Prop) : ((Option Addr × Nat × Nat) × (Nat × Nat) × Int × Int × Unit) → World → (((Option Addr × Nat × Nat) × (Nat × Nat) × Int × Int × Unit) → World → Prop) → Prop := fun s w C2 => ∀ _ : Nat → Value, F61t.b2c Q C2 s.1 s.2.1 s.2.2.1 s.2.2.2.1 w
def F61t.l2 (Q : Value → World → Prop) : ((Option Addr × Nat × Nat) × (Nat × Nat) × Int × Int × Unit) → World → Prop := fun s w => ∃ n, loopC (F61t.b2 Q) n s w
def F61t.vc (x0A : Option Addr) (x0n x0c : Nat) (x1 : Nat × Nat) (w : World) (Q : Value → World → Prop) : Prop :=
  jnC (F61t.l2 Q) ((x0A, x0n, x0c), (x1.1, x1.2), (((x0n : Nat) : Int)), (0), ()) w
def F61t.an : Ann := ⟨[(2, [(0, .kSl), (1, .kG 52), (7, .kI .i64), (8, .kI .i64)])], []⟩
theorem F61t.eq (x0A : Option Addr) (x0n x0c : Nat) (x1 : Nat × Nat) (w : World) (Q : Value → World → Prop) : vcFn Try.prog F61t.an 61 [Value.slice x0A x0n x0c, Value.func (.func 52) #[] #[Value.pointer (some ⟨x1.1, x1.2, none⟩)]] w Q = F61t.vc x0A x0n x0c x1 w Q := by kernel_rfl
theorem F61t.of (x0A : Option Addr) (x0n x0c : Nat) (x1 : Nat × Nat) (w : World) {Q : Value → World → Prop} (h : F61t.vc x0A x0n x0c x1 w Q) : Calls Try.prog 61 #[Value.slice x0A x0n x0c, Value.func (.func 52) #[] #[Value.pointer (some ⟨x1.1, x1.2, none⟩)]] w (fun e w' => ∃ v, e = .returned v ∧ Q v w') := vcFn_sound noCount mixed ((F61t.eq x0A x0n x0c x1 w Q).symm ▸ h)
/-! ### function 63: bytes.Compare -/
def F63.vc (x0A : Option Addr) (x0n x0c : Nat) (x1A : Option Addr) (x1n x1c : Nat) (w : World) (Q : Value → World → Prop) : Prop :=
  extC Try.prog 83 #[Value.slice x0A x0n x0c, Value.slice x1A x1n x1c] w fun v3 w1 =>
  ∃ i4 : Int, v3 = Value.int .i64 i4 ∧ (
    Q (Value.int .i64 i4) w1)
def F63.an : Ann := ⟨[], []⟩
theorem F63.eq (x0A : Option Addr) (x0n x0c : Nat) (x1A : Option Addr) (x1n x1c : Nat) (w : World) (Q : Value → World → Prop) : vcFn Try.prog F63.an 63 [Value.slice x0A x0n x0c, Value.slice x1A x1n x1c] w Q = F63.vc x0A x0n x0c x1A x1n x1c w Q := by kernel_rfl
theorem F63.of (x0A : Option Addr) (x0n x0c : Nat) (x1A : Option Addr) (x1n x1c : Nat) (w : World) {Q : Value → World → Prop} (h : F63.vc x0A x0n x0c x1A x1n x1c w Q) : Calls Try.prog 63 #[Value.slice x0A x0n x0c, Value.slice x1A x1n x1c] w (fun e w' => ∃ v, e = .returned v ∧ Q v w') := vcFn_sound noCount mixed ((F63.eq x0A x0n x0c x1A x1n x1c w Q).symm ▸ h)
end Go.Proofs.Ytnablplljilahaa
