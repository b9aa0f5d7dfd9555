/- PRINTED BY MY OWN gen.py out of the translation: each function as a proposition. -/
import Derived.Test.YtklanoocjlpemaaProg
import Derived.Test.YtklanoocjlpemaaG7
namespace Go.Proofs.Ytklanoocjlpemaa
open Go.GV
set_option linter.unusedVariables false
set_option maxRecDepth 100000
theorem noCount : NoCount Try.prog := noCount_of (by kernel_rfl)
theorem mixed : Try.prog.follows .mixedOrders = true := by kernel_rfl
def Z29 : List Value := [Value.int .u8 0, Value.int .u8 0, Value.int .u8 0, Value.int .u8 0, Value.int .u8 0, Value.int .u8 0, Value.int .u8 0, Value.int .u8 0, Value.int .u8 0, Value.int .u8 0, Value.int .u8 0, Value.int .u8 0, Value.int .u8 0, Value.int .u8 0, Value.int .u8 0, Value.int .u8 0, Value.int .u8 0, Value.int .u8 0, Value.int .u8 0, Value.int .u8 0, Value.int .u8 0, Value.int .u8 0, Value.int .u8 0, Value.int .u8 0, Value.int .u8 0, Value.int .u8 0, Value.int .u8 0, Value.int .u8 0, Value.int .u8 0, Value.int .u8 0, Value.int .u8 0, Value.int .u8 0]
def Z34 : List Value := [Value.string (⟨#[]⟩ : ByteArray), Value.int .u8 0, Value.int .u8 0, Value.int .u8 0, Value.int .u8 0, Value.int .u8 0, Value.int .u8 0, Value.int .u8 0, Value.int .u8 0, Value.int .u8 0, Value.int .u8 0, Value.int .u8 0, Value.int .u8 0, Value.int .u8 0, Value.int .u8 0, Value.int .u8 0, Value.int .u8 0, Value.int .u8 0, Value.int .u8 0, Value.int .u8 0, Value.int .u8 0, Value.int .u8 0, Value.int .u8 0, Value.int .u8 0, Value.int .u8 0, Value.int .u8 0, Value.int .u8 0, Value.int .u8 0, Value.int .u8 0, Value.int .u8 0, Value.int .u8 0, Value.int .u8 0, Value.int .u8 0, Value.bool false, Value.int .i64 0, Value.int .i64 0, Value.int .i64 0, Value.slice none 0 0]
def Z44 : List Value := [Value.int .i64 0, Value.int .u64 0, Value.int .u8 0, Value.int .u8 0, Value.int .u8 0, Value.int .u8 0, Value.int .u8 0, Value.int .u8 0, Value.int .u8 0, Value.int .u8 0, Value.int .u8 0, Value.int .u8 0, Value.int .u8 0, Value.int .u8 0, Value.int .u8 0, Value.int .u8 0, Value.int .u8 0, Value.int .u8 0, Value.int .u8 0, Value.int .u8 0, Value.int .u8 0, Value.int .u8 0, Value.int .u8 0, Value.int .u8 0, Value.int .u8 0, Value.int .u8 0, Value.int .u8 0, Value.int .u8 0, Value.int .u8 0, Value.int .u8 0, Value.int .u8 0, Value.int .u8 0, Value.int .u8 0, Value.int .u8 0, Value.string (⟨#[]⟩ : ByteArray), Value.int .i64 0, Value.int .i64 0, Value.int .i64 0, Value.int .i64 0]
def Z46 : List Value := [Value.int .i64 0, Value.int .i64 0, Value.int .u64 0, Value.int .u8 0, Value.int .u8 0, Value.int .u8 0, Value.int .u8 0, Value.int .u8 0, Value.int .u8 0, Value.int .u8 0, Value.int .u8 0, Value.int .u8 0, Value.int .u8 0, Value.int .u8 0, Value.int .u8 0, Value.int .u8 0, Value.int .u8 0, Value.int .u8 0, Value.int .u8 0, Value.int .u8 0, Value.int .u8 0, Value.int .u8 0, Value.int .u8 0, Value.int .u8 0, Value.int .u8 0, Value.int .u8 0, Value.int .u8 0, Value.int .u8 0, Value.int .u8 0, Value.int .u8 0, Value.int .u8 0, Value.int .u8 0, Value.int .u8 0, Value.int .u8 0, Value.int .u8 0, Value.string (⟨#[]⟩ : ByteArray), Value.int .i64 0, Value.int .i64 0, Value.int .i64 0, Value.int .i64 0, Value.slice none 0 0, Value.string (⟨#[]⟩ : ByteArray), Value.int .i64 0]
/-! ### function 3: stillage/stillagelaw21.TagsPages -/
def F3.k18c (Q : Value → World → Prop) (x0 : (Option Addr × Nat × Nat)) (x5 : Option Addr) (x6 : (Option Addr × Nat × Nat)) (w : World) : Prop :=
  Calls Try.prog 7 #[Value.pointer x5, Value.string (⟨#[]⟩ : ByteArray), Value.int .i64 ((x0.2.1 : Nat) : Int)] w fun e36 w35 =>
  ∃ (A37 : Option Addr) (n38 c39 : Nat), e36 = .returned (Value.slice A37 n38 c39) ∧ (
    Calls Try.prog 10 #[Value.slice x6.1 x6.2.1 x6.2.2, Value.slice A37 n38 c39] w35 fun e41 w40 =>
    ∃ t42 : Bool, e41 = .returned (Value.bool t42) ∧ (
      vIf t42
      (Calls Try.prog 11 #[Value.pointer x5] w40 fun e44 w43 =>
        ∃ i45 : Int, e44 = .returned (Value.int .i64 i45) ∧ (
          vIf (((x6.2.1 : Nat) : Int) == i45)
          (Calls Try.prog 8 #[] w43 fun e47 w46 =>
            ∃ t48 : Bool, e47 = .returned (Value.bool t48) ∧ (
              Q (Value.bool t48) w46))
          (Q (Value.bool false) w43)))
      (Q (Value.bool false) w40)))
def F3.k18 (Q : Value → World → Prop) : ((Option Addr × Nat × Nat) × Option Addr × (Option Addr × Nat × Nat) × Unit) → World → Prop := fun s w => ∀ _ : Nat → Value, F3.k18c Q s.1 s.2.1 s.2.2.1 w
def F3.b7c (Q : Value → World → Prop) (C7 : ((Option Addr × Nat × Nat) × Int × Option Addr × (Option Addr × Nat × Nat) × ByteArray × Int × Unit) → World → Prop) (x0 : (Option Addr × Nat × Nat)) (x1 : Int) (x5 : Option Addr) (x6 : (Option Addr × Nat × Nat)) (x7 : ByteArray) (x8 : Int) (w : World) : Prop :=
  vIf (decide (x8 ≤ ((x0.2.1 : Nat) : Int)))
  (Calls Try.prog 7 #[Value.pointer x5, Value.string x7, Value.int .i64 x1] w fun e13 w12 =>
    ∃ (A14 : Option Addr) (n15 c16 : Nat), e13 = .returned (Value.slice A14 n15 c16) ∧ (
      vIf (decide (((n15 : Nat) : Int) > x1))
      (Q (Value.bool false) w12)
      (app w12 1 16 [Value.string (⟨#[]⟩ : ByteArray)] 9 x6.1 x6.2.1 x6.2.2 (Value.slice A14 n15 c16) fun A17 n18 c19 w20 =>
        vIf (decide (((n15 : Nat) : Int) > 0))
        (dr A14 fun b21 o22 =>
          gd (decide (0 ≤ (IntKind.wrap .i64 (((n15 : Nat) : Int) - 1)))) <|
          gd (decide ((IntKind.wrap .i64 (((n15 : Nat) : Int) - 1)) < ((n15 : Nat) : Int))) <|
          ldS w20 b21 (o22 + ((IntKind.wrap .i64 (((n15 : Nat) : Int) - 1))).toNat * 1) fun s23 =>
          jnC C7 ((x0.1, x0.2.1, x0.2.2), (x1), x5, (A17, n18, c19), s23, ((IntKind.wrap .i64 (x8 + 1))), ()) w20)
        (jnC C7 ((x0.1, x0.2.1, x0.2.2), (x1), x5, (A17, n18, c19), x7, ((IntKind.wrap .i64 (x8 + 1))), ()) w20))))
  (Calls Try.prog 9 #[Value.pointer x5, Value.string (⟨#[]⟩ : ByteArray)] w fun e25 w24 =>
    ∃ a26 : List Value, ∃ t27 : Bool, e25 = .returned (Value.tuple #[ofL a26, Value.bool t27]) ∧ (
      nw w24 Z34 34 fun b28 w29 =>
      gd (a26.length == 38) <|
      st w29 b28 0 a26 fun w30 =>
      vIf t27
      (ldB w30 b28 (0 + 33) fun t31 =>
        vIf (!t31)
        (Calls Try.prog 8 #[] w30 fun e33 w32 =>
          ∃ t34 : Bool, e33 = .returned (Value.bool t34) ∧ (
            Q (Value.bool t34) w32))
        (jnC (F3.k18 Q) ((x0.1, x0.2.1, x0.2.2), x5, (x6.1, x6.2.1, x6.2.2), ()) w30))
      (jnC (F3.k18 Q) ((x0.1, x0.2.1, x0.2.2), x5, (x6.1, x6.2.1, x6.2.2), ()) w30)))
def F3.b7 (Q : Value → World → Prop) : ((Option Addr × Nat × Nat) × Int × Option Addr × (Option Addr × Nat × Nat) × ByteArray × Int × Unit) → World → (((Option Addr × Nat × Nat) × Int × Option Addr × (Option Addr × Nat × Nat) × ByteArray × Int × Unit) → World → Prop) → Prop := fun s w C7 => ∀ _ : Nat → Value, F3.b7c Q C7 s.1 s.2.1 s.2.2.1 s.2.2.2.1 s.2.2.2.2.1 s.2.2.2.2.2.1 w
def F3.l7 (Q : Value → World → Prop) : ((Option Addr × Nat × Nat) × Int × Option Addr × (Option Addr × Nat × Nat) × ByteArray × Int × Unit) → World → Prop := fun s w => ∃ n, loopC (F3.b7 Q) n s w
def F3.vc (x0A : Option Addr) (x0n x0c : Nat) (x1 : Int) (w : World) (Q : Value → World → Prop) : Prop :=
  Calls Try.prog 6 #[Value.slice x0A x0n x0c] w fun e2 w1 =>
  ∃ p3 : Option Addr, e2 = .returned (Value.pointer p3) ∧ (
    vIf (decide (x1 < 1))
    (Calls Try.prog 7 #[Value.pointer p3, Value.string (⟨#[]⟩ : ByteArray), Value.int .i64 x1] w1 fun e5 w4 =>
      ∃ (A6 : Option Addr) (n7 c8 : Nat), e5 = .returned (Value.slice A6 n7 c8) ∧ (
        vIf (((n7 : Nat) : Int) == 0)
        (Calls Try.prog 8 #[] w4 fun e10 w9 =>
          ∃ t11 : Bool, e10 = .returned (Value.bool t11) ∧ (
            Q (Value.bool t11) w9))
        (Q (Value.bool false) w4)))
    (jnC (F3.l7 Q) ((x0A, x0n, x0c), (x1), p3, (none, 0, 0), (⟨#[]⟩ : ByteArray), (0), ()) w1))
def F3.an : Ann := ⟨[(7, [(0, .kSl), (1, .kI .i64), (5, .kP), (6, .kSl), (7, .kS), (8, .kI .i64)])], [(18, [(0, .kSl), (5, .kP), (6, .kSl)])]⟩
theorem F3.eq (x0A : Option Addr) (x0n x0c : Nat) (x1 : Int) (w : World) (Q : Value → World → Prop) : vcFn Try.prog F3.an 3 [Value.slice x0A x0n x0c, Value.int .i64 x1] w Q = F3.vc x0A x0n x0c x1 w Q := by kernel_rfl
theorem F3.of (x0A : Option Addr) (x0n x0c : Nat) (x1 : Int) (w : World) {Q : Value → World → Prop} (h : F3.vc x0A x0n x0c x1 w Q) : Calls Try.prog 3 #[Value.slice x0A x0n x0c, Value.int .i64 x1] w (fun e w' => ∃ v, e = .returned v ∧ Q v w') := vcFn_sound noCount mixed ((F3.eq x0A x0n x0c x1 w Q).symm ▸ h)
/-! ### function 4: stillage/stillagelaw21.TagsDoes -/
def F4.k12c (Q : Value → World → Prop) (C4 : ((Option Addr × Nat × Nat) × Option Addr × (Option Addr × Nat × Nat) × Int × Unit) → World → Prop) (x1 : (Option Addr × Nat × Nat)) (x5 : Option Addr) (x6 : (Option Addr × Nat × Nat)) (x7 : Int) (x8 : (Nat × Nat)) (w : World) : Prop :=
  ldS w x8.1 ((x8.2 + 1) + 34) fun s25 =>
  Calls Try.prog 9 #[Value.pointer x5, Value.string s25] w fun e27 w26 =>
  ∃ a28 : List Value, ∃ t29 : Bool, e27 = .returned (Value.tuple #[ofL a28, Value.bool t29]) ∧ (
    nw w26 Z34 34 fun b30 w31 =>
    gd (a28.length == 38) <|
    st w31 b30 0 a28 fun w32 =>
    ldS w32 x8.1 ((x8.2 + 1) + 34) fun s33 =>
    Calls Try.prog 17 #[Value.slice x6.1 x6.2.1 x6.2.2, Value.string s33] w32 fun e35 w34 =>
    ∃ a36 : List Value, ∃ t37 : Bool, e35 = .returned (Value.tuple #[ofL a36, Value.bool t37]) ∧ (
      nw w34 Z34 34 fun b38 w39 =>
      gd (a36.length == 38) <|
      st w39 b38 0 a36 fun w40 =>
      ldA 38 w40.drew b30 0 fun a41 =>
      ldA 38 w40.drew b38 0 fun a42 =>
      Calls Try.prog 18 #[ofL a41, ofL a42] w40.drew fun e44 w43 =>
      ∃ t45 : Bool, e44 = .returned (Value.bool t45) ∧ (
        vIf (!t45)
        (Q (Value.bool false) w43)
        (vIf (!(t29 == t37))
          (Q (Value.bool false) w43)
          (Calls Try.prog 11 #[Value.pointer x5] w43 fun e47 w46 =>
            ∃ i48 : Int, e47 = .returned (Value.int .i64 i48) ∧ (
              Calls Try.prog 19 #[Value.slice x6.1 x6.2.1 x6.2.2] w46 fun e50 w49 =>
              ∃ (A51 : Option Addr) (n52 c53 : Nat), e50 = .returned (Value.slice A51 n52 c53) ∧ (
                vIf (i48 != ((n52 : Nat) : Int))
                (Q (Value.bool false) w49)
                (ldS w49 x8.1 (x8.2 + 41) fun s54 =>
                  ldI .i64 w49 x8.1 (x8.2 + 42) fun i55 =>
                  ldS w49 x8.1 (x8.2 + 41) fun s56 =>
                  ldI .i64 w49 x8.1 (x8.2 + 42) fun i57 =>
                  Calls Try.prog 7 #[Value.pointer x5, Value.string s54, Value.int .i64 i55] w49 fun e59 w58 =>
                  ∃ (A60 : Option Addr) (n61 c62 : Nat), e59 = .returned (Value.slice A60 n61 c62) ∧ (
                    kp w49 x8.1 (x8.2 + 42) 1 w58 <|
                    kp w49 x8.1 (x8.2 + 41) 1 w58 <|
                    Calls Try.prog 20 #[Value.slice x6.1 x6.2.1 x6.2.2, Value.string s56, Value.int .i64 i57] w58 fun e64 w63 =>
                    ∃ (A65 : Option Addr) (n66 c67 : Nat), e64 = .returned (Value.slice A65 n66 c67) ∧ (
                      Calls Try.prog 10 #[Value.slice A60 n61 c62, Value.slice A65 n66 c67] w63 fun e69 w68 =>
                      ∃ t70 : Bool, e69 = .returned (Value.bool t70) ∧ (
                        vIf (!t70)
                        (Q (Value.bool false) w68)
                        (Calls Try.prog 22 #[Value.pointer x5] w68 fun e72 w71 =>
                          ∃ (A73 : Option Addr) (n74 c75 : Nat), e72 = .returned (Value.slice A73 n74 c75) ∧ (
                            Calls Try.prog 19 #[Value.slice x6.1 x6.2.1 x6.2.2] w71 fun e77 w76 =>
                            ∃ (A78 : Option Addr) (n79 c80 : Nat), e77 = .returned (Value.slice A78 n79 c80) ∧ (
                              Calls Try.prog 21 #[Value.slice A73 n74 c75, Value.slice A78 n79 c80] w76 fun e82 w81 =>
                              ∃ t83 : Bool, e82 = .returned (Value.bool t83) ∧ (
                                vIf (!t83)
                                (Q (Value.bool false) w81)
                                (Calls Try.prog 24 #[Value.pointer x5] w81 fun e85 w84 =>
                                  ∃ (A86 : Option Addr) (n87 c88 : Nat), e85 = .returned (Value.slice A86 n87 c88) ∧ (
                                    Calls Try.prog 23 #[Value.slice A86 n87 c88, Value.slice x6.1 x6.2.1 x6.2.2] w84 fun e90 w89 =>
                                    ∃ t91 : Bool, e90 = .returned (Value.bool t91) ∧ (
                                      vIf (!t91)
                                      (Q (Value.bool false) w89)
                                      (jnC C4 ((x1.1, x1.2.1, x1.2.2), x5, (x6.1, x6.2.1, x6.2.2), ((IntKind.wrap .i64 (x7 + 1))), ()) w89)))))))))))))))))))
def F4.k12 (Q : Value → World → Prop) (C4 : ((Option Addr × Nat × Nat) × Option Addr × (Option Addr × Nat × Nat) × Int × Unit) → World → Prop) : ((Option Addr × Nat × Nat) × Option Addr × (Option Addr × Nat × Nat) × Int × (Nat × Nat) × Unit) → World → Prop := fun s w => ∀ _ : Nat → Value, F4.k12c Q C4 s.1 s.2.1 s.2.2.1 s.2.2.2.1 s.2.2.2.2.1 w
def F4.b4c (Q : Value → World → Prop) (C4 : ((Option Addr × Nat × Nat) × Option Addr × (Option Addr × Nat × Nat) × Int × Unit) → World → Prop) (x1 : (Option Addr × Nat × Nat)) (x5 : Option Addr) (x6 : (Option Addr × Nat × Nat)) (x7 : Int) (w : World) : Prop :=
  vIf (decide (x7 < ((x1.2.1 : Nat) : Int)))
  (dr x1.1 fun b9 o10 =>
    gd (decide (0 ≤ x7)) <|
    gd (decide (x7 < ((x1.2.1 : Nat) : Int))) <|
    ldA 43 w b9 (o10 + (x7).toNat * 43) fun a11 =>
    nw w Z46 46 fun b12 w13 =>
    gd (a11.length == 43) <|
    st w13 b12 0 a11 fun w14 =>
    ldI .i64 w14 b12 0 fun i15 =>
    vIf (i15 == 0)
    (ldA 39 w14 b12 (0 + 1) fun a16 =>
      Calls Try.prog 13 #[Value.pointer x5, ofL a16] w14 fun e18 w17 =>
      e18 = .returned (Value.tuple #[]) ∧ (
        ldA 39 w17 b12 (0 + 1) fun a19 =>
        Calls Try.prog 14 #[Value.slice x6.1 x6.2.1 x6.2.2, ofL a19] w17 fun e21 w20 =>
        ∃ (A22 : Option Addr) (n23 c24 : Nat), e21 = .returned (Value.slice A22 n23 c24) ∧ (
          jnC (F4.k12 Q C4) ((x1.1, x1.2.1, x1.2.2), x5, (A22, n23, c24), (x7), (b12, 0), ()) w20)))
    (ldSl w14 b12 (0 + 40) fun A92 n93 c94 =>
      Calls Try.prog 15 #[Value.pointer x5, Value.slice A92 n93 c94] w14 fun e96 w95 =>
      e96 = .returned (Value.tuple #[]) ∧ (
        ldSl w95 b12 (0 + 40) fun A97 n98 c99 =>
        Calls Try.prog 16 #[Value.slice x6.1 x6.2.1 x6.2.2, Value.slice A97 n98 c99] w95 fun e101 w100 =>
        ∃ (A102 : Option Addr) (n103 c104 : Nat), e101 = .returned (Value.slice A102 n103 c104) ∧ (
          jnC (F4.k12 Q C4) ((x1.1, x1.2.1, x1.2.2), x5, (A102, n103, c104), (x7), (b12, 0), ()) w100))))
  (Calls Try.prog 24 #[Value.pointer x5] w fun e106 w105 =>
    ∃ (A107 : Option Addr) (n108 c109 : Nat), e106 = .returned (Value.slice A107 n108 c109) ∧ (
      Calls Try.prog 23 #[Value.slice A107 n108 c109, Value.slice x6.1 x6.2.1 x6.2.2] w105 fun e111 w110 =>
      ∃ t112 : Bool, e111 = .returned (Value.bool t112) ∧ (
        vIf t112
        (Calls Try.prog 8 #[] w110 fun e114 w113 =>
          ∃ t115 : Bool, e114 = .returned (Value.bool t115) ∧ (
            Q (Value.bool t115) w113))
        (Q (Value.bool false) w110))))
def F4.b4 (Q : Value → World → Prop) : ((Option Addr × Nat × Nat) × Option Addr × (Option Addr × Nat × Nat) × Int × Unit) → World → (((Option Addr × Nat × Nat) × Option Addr × (Option Addr × Nat × Nat) × Int × Unit) → World → Prop) → Prop := fun s w C4 => ∀ _ : Nat → Value, F4.b4c Q C4 s.1 s.2.1 s.2.2.1 s.2.2.2.1 w
def F4.l4 (Q : Value → World → Prop) : ((Option Addr × Nat × Nat) × Option Addr × (Option Addr × Nat × Nat) × Int × Unit) → World → Prop := fun s w => ∃ n, loopC (F4.b4 Q) n s w
def F4.vc (x0A : Option Addr) (x0n x0c : Nat) (x1A : Option Addr) (x1n x1c : Nat) (w : World) (Q : Value → World → Prop) : Prop :=
  Calls Try.prog 6 #[Value.slice x0A x0n x0c] w fun e2 w1 =>
  ∃ p3 : Option Addr, e2 = .returned (Value.pointer p3) ∧ (
    Calls Try.prog 12 #[Value.slice x0A x0n x0c] w1 fun e5 w4 =>
    ∃ (A6 : Option Addr) (n7 c8 : Nat), e5 = .returned (Value.slice A6 n7 c8) ∧ (
      jnC (F4.l4 Q) ((x1A, x1n, x1c), p3, (A6, n7, c8), (0), ()) w4))
def F4.an : Ann := ⟨[(4, [(1, .kSl), (5, .kP), (6, .kSl), (7, .kI .i64)])], [(12, [(1, .kSl), (5, .kP), (6, .kSl), (7, .kI .i64), (8, .kL)])]⟩
theorem F4.eq (x0A : Option Addr) (x0n x0c : Nat) (x1A : Option Addr) (x1n x1c : Nat) (w : World) (Q : Value → World → Prop) : vcFn Try.prog F4.an 4 [Value.slice x0A x0n x0c, Value.slice x1A x1n x1c] w Q = F4.vc x0A x0n x0c x1A x1n x1c w Q := by kernel_rfl
theorem F4.of (x0A : Option Addr) (x0n x0c : Nat) (x1A : Option Addr) (x1n x1c : Nat) (w : World) {Q : Value → World → Prop} (h : F4.vc x0A x0n x0c x1A x1n x1c w Q) : Calls Try.prog 4 #[Value.slice x0A x0n x0c, Value.slice x1A x1n x1c] w (fun e w' => ∃ v, e = .returned v ∧ Q v w') := vcFn_sound noCount mixed ((F4.eq x0A x0n x0c x1A x1n x1c w Q).symm ▸ h)
/-! ### function 5: stillage/stillagelaw21.TagsNone -/
def F5.vc (x0 : List Value) (x1A : Option Addr) (x1n x1c : Nat) (w : World) (Q : Value → World → Prop) : Prop :=
  nw w x0 44 fun b1 w2 =>
  ldA 39 w2 b1 0 fun a3 =>
  Calls Try.prog 13 #[Value.pointer none, ofL a3] w2 fun e5 w4 =>
  e5 = .returned (Value.tuple #[]) ∧ (
    Calls Try.prog 15 #[Value.pointer none, Value.slice x1A x1n x1c] w4 fun e7 w6 =>
    e7 = .returned (Value.tuple #[]) ∧ (
      ldS w6 b1 (0 + 34) fun s8 =>
      Calls Try.prog 9 #[Value.pointer none, Value.string s8] w6 fun e10 w9 =>
      ∃ a11 : List Value, ∃ t12 : Bool, e10 = .returned (Value.tuple #[ofL a11, Value.bool t12]) ∧ (
        nw w9 Z34 34 fun b13 w14 =>
        gd (a11.length == 38) <|
        st w14 b13 0 a11 fun w15 =>
        ldA 38 w15 b13 0 fun a16 =>
        Calls Try.prog 18 #[ofL a16, ofL ([Value.string (⟨#[]⟩ : ByteArray)] ++ ([Value.int .u8 0, Value.int .u8 0, Value.int .u8 0, Value.int .u8 0, Value.int .u8 0, Value.int .u8 0, Value.int .u8 0, Value.int .u8 0, Value.int .u8 0, Value.int .u8 0, Value.int .u8 0, Value.int .u8 0, Value.int .u8 0, Value.int .u8 0, Value.int .u8 0, Value.int .u8 0, Value.int .u8 0, Value.int .u8 0, Value.int .u8 0, Value.int .u8 0, Value.int .u8 0, Value.int .u8 0, Value.int .u8 0, Value.int .u8 0, Value.int .u8 0, Value.int .u8 0, Value.int .u8 0, Value.int .u8 0, Value.int .u8 0, Value.int .u8 0, Value.int .u8 0, Value.int .u8 0] ++ ([Value.bool false] ++ ([Value.int .i64 0, Value.int .i64 0, Value.int .i64 0] ++ ([Value.slice none 0 0] ++ [])))))] w15 fun e18 w17 =>
        ∃ t19 : Bool, e18 = .returned (Value.bool t19) ∧ (
          vIf t19
          (vIf (!t12)
            (Calls Try.prog 11 #[Value.pointer none] w17 fun e21 w20 =>
              ∃ i22 : Int, e21 = .returned (Value.int .i64 i22) ∧ (
                vIf (i22 == 0)
                (Calls Try.prog 24 #[Value.pointer none] w20 fun e24 w23 =>
                  ∃ (A25 : Option Addr) (n26 c27 : Nat), e24 = .returned (Value.slice A25 n26 c27) ∧ (
                    vIf (((n26 : Nat) : Int) == 0)
                    (Calls Try.prog 7 #[Value.pointer none, Value.string (⟨#[]⟩ : ByteArray), Value.int .i64 9] w23 fun e29 w28 =>
                      ∃ (A30 : Option Addr) (n31 c32 : Nat), e29 = .returned (Value.slice A30 n31 c32) ∧ (
                        vIf (((n31 : Nat) : Int) == 0)
                        (Calls Try.prog 22 #[Value.pointer none] w28 fun e34 w33 =>
                          ∃ (A35 : Option Addr) (n36 c37 : Nat), e34 = .returned (Value.slice A35 n36 c37) ∧ (
                            vIf (((n36 : Nat) : Int) == 0)
                            (Calls Try.prog 8 #[] w33 fun e39 w38 =>
                              ∃ t40 : Bool, e39 = .returned (Value.bool t40) ∧ (
                                Q (Value.bool t40) w38))
                            (Q (Value.bool false) w33)))
                        (Q (Value.bool false) w28)))
                    (Q (Value.bool false) w23)))
                (Q (Value.bool false) w20)))
            (Q (Value.bool false) w17))
          (Q (Value.bool false) w17)))))
def F5.an : Ann := ⟨[], []⟩
theorem F5.eq (x0 : List Value) (x1A : Option Addr) (x1n x1c : Nat) (w : World) (Q : Value → World → Prop) : vcFn Try.prog F5.an 5 [ofL x0, Value.slice x1A x1n x1c] w Q = F5.vc x0 x1A x1n x1c w Q := by kernel_rfl
theorem F5.of (x0 : List Value) (x1A : Option Addr) (x1n x1c : Nat) (w : World) {Q : Value → World → Prop} (h : F5.vc x0 x1A x1n x1c w Q) : Calls Try.prog 5 #[ofL x0, Value.slice x1A x1n x1c] w (fun e w' => ∃ v, e = .returned v ∧ Q v w') := vcFn_sound noCount mixed ((F5.eq x0 x1A x1n x1c w Q).symm ▸ h)
/-! ### function 6: stillage/tags.New -/
def F6.b3c (Q : Value → World → Prop) (C3 : ((Nat × Nat) × (Option Addr × Nat × Nat) × Int × Int × Unit) → World → Prop) (x3 : (Nat × Nat)) (x8 : (Option Addr × Nat × Nat)) (x9 : Int) (x10 : Int) (w : World) : Prop :=
  vIf (decide (x10 < x9))
  (dr x8.1 fun b3 o4 =>
    gd (decide (0 ≤ x10)) <|
    gd (decide (x10 < ((x8.2.1 : Nat) : Int))) <|
    ldA 38 w b3 (o4 + (x10).toNat * 38) fun a5 =>
    nw w Z34 34 fun b6 w7 =>
    gd (a5.length == 38) <|
    st w7 b6 0 a5 fun w8 =>
    ldA 38 w8 b6 0 fun a9 =>
    Calls Try.prog 26 #[ofL a9] w8 fun e11 w10 =>
    ∃ a12 : List Value, e11 = .returned (ofL a12) ∧ (
      Calls Try.prog 25 #[Value.pointer (some ⟨x3.1, x3.2, none⟩), ofL a12] w10 fun e14 w13 =>
      e14 = .returned (Value.tuple #[]) ∧ (
        jnC C3 ((x3.1, x3.2), (x8.1, x8.2.1, x8.2.2), (x9), ((IntKind.wrap .i64 (x10 + 1))), ()) w13)))
  (Q (Value.pointer (some ⟨x3.1, x3.2, none⟩)) w)
def F6.b3 (Q : Value → World → Prop) : ((Nat × Nat) × (Option Addr × Nat × Nat) × Int × Int × Unit) → World → (((Nat × Nat) × (Option Addr × Nat × Nat) × Int × Int × Unit) → World → Prop) → Prop := fun s w C3 => ∀ _ : Nat → Value, F6.b3c Q C3 s.1 s.2.1 s.2.2.1 s.2.2.2.1 w
def F6.l3 (Q : Value → World → Prop) : ((Nat × Nat) × (Option Addr × Nat × Nat) × Int × Int × Unit) → World → Prop := fun s w => ∃ n, loopC (F6.b3 Q) n s w
def F6.vc (x0A : Option Addr) (x0n x0c : Nat) (w : World) (Q : Value → World → Prop) : Prop :=
  nw w ([Value.slice none 0 0] ++ []) 63 fun b1 w2 =>
  jnC (F6.l3 Q) ((b1, 0), (x0A, x0n, x0c), (((x0n : Nat) : Int)), (0), ()) w2
def F6.an : Ann := ⟨[(3, [(3, .kL), (8, .kSl), (9, .kI .i64), (10, .kI .i64)])], []⟩
theorem F6.eq (x0A : Option Addr) (x0n x0c : Nat) (w : World) (Q : Value → World → Prop) : vcFn Try.prog F6.an 6 [Value.slice x0A x0n x0c] w Q = F6.vc x0A x0n x0c w Q := by kernel_rfl
theorem F6.of (x0A : Option Addr) (x0n x0c : Nat) (w : World) {Q : Value → World → Prop} (h : F6.vc x0A x0n x0c w Q) : Calls Try.prog 6 #[Value.slice x0A x0n x0c] w (fun e w' => ∃ v, e = .returned v ∧ Q v w') := vcFn_sound noCount mixed ((F6.eq x0A x0n x0c w Q).symm ▸ h)
/-! ### function 7: (*stillage/tags.Tags).List -/
def F7.k6c (Q : Value → World → Prop) (C3 : (ByteArray × Int × (Option Addr × Nat × Nat) × (Option Addr × Nat × Nat) × Int × Int × Unit) → World → Prop) (x1 : ByteArray) (x2 : Int) (x7 : (Option Addr × Nat × Nat)) (x9 : (Nat × Nat)) (x11 : (Option Addr × Nat × Nat)) (x12 : Int) (x13 : Int) (x26 : Bool) (w : World) : Prop :=
  vIf x26
  (ldS w x9.1 x9.2 fun s13 =>
    nw w ([Value.string s13] ++ []) 9 fun b14 w15 =>
    app w15 1 16 [Value.string (⟨#[]⟩ : ByteArray)] 9 x7.1 x7.2.1 x7.2.2 (Value.slice (some ⟨b14, 0, none⟩) 1 1) fun A16 n17 c18 w19 =>
    jnC C3 (x1, (x2), (A16, n17, c18), (x11.1, x11.2.1, x11.2.2), (x12), ((IntKind.wrap .i64 (x13 + 1))), ()) w19)
  (jnC C3 (x1, (x2), (x7.1, x7.2.1, x7.2.2), (x11.1, x11.2.1, x11.2.2), (x12), ((IntKind.wrap .i64 (x13 + 1))), ()) w)
def F7.k6 (Q : Value → World → Prop) (C3 : (ByteArray × Int × (Option Addr × Nat × Nat) × (Option Addr × Nat × Nat) × Int × Int × Unit) → World → Prop) : (ByteArray × Int × (Option Addr × Nat × Nat) × (Nat × Nat) × (Option Addr × Nat × Nat) × Int × Int × Bool × Unit) → World → Prop := fun s w => ∀ _ : Nat → Value, F7.k6c Q C3 s.1 s.2.1 s.2.2.1 s.2.2.2.1 s.2.2.2.2.1 s.2.2.2.2.2.1 s.2.2.2.2.2.2.1 s.2.2.2.2.2.2.2.1 w
def F7.b3c (Q : Value → World → Prop) (C3 : (ByteArray × Int × (Option Addr × Nat × Nat) × (Option Addr × Nat × Nat) × Int × Int × Unit) → World → Prop) (x1 : ByteArray) (x2 : Int) (x7 : (Option Addr × Nat × Nat)) (x11 : (Option Addr × Nat × Nat)) (x12 : Int) (x13 : Int) (w : World) : Prop :=
  vIf (decide (x13 < x12))
  (dr x11.1 fun b6 o7 =>
    gd (decide (0 ≤ x13)) <|
    gd (decide (x13 < ((x11.2.1 : Nat) : Int))) <|
    ldA 38 w b6 (o7 + (x13).toNat * 38) fun a8 =>
    nw w Z34 34 fun b9 w10 =>
    gd (a8.length == 38) <|
    st w10 b9 0 a8 fun w11 =>
    ldS w11 b9 0 fun s12 =>
    vIf (!((Op.bytesLess s12.toList x1.toList) || (s12.toList == x1.toList)))
    (jnC (F7.k6 Q C3) (x1, (x2), (x7.1, x7.2.1, x7.2.2), (b9, 0), (x11.1, x11.2.1, x11.2.2), (x12), (x13), (decide (((x7.2.1 : Nat) : Int) < x2)), ()) w11)
    (jnC (F7.k6 Q C3) (x1, (x2), (x7.1, x7.2.1, x7.2.2), (b9, 0), (x11.1, x11.2.1, x11.2.2), (x12), (x13), false, ()) w11))
  (Q (Value.slice x7.1 x7.2.1 x7.2.2) w)
def F7.b3 (Q : Value → World → Prop) : (ByteArray × Int × (Option Addr × Nat × Nat) × (Option Addr × Nat × Nat) × Int × Int × Unit) → World → ((ByteArray × Int × (Option Addr × Nat × Nat) × (Option Addr × Nat × Nat) × Int × Int × Unit) → World → Prop) → Prop := fun s w C3 => ∀ _ : Nat → Value, F7.b3c Q C3 s.1 s.2.1 s.2.2.1 s.2.2.2.1 s.2.2.2.2.1 s.2.2.2.2.2.1 w
def F7.l3 (Q : Value → World → Prop) : (ByteArray × Int × (Option Addr × Nat × Nat) × (Option Addr × Nat × Nat) × Int × Int × Unit) → World → Prop := fun s w => ∃ n, loopC (F7.b3 Q) n s w
def F7.vc (x0 : Option Addr) (x1 : ByteArray) (x2 : Int) (w : World) (Q : Value → World → Prop) : Prop :=
  Calls Try.prog 27 #[Value.pointer x0] w fun e2 w1 =>
  ∃ (A3 : Option Addr) (n4 c5 : Nat), e2 = .returned (Value.slice A3 n4 c5) ∧ (
    jnC (F7.l3 Q) (x1, (x2), (none, 0, 0), (A3, n4, c5), (((n4 : Nat) : Int)), (0), ()) w1)
def F7.an : Ann := ⟨[(3, [(1, .kS), (2, .kI .i64), (7, .kSl), (11, .kSl), (12, .kI .i64), (13, .kI .i64)])], [(6, [(1, .kS), (2, .kI .i64), (7, .kSl), (9, .kL), (11, .kSl), (12, .kI .i64), (13, .kI .i64), (26, .kB)])]⟩
theorem F7.eq (x0 : Option Addr) (x1 : ByteArray) (x2 : Int) (w : World) (Q : Value → World → Prop) : vcFn Try.prog F7.an 7 [Value.pointer x0, Value.string x1, Value.int .i64 x2] w Q = F7.vc x0 x1 x2 w Q := by kernel_rfl
theorem F7.of (x0 : Option Addr) (x1 : ByteArray) (x2 : Int) (w : World) {Q : Value → World → Prop} (h : F7.vc x0 x1 x2 w Q) : Calls Try.prog 7 #[Value.pointer x0, Value.string x1, Value.int .i64 x2] w (fun e w' => ∃ v, e = .returned v ∧ Q v w') := vcFn_sound noCount mixed ((F7.eq x0 x1 x2 w Q).symm ▸ h)
/-! ### function 8: stillage/stillagelaw21.lives -/
def F8.vc  (w : World) (Q : Value → World → Prop) : Prop :=
  Calls Try.prog 6 #[Value.slice none 0 0] w fun e2 w1 =>
  ∃ p3 : Option Addr, e2 = .returned (Value.pointer p3) ∧ (
    gd (([Value.int .u8 1] ++ ([Value.int .u8 0] ++ ([Value.int .u8 0] ++ ([Value.int .u8 0] ++ ([Value.int .u8 0] ++ ([Value.int .u8 0] ++ ([Value.int .u8 0] ++ ([Value.int .u8 0] ++ ([Value.int .u8 0] ++ ([Value.int .u8 0] ++ ([Value.int .u8 0] ++ ([Value.int .u8 0] ++ ([Value.int .u8 0] ++ ([Value.int .u8 0] ++ ([Value.int .u8 0] ++ ([Value.int .u8 0] ++ ([Value.int .u8 0] ++ ([Value.int .u8 0] ++ ([Value.int .u8 0] ++ ([Value.int .u8 0] ++ ([Value.int .u8 0] ++ ([Value.int .u8 0] ++ ([Value.int .u8 0] ++ ([Value.int .u8 0] ++ ([Value.int .u8 0] ++ ([Value.int .u8 0] ++ ([Value.int .u8 0] ++ ([Value.int .u8 0] ++ ([Value.int .u8 0] ++ ([Value.int .u8 0] ++ ([Value.int .u8 0] ++ ([Value.int .u8 0] ++ [])))))))))))))))))))))))))))))))).length == 32) <|
    gd (([Value.int .i64 1] ++ ([Value.int .i64 0] ++ ([Value.int .i64 0] ++ []))).length == 3) <|
    nw w1 Z44 44 fun b4 w5 =>
    gd (([Value.int .i64 3] ++ ([Value.int .u64 0] ++ (([Value.int .u8 1] ++ ([Value.int .u8 0] ++ ([Value.int .u8 0] ++ ([Value.int .u8 0] ++ ([Value.int .u8 0] ++ ([Value.int .u8 0] ++ ([Value.int .u8 0] ++ ([Value.int .u8 0] ++ ([Value.int .u8 0] ++ ([Value.int .u8 0] ++ ([Value.int .u8 0] ++ ([Value.int .u8 0] ++ ([Value.int .u8 0] ++ ([Value.int .u8 0] ++ ([Value.int .u8 0] ++ ([Value.int .u8 0] ++ ([Value.int .u8 0] ++ ([Value.int .u8 0] ++ ([Value.int .u8 0] ++ ([Value.int .u8 0] ++ ([Value.int .u8 0] ++ ([Value.int .u8 0] ++ ([Value.int .u8 0] ++ ([Value.int .u8 0] ++ ([Value.int .u8 0] ++ ([Value.int .u8 0] ++ ([Value.int .u8 0] ++ ([Value.int .u8 0] ++ ([Value.int .u8 0] ++ ([Value.int .u8 0] ++ ([Value.int .u8 0] ++ ([Value.int .u8 0] ++ [])))))))))))))))))))))))))))))))) ++ ([Value.string (⟨#[118, 49]⟩ : ByteArray)] ++ ([Value.int .i64 0] ++ (([Value.int .i64 1] ++ ([Value.int .i64 0] ++ ([Value.int .i64 0] ++ []))) ++ [])))))).length == 39) <|
    st w5 b4 0 ([Value.int .i64 3] ++ ([Value.int .u64 0] ++ (([Value.int .u8 1] ++ ([Value.int .u8 0] ++ ([Value.int .u8 0] ++ ([Value.int .u8 0] ++ ([Value.int .u8 0] ++ ([Value.int .u8 0] ++ ([Value.int .u8 0] ++ ([Value.int .u8 0] ++ ([Value.int .u8 0] ++ ([Value.int .u8 0] ++ ([Value.int .u8 0] ++ ([Value.int .u8 0] ++ ([Value.int .u8 0] ++ ([Value.int .u8 0] ++ ([Value.int .u8 0] ++ ([Value.int .u8 0] ++ ([Value.int .u8 0] ++ ([Value.int .u8 0] ++ ([Value.int .u8 0] ++ ([Value.int .u8 0] ++ ([Value.int .u8 0] ++ ([Value.int .u8 0] ++ ([Value.int .u8 0] ++ ([Value.int .u8 0] ++ ([Value.int .u8 0] ++ ([Value.int .u8 0] ++ ([Value.int .u8 0] ++ ([Value.int .u8 0] ++ ([Value.int .u8 0] ++ ([Value.int .u8 0] ++ ([Value.int .u8 0] ++ ([Value.int .u8 0] ++ [])))))))))))))))))))))))))))))))) ++ ([Value.string (⟨#[118, 49]⟩ : ByteArray)] ++ ([Value.int .i64 0] ++ (([Value.int .i64 1] ++ ([Value.int .i64 0] ++ ([Value.int .i64 0] ++ []))) ++ [])))))) fun w6 =>
    ldA 39 w6 b4 0 fun a7 =>
    Calls Try.prog 13 #[Value.pointer p3, ofL a7] w6 fun e9 w8 =>
    e9 = .returned (Value.tuple #[]) ∧ (
      Calls Try.prog 7 #[Value.pointer p3, Value.string (⟨#[]⟩ : ByteArray), Value.int .i64 5] w8 fun e11 w10 =>
      ∃ (A12 : Option Addr) (n13 c14 : Nat), e11 = .returned (Value.slice A12 n13 c14) ∧ (
        st w10 b4 0 [Value.int .i64 4] fun w15 =>
        ldA 39 w15 b4 0 fun a16 =>
        Calls Try.prog 13 #[Value.pointer p3, ofL a16] w15 fun e18 w17 =>
        e18 = .returned (Value.tuple #[]) ∧ (
          vIf (((n13 : Nat) : Int) == 1)
          (dr A12 fun b19 o20 =>
            gd (decide ((0 : Int) < ((n13 : Nat) : Int))) <|
            ldS w17 b19 o20 fun s21 =>
            vIf (s21.toList == (⟨#[118, 49]⟩ : ByteArray).toList)
            (Calls Try.prog 11 #[Value.pointer p3] w17 fun e23 w22 =>
              ∃ i24 : Int, e23 = .returned (Value.int .i64 i24) ∧ (
                vIf (i24 == 0)
                (Calls Try.prog 24 #[Value.pointer p3] w22 fun e26 w25 =>
                  ∃ (A27 : Option Addr) (n28 c29 : Nat), e26 = .returned (Value.slice A27 n28 c29) ∧ (
                    Q (Value.bool (((n28 : Nat) : Int) == 1)) w25))
                (Q (Value.bool false) w22)))
            (Q (Value.bool false) w17))
          (Q (Value.bool false) w17)))))
def F8.an : Ann := ⟨[], []⟩
theorem F8.eq  (w : World) (Q : Value → World → Prop) : vcFn Try.prog F8.an 8 [] w Q = F8.vc  w Q := by kernel_rfl
theorem F8.of  (w : World) {Q : Value → World → Prop} (h : F8.vc  w Q) : Calls Try.prog 8 #[] w (fun e w' => ∃ v, e = .returned v ∧ Q v w') := vcFn_sound noCount mixed ((F8.eq  w Q).symm ▸ h)
/-! ### function 9: (*stillage/tags.Tags).Get -/
def F9.vc (x0 : Option Addr) (x1 : ByteArray) (w : World) (Q : Value → World → Prop) : Prop :=
  nw w Z34 34 fun b1 w2 =>
  vIf x0.isNone
  (gd (([Value.string (⟨#[]⟩ : ByteArray)] ++ ([Value.int .u8 0, Value.int .u8 0, Value.int .u8 0, Value.int .u8 0, Value.int .u8 0, Value.int .u8 0, Value.int .u8 0, Value.int .u8 0, Value.int .u8 0, Value.int .u8 0, Value.int .u8 0, Value.int .u8 0, Value.int .u8 0, Value.int .u8 0, Value.int .u8 0, Value.int .u8 0, Value.int .u8 0, Value.int .u8 0, Value.int .u8 0, Value.int .u8 0, Value.int .u8 0, Value.int .u8 0, Value.int .u8 0, Value.int .u8 0, Value.int .u8 0, Value.int .u8 0, Value.int .u8 0, Value.int .u8 0, Value.int .u8 0, Value.int .u8 0, Value.int .u8 0, Value.int .u8 0] ++ ([Value.bool false] ++ ([Value.int .i64 0, Value.int .i64 0, Value.int .i64 0] ++ ([Value.slice none 0 0] ++ []))))).length == 38) <|
    st w2 b1 0 ([Value.string (⟨#[]⟩ : ByteArray)] ++ ([Value.int .u8 0, Value.int .u8 0, Value.int .u8 0, Value.int .u8 0, Value.int .u8 0, Value.int .u8 0, Value.int .u8 0, Value.int .u8 0, Value.int .u8 0, Value.int .u8 0, Value.int .u8 0, Value.int .u8 0, Value.int .u8 0, Value.int .u8 0, Value.int .u8 0, Value.int .u8 0, Value.int .u8 0, Value.int .u8 0, Value.int .u8 0, Value.int .u8 0, Value.int .u8 0, Value.int .u8 0, Value.int .u8 0, Value.int .u8 0, Value.int .u8 0, Value.int .u8 0, Value.int .u8 0, Value.int .u8 0, Value.int .u8 0, Value.int .u8 0, Value.int .u8 0, Value.int .u8 0] ++ ([Value.bool false] ++ ([Value.int .i64 0, Value.int .i64 0, Value.int .i64 0] ++ ([Value.slice none 0 0] ++ []))))) fun w3 =>
    ldA 38 w3 b1 0 fun a4 =>
    Q (Value.tuple #[ofL a4, Value.bool false]) w3)
  (Calls Try.prog 28 #[Value.pointer x0, Value.string x1] w2 fun e6 w5 =>
    ∃ i7 : Int, ∃ t8 : Bool, e6 = .returned (Value.tuple #[Value.int .i64 i7, Value.bool t8]) ∧ (
      vIf (!t8)
      (gd (([Value.string (⟨#[]⟩ : ByteArray)] ++ ([Value.int .u8 0, Value.int .u8 0, Value.int .u8 0, Value.int .u8 0, Value.int .u8 0, Value.int .u8 0, Value.int .u8 0, Value.int .u8 0, Value.int .u8 0, Value.int .u8 0, Value.int .u8 0, Value.int .u8 0, Value.int .u8 0, Value.int .u8 0, Value.int .u8 0, Value.int .u8 0, Value.int .u8 0, Value.int .u8 0, Value.int .u8 0, Value.int .u8 0, Value.int .u8 0, Value.int .u8 0, Value.int .u8 0, Value.int .u8 0, Value.int .u8 0, Value.int .u8 0, Value.int .u8 0, Value.int .u8 0, Value.int .u8 0, Value.int .u8 0, Value.int .u8 0, Value.int .u8 0] ++ ([Value.bool false] ++ ([Value.int .i64 0, Value.int .i64 0, Value.int .i64 0] ++ ([Value.slice none 0 0] ++ []))))).length == 38) <|
        st w5 b1 0 ([Value.string (⟨#[]⟩ : ByteArray)] ++ ([Value.int .u8 0, Value.int .u8 0, Value.int .u8 0, Value.int .u8 0, Value.int .u8 0, Value.int .u8 0, Value.int .u8 0, Value.int .u8 0, Value.int .u8 0, Value.int .u8 0, Value.int .u8 0, Value.int .u8 0, Value.int .u8 0, Value.int .u8 0, Value.int .u8 0, Value.int .u8 0, Value.int .u8 0, Value.int .u8 0, Value.int .u8 0, Value.int .u8 0, Value.int .u8 0, Value.int .u8 0, Value.int .u8 0, Value.int .u8 0, Value.int .u8 0, Value.int .u8 0, Value.int .u8 0, Value.int .u8 0, Value.int .u8 0, Value.int .u8 0, Value.int .u8 0, Value.int .u8 0] ++ ([Value.bool false] ++ ([Value.int .i64 0, Value.int .i64 0, Value.int .i64 0] ++ ([Value.slice none 0 0] ++ []))))) fun w9 =>
        ldA 38 w9 b1 0 fun a10 =>
        Q (Value.tuple #[ofL a10, Value.bool false]) w9)
      (dr x0 fun b11 o12 =>
        ldSl w5 b11 o12 fun A13 n14 c15 =>
        dr A13 fun b16 o17 =>
        gd (decide (0 ≤ i7)) <|
        gd (decide (i7 < ((n14 : Nat) : Int))) <|
        ldA 38 w5 b16 (o17 + (i7).toNat * 38) fun a18 =>
        Calls Try.prog 26 #[ofL a18] w5 fun e20 w19 =>
        ∃ a21 : List Value, e20 = .returned (ofL a21) ∧ (
          gd (a21.length == 38) <|
          st w19 b1 0 a21 fun w22 =>
          ldA 38 w22 b1 0 fun a23 =>
          Q (Value.tuple #[ofL a23, Value.bool true]) w22))))
def F9.an : Ann := ⟨[], []⟩
theorem F9.eq (x0 : Option Addr) (x1 : ByteArray) (w : World) (Q : Value → World → Prop) : vcFn Try.prog F9.an 9 [Value.pointer x0, Value.string x1] w Q = F9.vc x0 x1 w Q := by kernel_rfl
theorem F9.of (x0 : Option Addr) (x1 : ByteArray) (w : World) {Q : Value → World → Prop} (h : F9.vc x0 x1 w Q) : Calls Try.prog 9 #[Value.pointer x0, Value.string x1] w (fun e w' => ∃ v, e = .returned v ∧ Q v w') := vcFn_sound noCount mixed ((F9.eq x0 x1 w Q).symm ▸ h)
/-! ### function 10: stillage/stillageref21.Texts -/
def F10.b4c (Q : Value → World → Prop) (C4 : ((Option Addr × Nat × Nat) × (Option Addr × Nat × Nat) × Int × Unit) → World → Prop) (x0 : (Option Addr × Nat × Nat)) (x1 : (Option Addr × Nat × Nat)) (x5 : Int) (w : World) : Prop :=
  vIf (decide (x5 < ((x0.2.1 : Nat) : Int)))
  (dr x0.1 fun b1 o2 =>
    gd (decide (0 ≤ x5)) <|
    gd (decide (x5 < ((x0.2.1 : Nat) : Int))) <|
    ldS w.drew b1 (o2 + (x5).toNat * 1) fun s3 =>
    dr x1.1 fun b4 o5 =>
    gd (decide (0 ≤ x5)) <|
    gd (decide (x5 < ((x1.2.1 : Nat) : Int))) <|
    ldS w.drew b4 (o5 + (x5).toNat * 1) fun s6 =>
    vIf (!(s3.toList == s6.toList))
    (Q (Value.bool false) w.drew)
    (jnC C4 ((x0.1, x0.2.1, x0.2.2), (x1.1, x1.2.1, x1.2.2), ((IntKind.wrap .i64 (x5 + 1))), ()) w.drew))
  (Q (Value.bool true) w)
def F10.b4 (Q : Value → World → Prop) : ((Option Addr × Nat × Nat) × (Option Addr × Nat × Nat) × Int × Unit) → World → (((Option Addr × Nat × Nat) × (Option Addr × Nat × Nat) × Int × Unit) → World → Prop) → Prop := fun s w C4 => ∀ _ : Nat → Value, F10.b4c Q C4 s.1 s.2.1 s.2.2.1 w
def F10.l4 (Q : Value → World → Prop) : ((Option Addr × Nat × Nat) × (Option Addr × Nat × Nat) × Int × Unit) → World → Prop := fun s w => ∃ n, loopC (F10.b4 Q) n s w
def F10.vc (x0A : Option Addr) (x0n x0c : Nat) (x1A : Option Addr) (x1n x1c : Nat) (w : World) (Q : Value → World → Prop) : Prop :=
  vIf (((x0n : Nat) : Int) != ((x1n : Nat) : Int))
  (Q (Value.bool false) w)
  (jnC (F10.l4 Q) ((x0A, x0n, x0c), (x1A, x1n, x1c), (0), ()) w)
def F10.an : Ann := ⟨[(4, [(0, .kSl), (1, .kSl), (5, .kI .i64)])], []⟩
theorem F10.eq (x0A : Option Addr) (x0n x0c : Nat) (x1A : Option Addr) (x1n x1c : Nat) (w : World) (Q : Value → World → Prop) : vcFn Try.prog F10.an 10 [Value.slice x0A x0n x0c, Value.slice x1A x1n x1c] w Q = F10.vc x0A x0n x0c x1A x1n x1c w Q := by kernel_rfl
theorem F10.of (x0A : Option Addr) (x0n x0c : Nat) (x1A : Option Addr) (x1n x1c : Nat) (w : World) {Q : Value → World → Prop} (h : F10.vc x0A x0n x0c x1A x1n x1c w Q) : Calls Try.prog 10 #[Value.slice x0A x0n x0c, Value.slice x1A x1n x1c] w (fun e w' => ∃ v, e = .returned v ∧ Q v w') := vcFn_sound noCount mixed ((F10.eq x0A x0n x0c x1A x1n x1c w Q).symm ▸ h)
/-! ### function 11: (*stillage/tags.Tags).Count -/
def F11.vc (x0 : Option Addr) (w : World) (Q : Value → World → Prop) : Prop :=
  Calls Try.prog 27 #[Value.pointer x0] w fun e2 w1 =>
  ∃ (A3 : Option Addr) (n4 c5 : Nat), e2 = .returned (Value.slice A3 n4 c5) ∧ (
    Q (Value.int .i64 ((n4 : Nat) : Int)) w1)
def F11.an : Ann := ⟨[], []⟩
theorem F11.eq (x0 : Option Addr) (w : World) (Q : Value → World → Prop) : vcFn Try.prog F11.an 11 [Value.pointer x0] w Q = F11.vc x0 w Q := by kernel_rfl
theorem F11.of (x0 : Option Addr) (w : World) {Q : Value → World → Prop} (h : F11.vc x0 w Q) : Calls Try.prog 11 #[Value.pointer x0] w (fun e w' => ∃ v, e = .returned v ∧ Q v w') := vcFn_sound noCount mixed ((F11.eq x0 w Q).symm ▸ h)
/-! ### function 12: stillage/stillageref21.New -/
def F12.b3c (Q : Value → World → Prop) (C3 : ((Option Addr × Nat × Nat) × (Option Addr × Nat × Nat) × Int × Unit) → World → Prop) (x0 : (Option Addr × Nat × Nat)) (x3 : (Option Addr × Nat × Nat)) (x4 : Int) (w : World) : Prop :=
  vIf (decide (x4 < ((x0.2.1 : Nat) : Int)))
  (dr x0.1 fun b1 o2 =>
    gd (decide (0 ≤ x4)) <|
    gd (decide (x4 < ((x0.2.1 : Nat) : Int))) <|
    ldA 38 w b1 (o2 + (x4).toNat * 38) fun a3 =>
    Calls Try.prog 29 #[Value.slice x3.1 x3.2.1 x3.2.2, ofL a3] w fun e5 w4 =>
    ∃ (A6 : Option Addr) (n7 c8 : Nat), e5 = .returned (Value.slice A6 n7 c8) ∧ (
      jnC C3 ((x0.1, x0.2.1, x0.2.2), (A6, n7, c8), ((IntKind.wrap .i64 (x4 + 1))), ()) w4))
  (Q (Value.slice x3.1 x3.2.1 x3.2.2) w)
def F12.b3 (Q : Value → World → Prop) : ((Option Addr × Nat × Nat) × (Option Addr × Nat × Nat) × Int × Unit) → World → (((Option Addr × Nat × Nat) × (Option Addr × Nat × Nat) × Int × Unit) → World → Prop) → Prop := fun s w C3 => ∀ _ : Nat → Value, F12.b3c Q C3 s.1 s.2.1 s.2.2.1 w
def F12.l3 (Q : Value → World → Prop) : ((Option Addr × Nat × Nat) × (Option Addr × Nat × Nat) × Int × Unit) → World → Prop := fun s w => ∃ n, loopC (F12.b3 Q) n s w
def F12.vc (x0A : Option Addr) (x0n x0c : Nat) (w : World) (Q : Value → World → Prop) : Prop :=
  jnC (F12.l3 Q) ((x0A, x0n, x0c), (none, 0, 0), (0), ()) w
def F12.an : Ann := ⟨[(3, [(0, .kSl), (3, .kSl), (4, .kI .i64)])], []⟩
theorem F12.eq (x0A : Option Addr) (x0n x0c : Nat) (w : World) (Q : Value → World → Prop) : vcFn Try.prog F12.an 12 [Value.slice x0A x0n x0c] w Q = F12.vc x0A x0n x0c w Q := by kernel_rfl
theorem F12.of (x0A : Option Addr) (x0n x0c : Nat) (w : World) {Q : Value → World → Prop} (h : F12.vc x0A x0n x0c w Q) : Calls Try.prog 12 #[Value.slice x0A x0n x0c] w (fun e w' => ∃ v, e = .returned v ∧ Q v w') := vcFn_sound noCount mixed ((F12.eq x0A x0n x0c w Q).symm ▸ h)
/-! ### function 13: (*stillage/tags.Tags).Apply -/
def F13.vc (x0 : Option Addr) (x1 : List Value) (w : World) (Q : Value → World → Prop) : Prop :=
  nw w x1 44 fun b1 w2 =>
  vIf x0.isNone
  (Q (Value.tuple #[]) w2)
  (ldS w2 b1 (0 + 34) fun s3 =>
    Calls Try.prog 9 #[Value.pointer x0, Value.string s3] w2 fun e5 w4 =>
    ∃ a6 : List Value, ∃ t7 : Bool, e5 = .returned (Value.tuple #[ofL a6, Value.bool t7]) ∧ (
      nw w4 Z34 34 fun b8 w9 =>
      gd (a6.length == 38) <|
      st w9 b8 0 a6 fun w10 =>
      ldI .i64 w10 b1 0 fun i11 =>
      vIf (i11 == 3)
      (ldA 38 w10 b8 0 fun a12 =>
        ldA 39 w10 b1 0 fun a13 =>
        Calls Try.prog 30 #[ofL a12, ofL a13] w10 fun e15 w14 =>
        ∃ a16 : List Value, e15 = .returned (ofL a16) ∧ (
          Calls Try.prog 25 #[Value.pointer x0, ofL a16] w14 fun e18 w17 =>
          e18 = .returned (Value.tuple #[]) ∧ (
            Q (Value.tuple #[]) w17)))
      (vIf (i11 == 4)
        (vIf t7
          (ldA 38 w10 b8 0 fun a19 =>
            ldA 39 w10 b1 0 fun a20 =>
            Calls Try.prog 31 #[ofL a19, ofL a20] w10 fun e22 w21 =>
            ∃ a23 : List Value, e22 = .returned (ofL a23) ∧ (
              Calls Try.prog 25 #[Value.pointer x0, ofL a23] w21 fun e25 w24 =>
              e25 = .returned (Value.tuple #[]) ∧ (
                Q (Value.tuple #[]) w24)))
          (Q (Value.tuple #[]) w10))
        (Q (Value.tuple #[]) w10))))
def F13.an : Ann := ⟨[], []⟩
theorem F13.eq (x0 : Option Addr) (x1 : List Value) (w : World) (Q : Value → World → Prop) : vcFn Try.prog F13.an 13 [Value.pointer x0, ofL x1] w Q = F13.vc x0 x1 w Q := by kernel_rfl
theorem F13.of (x0 : Option Addr) (x1 : List Value) (w : World) {Q : Value → World → Prop} (h : F13.vc x0 x1 w Q) : Calls Try.prog 13 #[Value.pointer x0, ofL x1] w (fun e w' => ∃ v, e = .returned v ∧ Q v w') := vcFn_sound noCount mixed ((F13.eq x0 x1 w Q).symm ▸ h)
/-! ### function 14: stillage/stillageref21.Apply -/
def F14.k5c (Q : Value → World → Prop) (x0 : (Option Addr × Nat × Nat)) (x3 : (Nat × Nat)) (x5 : (Nat × Nat)) (x27 : Bool) (w : World) : Prop :=
  vIf x27
  (ldA 38 w x5.1 x5.2 fun a23 =>
    ldA 39 w x3.1 x3.2 fun a24 =>
    Calls Try.prog 33 #[ofL a23, ofL a24] w fun e26 w25 =>
    ∃ a27 : List Value, e26 = .returned (ofL a27) ∧ (
      Calls Try.prog 29 #[Value.slice x0.1 x0.2.1 x0.2.2, ofL a27] w25 fun e29 w28 =>
      ∃ (A30 : Option Addr) (n31 c32 : Nat), e29 = .returned (Value.slice A30 n31 c32) ∧ (
        Q (Value.slice A30 n31 c32) w28)))
  (Q (Value.slice x0.1 x0.2.1 x0.2.2) w)
def F14.k5 (Q : Value → World → Prop) : ((Option Addr × Nat × Nat) × (Nat × Nat) × (Nat × Nat) × Bool × Unit) → World → Prop := fun s w => ∀ _ : Nat → Value, F14.k5c Q s.1 s.2.1 s.2.2.1 s.2.2.2.1 w
def F14.vc (x0A : Option Addr) (x0n x0c : Nat) (x1 : List Value) (w : World) (Q : Value → World → Prop) : Prop :=
  nw w x1 44 fun b1 w2 =>
  ldS w2 b1 (0 + 34) fun s3 =>
  Calls Try.prog 17 #[Value.slice x0A x0n x0c, Value.string s3] w2 fun e5 w4 =>
  ∃ a6 : List Value, ∃ t7 : Bool, e5 = .returned (Value.tuple #[ofL a6, Value.bool t7]) ∧ (
    nw w4 Z34 34 fun b8 w9 =>
    gd (a6.length == 38) <|
    st w9 b8 0 a6 fun w10 =>
    ldI .i64 w10 b1 0 fun i11 =>
    vIf (i11 == 3)
    (ldA 38 w10 b8 0 fun a12 =>
      ldA 39 w10 b1 0 fun a13 =>
      Calls Try.prog 32 #[ofL a12, ofL a13] w10 fun e15 w14 =>
      ∃ a16 : List Value, e15 = .returned (ofL a16) ∧ (
        Calls Try.prog 29 #[Value.slice x0A x0n x0c, ofL a16] w14 fun e18 w17 =>
        ∃ (A19 : Option Addr) (n20 c21 : Nat), e18 = .returned (Value.slice A19 n20 c21) ∧ (
          Q (Value.slice A19 n20 c21) w17)))
    (ldI .i64 w10 b1 0 fun i22 =>
      vIf (i22 == 4)
      (jnC (F14.k5 Q) ((x0A, x0n, x0c), (b1, 0), (b8, 0), t7, ()) w10)
      (jnC (F14.k5 Q) ((x0A, x0n, x0c), (b1, 0), (b8, 0), false, ()) w10)))
def F14.an : Ann := ⟨[], [(5, [(0, .kSl), (3, .kL), (5, .kL), (27, .kB)])]⟩
theorem F14.eq (x0A : Option Addr) (x0n x0c : Nat) (x1 : List Value) (w : World) (Q : Value → World → Prop) : vcFn Try.prog F14.an 14 [Value.slice x0A x0n x0c, ofL x1] w Q = F14.vc x0A x0n x0c x1 w Q := by kernel_rfl
theorem F14.of (x0A : Option Addr) (x0n x0c : Nat) (x1 : List Value) (w : World) {Q : Value → World → Prop} (h : F14.vc x0A x0n x0c x1 w Q) : Calls Try.prog 14 #[Value.slice x0A x0n x0c, ofL x1] w (fun e w' => ∃ v, e = .returned v ∧ Q v w') := vcFn_sound noCount mixed ((F14.eq x0A x0n x0c x1 w Q).symm ▸ h)
/-! ### function 15: (*stillage/tags.Tags).Keep -/
def F15.b3c (Q : Value → World → Prop) (C3 : (Option Addr × (Option Addr × Nat × Nat) × (Option Addr × Nat × Nat) × (Option Addr × Nat × Nat) × Int × Int × Unit) → World → Prop) (x0 : Option Addr) (x1 : (Option Addr × Nat × Nat)) (x4 : (Option Addr × Nat × Nat)) (x14 : (Option Addr × Nat × Nat)) (x15 : Int) (x16 : Int) (w : World) : Prop :=
  vIf (decide (x16 < x15))
  (dr x14.1 fun b6 o7 =>
    gd (decide (0 ≤ x16)) <|
    gd (decide (x16 < ((x14.2.1 : Nat) : Int))) <|
    ldA 38 w b6 (o7 + (x16).toNat * 38) fun a8 =>
    nw w Z34 34 fun b9 w10 =>
    gd (a8.length == 38) <|
    st w10 b9 0 a8 fun w11 =>
    ldA 38 w11 b9 0 fun a12 =>
    Calls Try.prog 34 #[ofL a12, Value.slice x1.1 x1.2.1 x1.2.2] w11 fun e14 w13 =>
    ∃ a15 : List Value, ∃ t16 : Bool, e14 = .returned (Value.tuple #[ofL a15, Value.bool t16]) ∧ (
      nw w13 Z34 34 fun b17 w18 =>
      gd (a15.length == 38) <|
      st w18 b17 0 a15 fun w19 =>
      vIf t16
      (ldA 38 w19 b17 0 fun a20 =>
        gd (a20.length == 38) <|
        nw w19 (a20 ++ []) 34 fun b21 w22 =>
        app w22 38 104 Z34 34 x4.1 x4.2.1 x4.2.2 (Value.slice (some ⟨b21, 0, none⟩) 1 1) fun A23 n24 c25 w26 =>
        jnC C3 (x0, (x1.1, x1.2.1, x1.2.2), (A23, n24, c25), (x14.1, x14.2.1, x14.2.2), (x15), ((IntKind.wrap .i64 (x16 + 1))), ()) w26)
      (jnC C3 (x0, (x1.1, x1.2.1, x1.2.2), (x4.1, x4.2.1, x4.2.2), (x14.1, x14.2.1, x14.2.2), (x15), ((IntKind.wrap .i64 (x16 + 1))), ()) w19)))
  (dr x0 fun b27 o28 =>
    st w b27 o28 [Value.slice x4.1 x4.2.1 x4.2.2] fun w29 =>
    Q (Value.tuple #[]) w29)
def F15.b3 (Q : Value → World → Prop) : (Option Addr × (Option Addr × Nat × Nat) × (Option Addr × Nat × Nat) × (Option Addr × Nat × Nat) × Int × Int × Unit) → World → ((Option Addr × (Option Addr × Nat × Nat) × (Option Addr × Nat × Nat) × (Option Addr × Nat × Nat) × Int × Int × Unit) → World → Prop) → Prop := fun s w C3 => ∀ _ : Nat → Value, F15.b3c Q C3 s.1 s.2.1 s.2.2.1 s.2.2.2.1 s.2.2.2.2.1 s.2.2.2.2.2.1 w
def F15.l3 (Q : Value → World → Prop) : (Option Addr × (Option Addr × Nat × Nat) × (Option Addr × Nat × Nat) × (Option Addr × Nat × Nat) × Int × Int × Unit) → World → Prop := fun s w => ∃ n, loopC (F15.b3 Q) n s w
def F15.vc (x0 : Option Addr) (x1A : Option Addr) (x1n x1c : Nat) (w : World) (Q : Value → World → Prop) : Prop :=
  vIf x0.isNone
  (Q (Value.tuple #[]) w)
  (dr x0 fun b1 o2 =>
    ldSl w b1 o2 fun A3 n4 c5 =>
    jnC (F15.l3 Q) (x0, (x1A, x1n, x1c), (none, 0, 0), (A3, n4, c5), (((n4 : Nat) : Int)), (0), ()) w)
def F15.an : Ann := ⟨[(3, [(0, .kP), (1, .kSl), (4, .kSl), (14, .kSl), (15, .kI .i64), (16, .kI .i64)])], []⟩
theorem F15.eq (x0 : Option Addr) (x1A : Option Addr) (x1n x1c : Nat) (w : World) (Q : Value → World → Prop) : vcFn Try.prog F15.an 15 [Value.pointer x0, Value.slice x1A x1n x1c] w Q = F15.vc x0 x1A x1n x1c w Q := by kernel_rfl
theorem F15.of (x0 : Option Addr) (x1A : Option Addr) (x1n x1c : Nat) (w : World) {Q : Value → World → Prop} (h : F15.vc x0 x1A x1n x1c w Q) : Calls Try.prog 15 #[Value.pointer x0, Value.slice x1A x1n x1c] w (fun e w' => ∃ v, e = .returned v ∧ Q v w') := vcFn_sound noCount mixed ((F15.eq x0 x1A x1n x1c w Q).symm ▸ h)
/-! ### function 16: stillage/stillageref21.Keep -/
def F16.b3c (Q : Value → World → Prop) (C3 : ((Option Addr × Nat × Nat) × (Option Addr × Nat × Nat) × (Option Addr × Nat × Nat) × Int × Unit) → World → Prop) (x0 : (Option Addr × Nat × Nat)) (x1 : (Option Addr × Nat × Nat)) (x5 : (Option Addr × Nat × Nat)) (x6 : Int) (w : World) : Prop :=
  vIf (decide (x6 < ((x0.2.1 : Nat) : Int)))
  (dr x0.1 fun b1 o2 =>
    gd (decide (0 ≤ x6)) <|
    gd (decide (x6 < ((x0.2.1 : Nat) : Int))) <|
    ldA 38 w b1 (o2 + (x6).toNat * 38) fun a3 =>
    Calls Try.prog 35 #[ofL a3, Value.slice x1.1 x1.2.1 x1.2.2] w fun e5 w4 =>
    ∃ a6 : List Value, ∃ t7 : Bool, e5 = .returned (Value.tuple #[ofL a6, Value.bool t7]) ∧ (
      nw w4 Z34 34 fun b8 w9 =>
      gd (a6.length == 38) <|
      st w9 b8 0 a6 fun w10 =>
      vIf t7
      (ldA 38 w10 b8 0 fun a11 =>
        gd (a11.length == 38) <|
        nw w10 (a11 ++ []) 34 fun b12 w13 =>
        app w13 38 104 Z34 34 x5.1 x5.2.1 x5.2.2 (Value.slice (some ⟨b12, 0, none⟩) 1 1) fun A14 n15 c16 w17 =>
        jnC C3 ((x0.1, x0.2.1, x0.2.2), (x1.1, x1.2.1, x1.2.2), (A14, n15, c16), ((IntKind.wrap .i64 (x6 + 1))), ()) w17)
      (jnC C3 ((x0.1, x0.2.1, x0.2.2), (x1.1, x1.2.1, x1.2.2), (x5.1, x5.2.1, x5.2.2), ((IntKind.wrap .i64 (x6 + 1))), ()) w10)))
  (Q (Value.slice x5.1 x5.2.1 x5.2.2) w)
def F16.b3 (Q : Value → World → Prop) : ((Option Addr × Nat × Nat) × (Option Addr × Nat × Nat) × (Option Addr × Nat × Nat) × Int × Unit) → World → (((Option Addr × Nat × Nat) × (Option Addr × Nat × Nat) × (Option Addr × Nat × Nat) × Int × Unit) → World → Prop) → Prop := fun s w C3 => ∀ _ : Nat → Value, F16.b3c Q C3 s.1 s.2.1 s.2.2.1 s.2.2.2.1 w
def F16.l3 (Q : Value → World → Prop) : ((Option Addr × Nat × Nat) × (Option Addr × Nat × Nat) × (Option Addr × Nat × Nat) × Int × Unit) → World → Prop := fun s w => ∃ n, loopC (F16.b3 Q) n s w
def F16.vc (x0A : Option Addr) (x0n x0c : Nat) (x1A : Option Addr) (x1n x1c : Nat) (w : World) (Q : Value → World → Prop) : Prop :=
  jnC (F16.l3 Q) ((x0A, x0n, x0c), (x1A, x1n, x1c), (none, 0, 0), (0), ()) w
def F16.an : Ann := ⟨[(3, [(0, .kSl), (1, .kSl), (5, .kSl), (6, .kI .i64)])], []⟩
theorem F16.eq (x0A : Option Addr) (x0n x0c : Nat) (x1A : Option Addr) (x1n x1c : Nat) (w : World) (Q : Value → World → Prop) : vcFn Try.prog F16.an 16 [Value.slice x0A x0n x0c, Value.slice x1A x1n x1c] w Q = F16.vc x0A x0n x0c x1A x1n x1c w Q := by kernel_rfl
theorem F16.of (x0A : Option Addr) (x0n x0c : Nat) (x1A : Option Addr) (x1n x1c : Nat) (w : World) {Q : Value → World → Prop} (h : F16.vc x0A x0n x0c x1A x1n x1c w Q) : Calls Try.prog 16 #[Value.slice x0A x0n x0c, Value.slice x1A x1n x1c] w (fun e w' => ∃ v, e = .returned v ∧ Q v w') := vcFn_sound noCount mixed ((F16.eq x0A x0n x0c x1A x1n x1c w Q).symm ▸ h)
/-! ### function 17: stillage/stillageref21.Get -/
def F17.b2c (Q : Value → World → Prop) (C2 : ((Option Addr × Nat × Nat) × ByteArray × (Nat × Nat) × Int × Unit) → World → Prop) (x0 : (Option Addr × Nat × Nat)) (x1 : ByteArray) (x4 : (Nat × Nat)) (x6 : Int) (w : World) : Prop :=
  vIf (decide (x6 < ((x0.2.1 : Nat) : Int)))
  (dr x0.1 fun b3 o4 =>
    gd (decide (0 ≤ x6)) <|
    gd (decide (x6 < ((x0.2.1 : Nat) : Int))) <|
    ldS w b3 (o4 + (x6).toNat * 38) fun s5 =>
    vIf (s5.toList == x1.toList)
    (dr x0.1 fun b6 o7 =>
      gd (decide (0 ≤ x6)) <|
      gd (decide (x6 < ((x0.2.1 : Nat) : Int))) <|
      ldA 38 w b6 (o7 + (x6).toNat * 38) fun a8 =>
      gd (a8.length == 38) <|
      st w x4.1 x4.2 a8 fun w9 =>
      ldA 38 w9 x4.1 x4.2 fun a10 =>
      Q (Value.tuple #[ofL a10, Value.bool true]) w9)
    (jnC C2 ((x0.1, x0.2.1, x0.2.2), x1, (x4.1, x4.2), ((IntKind.wrap .i64 (x6 + 1))), ()) w))
  (gd (([Value.string (⟨#[]⟩ : ByteArray)] ++ ([Value.int .u8 0, Value.int .u8 0, Value.int .u8 0, Value.int .u8 0, Value.int .u8 0, Value.int .u8 0, Value.int .u8 0, Value.int .u8 0, Value.int .u8 0, Value.int .u8 0, Value.int .u8 0, Value.int .u8 0, Value.int .u8 0, Value.int .u8 0, Value.int .u8 0, Value.int .u8 0, Value.int .u8 0, Value.int .u8 0, Value.int .u8 0, Value.int .u8 0, Value.int .u8 0, Value.int .u8 0, Value.int .u8 0, Value.int .u8 0, Value.int .u8 0, Value.int .u8 0, Value.int .u8 0, Value.int .u8 0, Value.int .u8 0, Value.int .u8 0, Value.int .u8 0, Value.int .u8 0] ++ ([Value.bool false] ++ ([Value.int .i64 0, Value.int .i64 0, Value.int .i64 0] ++ ([Value.slice none 0 0] ++ []))))).length == 38) <|
    st w x4.1 x4.2 ([Value.string (⟨#[]⟩ : ByteArray)] ++ ([Value.int .u8 0, Value.int .u8 0, Value.int .u8 0, Value.int .u8 0, Value.int .u8 0, Value.int .u8 0, Value.int .u8 0, Value.int .u8 0, Value.int .u8 0, Value.int .u8 0, Value.int .u8 0, Value.int .u8 0, Value.int .u8 0, Value.int .u8 0, Value.int .u8 0, Value.int .u8 0, Value.int .u8 0, Value.int .u8 0, Value.int .u8 0, Value.int .u8 0, Value.int .u8 0, Value.int .u8 0, Value.int .u8 0, Value.int .u8 0, Value.int .u8 0, Value.int .u8 0, Value.int .u8 0, Value.int .u8 0, Value.int .u8 0, Value.int .u8 0, Value.int .u8 0, Value.int .u8 0] ++ ([Value.bool false] ++ ([Value.int .i64 0, Value.int .i64 0, Value.int .i64 0] ++ ([Value.slice none 0 0] ++ []))))) fun w11 =>
    ldA 38 w11 x4.1 x4.2 fun a12 =>
    Q (Value.tuple #[ofL a12, Value.bool false]) w11)
def F17.b2 (Q : Value → World → Prop) : ((Option Addr × Nat × Nat) × ByteArray × (Nat × Nat) × Int × Unit) → World → (((Option Addr × Nat × Nat) × ByteArray × (Nat × Nat) × Int × Unit) → World → Prop) → Prop := fun s w C2 => ∀ _ : Nat → Value, F17.b2c Q C2 s.1 s.2.1 s.2.2.1 s.2.2.2.1 w
def F17.l2 (Q : Value → World → Prop) : ((Option Addr × Nat × Nat) × ByteArray × (Nat × Nat) × Int × Unit) → World → Prop := fun s w => ∃ n, loopC (F17.b2 Q) n s w
def F17.vc (x0A : Option Addr) (x0n x0c : Nat) (x1 : ByteArray) (w : World) (Q : Value → World → Prop) : Prop :=
  nw w Z34 34 fun b1 w2 =>
  jnC (F17.l2 Q) ((x0A, x0n, x0c), x1, (b1, 0), (0), ()) w2
def F17.an : Ann := ⟨[(2, [(0, .kSl), (1, .kS), (4, .kL), (6, .kI .i64)])], []⟩
theorem F17.eq (x0A : Option Addr) (x0n x0c : Nat) (x1 : ByteArray) (w : World) (Q : Value → World → Prop) : vcFn Try.prog F17.an 17 [Value.slice x0A x0n x0c, Value.string x1] w Q = F17.vc x0A x0n x0c x1 w Q := by kernel_rfl
theorem F17.of (x0A : Option Addr) (x0n x0c : Nat) (x1 : ByteArray) (w : World) {Q : Value → World → Prop} (h : F17.vc x0A x0n x0c x1 w Q) : Calls Try.prog 17 #[Value.slice x0A x0n x0c, Value.string x1] w (fun e w' => ∃ v, e = .returned v ∧ Q v w') := vcFn_sound noCount mixed ((F17.eq x0A x0n x0c x1 w Q).symm ▸ h)
/-! ### function 18: stillage/stillageref19.SameTag -/
def F18.vc (x0 : List Value) (x1 : List Value) (w : World) (Q : Value → World → Prop) : Prop :=
  nw w x0 34 fun b1 w2 =>
  nw w2 x1 34 fun b3 w4 =>
  ldS w4 b1 0 fun s5 =>
  ldS w4 b3 0 fun s6 =>
  vIf (s5.toList == s6.toList)
  (ldA 32 w4 b1 (0 + 1) fun a7 =>
    ldA 32 w4 b3 (0 + 1) fun a8 =>
    eqAB 32 a7 a8 fun t9 =>
    vIf t9
    (ldB w4 b1 (0 + 33) fun t10 =>
      ldB w4 b3 (0 + 33) fun t11 =>
      vIf (t10 == t11)
      (ldA 3 w4 b1 (0 + 34) fun a12 =>
        ldA 3 w4 b3 (0 + 34) fun a13 =>
        eqI64 3 a12 a13 fun t14 =>
        vIf t14
        (ldSl w4 b1 (0 + 37) fun A15 n16 c17 =>
          ldSl w4 b3 (0 + 37) fun A18 n19 c20 =>
          Calls Try.prog 36 #[Value.slice A15 n16 c17, Value.slice A18 n19 c20] w4 fun e22 w21 =>
          ∃ t23 : Bool, e22 = .returned (Value.bool t23) ∧ (
            Q (Value.bool t23) w21))
        (Q (Value.bool false) w4))
      (Q (Value.bool false) w4))
    (Q (Value.bool false) w4))
  (Q (Value.bool false) w4)
def F18.an : Ann := ⟨[], []⟩
theorem F18.eq (x0 : List Value) (x1 : List Value) (w : World) (Q : Value → World → Prop) : vcFn Try.prog F18.an 18 [ofL x0, ofL x1] w Q = F18.vc x0 x1 w Q := by kernel_rfl
theorem F18.of (x0 : List Value) (x1 : List Value) (w : World) {Q : Value → World → Prop} (h : F18.vc x0 x1 w Q) : Calls Try.prog 18 #[ofL x0, ofL x1] w (fun e w' => ∃ v, e = .returned v ∧ Q v w') := vcFn_sound noCount mixed ((F18.eq x0 x1 w Q).symm ▸ h)
/-! ### function 19: stillage/stillageref21.Names -/
def F19.b3c (Q : Value → World → Prop) (C3 : ((Option Addr × Nat × Nat) × (Option Addr × Nat × Nat) × Int × Unit) → World → Prop) (x0 : (Option Addr × Nat × Nat)) (x3 : (Option Addr × Nat × Nat)) (x4 : Int) (w : World) : Prop :=
  vIf (decide (x4 < ((x0.2.1 : Nat) : Int)))
  (dr x0.1 fun b1 o2 =>
    gd (decide (0 ≤ x4)) <|
    gd (decide (x4 < ((x0.2.1 : Nat) : Int))) <|
    ldB w b1 ((o2 + (x4).toNat * 38) + 33) fun t3 =>
    vIf (!t3)
    (dr x0.1 fun b4 o5 =>
      gd (decide (0 ≤ x4)) <|
      gd (decide (x4 < ((x0.2.1 : Nat) : Int))) <|
      ldA 32 w b4 ((o5 + (x4).toNat * 38) + 1) fun a6 =>
      gd (a6.length == 32) <|
      nw w (a6 ++ []) 29 fun b7 w8 =>
      app w8 32 32 Z29 29 x3.1 x3.2.1 x3.2.2 (Value.slice (some ⟨b7, 0, none⟩) 1 1) fun A9 n10 c11 w12 =>
      jnC C3 ((x0.1, x0.2.1, x0.2.2), (A9, n10, c11), ((IntKind.wrap .i64 (x4 + 1))), ()) w12)
    (jnC C3 ((x0.1, x0.2.1, x0.2.2), (x3.1, x3.2.1, x3.2.2), ((IntKind.wrap .i64 (x4 + 1))), ()) w))
  (Q (Value.slice x3.1 x3.2.1 x3.2.2) w)
def F19.b3 (Q : Value → World → Prop) : ((Option Addr × Nat × Nat) × (Option Addr × Nat × Nat) × Int × Unit) → World → (((Option Addr × Nat × Nat) × (Option Addr × Nat × Nat) × Int × Unit) → World → Prop) → Prop := fun s w C3 => ∀ _ : Nat → Value, F19.b3c Q C3 s.1 s.2.1 s.2.2.1 w
def F19.l3 (Q : Value → World → Prop) : ((Option Addr × Nat × Nat) × (Option Addr × Nat × Nat) × Int × Unit) → World → Prop := fun s w => ∃ n, loopC (F19.b3 Q) n s w
def F19.vc (x0A : Option Addr) (x0n x0c : Nat) (w : World) (Q : Value → World → Prop) : Prop :=
  jnC (F19.l3 Q) ((x0A, x0n, x0c), (none, 0, 0), (0), ()) w
def F19.an : Ann := ⟨[(3, [(0, .kSl), (3, .kSl), (4, .kI .i64)])], []⟩
theorem F19.eq (x0A : Option Addr) (x0n x0c : Nat) (w : World) (Q : Value → World → Prop) : vcFn Try.prog F19.an 19 [Value.slice x0A x0n x0c] w Q = F19.vc x0A x0n x0c w Q := by kernel_rfl
theorem F19.of (x0A : Option Addr) (x0n x0c : Nat) (w : World) {Q : Value → World → Prop} (h : F19.vc x0A x0n x0c w Q) : Calls Try.prog 19 #[Value.slice x0A x0n x0c] w (fun e w' => ∃ v, e = .returned v ∧ Q v w') := vcFn_sound noCount mixed ((F19.eq x0A x0n x0c w Q).symm ▸ h)
/-! ### function 20: stillage/stillageref21.List -/
def F20.k6c (Q : Value → World → Prop) (C3 : ((Option Addr × Nat × Nat) × ByteArray × Int × (Option Addr × Nat × Nat) × Int × Unit) → World → Prop) (x0 : (Option Addr × Nat × Nat)) (x1 : ByteArray) (x2 : Int) (x7 : (Option Addr × Nat × Nat)) (x8 : Int) (x35 : Bool) (w : World) : Prop :=
  vIf x35
  (dr x0.1 fun b7 o8 =>
    gd (decide (0 ≤ x8)) <|
    gd (decide (x8 < ((x0.2.1 : Nat) : Int))) <|
    ldS w b7 (o8 + (x8).toNat * 38) fun s9 =>
    nw w ([Value.string s9] ++ []) 9 fun b10 w11 =>
    app w11 1 16 [Value.string (⟨#[]⟩ : ByteArray)] 9 x7.1 x7.2.1 x7.2.2 (Value.slice (some ⟨b10, 0, none⟩) 1 1) fun A12 n13 c14 w15 =>
    jnC C3 ((x0.1, x0.2.1, x0.2.2), x1, (x2), (A12, n13, c14), ((IntKind.wrap .i64 (x8 + 1))), ()) w15)
  (jnC C3 ((x0.1, x0.2.1, x0.2.2), x1, (x2), (x7.1, x7.2.1, x7.2.2), ((IntKind.wrap .i64 (x8 + 1))), ()) w)
def F20.k6 (Q : Value → World → Prop) (C3 : ((Option Addr × Nat × Nat) × ByteArray × Int × (Option Addr × Nat × Nat) × Int × Unit) → World → Prop) : ((Option Addr × Nat × Nat) × ByteArray × Int × (Option Addr × Nat × Nat) × Int × Bool × Unit) → World → Prop := fun s w => ∀ _ : Nat → Value, F20.k6c Q C3 s.1 s.2.1 s.2.2.1 s.2.2.2.1 s.2.2.2.2.1 s.2.2.2.2.2.1 w
def F20.b3c (Q : Value → World → Prop) (C3 : ((Option Addr × Nat × Nat) × ByteArray × Int × (Option Addr × Nat × Nat) × Int × Unit) → World → Prop) (x0 : (Option Addr × Nat × Nat)) (x1 : ByteArray) (x2 : Int) (x7 : (Option Addr × Nat × Nat)) (x8 : Int) (w : World) : Prop :=
  vIf (decide (x8 < ((x0.2.1 : Nat) : Int)))
  (dr x0.1 fun b1 o2 =>
    gd (decide (0 ≤ x8)) <|
    gd (decide (x8 < ((x0.2.1 : Nat) : Int))) <|
    ldB w b1 ((o2 + (x8).toNat * 38) + 33) fun t3 =>
    vIf (!t3)
    (dr x0.1 fun b4 o5 =>
      gd (decide (0 ≤ x8)) <|
      gd (decide (x8 < ((x0.2.1 : Nat) : Int))) <|
      ldS w b4 (o5 + (x8).toNat * 38) fun s6 =>
      vIf (Op.bytesLess x1.toList s6.toList)
      (jnC (F20.k6 Q C3) ((x0.1, x0.2.1, x0.2.2), x1, (x2), (x7.1, x7.2.1, x7.2.2), (x8), (decide (x2 > ((x7.2.1 : Nat) : Int))), ()) w)
      (jnC (F20.k6 Q C3) ((x0.1, x0.2.1, x0.2.2), x1, (x2), (x7.1, x7.2.1, x7.2.2), (x8), false, ()) w))
    (jnC (F20.k6 Q C3) ((x0.1, x0.2.1, x0.2.2), x1, (x2), (x7.1, x7.2.1, x7.2.2), (x8), false, ()) w))
  (Q (Value.slice x7.1 x7.2.1 x7.2.2) w)
def F20.b3 (Q : Value → World → Prop) : ((Option Addr × Nat × Nat) × ByteArray × Int × (Option Addr × Nat × Nat) × Int × Unit) → World → (((Option Addr × Nat × Nat) × ByteArray × Int × (Option Addr × Nat × Nat) × Int × Unit) → World → Prop) → Prop := fun s w C3 => ∀ _ : Nat → Value, F20.b3c Q C3 s.1 s.2.1 s.2.2.1 s.2.2.2.1 s.2.2.2.2.1 w
def F20.l3 (Q : Value → World → Prop) : ((Option Addr × Nat × Nat) × ByteArray × Int × (Option Addr × Nat × Nat) × Int × Unit) → World → Prop := fun s w => ∃ n, loopC (F20.b3 Q) n s w
def F20.vc (x0A : Option Addr) (x0n x0c : Nat) (x1 : ByteArray) (x2 : Int) (w : World) (Q : Value → World → Prop) : Prop :=
  jnC (F20.l3 Q) ((x0A, x0n, x0c), x1, (x2), (none, 0, 0), (0), ()) w
def F20.an : Ann := ⟨[(3, [(0, .kSl), (1, .kS), (2, .kI .i64), (7, .kSl), (8, .kI .i64)])], [(6, [(0, .kSl), (1, .kS), (2, .kI .i64), (7, .kSl), (8, .kI .i64), (35, .kB)])]⟩
theorem F20.eq (x0A : Option Addr) (x0n x0c : Nat) (x1 : ByteArray) (x2 : Int) (w : World) (Q : Value → World → Prop) : vcFn Try.prog F20.an 20 [Value.slice x0A x0n x0c, Value.string x1, Value.int .i64 x2] w Q = F20.vc x0A x0n x0c x1 x2 w Q := by kernel_rfl
theorem F20.of (x0A : Option Addr) (x0n x0c : Nat) (x1 : ByteArray) (x2 : Int) (w : World) {Q : Value → World → Prop} (h : F20.vc x0A x0n x0c x1 x2 w Q) : Calls Try.prog 20 #[Value.slice x0A x0n x0c, Value.string x1, Value.int .i64 x2] w (fun e w' => ∃ v, e = .returned v ∧ Q v w') := vcFn_sound noCount mixed ((F20.eq x0A x0n x0c x1 x2 w Q).symm ▸ h)
/-! ### function 21: stillage/stillageref06.Same -/
def F21.b4c (Q : Value → World → Prop) (C4 : ((Option Addr × Nat × Nat) × (Option Addr × Nat × Nat) × Int × Unit) → World → Prop) (x0 : (Option Addr × Nat × Nat)) (x1 : (Option Addr × Nat × Nat)) (x5 : Int) (w : World) : Prop :=
  vIf (decide (x5 < ((x0.2.1 : Nat) : Int)))
  (dr x0.1 fun b1 o2 =>
    gd (decide (0 ≤ x5)) <|
    gd (decide (x5 < ((x0.2.1 : Nat) : Int))) <|
    ldA 32 w.drew b1 (o2 + (x5).toNat * 32) fun a3 =>
    dr x1.1 fun b4 o5 =>
    gd (decide (0 ≤ x5)) <|
    gd (decide (x5 < ((x1.2.1 : Nat) : Int))) <|
    ldA 32 w.drew b4 (o5 + (x5).toNat * 32) fun a6 =>
    eqAB 32 a3 a6 fun t7 =>
    vIf (!t7)
    (Q (Value.bool false) w.drew)
    (jnC C4 ((x0.1, x0.2.1, x0.2.2), (x1.1, x1.2.1, x1.2.2), ((IntKind.wrap .i64 (x5 + 1))), ()) w.drew))
  (Q (Value.bool true) w)
def F21.b4 (Q : Value → World → Prop) : ((Option Addr × Nat × Nat) × (Option Addr × Nat × Nat) × Int × Unit) → World → (((Option Addr × Nat × Nat) × (Option Addr × Nat × Nat) × Int × Unit) → World → Prop) → Prop := fun s w C4 => ∀ _ : Nat → Value, F21.b4c Q C4 s.1 s.2.1 s.2.2.1 w
def F21.l4 (Q : Value → World → Prop) : ((Option Addr × Nat × Nat) × (Option Addr × Nat × Nat) × Int × Unit) → World → Prop := fun s w => ∃ n, loopC (F21.b4 Q) n s w
def F21.vc (x0A : Option Addr) (x0n x0c : Nat) (x1A : Option Addr) (x1n x1c : Nat) (w : World) (Q : Value → World → Prop) : Prop :=
  vIf (((x0n : Nat) : Int) != ((x1n : Nat) : Int))
  (Q (Value.bool false) w)
  (jnC (F21.l4 Q) ((x0A, x0n, x0c), (x1A, x1n, x1c), (0), ()) w)
def F21.an : Ann := ⟨[(4, [(0, .kSl), (1, .kSl), (5, .kI .i64)])], []⟩
theorem F21.eq (x0A : Option Addr) (x0n x0c : Nat) (x1A : Option Addr) (x1n x1c : Nat) (w : World) (Q : Value → World → Prop) : vcFn Try.prog F21.an 21 [Value.slice x0A x0n x0c, Value.slice x1A x1n x1c] w Q = F21.vc x0A x0n x0c x1A x1n x1c w Q := by kernel_rfl
theorem F21.of (x0A : Option Addr) (x0n x0c : Nat) (x1A : Option Addr) (x1n x1c : Nat) (w : World) {Q : Value → World → Prop} (h : F21.vc x0A x0n x0c x1A x1n x1c w Q) : Calls Try.prog 21 #[Value.slice x0A x0n x0c, Value.slice x1A x1n x1c] w (fun e w' => ∃ v, e = .returned v ∧ Q v w') := vcFn_sound noCount mixed ((F21.eq x0A x0n x0c x1A x1n x1c w Q).symm ▸ h)
/-! ### function 22: (*stillage/tags.Tags).Names -/
def F22.b3c (Q : Value → World → Prop) (C3 : ((Option Addr × Nat × Nat) × (Option Addr × Nat × Nat) × Int × Int × Unit) → World → Prop) (x3 : (Option Addr × Nat × Nat)) (x7 : (Option Addr × Nat × Nat)) (x8 : Int) (x9 : Int) (w : World) : Prop :=
  vIf (decide (x9 < x8))
  (dr x7.1 fun b6 o7 =>
    gd (decide (0 ≤ x9)) <|
    gd (decide (x9 < ((x7.2.1 : Nat) : Int))) <|
    ldA 38 w b6 (o7 + (x9).toNat * 38) fun a8 =>
    nw w Z34 34 fun b9 w10 =>
    gd (a8.length == 38) <|
    st w10 b9 0 a8 fun w11 =>
    ldA 32 w11 b9 (0 + 1) fun a12 =>
    gd (a12.length == 32) <|
    nw w11 (a12 ++ []) 29 fun b13 w14 =>
    app w14 32 32 Z29 29 x3.1 x3.2.1 x3.2.2 (Value.slice (some ⟨b13, 0, none⟩) 1 1) fun A15 n16 c17 w18 =>
    jnC C3 ((A15, n16, c17), (x7.1, x7.2.1, x7.2.2), (x8), ((IntKind.wrap .i64 (x9 + 1))), ()) w18)
  (Q (Value.slice x3.1 x3.2.1 x3.2.2) w)
def F22.b3 (Q : Value → World → Prop) : ((Option Addr × Nat × Nat) × (Option Addr × Nat × Nat) × Int × Int × Unit) → World → (((Option Addr × Nat × Nat) × (Option Addr × Nat × Nat) × Int × Int × Unit) → World → Prop) → Prop := fun s w C3 => ∀ _ : Nat → Value, F22.b3c Q C3 s.1 s.2.1 s.2.2.1 s.2.2.2.1 w
def F22.l3 (Q : Value → World → Prop) : ((Option Addr × Nat × Nat) × (Option Addr × Nat × Nat) × Int × Int × Unit) → World → Prop := fun s w => ∃ n, loopC (F22.b3 Q) n s w
def F22.vc (x0 : Option Addr) (w : World) (Q : Value → World → Prop) : Prop :=
  Calls Try.prog 27 #[Value.pointer x0] w fun e2 w1 =>
  ∃ (A3 : Option Addr) (n4 c5 : Nat), e2 = .returned (Value.slice A3 n4 c5) ∧ (
    jnC (F22.l3 Q) ((none, 0, 0), (A3, n4, c5), (((n4 : Nat) : Int)), (0), ()) w1)
def F22.an : Ann := ⟨[(3, [(3, .kSl), (7, .kSl), (8, .kI .i64), (9, .kI .i64)])], []⟩
theorem F22.eq (x0 : Option Addr) (w : World) (Q : Value → World → Prop) : vcFn Try.prog F22.an 22 [Value.pointer x0] w Q = F22.vc x0 w Q := by kernel_rfl
theorem F22.of (x0 : Option Addr) (w : World) {Q : Value → World → Prop} (h : F22.vc x0 w Q) : Calls Try.prog 22 #[Value.pointer x0] w (fun e w' => ∃ v, e = .returned v ∧ Q v w') := vcFn_sound noCount mixed ((F22.eq x0 w Q).symm ▸ h)
/-! ### function 23: stillage/stillageref21.Same -/
def F23.b4c (Q : Value → World → Prop) (C4 : ((Option Addr × Nat × Nat) × (Option Addr × Nat × Nat) × Int × Unit) → World → Prop) (x0 : (Option Addr × Nat × Nat)) (x1 : (Option Addr × Nat × Nat)) (x5 : Int) (w : World) : Prop :=
  vIf (decide (x5 < ((x0.2.1 : Nat) : Int)))
  (dr x0.1 fun b1 o2 =>
    gd (decide (0 ≤ x5)) <|
    gd (decide (x5 < ((x0.2.1 : Nat) : Int))) <|
    ldA 38 w.drew b1 (o2 + (x5).toNat * 38) fun a3 =>
    dr x1.1 fun b4 o5 =>
    gd (decide (0 ≤ x5)) <|
    gd (decide (x5 < ((x1.2.1 : Nat) : Int))) <|
    ldA 38 w.drew b4 (o5 + (x5).toNat * 38) fun a6 =>
    Calls Try.prog 18 #[ofL a3, ofL a6] w.drew fun e8 w7 =>
    ∃ t9 : Bool, e8 = .returned (Value.bool t9) ∧ (
      vIf (!t9)
      (Q (Value.bool false) w7)
      (jnC C4 ((x0.1, x0.2.1, x0.2.2), (x1.1, x1.2.1, x1.2.2), ((IntKind.wrap .i64 (x5 + 1))), ()) w7)))
  (Q (Value.bool true) w)
def F23.b4 (Q : Value → World → Prop) : ((Option Addr × Nat × Nat) × (Option Addr × Nat × Nat) × Int × Unit) → World → (((Option Addr × Nat × Nat) × (Option Addr × Nat × Nat) × Int × Unit) → World → Prop) → Prop := fun s w C4 => ∀ _ : Nat → Value, F23.b4c Q C4 s.1 s.2.1 s.2.2.1 w
def F23.l4 (Q : Value → World → Prop) : ((Option Addr × Nat × Nat) × (Option Addr × Nat × Nat) × Int × Unit) → World → Prop := fun s w => ∃ n, loopC (F23.b4 Q) n s w
def F23.vc (x0A : Option Addr) (x0n x0c : Nat) (x1A : Option Addr) (x1n x1c : Nat) (w : World) (Q : Value → World → Prop) : Prop :=
  vIf (((x0n : Nat) : Int) != ((x1n : Nat) : Int))
  (Q (Value.bool false) w)
  (jnC (F23.l4 Q) ((x0A, x0n, x0c), (x1A, x1n, x1c), (0), ()) w)
def F23.an : Ann := ⟨[(4, [(0, .kSl), (1, .kSl), (5, .kI .i64)])], []⟩
theorem F23.eq (x0A : Option Addr) (x0n x0c : Nat) (x1A : Option Addr) (x1n x1c : Nat) (w : World) (Q : Value → World → Prop) : vcFn Try.prog F23.an 23 [Value.slice x0A x0n x0c, Value.slice x1A x1n x1c] w Q = F23.vc x0A x0n x0c x1A x1n x1c w Q := by kernel_rfl
theorem F23.of (x0A : Option Addr) (x0n x0c : Nat) (x1A : Option Addr) (x1n x1c : Nat) (w : World) {Q : Value → World → Prop} (h : F23.vc x0A x0n x0c x1A x1n x1c w Q) : Calls Try.prog 23 #[Value.slice x0A x0n x0c, Value.slice x1A x1n x1c] w (fun e w' => ∃ v, e = .returned v ∧ Q v w') := vcFn_sound noCount mixed ((F23.eq x0A x0n x0c x1A x1n x1c w Q).symm ▸ h)
/-! ### function 24: (*stillage/tags.Tags).Row -/
def F24.b5c (Q : Value → World → Prop) (C5 : ((Option Addr × Nat × Nat) × (Option Addr × Nat × Nat) × Int × Int × Unit) → World → Prop) (x3 : (Option Addr × Nat × Nat)) (x11 : (Option Addr × Nat × Nat)) (x12 : Int) (x13 : Int) (w : World) : Prop :=
  vIf (decide (x13 < x12))
  (dr x11.1 fun b6 o7 =>
    gd (decide (0 ≤ x13)) <|
    gd (decide (x13 < ((x11.2.1 : Nat) : Int))) <|
    ldA 38 w b6 (o7 + (x13).toNat * 38) fun a8 =>
    nw w Z34 34 fun b9 w10 =>
    gd (a8.length == 38) <|
    st w10 b9 0 a8 fun w11 =>
    ldA 38 w11 b9 0 fun a12 =>
    Calls Try.prog 26 #[ofL a12] w11 fun e14 w13 =>
    ∃ a15 : List Value, e14 = .returned (ofL a15) ∧ (
      gd (a15.length == 38) <|
      nw w13 (a15 ++ []) 34 fun b16 w17 =>
      app w17 38 104 Z34 34 x3.1 x3.2.1 x3.2.2 (Value.slice (some ⟨b16, 0, none⟩) 1 1) fun A18 n19 c20 w21 =>
      jnC C5 ((A18, n19, c20), (x11.1, x11.2.1, x11.2.2), (x12), ((IntKind.wrap .i64 (x13 + 1))), ()) w21))
  (Q (Value.slice x3.1 x3.2.1 x3.2.2) w)
def F24.b5 (Q : Value → World → Prop) : ((Option Addr × Nat × Nat) × (Option Addr × Nat × Nat) × Int × Int × Unit) → World → (((Option Addr × Nat × Nat) × (Option Addr × Nat × Nat) × Int × Int × Unit) → World → Prop) → Prop := fun s w C5 => ∀ _ : Nat → Value, F24.b5c Q C5 s.1 s.2.1 s.2.2.1 s.2.2.2.1 w
def F24.l5 (Q : Value → World → Prop) : ((Option Addr × Nat × Nat) × (Option Addr × Nat × Nat) × Int × Int × Unit) → World → Prop := fun s w => ∃ n, loopC (F24.b5 Q) n s w
def F24.vc (x0 : Option Addr) (w : World) (Q : Value → World → Prop) : Prop :=
  vIf x0.isNone
  (Q (Value.slice none 0 0) w)
  (dr x0 fun b1 o2 =>
    ldSl w b1 o2 fun A3 n4 c5 =>
    jnC (F24.l5 Q) ((none, 0, 0), (A3, n4, c5), (((n4 : Nat) : Int)), (0), ()) w)
def F24.an : Ann := ⟨[(5, [(3, .kSl), (11, .kSl), (12, .kI .i64), (13, .kI .i64)])], []⟩
theorem F24.eq (x0 : Option Addr) (w : World) (Q : Value → World → Prop) : vcFn Try.prog F24.an 24 [Value.pointer x0] w Q = F24.vc x0 w Q := by kernel_rfl
theorem F24.of (x0 : Option Addr) (w : World) {Q : Value → World → Prop} (h : F24.vc x0 w Q) : Calls Try.prog 24 #[Value.pointer x0] w (fun e w' => ∃ v, e = .returned v ∧ Q v w') := vcFn_sound noCount mixed ((F24.eq x0 w Q).symm ▸ h)
/-! ### function 25: (*stillage/tags.Tags).put -/
def F25.vc (x0 : Option Addr) (x1 : List Value) (w : World) (Q : Value → World → Prop) : Prop :=
  nw w x1 34 fun b1 w2 =>
  ldS w2 b1 0 fun s3 =>
  Calls Try.prog 28 #[Value.pointer x0, Value.string s3] w2 fun e5 w4 =>
  ∃ i6 : Int, ∃ t7 : Bool, e5 = .returned (Value.tuple #[Value.int .i64 i6, Value.bool t7]) ∧ (
    vIf t7
    (dr x0 fun b8 o9 =>
      ldSl w4.drew b8 o9 fun A10 n11 c12 =>
      ldA 38 w4.drew b1 0 fun a13 =>
      dr A10 fun b14 o15 =>
      gd (decide (0 ≤ i6)) <|
      gd (decide (i6 < ((n11 : Nat) : Int))) <|
      gd (a13.length == 38) <|
      st w4.drew b14 (o15 + (i6).toNat * 38) a13 fun w16 =>
      Q (Value.tuple #[]) w16)
    (dr x0 fun b17 o18 =>
      ldSl w4 b17 o18 fun A19 n20 c21 =>
      gd (decide (0 ≤ i6)) <|
      gd (decide (i6 ≤ ((n20 : Nat) : Int))) <|
      Calls Try.prog 37 #[Value.slice (slA A19 c21 (i6).toNat 38) (n20 - (i6).toNat) (c21 - (i6).toNat)] w4 fun e23 w22 =>
      ∃ (A24 : Option Addr) (n25 c26 : Nat), e23 = .returned (Value.slice A24 n25 c26) ∧ (
        dr x0 fun b27 o28 =>
        ldSl w22.drew b27 o28 fun A29 n30 c31 =>
        gd (decide (0 ≤ i6)) <|
        gd (decide (i6 ≤ ((c31 : Nat) : Int))) <|
        gd (decide (0 ≤ i6)) <|
        gd (decide (i6 ≤ (((i6).toNat : Nat) : Int))) <|
        ldA 38 w22.drew b1 0 fun a32 =>
        gd (a32.length == 38) <|
        nw w22.drew (a32 ++ []) 34 fun b33 w34 =>
        kp w22.drew b27 o28 1 w34 <|
        app w34 38 104 Z34 34 (slA A29 (i6).toNat 0 38) ((i6).toNat) ((i6).toNat) (Value.slice (some ⟨b33, 0, none⟩) 1 1) fun A35 n36 c37 w38 =>
        app w38 38 104 Z34 34 A35 n36 c37 (Value.slice A24 n25 c26) fun A39 n40 c41 w42 =>
        dr x0 fun b43 o44 =>
        st w42 b43 o44 [Value.slice A39 n40 c41] fun w45 =>
        Q (Value.tuple #[]) w45)))
def F25.an : Ann := ⟨[], []⟩
theorem F25.eq (x0 : Option Addr) (x1 : List Value) (w : World) (Q : Value → World → Prop) : vcFn Try.prog F25.an 25 [Value.pointer x0, ofL x1] w Q = F25.vc x0 x1 w Q := by kernel_rfl
theorem F25.of (x0 : Option Addr) (x1 : List Value) (w : World) {Q : Value → World → Prop} (h : F25.vc x0 x1 w Q) : Calls Try.prog 25 #[Value.pointer x0, ofL x1] w (fun e w' => ∃ v, e = .returned v ∧ Q v w') := vcFn_sound noCount mixed ((F25.eq x0 x1 w Q).symm ▸ h)
/-! ### function 26: stillage/tags.fresh -/
def F26.vc (x0 : List Value) (w : World) (Q : Value → World → Prop) : Prop :=
  nw w x0 34 fun b1 w2 =>
  nw w2 Z34 34 fun b3 w4 =>
  ldSl w4 b1 (0 + 37) fun A5 n6 c7 =>
  Calls Try.prog 38 #[Value.slice A5 n6 c7] w4 fun e9 w8 =>
  ∃ (A10 : Option Addr) (n11 c12 : Nat), e9 = .returned (Value.slice A10 n11 c12) ∧ (
    st w8 b1 (0 + 37) [Value.slice A10 n11 c12] fun w13 =>
    ldA 38 w13 b1 0 fun a14 =>
    gd (a14.length == 38) <|
    st w13 b3 0 a14 fun w15 =>
    ldA 38 w15 b3 0 fun a16 =>
    Q (ofL a16) w15)
def F26.an : Ann := ⟨[], []⟩
theorem F26.eq (x0 : List Value) (w : World) (Q : Value → World → Prop) : vcFn Try.prog F26.an 26 [ofL x0] w Q = F26.vc x0 w Q := by kernel_rfl
theorem F26.of (x0 : List Value) (w : World) {Q : Value → World → Prop} (h : F26.vc x0 w Q) : Calls Try.prog 26 #[ofL x0] w (fun e w' => ∃ v, e = .returned v ∧ Q v w') := vcFn_sound noCount mixed ((F26.eq x0 w Q).symm ▸ h)
/-! ### function 27: (*stillage/tags.Tags).there -/
def F27.vc (x0 : Option Addr) (w : World) (Q : Value → World → Prop) : Prop :=
  Calls Try.prog 24 #[Value.pointer x0] w fun e2 w1 =>
  ∃ (A3 : Option Addr) (n4 c5 : Nat), e2 = .returned (Value.slice A3 n4 c5) ∧ (
    Calls Try.prog 39 #[Value.slice A3 n4 c5, Value.func (.func 40) #[] #[]] w1 fun e7 w6 =>
    ∃ (A8 : Option Addr) (n9 c10 : Nat), e7 = .returned (Value.slice A8 n9 c10) ∧ (
      Q (Value.slice A8 n9 c10) w6))
def F27.an : Ann := ⟨[], []⟩
theorem F27.eq (x0 : Option Addr) (w : World) (Q : Value → World → Prop) : vcFn Try.prog F27.an 27 [Value.pointer x0] w Q = F27.vc x0 w Q := by kernel_rfl
theorem F27.of (x0 : Option Addr) (w : World) {Q : Value → World → Prop} (h : F27.vc x0 w Q) : Calls Try.prog 27 #[Value.pointer x0] w (fun e w' => ∃ v, e = .returned v ∧ Q v w') := vcFn_sound noCount mixed ((F27.eq x0 w Q).symm ▸ h)
/-! ### function 28: (*stillage/tags.Tags).place -/
def F28.vc (x0 : Option Addr) (x1 : ByteArray) (w : World) (Q : Value → World → Prop) : Prop :=
  dr x0 fun b1 o2 =>
  ldSl w b1 o2 fun A3 n4 c5 =>
  Calls Try.prog 41 #[Value.slice A3 n4 c5, Value.string x1, Value.func (.func 42) #[] #[]] w fun e7 w6 =>
  ∃ i8 : Int, ∃ t9 : Bool, e7 = .returned (Value.tuple #[Value.int .i64 i8, Value.bool t9]) ∧ (
    Q (Value.tuple #[Value.int .i64 i8, Value.bool t9]) w6)
def F28.an : Ann := ⟨[], []⟩
theorem F28.eq (x0 : Option Addr) (x1 : ByteArray) (w : World) (Q : Value → World → Prop) : vcFn Try.prog F28.an 28 [Value.pointer x0, Value.string x1] w Q = F28.vc x0 x1 w Q := by kernel_rfl
theorem F28.of (x0 : Option Addr) (x1 : ByteArray) (w : World) {Q : Value → World → Prop} (h : F28.vc x0 x1 w Q) : Calls Try.prog 28 #[Value.pointer x0, Value.string x1] w (fun e w' => ∃ v, e = .returned v ∧ Q v w') := vcFn_sound noCount mixed ((F28.eq x0 x1 w Q).symm ▸ h)
/-! ### function 29: stillage/stillageref21.Set -/
def F29.k9c (Q : Value → World → Prop) (C4 : ((Option Addr × Nat × Nat) × (Nat × Nat) × (Option Addr × Nat × Nat) × Bool × Int × Unit) → World → Prop) (x0 : (Option Addr × Nat × Nat)) (x3 : (Nat × Nat)) (x5 : (Option Addr × Nat × Nat)) (x6 : Bool) (x7 : Int) (w : World) : Prop :=
  dr x0.1 fun b14 o15 =>
  gd (decide (0 ≤ x7)) <|
  gd (decide (x7 < ((x0.2.1 : Nat) : Int))) <|
  ldS w.drew b14 (o15 + (x7).toNat * 38) fun s16 =>
  ldS w.drew x3.1 x3.2 fun s17 =>
  vIf (!(s16.toList == s17.toList))
  (dr x0.1 fun b18 o19 =>
    gd (decide (0 ≤ x7)) <|
    gd (decide (x7 < ((x0.2.1 : Nat) : Int))) <|
    ldA 38 w.drew b18 (o19 + (x7).toNat * 38) fun a20 =>
    gd (a20.length == 38) <|
    nw w.drew (a20 ++ []) 34 fun b21 w22 =>
    app w22 38 104 Z34 34 x5.1 x5.2.1 x5.2.2 (Value.slice (some ⟨b21, 0, none⟩) 1 1) fun A23 n24 c25 w26 =>
    jnC C4 ((x0.1, x0.2.1, x0.2.2), (x3.1, x3.2), (A23, n24, c25), x6, ((IntKind.wrap .i64 (x7 + 1))), ()) w26)
  (jnC C4 ((x0.1, x0.2.1, x0.2.2), (x3.1, x3.2), (x5.1, x5.2.1, x5.2.2), x6, ((IntKind.wrap .i64 (x7 + 1))), ()) w.drew)
def F29.k9 (Q : Value → World → Prop) (C4 : ((Option Addr × Nat × Nat) × (Nat × Nat) × (Option Addr × Nat × Nat) × Bool × Int × Unit) → World → Prop) : ((Option Addr × Nat × Nat) × (Nat × Nat) × (Option Addr × Nat × Nat) × Bool × Int × Unit) → World → Prop := fun s w => ∀ _ : Nat → Value, F29.k9c Q C4 s.1 s.2.1 s.2.2.1 s.2.2.2.1 s.2.2.2.2.1 w
def F29.k7c (Q : Value → World → Prop) (C4 : ((Option Addr × Nat × Nat) × (Nat × Nat) × (Option Addr × Nat × Nat) × Bool × Int × Unit) → World → Prop) (x0 : (Option Addr × Nat × Nat)) (x3 : (Nat × Nat)) (x5 : (Option Addr × Nat × Nat)) (x6 : Bool) (x7 : Int) (x25 : Bool) (w : World) : Prop :=
  vIf x25
  (ldA 38 w x3.1 x3.2 fun a7 =>
    gd (a7.length == 38) <|
    nw w (a7 ++ []) 34 fun b8 w9 =>
    app w9 38 104 Z34 34 x5.1 x5.2.1 x5.2.2 (Value.slice (some ⟨b8, 0, none⟩) 1 1) fun A10 n11 c12 w13 =>
    jnC (F29.k9 Q C4) ((x0.1, x0.2.1, x0.2.2), (x3.1, x3.2), (A10, n11, c12), true, (x7), ()) w13)
  (jnC (F29.k9 Q C4) ((x0.1, x0.2.1, x0.2.2), (x3.1, x3.2), (x5.1, x5.2.1, x5.2.2), x6, (x7), ()) w)
def F29.k7 (Q : Value → World → Prop) (C4 : ((Option Addr × Nat × Nat) × (Nat × Nat) × (Option Addr × Nat × Nat) × Bool × Int × Unit) → World → Prop) : ((Option Addr × Nat × Nat) × (Nat × Nat) × (Option Addr × Nat × Nat) × Bool × Int × Bool × Unit) → World → Prop := fun s w => ∀ _ : Nat → Value, F29.k7c Q C4 s.1 s.2.1 s.2.2.1 s.2.2.2.1 s.2.2.2.2.1 s.2.2.2.2.2.1 w
def F29.b4c (Q : Value → World → Prop) (C4 : ((Option Addr × Nat × Nat) × (Nat × Nat) × (Option Addr × Nat × Nat) × Bool × Int × Unit) → World → Prop) (x0 : (Option Addr × Nat × Nat)) (x3 : (Nat × Nat)) (x5 : (Option Addr × Nat × Nat)) (x6 : Bool) (x7 : Int) (w : World) : Prop :=
  vIf (decide (x7 < ((x0.2.1 : Nat) : Int)))
  (vIf (!x6)
    (dr x0.1 fun b3 o4 =>
      gd (decide (0 ≤ x7)) <|
      gd (decide (x7 < ((x0.2.1 : Nat) : Int))) <|
      ldS w.drew b3 (o4 + (x7).toNat * 38) fun s5 =>
      ldS w.drew x3.1 x3.2 fun s6 =>
      jnC (F29.k7 Q C4) ((x0.1, x0.2.1, x0.2.2), (x3.1, x3.2), (x5.1, x5.2.1, x5.2.2), x6, (x7), (!(Op.bytesLess s5.toList s6.toList)), ()) w.drew)
    (jnC (F29.k7 Q C4) ((x0.1, x0.2.1, x0.2.2), (x3.1, x3.2), (x5.1, x5.2.1, x5.2.2), x6, (x7), false, ()) w.drew))
  (vIf (!x6)
    (ldA 38 w x3.1 x3.2 fun a27 =>
      gd (a27.length == 38) <|
      nw w (a27 ++ []) 34 fun b28 w29 =>
      app w29 38 104 Z34 34 x5.1 x5.2.1 x5.2.2 (Value.slice (some ⟨b28, 0, none⟩) 1 1) fun A30 n31 c32 w33 =>
      Q (Value.slice A30 n31 c32) w33)
    (Q (Value.slice x5.1 x5.2.1 x5.2.2) w))
def F29.b4 (Q : Value → World → Prop) : ((Option Addr × Nat × Nat) × (Nat × Nat) × (Option Addr × Nat × Nat) × Bool × Int × Unit) → World → (((Option Addr × Nat × Nat) × (Nat × Nat) × (Option Addr × Nat × Nat) × Bool × Int × Unit) → World → Prop) → Prop := fun s w C4 => ∀ _ : Nat → Value, F29.b4c Q C4 s.1 s.2.1 s.2.2.1 s.2.2.2.1 s.2.2.2.2.1 w
def F29.l4 (Q : Value → World → Prop) : ((Option Addr × Nat × Nat) × (Nat × Nat) × (Option Addr × Nat × Nat) × Bool × Int × Unit) → World → Prop := fun s w => ∃ n, loopC (F29.b4 Q) n s w
def F29.vc (x0A : Option Addr) (x0n x0c : Nat) (x1 : List Value) (w : World) (Q : Value → World → Prop) : Prop :=
  nw w x1 34 fun b1 w2 =>
  jnC (F29.l4 Q) ((x0A, x0n, x0c), (b1, 0), (none, 0, 0), false, (0), ()) w2
def F29.an : Ann := ⟨[(4, [(0, .kSl), (3, .kL), (5, .kSl), (6, .kB), (7, .kI .i64)])], [(7, [(0, .kSl), (3, .kL), (5, .kSl), (6, .kB), (7, .kI .i64), (25, .kB)]), (9, [(0, .kSl), (3, .kL), (5, .kSl), (6, .kB), (7, .kI .i64)])]⟩
theorem F29.eq (x0A : Option Addr) (x0n x0c : Nat) (x1 : List Value) (w : World) (Q : Value → World → Prop) : vcFn Try.prog F29.an 29 [Value.slice x0A x0n x0c, ofL x1] w Q = F29.vc x0A x0n x0c x1 w Q := by kernel_rfl
theorem F29.of (x0A : Option Addr) (x0n x0c : Nat) (x1 : List Value) (w : World) {Q : Value → World → Prop} (h : F29.vc x0A x0n x0c x1 w Q) : Calls Try.prog 29 #[Value.slice x0A x0n x0c, ofL x1] w (fun e w' => ∃ v, e = .returned v ∧ Q v w') := vcFn_sound noCount mixed ((F29.eq x0A x0n x0c x1 w Q).symm ▸ h)
/-! ### function 30: stillage/entry.Tag -/
def F30.vc (x0 : List Value) (x1 : List Value) (w : World) (Q : Value → World → Prop) : Prop :=
  nw w x0 34 fun b1 w2 =>
  nw w2 x1 44 fun b3 w4 =>
  nw w4 Z34 34 fun b5 w6 =>
  ldS w6.drew b3 (0 + 34) fun s7 =>
  ldA 32 w6.drew b3 (0 + 2) fun a8 =>
  ldA 3 w6.drew b3 (0 + 36) fun a9 =>
  ldSl w6.drew b1 (0 + 37) fun A10 n11 c12 =>
  ldI .i64 w6.drew b3 (0 + 36) fun i13 =>
  nw w6.drew ([Value.int .i64 i13] ++ []) 3 fun b14 w15 =>
  kp w6.drew b1 (0 + 37) 1 w15 <|
  kp w6.drew b3 (0 + 36) 3 w15 <|
  kp w6.drew b3 (0 + 2) 32 w15 <|
  kp w6.drew b3 (0 + 34) 1 w15 <|
  nw w15 ([Value.slice A10 n11 c12] ++ ([Value.slice (some ⟨b14, 0, none⟩) 1 1] ++ [])) 32 fun b16 w17 =>
  kp w6.drew b3 (0 + 36) 3 w17 <|
  kp w6.drew b3 (0 + 2) 32 w17 <|
  kp w6.drew b3 (0 + 34) 1 w17 <|
  Calls Try.prog 44 #[Value.slice (some ⟨b16, 0, none⟩) 2 2] w17 fun e19 w18 =>
  ∃ (A20 : Option Addr) (n21 c22 : Nat), e19 = .returned (Value.slice A20 n21 c22) ∧ (
    kp w6.drew b3 (0 + 36) 3 w18 <|
    kp w6.drew b3 (0 + 2) 32 w18 <|
    kp w6.drew b3 (0 + 34) 1 w18 <|
    gd (a8.length == 32) <|
    gd (a9.length == 3) <|
    gd (([Value.string s7] ++ (a8 ++ ([Value.bool false] ++ (a9 ++ ([Value.slice A20 n21 c22] ++ []))))).length == 38) <|
    st w18 b5 0 ([Value.string s7] ++ (a8 ++ ([Value.bool false] ++ (a9 ++ ([Value.slice A20 n21 c22] ++ []))))) fun w23 =>
    ldA 38 w23 b5 0 fun a24 =>
    Q (ofL a24) w23)
def F30.an : Ann := ⟨[], []⟩
theorem F30.eq (x0 : List Value) (x1 : List Value) (w : World) (Q : Value → World → Prop) : vcFn Try.prog F30.an 30 [ofL x0, ofL x1] w Q = F30.vc x0 x1 w Q := by kernel_rfl
theorem F30.of (x0 : List Value) (x1 : List Value) (w : World) {Q : Value → World → Prop} (h : F30.vc x0 x1 w Q) : Calls Try.prog 30 #[ofL x0, ofL x1] w (fun e w' => ∃ v, e = .returned v ∧ Q v w') := vcFn_sound noCount mixed ((F30.eq x0 x1 w Q).symm ▸ h)
/-! ### function 31: stillage/entry.Untag -/
def F31.vc (x0 : List Value) (x1 : List Value) (w : World) (Q : Value → World → Prop) : Prop :=
  nw w x0 34 fun b1 w2 =>
  nw w2 x1 44 fun b3 w4 =>
  nw w4 Z34 34 fun b5 w6 =>
  ldS w6.drew b1 0 fun s7 =>
  ldA 3 w6.drew b3 (0 + 36) fun a8 =>
  ldSl w6.drew b1 (0 + 37) fun A9 n10 c11 =>
  nw w6.drew ([Value.slice A9 n10 c11] ++ []) 32 fun b12 w13 =>
  kp w6.drew b3 (0 + 36) 3 w13 <|
  kp w6.drew b1 0 1 w13 <|
  Calls Try.prog 44 #[Value.slice (some ⟨b12, 0, none⟩) 1 1] w13 fun e15 w14 =>
  ∃ (A16 : Option Addr) (n17 c18 : Nat), e15 = .returned (Value.slice A16 n17 c18) ∧ (
    kp w6.drew b3 (0 + 36) 3 w14 <|
    kp w6.drew b1 0 1 w14 <|
    gd (a8.length == 3) <|
    gd (([Value.string s7] ++ ([Value.int .u8 0, Value.int .u8 0, Value.int .u8 0, Value.int .u8 0, Value.int .u8 0, Value.int .u8 0, Value.int .u8 0, Value.int .u8 0, Value.int .u8 0, Value.int .u8 0, Value.int .u8 0, Value.int .u8 0, Value.int .u8 0, Value.int .u8 0, Value.int .u8 0, Value.int .u8 0, Value.int .u8 0, Value.int .u8 0, Value.int .u8 0, Value.int .u8 0, Value.int .u8 0, Value.int .u8 0, Value.int .u8 0, Value.int .u8 0, Value.int .u8 0, Value.int .u8 0, Value.int .u8 0, Value.int .u8 0, Value.int .u8 0, Value.int .u8 0, Value.int .u8 0, Value.int .u8 0] ++ ([Value.bool true] ++ (a8 ++ ([Value.slice A16 n17 c18] ++ []))))).length == 38) <|
    st w14 b5 0 ([Value.string s7] ++ ([Value.int .u8 0, Value.int .u8 0, Value.int .u8 0, Value.int .u8 0, Value.int .u8 0, Value.int .u8 0, Value.int .u8 0, Value.int .u8 0, Value.int .u8 0, Value.int .u8 0, Value.int .u8 0, Value.int .u8 0, Value.int .u8 0, Value.int .u8 0, Value.int .u8 0, Value.int .u8 0, Value.int .u8 0, Value.int .u8 0, Value.int .u8 0, Value.int .u8 0, Value.int .u8 0, Value.int .u8 0, Value.int .u8 0, Value.int .u8 0, Value.int .u8 0, Value.int .u8 0, Value.int .u8 0, Value.int .u8 0, Value.int .u8 0, Value.int .u8 0, Value.int .u8 0, Value.int .u8 0] ++ ([Value.bool true] ++ (a8 ++ ([Value.slice A16 n17 c18] ++ []))))) fun w19 =>
    ldA 38 w19 b5 0 fun a20 =>
    Q (ofL a20) w19)
def F31.an : Ann := ⟨[], []⟩
theorem F31.eq (x0 : List Value) (x1 : List Value) (w : World) (Q : Value → World → Prop) : vcFn Try.prog F31.an 31 [ofL x0, ofL x1] w Q = F31.vc x0 x1 w Q := by kernel_rfl
theorem F31.of (x0 : List Value) (x1 : List Value) (w : World) {Q : Value → World → Prop} (h : F31.vc x0 x1 w Q) : Calls Try.prog 31 #[ofL x0, ofL x1] w (fun e w' => ∃ v, e = .returned v ∧ Q v w') := vcFn_sound noCount mixed ((F31.eq x0 x1 w Q).symm ▸ h)
/-! ### function 32: stillage/stillageref19.Tag -/
def F32.vc (x0 : List Value) (x1 : List Value) (w : World) (Q : Value → World → Prop) : Prop :=
  nw w x0 34 fun b1 w2 =>
  nw w2 x1 44 fun b3 w4 =>
  nw w4 Z34 34 fun b5 w6 =>
  ldS w6.drew b3 (0 + 34) fun s7 =>
  ldA 32 w6.drew b3 (0 + 2) fun a8 =>
  ldA 3 w6.drew b3 (0 + 36) fun a9 =>
  ldSl w6.drew b1 (0 + 37) fun A10 n11 c12 =>
  ldI .i64 w6.drew b3 (0 + 36) fun i13 =>
  Calls Try.prog 46 #[Value.slice A10 n11 c12] w6.drew fun e15 w14 =>
  ∃ (A16 : Option Addr) (n17 c18 : Nat), e15 = .returned (Value.slice A16 n17 c18) ∧ (
    kp w6.drew b3 (0 + 36) 1 w14 <|
    kp w6.drew b3 (0 + 36) 3 w14 <|
    kp w6.drew b3 (0 + 2) 32 w14 <|
    kp w6.drew b3 (0 + 34) 1 w14 <|
    Calls Try.prog 45 #[Value.slice A16 n17 c18, Value.int .i64 i13] w14 fun e20 w19 =>
    ∃ (A21 : Option Addr) (n22 c23 : Nat), e20 = .returned (Value.slice A21 n22 c23) ∧ (
      kp w6.drew b3 (0 + 36) 3 w19 <|
      kp w6.drew b3 (0 + 2) 32 w19 <|
      kp w6.drew b3 (0 + 34) 1 w19 <|
      gd (a8.length == 32) <|
      gd (a9.length == 3) <|
      gd (([Value.string s7] ++ (a8 ++ ([Value.bool false] ++ (a9 ++ ([Value.slice A21 n22 c23] ++ []))))).length == 38) <|
      st w19 b5 0 ([Value.string s7] ++ (a8 ++ ([Value.bool false] ++ (a9 ++ ([Value.slice A21 n22 c23] ++ []))))) fun w24 =>
      ldA 38 w24 b5 0 fun a25 =>
      Q (ofL a25) w24))
def F32.an : Ann := ⟨[], []⟩
theorem F32.eq (x0 : List Value) (x1 : List Value) (w : World) (Q : Value → World → Prop) : vcFn Try.prog F32.an 32 [ofL x0, ofL x1] w Q = F32.vc x0 x1 w Q := by kernel_rfl
theorem F32.of (x0 : List Value) (x1 : List Value) (w : World) {Q : Value → World → Prop} (h : F32.vc x0 x1 w Q) : Calls Try.prog 32 #[ofL x0, ofL x1] w (fun e w' => ∃ v, e = .returned v ∧ Q v w') := vcFn_sound noCount mixed ((F32.eq x0 x1 w Q).symm ▸ h)
/-! ### function 33: stillage/stillageref19.Untag -/
def F33.vc (x0 : List Value) (x1 : List Value) (w : World) (Q : Value → World → Prop) : Prop :=
  nw w x0 34 fun b1 w2 =>
  nw w2 x1 44 fun b3 w4 =>
  nw w4 Z34 34 fun b5 w6 =>
  ldS w6.drew b1 0 fun s7 =>
  ldA 3 w6.drew b3 (0 + 36) fun a8 =>
  ldSl w6.drew b1 (0 + 37) fun A9 n10 c11 =>
  Calls Try.prog 46 #[Value.slice A9 n10 c11] w6.drew fun e13 w12 =>
  ∃ (A14 : Option Addr) (n15 c16 : Nat), e13 = .returned (Value.slice A14 n15 c16) ∧ (
    kp w6.drew b3 (0 + 36) 3 w12 <|
    kp w6.drew b1 0 1 w12 <|
    gd (a8.length == 3) <|
    gd (([Value.string s7] ++ ([Value.int .u8 0, Value.int .u8 0, Value.int .u8 0, Value.int .u8 0, Value.int .u8 0, Value.int .u8 0, Value.int .u8 0, Value.int .u8 0, Value.int .u8 0, Value.int .u8 0, Value.int .u8 0, Value.int .u8 0, Value.int .u8 0, Value.int .u8 0, Value.int .u8 0, Value.int .u8 0, Value.int .u8 0, Value.int .u8 0, Value.int .u8 0, Value.int .u8 0, Value.int .u8 0, Value.int .u8 0, Value.int .u8 0, Value.int .u8 0, Value.int .u8 0, Value.int .u8 0, Value.int .u8 0, Value.int .u8 0, Value.int .u8 0, Value.int .u8 0, Value.int .u8 0, Value.int .u8 0] ++ ([Value.bool true] ++ (a8 ++ ([Value.slice A14 n15 c16] ++ []))))).length == 38) <|
    st w12 b5 0 ([Value.string s7] ++ ([Value.int .u8 0, Value.int .u8 0, Value.int .u8 0, Value.int .u8 0, Value.int .u8 0, Value.int .u8 0, Value.int .u8 0, Value.int .u8 0, Value.int .u8 0, Value.int .u8 0, Value.int .u8 0, Value.int .u8 0, Value.int .u8 0, Value.int .u8 0, Value.int .u8 0, Value.int .u8 0, Value.int .u8 0, Value.int .u8 0, Value.int .u8 0, Value.int .u8 0, Value.int .u8 0, Value.int .u8 0, Value.int .u8 0, Value.int .u8 0, Value.int .u8 0, Value.int .u8 0, Value.int .u8 0, Value.int .u8 0, Value.int .u8 0, Value.int .u8 0, Value.int .u8 0, Value.int .u8 0] ++ ([Value.bool true] ++ (a8 ++ ([Value.slice A14 n15 c16] ++ []))))) fun w17 =>
    ldA 38 w17 b5 0 fun a18 =>
    Q (ofL a18) w17)
def F33.an : Ann := ⟨[], []⟩
theorem F33.eq (x0 : List Value) (x1 : List Value) (w : World) (Q : Value → World → Prop) : vcFn Try.prog F33.an 33 [ofL x0, ofL x1] w Q = F33.vc x0 x1 w Q := by kernel_rfl
theorem F33.of (x0 : List Value) (x1 : List Value) (w : World) {Q : Value → World → Prop} (h : F33.vc x0 x1 w Q) : Calls Try.prog 33 #[ofL x0, ofL x1] w (fun e w' => ∃ v, e = .returned v ∧ Q v w') := vcFn_sound noCount mixed ((F33.eq x0 x1 w Q).symm ▸ h)
/-! ### function 34: stillage/entry.KeepTag -/
def F34.k6c (Q : Value → World → Prop) (x2 : (Nat × Nat)) (x4 : (Nat × Nat)) (x6 : (Option Addr × Nat × Nat)) (w : World) : Prop :=
  st w x2.1 (x2.2 + 37) [Value.slice x6.1 x6.2.1 x6.2.2] fun w22 =>
  ldA 38 w22 x2.1 x2.2 fun a23 =>
  gd (a23.length == 38) <|
  st w22 x4.1 x4.2 a23 fun w24 =>
  ldA 38 w24 x4.1 x4.2 fun a25 =>
  Q (Value.tuple #[ofL a25, Value.bool true]) w24
def F34.k6 (Q : Value → World → Prop) : ((Nat × Nat) × (Nat × Nat) × (Option Addr × Nat × Nat) × Unit) → World → Prop := fun s w => ∀ _ : Nat → Value, F34.k6c Q s.1 s.2.1 s.2.2.1 w
def F34.k3c (Q : Value → World → Prop) (x2 : (Nat × Nat)) (x4 : (Nat × Nat)) (x6 : (Option Addr × Nat × Nat)) (x7 : Bool) (x17 : Bool) (w : World) : Prop :=
  vIf x17
  (gd (([Value.string (⟨#[]⟩ : ByteArray)] ++ ([Value.int .u8 0, Value.int .u8 0, Value.int .u8 0, Value.int .u8 0, Value.int .u8 0, Value.int .u8 0, Value.int .u8 0, Value.int .u8 0, Value.int .u8 0, Value.int .u8 0, Value.int .u8 0, Value.int .u8 0, Value.int .u8 0, Value.int .u8 0, Value.int .u8 0, Value.int .u8 0, Value.int .u8 0, Value.int .u8 0, Value.int .u8 0, Value.int .u8 0, Value.int .u8 0, Value.int .u8 0, Value.int .u8 0, Value.int .u8 0, Value.int .u8 0, Value.int .u8 0, Value.int .u8 0, Value.int .u8 0, Value.int .u8 0, Value.int .u8 0, Value.int .u8 0, Value.int .u8 0] ++ ([Value.bool false] ++ ([Value.int .i64 0, Value.int .i64 0, Value.int .i64 0] ++ ([Value.slice none 0 0] ++ []))))).length == 38) <|
    st w x4.1 x4.2 ([Value.string (⟨#[]⟩ : ByteArray)] ++ ([Value.int .u8 0, Value.int .u8 0, Value.int .u8 0, Value.int .u8 0, Value.int .u8 0, Value.int .u8 0, Value.int .u8 0, Value.int .u8 0, Value.int .u8 0, Value.int .u8 0, Value.int .u8 0, Value.int .u8 0, Value.int .u8 0, Value.int .u8 0, Value.int .u8 0, Value.int .u8 0, Value.int .u8 0, Value.int .u8 0, Value.int .u8 0, Value.int .u8 0, Value.int .u8 0, Value.int .u8 0, Value.int .u8 0, Value.int .u8 0, Value.int .u8 0, Value.int .u8 0, Value.int .u8 0, Value.int .u8 0, Value.int .u8 0, Value.int .u8 0, Value.int .u8 0, Value.int .u8 0] ++ ([Value.bool false] ++ ([Value.int .i64 0, Value.int .i64 0, Value.int .i64 0] ++ ([Value.slice none 0 0] ++ []))))) fun w17 =>
    ldA 38 w17 x4.1 x4.2 fun a18 =>
    Q (Value.tuple #[ofL a18, Value.bool false]) w17)
  (vIf (!x7)
    (ldS w x2.1 x2.2 fun s19 =>
      gd (([Value.string s19] ++ ([Value.int .u8 0, Value.int .u8 0, Value.int .u8 0, Value.int .u8 0, Value.int .u8 0, Value.int .u8 0, Value.int .u8 0, Value.int .u8 0, Value.int .u8 0, Value.int .u8 0, Value.int .u8 0, Value.int .u8 0, Value.int .u8 0, Value.int .u8 0, Value.int .u8 0, Value.int .u8 0, Value.int .u8 0, Value.int .u8 0, Value.int .u8 0, Value.int .u8 0, Value.int .u8 0, Value.int .u8 0, Value.int .u8 0, Value.int .u8 0, Value.int .u8 0, Value.int .u8 0, Value.int .u8 0, Value.int .u8 0, Value.int .u8 0, Value.int .u8 0, Value.int .u8 0, Value.int .u8 0] ++ ([Value.bool true] ++ ([Value.int .i64 0, Value.int .i64 0, Value.int .i64 0] ++ ([Value.slice x6.1 x6.2.1 x6.2.2] ++ []))))).length == 38) <|
      st w x4.1 x4.2 ([Value.string s19] ++ ([Value.int .u8 0, Value.int .u8 0, Value.int .u8 0, Value.int .u8 0, Value.int .u8 0, Value.int .u8 0, Value.int .u8 0, Value.int .u8 0, Value.int .u8 0, Value.int .u8 0, Value.int .u8 0, Value.int .u8 0, Value.int .u8 0, Value.int .u8 0, Value.int .u8 0, Value.int .u8 0, Value.int .u8 0, Value.int .u8 0, Value.int .u8 0, Value.int .u8 0, Value.int .u8 0, Value.int .u8 0, Value.int .u8 0, Value.int .u8 0, Value.int .u8 0, Value.int .u8 0, Value.int .u8 0, Value.int .u8 0, Value.int .u8 0, Value.int .u8 0, Value.int .u8 0, Value.int .u8 0] ++ ([Value.bool true] ++ ([Value.int .i64 0, Value.int .i64 0, Value.int .i64 0] ++ ([Value.slice x6.1 x6.2.1 x6.2.2] ++ []))))) fun w20 =>
      ldA 38 w20 x4.1 x4.2 fun a21 =>
      Q (Value.tuple #[ofL a21, Value.bool true]) w20)
    (jnC (F34.k6 Q) ((x2.1, x2.2), (x4.1, x4.2), (x6.1, x6.2.1, x6.2.2), ()) w))
def F34.k3 (Q : Value → World → Prop) : ((Nat × Nat) × (Nat × Nat) × (Option Addr × Nat × Nat) × Bool × Bool × Unit) → World → Prop := fun s w => ∀ _ : Nat → Value, F34.k3c Q s.1 s.2.1 s.2.2.1 s.2.2.2.1 s.2.2.2.2.1 w
def F34.vc (x0 : List Value) (x1A : Option Addr) (x1n x1c : Nat) (w : World) (Q : Value → World → Prop) : Prop :=
  nw w x0 34 fun b1 w2 =>
  nw w2 Z34 34 fun b3 w4 =>
  ldSl w4.drew b1 (0 + 37) fun A5 n6 c7 =>
  ldI .i64 w4.drew b1 (0 + 34) fun i8 =>
  Calls Try.prog 47 #[Value.slice A5 n6 c7, Value.slice x1A x1n x1c] w4.drew fun e10 w9 =>
  ∃ (A11 : Option Addr) (n12 c13 : Nat), e10 = .returned (Value.slice A11 n12 c13) ∧ (
    kp w4.drew b1 (0 + 34) 1 w9 <|
    Calls Try.prog 48 #[Value.slice x1A x1n x1c, Value.int .i64 i8] w9 fun e15 w14 =>
    ∃ t16 : Bool, e15 = .returned (Value.bool t16) ∧ (
      vIf (((n12 : Nat) : Int) == 0)
      (vIf (!t16)
        (jnC (F34.k3 Q) ((b1, 0), (b3, 0), (A11, n12, c13), t16, true, ()) w14)
        (ldB w14 b1 (0 + 33) fun t26 =>
          jnC (F34.k3 Q) ((b1, 0), (b3, 0), (A11, n12, c13), t16, t26, ()) w14))
      (jnC (F34.k3 Q) ((b1, 0), (b3, 0), (A11, n12, c13), t16, false, ()) w14)))
def F34.an : Ann := ⟨[], [(3, [(2, .kL), (4, .kL), (6, .kSl), (7, .kB), (17, .kB)]), (6, [(2, .kL), (4, .kL), (6, .kSl)])]⟩
theorem F34.eq (x0 : List Value) (x1A : Option Addr) (x1n x1c : Nat) (w : World) (Q : Value → World → Prop) : vcFn Try.prog F34.an 34 [ofL x0, Value.slice x1A x1n x1c] w Q = F34.vc x0 x1A x1n x1c w Q := by kernel_rfl
theorem F34.of (x0 : List Value) (x1A : Option Addr) (x1n x1c : Nat) (w : World) {Q : Value → World → Prop} (h : F34.vc x0 x1A x1n x1c w Q) : Calls Try.prog 34 #[ofL x0, Value.slice x1A x1n x1c] w (fun e w' => ∃ v, e = .returned v ∧ Q v w') := vcFn_sound noCount mixed ((F34.eq x0 x1A x1n x1c w Q).symm ▸ h)
/-! ### function 35: stillage/stillageref19.KeepTag -/
def F35.k5c (Q : Value → World → Prop) (x2 : (Nat × Nat)) (x4 : (Nat × Nat)) (x6 : (Option Addr × Nat × Nat)) (w : World) : Prop :=
  vIf (decide (((x6.2.1 : Nat) : Int) > 0))
  (ldS w x2.1 x2.2 fun s22 =>
    gd (([Value.string s22] ++ ([Value.int .u8 0, Value.int .u8 0, Value.int .u8 0, Value.int .u8 0, Value.int .u8 0, Value.int .u8 0, Value.int .u8 0, Value.int .u8 0, Value.int .u8 0, Value.int .u8 0, Value.int .u8 0, Value.int .u8 0, Value.int .u8 0, Value.int .u8 0, Value.int .u8 0, Value.int .u8 0, Value.int .u8 0, Value.int .u8 0, Value.int .u8 0, Value.int .u8 0, Value.int .u8 0, Value.int .u8 0, Value.int .u8 0, Value.int .u8 0, Value.int .u8 0, Value.int .u8 0, Value.int .u8 0, Value.int .u8 0, Value.int .u8 0, Value.int .u8 0, Value.int .u8 0, Value.int .u8 0] ++ ([Value.bool true] ++ ([Value.int .i64 0, Value.int .i64 0, Value.int .i64 0] ++ ([Value.slice x6.1 x6.2.1 x6.2.2] ++ []))))).length == 38) <|
    st w x4.1 x4.2 ([Value.string s22] ++ ([Value.int .u8 0, Value.int .u8 0, Value.int .u8 0, Value.int .u8 0, Value.int .u8 0, Value.int .u8 0, Value.int .u8 0, Value.int .u8 0, Value.int .u8 0, Value.int .u8 0, Value.int .u8 0, Value.int .u8 0, Value.int .u8 0, Value.int .u8 0, Value.int .u8 0, Value.int .u8 0, Value.int .u8 0, Value.int .u8 0, Value.int .u8 0, Value.int .u8 0, Value.int .u8 0, Value.int .u8 0, Value.int .u8 0, Value.int .u8 0, Value.int .u8 0, Value.int .u8 0, Value.int .u8 0, Value.int .u8 0, Value.int .u8 0, Value.int .u8 0, Value.int .u8 0, Value.int .u8 0] ++ ([Value.bool true] ++ ([Value.int .i64 0, Value.int .i64 0, Value.int .i64 0] ++ ([Value.slice x6.1 x6.2.1 x6.2.2] ++ []))))) fun w23 =>
    ldA 38 w23 x4.1 x4.2 fun a24 =>
    Q (Value.tuple #[ofL a24, Value.bool true]) w23)
  (gd (([Value.string (⟨#[]⟩ : ByteArray)] ++ ([Value.int .u8 0, Value.int .u8 0, Value.int .u8 0, Value.int .u8 0, Value.int .u8 0, Value.int .u8 0, Value.int .u8 0, Value.int .u8 0, Value.int .u8 0, Value.int .u8 0, Value.int .u8 0, Value.int .u8 0, Value.int .u8 0, Value.int .u8 0, Value.int .u8 0, Value.int .u8 0, Value.int .u8 0, Value.int .u8 0, Value.int .u8 0, Value.int .u8 0, Value.int .u8 0, Value.int .u8 0, Value.int .u8 0, Value.int .u8 0, Value.int .u8 0, Value.int .u8 0, Value.int .u8 0, Value.int .u8 0, Value.int .u8 0, Value.int .u8 0, Value.int .u8 0, Value.int .u8 0] ++ ([Value.bool false] ++ ([Value.int .i64 0, Value.int .i64 0, Value.int .i64 0] ++ ([Value.slice none 0 0] ++ []))))).length == 38) <|
    st w x4.1 x4.2 ([Value.string (⟨#[]⟩ : ByteArray)] ++ ([Value.int .u8 0, Value.int .u8 0, Value.int .u8 0, Value.int .u8 0, Value.int .u8 0, Value.int .u8 0, Value.int .u8 0, Value.int .u8 0, Value.int .u8 0, Value.int .u8 0, Value.int .u8 0, Value.int .u8 0, Value.int .u8 0, Value.int .u8 0, Value.int .u8 0, Value.int .u8 0, Value.int .u8 0, Value.int .u8 0, Value.int .u8 0, Value.int .u8 0, Value.int .u8 0, Value.int .u8 0, Value.int .u8 0, Value.int .u8 0, Value.int .u8 0, Value.int .u8 0, Value.int .u8 0, Value.int .u8 0, Value.int .u8 0, Value.int .u8 0, Value.int .u8 0, Value.int .u8 0] ++ ([Value.bool false] ++ ([Value.int .i64 0, Value.int .i64 0, Value.int .i64 0] ++ ([Value.slice none 0 0] ++ []))))) fun w25 =>
    ldA 38 w25 x4.1 x4.2 fun a26 =>
    Q (Value.tuple #[ofL a26, Value.bool false]) w25)
def F35.k5 (Q : Value → World → Prop) : ((Nat × Nat) × (Nat × Nat) × (Option Addr × Nat × Nat) × Unit) → World → Prop := fun s w => ∀ _ : Nat → Value, F35.k5c Q s.1 s.2.1 s.2.2.1 w
def F35.k3c (Q : Value → World → Prop) (x2 : (Nat × Nat)) (x4 : (Nat × Nat)) (x6 : (Option Addr × Nat × Nat)) (x25 : Bool) (w : World) : Prop :=
  vIf x25
  (st w x2.1 (x2.2 + 37) [Value.slice x6.1 x6.2.1 x6.2.2] fun w18 =>
    ldA 38 w18 x2.1 x2.2 fun a19 =>
    gd (a19.length == 38) <|
    st w18 x4.1 x4.2 a19 fun w20 =>
    ldA 38 w20 x4.1 x4.2 fun a21 =>
    Q (Value.tuple #[ofL a21, Value.bool true]) w20)
  (jnC (F35.k5 Q) ((x2.1, x2.2), (x4.1, x4.2), (x6.1, x6.2.1, x6.2.2), ()) w)
def F35.k3 (Q : Value → World → Prop) : ((Nat × Nat) × (Nat × Nat) × (Option Addr × Nat × Nat) × Bool × Unit) → World → Prop := fun s w => ∀ _ : Nat → Value, F35.k3c Q s.1 s.2.1 s.2.2.1 s.2.2.2.1 w
def F35.vc (x0 : List Value) (x1A : Option Addr) (x1n x1c : Nat) (w : World) (Q : Value → World → Prop) : Prop :=
  nw w x0 34 fun b1 w2 =>
  nw w2 Z34 34 fun b3 w4 =>
  ldSl w4 b1 (0 + 37) fun A5 n6 c7 =>
  Calls Try.prog 49 #[Value.slice A5 n6 c7, Value.slice x1A x1n x1c] w4 fun e9 w8 =>
  ∃ (A10 : Option Addr) (n11 c12 : Nat), e9 = .returned (Value.slice A10 n11 c12) ∧ (
    ldI .i64 w8 b1 (0 + 34) fun i13 =>
    Calls Try.prog 50 #[Value.slice x1A x1n x1c, Value.int .i64 i13] w8 fun e15 w14 =>
    ∃ t16 : Bool, e15 = .returned (Value.bool t16) ∧ (
      vIf t16
      (ldB w14 b1 (0 + 33) fun t17 =>
        vIf (!t17)
        (jnC (F35.k3 Q) ((b1, 0), (b3, 0), (A10, n11, c12), true, ()) w14)
        (jnC (F35.k3 Q) ((b1, 0), (b3, 0), (A10, n11, c12), (decide (((n11 : Nat) : Int) > 0)), ()) w14))
      (jnC (F35.k3 Q) ((b1, 0), (b3, 0), (A10, n11, c12), false, ()) w14)))
def F35.an : Ann := ⟨[], [(3, [(2, .kL), (4, .kL), (6, .kSl), (25, .kB)]), (5, [(2, .kL), (4, .kL), (6, .kSl)])]⟩
theorem F35.eq (x0 : List Value) (x1A : Option Addr) (x1n x1c : Nat) (w : World) (Q : Value → World → Prop) : vcFn Try.prog F35.an 35 [ofL x0, Value.slice x1A x1n x1c] w Q = F35.vc x0 x1A x1n x1c w Q := by kernel_rfl
theorem F35.of (x0 : List Value) (x1A : Option Addr) (x1n x1c : Nat) (w : World) {Q : Value → World → Prop} (h : F35.vc x0 x1A x1n x1c w Q) : Calls Try.prog 35 #[ofL x0, Value.slice x1A x1n x1c] w (fun e w' => ∃ v, e = .returned v ∧ Q v w') := vcFn_sound noCount mixed ((F35.eq x0 x1A x1n x1c w Q).symm ▸ h)
/-! ### function 36: stillage/stillageref11.Ints -/
def F36.b4c (Q : Value → World → Prop) (C4 : ((Option Addr × Nat × Nat) × (Option Addr × Nat × Nat) × Int × Unit) → World → Prop) (x0 : (Option Addr × Nat × Nat)) (x1 : (Option Addr × Nat × Nat)) (x5 : Int) (w : World) : Prop :=
  vIf (decide (x5 < ((x0.2.1 : Nat) : Int)))
  (dr x0.1 fun b1 o2 =>
    gd (decide (0 ≤ x5)) <|
    gd (decide (x5 < ((x0.2.1 : Nat) : Int))) <|
    ldI .i64 w.drew b1 (o2 + (x5).toNat * 1) fun i3 =>
    dr x1.1 fun b4 o5 =>
    gd (decide (0 ≤ x5)) <|
    gd (decide (x5 < ((x1.2.1 : Nat) : Int))) <|
    ldI .i64 w.drew b4 (o5 + (x5).toNat * 1) fun i6 =>
    vIf (i3 != i6)
    (Q (Value.bool false) w.drew)
    (jnC C4 ((x0.1, x0.2.1, x0.2.2), (x1.1, x1.2.1, x1.2.2), ((IntKind.wrap .i64 (x5 + 1))), ()) w.drew))
  (Q (Value.bool true) w)
def F36.b4 (Q : Value → World → Prop) : ((Option Addr × Nat × Nat) × (Option Addr × Nat × Nat) × Int × Unit) → World → (((Option Addr × Nat × Nat) × (Option Addr × Nat × Nat) × Int × Unit) → World → Prop) → Prop := fun s w C4 => ∀ _ : Nat → Value, F36.b4c Q C4 s.1 s.2.1 s.2.2.1 w
def F36.l4 (Q : Value → World → Prop) : ((Option Addr × Nat × Nat) × (Option Addr × Nat × Nat) × Int × Unit) → World → Prop := fun s w => ∃ n, loopC (F36.b4 Q) n s w
def F36.vc (x0A : Option Addr) (x0n x0c : Nat) (x1A : Option Addr) (x1n x1c : Nat) (w : World) (Q : Value → World → Prop) : Prop :=
  vIf (((x0n : Nat) : Int) != ((x1n : Nat) : Int))
  (Q (Value.bool false) w)
  (jnC (F36.l4 Q) ((x0A, x0n, x0c), (x1A, x1n, x1c), (0), ()) w)
def F36.an : Ann := ⟨[(4, [(0, .kSl), (1, .kSl), (5, .kI .i64)])], []⟩
theorem F36.eq (x0A : Option Addr) (x0n x0c : Nat) (x1A : Option Addr) (x1n x1c : Nat) (w : World) (Q : Value → World → Prop) : vcFn Try.prog F36.an 36 [Value.slice x0A x0n x0c, Value.slice x1A x1n x1c] w Q = F36.vc x0A x0n x0c x1A x1n x1c w Q := by kernel_rfl
theorem F36.of (x0A : Option Addr) (x0n x0c : Nat) (x1A : Option Addr) (x1n x1c : Nat) (w : World) {Q : Value → World → Prop} (h : F36.vc x0A x0n x0c x1A x1n x1c w Q) : Calls Try.prog 36 #[Value.slice x0A x0n x0c, Value.slice x1A x1n x1c] w (fun e w' => ∃ v, e = .returned v ∧ Q v w') := vcFn_sound noCount mixed ((F36.eq x0A x0n x0c x1A x1n x1c w Q).symm ▸ h)
/-! ### function 37: slices.Clone[[]stillage/api.TagEntry,stillage/api.TagEntry] -/
def F37.vc (x0A : Option Addr) (x0n x0c : Nat) (w : World) (Q : Value → World → Prop) : Prop :=
  vIf x0A.isNone
  (Q (Value.slice none 0 0) w)
  (nw w [] 34 fun b1 w2 =>
    app w2 38 104 Z34 34 (some ⟨b1, 0, none⟩) 0 0 (Value.slice x0A x0n x0c) fun A3 n4 c5 w6 =>
    Q (Value.slice A3 n4 c5) w6)
def F37.an : Ann := ⟨[], []⟩
theorem F37.eq (x0A : Option Addr) (x0n x0c : Nat) (w : World) (Q : Value → World → Prop) : vcFn Try.prog F37.an 37 [Value.slice x0A x0n x0c] w Q = F37.vc x0A x0n x0c w Q := by kernel_rfl
theorem F37.of (x0A : Option Addr) (x0n x0c : Nat) (w : World) {Q : Value → World → Prop} (h : F37.vc x0A x0n x0c w Q) : Calls Try.prog 37 #[Value.slice x0A x0n x0c] w (fun e w' => ∃ v, e = .returned v ∧ Q v w') := vcFn_sound noCount mixed ((F37.eq x0A x0n x0c w Q).symm ▸ h)
/-! ### function 38: slices.Clone[[]int,int] -/
def F38.vc (x0A : Option Addr) (x0n x0c : Nat) (w : World) (Q : Value → World → Prop) : Prop :=
  vIf x0A.isNone
  (Q (Value.slice none 0 0) w)
  (nw w [] 3 fun b1 w2 =>
    app w2 1 8 [Value.int .i64 0] 3 (some ⟨b1, 0, none⟩) 0 0 (Value.slice x0A x0n x0c) fun A3 n4 c5 w6 =>
    Q (Value.slice A3 n4 c5) w6)
def F38.an : Ann := ⟨[], []⟩
theorem F38.eq (x0A : Option Addr) (x0n x0c : Nat) (w : World) (Q : Value → World → Prop) : vcFn Try.prog F38.an 38 [Value.slice x0A x0n x0c] w Q = F38.vc x0A x0n x0c w Q := by kernel_rfl
theorem F38.of (x0A : Option Addr) (x0n x0c : Nat) (w : World) {Q : Value → World → Prop} (h : F38.vc x0A x0n x0c w Q) : Calls Try.prog 38 #[Value.slice x0A x0n x0c] w (fun e w' => ∃ v, e = .returned v ∧ Q v w') := vcFn_sound noCount mixed ((F38.eq x0A x0n x0c w Q).symm ▸ h)
/-! ### function 39: slices.DeleteFunc[[]stillage/api.TagEntry,stillage/api.TagEntry] -/
def F39s.k12c (Q : Value → World → Prop) (x0 : (Option Addr × Nat × Nat)) (x5 : Int) (w : World) : Prop :=
  gd (decide (0 ≤ x5)) <|
  gd (decide (x5 ≤ ((x0.2.2 : Nat) : Int))) <|
  Q (Value.slice (slA x0.1 x0.2.2 0 38) (x5).toNat x0.2.2) w
def F39s.k12 (Q : Value → World → Prop) : ((Option Addr × Nat × Nat) × Int × Unit) → World → Prop := fun s w => ∀ _ : Nat → Value, F39s.k12c Q s.1 s.2.1 w
def F39s.b5c (Q : Value → World → Prop) (C5 : ((Option Addr × Nat × Nat) × Unit × Int × Int × Unit) → World → Prop) (x0 : (Option Addr × Nat × Nat)) (x1 : Unit) (x5 : Int) (x6 : Int) (w : World) : Prop :=
  vIf (decide (x6 < ((x0.2.1 : Nat) : Int)))
  (dr x0.1 fun b4 o5 =>
    gd (decide (0 ≤ x6)) <|
    gd (decide (x6 < ((x0.2.1 : Nat) : Int))) <|
    ldA 38 w b4 (o5 + (x6).toNat * 38) fun a6 =>
    nw w Z34 34 fun b7 w8 =>
    gd (a6.length == 38) <|
    st w8 b7 0 a6 fun w9 =>
    ldA 38 w9 b7 0 fun a10 =>
    Calls Try.prog 40 #[ofL a10] w9 fun e12 w11 =>
    ∃ t13 : Bool, e12 = .returned (Value.bool t13) ∧ (
      vIf (!t13)
      (ldA 38 w11 b7 0 fun a14 =>
        dr x0.1 fun b15 o16 =>
        gd (decide (0 ≤ x5)) <|
        gd (decide (x5 < ((x0.2.1 : Nat) : Int))) <|
        gd (a14.length == 38) <|
        st w11 b15 (o16 + (x5).toNat * 38) a14 fun w17 =>
        jnC C5 ((x0.1, x0.2.1, x0.2.2), (), ((IntKind.wrap .i64 (x5 + 1))), ((IntKind.wrap .i64 (x6 + 1))), ()) w17)
      (jnC C5 ((x0.1, x0.2.1, x0.2.2), (), (x5), ((IntKind.wrap .i64 (x6 + 1))), ()) w11)))
  (gd (decide (0 ≤ x5)) <|
    gd (decide (x5 ≤ ((x0.2.1 : Nat) : Int))) <|
    vIf ((x0.2.1 - (x5).toNat) == 0)
    (jnC (F39s.k12 Q) ((x0.1, x0.2.1, x0.2.2), (x5), ()) w)
    (dr (slA x0.1 x0.2.2 (x5).toNat 38) fun b19 o20 =>
      st w b19 o20 (zeros (x0.2.1 - (x5).toNat) Z34) fun w18 =>
      jnC (F39s.k12 Q) ((x0.1, x0.2.1, x0.2.2), (x5), ()) w18))
def F39s.b5 (Q : Value → World → Prop) : ((Option Addr × Nat × Nat) × Unit × Int × Int × Unit) → World → (((Option Addr × Nat × Nat) × Unit × Int × Int × Unit) → World → Prop) → Prop := fun s w C5 => ∀ _ : Nat → Value, F39s.b5c Q C5 s.1 s.2.1 s.2.2.1 s.2.2.2.1 w
def F39s.l5 (Q : Value → World → Prop) : ((Option Addr × Nat × Nat) × Unit × Int × Int × Unit) → World → Prop := fun s w => ∃ n, loopC (F39s.b5 Q) n s w
def F39s.vc (x0A : Option Addr) (x0n x0c : Nat) (w : World) (Q : Value → World → Prop) : Prop :=
  Calls Try.prog 51 #[Value.slice x0A x0n x0c, Value.func (.func 40) #[] #[]] w fun e2 w1 =>
  ∃ i3 : Int, e2 = .returned (Value.int .i64 i3) ∧ (
    vIf (i3 == (-1))
    (Q (Value.slice x0A x0n x0c) w1)
    (jnC (F39s.l5 Q) ((x0A, x0n, x0c), (), (i3), ((IntKind.wrap .i64 (i3 + 1))), ()) w1))
def F39s.an : Ann := ⟨[(5, [(0, .kSl), (1, .kF 40), (5, .kI .i64), (6, .kI .i64)])], [(12, [(0, .kSl), (5, .kI .i64)])]⟩
theorem F39s.eq (x0A : Option Addr) (x0n x0c : Nat) (w : World) (Q : Value → World → Prop) : vcFn Try.prog F39s.an 39 [Value.slice x0A x0n x0c, Value.func (.func 40) #[] #[]] w Q = F39s.vc x0A x0n x0c w Q := by kernel_rfl
theorem F39s.of (x0A : Option Addr) (x0n x0c : Nat) (w : World) {Q : Value → World → Prop} (h : F39s.vc x0A x0n x0c w Q) : Calls Try.prog 39 #[Value.slice x0A x0n x0c, Value.func (.func 40) #[] #[]] w (fun e w' => ∃ v, e = .returned v ∧ Q v w') := vcFn_sound noCount mixed ((F39s.eq x0A x0n x0c w Q).symm ▸ h)
/-! ### function 40: (*stillage/tags.Tags).there$1 -/
def F40.vc (x0 : List Value) (w : World) (Q : Value → World → Prop) : Prop :=
  nw w x0 34 fun b1 w2 =>
  ldB w2 b1 (0 + 33) fun t3 =>
  Q (Value.bool t3) w2
def F40.an : Ann := ⟨[], []⟩
theorem F40.eq (x0 : List Value) (w : World) (Q : Value → World → Prop) : vcFn Try.prog F40.an 40 [ofL x0] w Q = F40.vc x0 w Q := by kernel_rfl
theorem F40.of (x0 : List Value) (w : World) {Q : Value → World → Prop} (h : F40.vc x0 w Q) : Calls Try.prog 40 #[ofL x0] w (fun e w' => ∃ v, e = .returned v ∧ Q v w') := vcFn_sound noCount mixed ((F40.eq x0 w Q).symm ▸ h)
/-! ### function 41: slices.BinarySearchFunc[[]stillage/api.TagEntry,stillage/api.TagEntry,string] -/
def F41s.b3c (Q : Value → World → Prop) (C3 : ((Option Addr × Nat × Nat) × ByteArray × Unit × Int × Int × Int × Unit) → World → Prop) (x0 : (Option Addr × Nat × Nat)) (x1 : ByteArray) (x2 : Unit) (x8 : Int) (x9 : Int) (x10 : Int) (w : World) : Prop :=
  vIf (decide (x9 < x10))
  (dr x0.1 fun b1 o2 =>
    gd (decide (0 ≤ (IntKind.wrap .i64 (Int.fdiv (IntKind.wrap .u64 (IntKind.wrap .i64 (x9 + x10))) (2 ^ 1))))) <|
    gd (decide ((IntKind.wrap .i64 (Int.fdiv (IntKind.wrap .u64 (IntKind.wrap .i64 (x9 + x10))) (2 ^ 1))) < ((x0.2.1 : Nat) : Int))) <|
    ldA 38 w b1 (o2 + ((IntKind.wrap .i64 (Int.fdiv (IntKind.wrap .u64 (IntKind.wrap .i64 (x9 + x10))) (2 ^ 1)))).toNat * 38) fun a3 =>
    Calls Try.prog 42 #[ofL a3, Value.string x1] w fun e5 w4 =>
    ∃ i6 : Int, e5 = .returned (Value.int .i64 i6) ∧ (
      vIf (decide (i6 < 0))
      (jnC C3 ((x0.1, x0.2.1, x0.2.2), x1, (), (x8), ((IntKind.wrap .i64 ((IntKind.wrap .i64 (Int.fdiv (IntKind.wrap .u64 (IntKind.wrap .i64 (x9 + x10))) (2 ^ 1))) + 1))), (x10), ()) w4)
      (jnC C3 ((x0.1, x0.2.1, x0.2.2), x1, (), (x8), (x9), ((IntKind.wrap .i64 (Int.fdiv (IntKind.wrap .u64 (IntKind.wrap .i64 (x9 + x10))) (2 ^ 1)))), ()) w4)))
  (vIf (decide (x9 < x8))
    (dr x0.1 fun b7 o8 =>
      gd (decide (0 ≤ x9)) <|
      gd (decide (x9 < ((x0.2.1 : Nat) : Int))) <|
      ldA 38 w b7 (o8 + (x9).toNat * 38) fun a9 =>
      Calls Try.prog 42 #[ofL a9, Value.string x1] w fun e11 w10 =>
      ∃ i12 : Int, e11 = .returned (Value.int .i64 i12) ∧ (
        Q (Value.tuple #[Value.int .i64 x9, Value.bool (i12 == 0)]) w10))
    (Q (Value.tuple #[Value.int .i64 x9, Value.bool false]) w))
def F41s.b3 (Q : Value → World → Prop) : ((Option Addr × Nat × Nat) × ByteArray × Unit × Int × Int × Int × Unit) → World → (((Option Addr × Nat × Nat) × ByteArray × Unit × Int × Int × Int × Unit) → World → Prop) → Prop := fun s w C3 => ∀ _ : Nat → Value, F41s.b3c Q C3 s.1 s.2.1 s.2.2.1 s.2.2.2.1 s.2.2.2.2.1 s.2.2.2.2.2.1 w
def F41s.l3 (Q : Value → World → Prop) : ((Option Addr × Nat × Nat) × ByteArray × Unit × Int × Int × Int × Unit) → World → Prop := fun s w => ∃ n, loopC (F41s.b3 Q) n s w
def F41s.vc (x0A : Option Addr) (x0n x0c : Nat) (x1 : ByteArray) (w : World) (Q : Value → World → Prop) : Prop :=
  jnC (F41s.l3 Q) ((x0A, x0n, x0c), x1, (), (((x0n : Nat) : Int)), (0), (((x0n : Nat) : Int)), ()) w
def F41s.an : Ann := ⟨[(3, [(0, .kSl), (1, .kS), (2, .kF 42), (8, .kI .i64), (9, .kI .i64), (10, .kI .i64)])], []⟩
theorem F41s.eq (x0A : Option Addr) (x0n x0c : Nat) (x1 : ByteArray) (w : World) (Q : Value → World → Prop) : vcFn Try.prog F41s.an 41 [Value.slice x0A x0n x0c, Value.string x1, Value.func (.func 42) #[] #[]] w Q = F41s.vc x0A x0n x0c x1 w Q := by kernel_rfl
theorem F41s.of (x0A : Option Addr) (x0n x0c : Nat) (x1 : ByteArray) (w : World) {Q : Value → World → Prop} (h : F41s.vc x0A x0n x0c x1 w Q) : Calls Try.prog 41 #[Value.slice x0A x0n x0c, Value.string x1, Value.func (.func 42) #[] #[]] w (fun e w' => ∃ v, e = .returned v ∧ Q v w') := vcFn_sound noCount mixed ((F41s.eq x0A x0n x0c x1 w Q).symm ▸ h)
/-! ### function 42: (*stillage/tags.Tags).place$1 -/
def F42.vc (x0 : List Value) (x1 : ByteArray) (w : World) (Q : Value → World → Prop) : Prop :=
  nw w x0 34 fun b1 w2 =>
  ldS w2 b1 0 fun s3 =>
  Calls Try.prog 43 #[Value.string s3, Value.string x1] w2 fun e5 w4 =>
  ∃ i6 : Int, e5 = .returned (Value.int .i64 i6) ∧ (
    Q (Value.int .i64 i6) w4)
def F42.an : Ann := ⟨[], []⟩
theorem F42.eq (x0 : List Value) (x1 : ByteArray) (w : World) (Q : Value → World → Prop) : vcFn Try.prog F42.an 42 [ofL x0, Value.string x1] w Q = F42.vc x0 x1 w Q := by kernel_rfl
theorem F42.of (x0 : List Value) (x1 : ByteArray) (w : World) {Q : Value → World → Prop} (h : F42.vc x0 x1 w Q) : Calls Try.prog 42 #[ofL x0, Value.string x1] w (fun e w' => ∃ v, e = .returned v ∧ Q v w') := vcFn_sound noCount mixed ((F42.eq x0 x1 w Q).symm ▸ h)
/-! ### function 43: strings.Compare -/
def F43.vc (x0 : ByteArray) (x1 : ByteArray) (w : World) (Q : Value → World → Prop) : Prop :=
  Calls Try.prog 52 #[Value.string x0, Value.string x1] w fun e2 w1 =>
  ∃ i3 : Int, e2 = .returned (Value.int .i64 i3) ∧ (
    Q (Value.int .i64 i3) w1)
def F43.an : Ann := ⟨[], []⟩
theorem F43.eq (x0 : ByteArray) (x1 : ByteArray) (w : World) (Q : Value → World → Prop) : vcFn Try.prog F43.an 43 [Value.string x0, Value.string x1] w Q = F43.vc x0 x1 w Q := by kernel_rfl
theorem F43.of (x0 : ByteArray) (x1 : ByteArray) (w : World) {Q : Value → World → Prop} (h : F43.vc x0 x1 w Q) : Calls Try.prog 43 #[Value.string x0, Value.string x1] w (fun e w' => ∃ v, e = .returned v ∧ Q v w') := vcFn_sound noCount mixed ((F43.eq x0 x1 w Q).symm ▸ h)
/-! ### function 44: stillage/entry.row -/
def F44.vc (x0A : Option Addr) (x0n x0c : Nat) (w : World) (Q : Value → World → Prop) : Prop :=
  Calls Try.prog 53 #[Value.slice x0A x0n x0c] w fun e2 w1 =>
  ∃ (A3 : Option Addr) (n4 c5 : Nat), e2 = .returned (Value.slice A3 n4 c5) ∧ (
    Calls Try.prog 54 #[Value.slice A3 n4 c5] w1 fun e7 w6 =>
    e7 = .returned (Value.tuple #[]) ∧ (
      Calls Try.prog 55 #[Value.slice A3 n4 c5] w6 fun e9 w8 =>
      ∃ (A10 : Option Addr) (n11 c12 : Nat), e9 = .returned (Value.slice A10 n11 c12) ∧ (
        Q (Value.slice A10 n11 c12) w8)))
def F44.an : Ann := ⟨[], []⟩
theorem F44.eq (x0A : Option Addr) (x0n x0c : Nat) (w : World) (Q : Value → World → Prop) : vcFn Try.prog F44.an 44 [Value.slice x0A x0n x0c] w Q = F44.vc x0A x0n x0c w Q := by kernel_rfl
theorem F44.of (x0A : Option Addr) (x0n x0c : Nat) (w : World) {Q : Value → World → Prop} (h : F44.vc x0A x0n x0c w Q) : Calls Try.prog 44 #[Value.slice x0A x0n x0c] w (fun e w' => ∃ v, e = .returned v ∧ Q v w') := vcFn_sound noCount mixed ((F44.eq x0A x0n x0c w Q).symm ▸ h)
/-! ### function 45: stillage/stillageref19.Add -/
def F45.k10c (Q : Value → World → Prop) (C4 : ((Option Addr × Nat × Nat) × Int × (Option Addr × Nat × Nat) × Bool × Int × Unit) → World → Prop) (x0 : (Option Addr × Nat × Nat)) (x1 : Int) (x5 : (Option Addr × Nat × Nat)) (x6 : Bool) (x7 : Int) (w : World) : Prop :=
  dr x0.1 fun b13 o14 =>
  gd (decide (0 ≤ x7)) <|
  gd (decide (x7 < ((x0.2.1 : Nat) : Int))) <|
  ldI .i64 w b13 (o14 + (x7).toNat * 1) fun i15 =>
  nw w ([Value.int .i64 i15] ++ []) 3 fun b16 w17 =>
  app w17 1 8 [Value.int .i64 0] 3 x5.1 x5.2.1 x5.2.2 (Value.slice (some ⟨b16, 0, none⟩) 1 1) fun A18 n19 c20 w21 =>
  jnC C4 ((x0.1, x0.2.1, x0.2.2), (x1), (A18, n19, c20), x6, ((IntKind.wrap .i64 (x7 + 1))), ()) w21
def F45.k10 (Q : Value → World → Prop) (C4 : ((Option Addr × Nat × Nat) × Int × (Option Addr × Nat × Nat) × Bool × Int × Unit) → World → Prop) : ((Option Addr × Nat × Nat) × Int × (Option Addr × Nat × Nat) × Bool × Int × Unit) → World → Prop := fun s w => ∀ _ : Nat → Value, F45.k10c Q C4 s.1 s.2.1 s.2.2.1 s.2.2.2.1 s.2.2.2.2.1 w
def F45.k7c (Q : Value → World → Prop) (C4 : ((Option Addr × Nat × Nat) × Int × (Option Addr × Nat × Nat) × Bool × Int × Unit) → World → Prop) (x0 : (Option Addr × Nat × Nat)) (x1 : Int) (x5 : (Option Addr × Nat × Nat)) (x6 : Bool) (x7 : Int) (x23 : Bool) (w : World) : Prop :=
  vIf x23
  (dr x0.1 fun b4 o5 =>
    gd (decide (0 ≤ x7)) <|
    gd (decide (x7 < ((x0.2.1 : Nat) : Int))) <|
    ldI .i64 w b4 (o5 + (x7).toNat * 1) fun i6 =>
    vIf (decide (x1 < i6))
    (nw w ([Value.int .i64 x1] ++ []) 3 fun b7 w8 =>
      app w8 1 8 [Value.int .i64 0] 3 x5.1 x5.2.1 x5.2.2 (Value.slice (some ⟨b7, 0, none⟩) 1 1) fun A9 n10 c11 w12 =>
      jnC (F45.k10 Q C4) ((x0.1, x0.2.1, x0.2.2), (x1), (A9, n10, c11), true, (x7), ()) w12)
    (jnC (F45.k10 Q C4) ((x0.1, x0.2.1, x0.2.2), (x1), (x5.1, x5.2.1, x5.2.2), true, (x7), ()) w))
  (jnC (F45.k10 Q C4) ((x0.1, x0.2.1, x0.2.2), (x1), (x5.1, x5.2.1, x5.2.2), x6, (x7), ()) w)
def F45.k7 (Q : Value → World → Prop) (C4 : ((Option Addr × Nat × Nat) × Int × (Option Addr × Nat × Nat) × Bool × Int × Unit) → World → Prop) : ((Option Addr × Nat × Nat) × Int × (Option Addr × Nat × Nat) × Bool × Int × Bool × Unit) → World → Prop := fun s w => ∀ _ : Nat → Value, F45.k7c Q C4 s.1 s.2.1 s.2.2.1 s.2.2.2.1 s.2.2.2.2.1 s.2.2.2.2.2.1 w
def F45.b4c (Q : Value → World → Prop) (C4 : ((Option Addr × Nat × Nat) × Int × (Option Addr × Nat × Nat) × Bool × Int × Unit) → World → Prop) (x0 : (Option Addr × Nat × Nat)) (x1 : Int) (x5 : (Option Addr × Nat × Nat)) (x6 : Bool) (x7 : Int) (w : World) : Prop :=
  vIf (decide (x7 < ((x0.2.1 : Nat) : Int)))
  (vIf (!x6)
    (dr x0.1 fun b1 o2 =>
      gd (decide (0 ≤ x7)) <|
      gd (decide (x7 < ((x0.2.1 : Nat) : Int))) <|
      ldI .i64 w b1 (o2 + (x7).toNat * 1) fun i3 =>
      jnC (F45.k7 Q C4) ((x0.1, x0.2.1, x0.2.2), (x1), (x5.1, x5.2.1, x5.2.2), x6, (x7), (decide (x1 ≤ i3)), ()) w)
    (jnC (F45.k7 Q C4) ((x0.1, x0.2.1, x0.2.2), (x1), (x5.1, x5.2.1, x5.2.2), x6, (x7), false, ()) w))
  (vIf (!x6)
    (nw w ([Value.int .i64 x1] ++ []) 3 fun b22 w23 =>
      app w23 1 8 [Value.int .i64 0] 3 x5.1 x5.2.1 x5.2.2 (Value.slice (some ⟨b22, 0, none⟩) 1 1) fun A24 n25 c26 w27 =>
      Q (Value.slice A24 n25 c26) w27)
    (Q (Value.slice x5.1 x5.2.1 x5.2.2) w))
def F45.b4 (Q : Value → World → Prop) : ((Option Addr × Nat × Nat) × Int × (Option Addr × Nat × Nat) × Bool × Int × Unit) → World → (((Option Addr × Nat × Nat) × Int × (Option Addr × Nat × Nat) × Bool × Int × Unit) → World → Prop) → Prop := fun s w C4 => ∀ _ : Nat → Value, F45.b4c Q C4 s.1 s.2.1 s.2.2.1 s.2.2.2.1 s.2.2.2.2.1 w
def F45.l4 (Q : Value → World → Prop) : ((Option Addr × Nat × Nat) × Int × (Option Addr × Nat × Nat) × Bool × Int × Unit) → World → Prop := fun s w => ∃ n, loopC (F45.b4 Q) n s w
def F45.vc (x0A : Option Addr) (x0n x0c : Nat) (x1 : Int) (w : World) (Q : Value → World → Prop) : Prop :=
  jnC (F45.l4 Q) ((x0A, x0n, x0c), (x1), (none, 0, 0), false, (0), ()) w
def F45.an : Ann := ⟨[(4, [(0, .kSl), (1, .kI .i64), (5, .kSl), (6, .kB), (7, .kI .i64)])], [(7, [(0, .kSl), (1, .kI .i64), (5, .kSl), (6, .kB), (7, .kI .i64), (23, .kB)]), (10, [(0, .kSl), (1, .kI .i64), (5, .kSl), (6, .kB), (7, .kI .i64)])]⟩
theorem F45.eq (x0A : Option Addr) (x0n x0c : Nat) (x1 : Int) (w : World) (Q : Value → World → Prop) : vcFn Try.prog F45.an 45 [Value.slice x0A x0n x0c, Value.int .i64 x1] w Q = F45.vc x0A x0n x0c x1 w Q := by kernel_rfl
theorem F45.of (x0A : Option Addr) (x0n x0c : Nat) (x1 : Int) (w : World) {Q : Value → World → Prop} (h : F45.vc x0A x0n x0c x1 w Q) : Calls Try.prog 45 #[Value.slice x0A x0n x0c, Value.int .i64 x1] w (fun e w' => ∃ v, e = .returned v ∧ Q v w') := vcFn_sound noCount mixed ((F45.eq x0A x0n x0c x1 w Q).symm ▸ h)
/-! ### function 46: stillage/stillageref19.Row -/
def F46.b3c (Q : Value → World → Prop) (C3 : ((Option Addr × Nat × Nat) × (Option Addr × Nat × Nat) × Int × Unit) → World → Prop) (x0 : (Option Addr × Nat × Nat)) (x3 : (Option Addr × Nat × Nat)) (x4 : Int) (w : World) : Prop :=
  vIf (decide (x4 < ((x0.2.1 : Nat) : Int)))
  (dr x0.1 fun b1 o2 =>
    gd (decide (0 ≤ x4)) <|
    gd (decide (x4 < ((x0.2.1 : Nat) : Int))) <|
    ldI .i64 w b1 (o2 + (x4).toNat * 1) fun i3 =>
    Calls Try.prog 45 #[Value.slice x3.1 x3.2.1 x3.2.2, Value.int .i64 i3] w fun e5 w4 =>
    ∃ (A6 : Option Addr) (n7 c8 : Nat), e5 = .returned (Value.slice A6 n7 c8) ∧ (
      jnC C3 ((x0.1, x0.2.1, x0.2.2), (A6, n7, c8), ((IntKind.wrap .i64 (x4 + 1))), ()) w4))
  (Q (Value.slice x3.1 x3.2.1 x3.2.2) w)
def F46.b3 (Q : Value → World → Prop) : ((Option Addr × Nat × Nat) × (Option Addr × Nat × Nat) × Int × Unit) → World → (((Option Addr × Nat × Nat) × (Option Addr × Nat × Nat) × Int × Unit) → World → Prop) → Prop := fun s w C3 => ∀ _ : Nat → Value, F46.b3c Q C3 s.1 s.2.1 s.2.2.1 w
def F46.l3 (Q : Value → World → Prop) : ((Option Addr × Nat × Nat) × (Option Addr × Nat × Nat) × Int × Unit) → World → Prop := fun s w => ∃ n, loopC (F46.b3 Q) n s w
def F46.vc (x0A : Option Addr) (x0n x0c : Nat) (w : World) (Q : Value → World → Prop) : Prop :=
  jnC (F46.l3 Q) ((x0A, x0n, x0c), (none, 0, 0), (0), ()) w
def F46.an : Ann := ⟨[(3, [(0, .kSl), (3, .kSl), (4, .kI .i64)])], []⟩
theorem F46.eq (x0A : Option Addr) (x0n x0c : Nat) (w : World) (Q : Value → World → Prop) : vcFn Try.prog F46.an 46 [Value.slice x0A x0n x0c] w Q = F46.vc x0A x0n x0c w Q := by kernel_rfl
theorem F46.of (x0A : Option Addr) (x0n x0c : Nat) (w : World) {Q : Value → World → Prop} (h : F46.vc x0A x0n x0c w Q) : Calls Try.prog 46 #[Value.slice x0A x0n x0c] w (fun e w' => ∃ v, e = .returned v ∧ Q v w') := vcFn_sound noCount mixed ((F46.eq x0A x0n x0c w Q).symm ▸ h)
/-! ### function 47: stillage/entry.left -/
def F47.vc (x0A : Option Addr) (x0n x0c : Nat) (x1A : Option Addr) (x1n x1c : Nat) (w : World) (Q : Value → World → Prop) : Prop :=
  nw w [Value.slice x1A x1n x1c] 32 fun b1 w2 =>
  nw w2 ([Value.slice x0A x0n x0c] ++ []) 32 fun b3 w4 =>
  Calls Try.prog 44 #[Value.slice (some ⟨b3, 0, none⟩) 1 1] w4 fun e6 w5 =>
  ∃ (A7 : Option Addr) (n8 c9 : Nat), e6 = .returned (Value.slice A7 n8 c9) ∧ (
    Calls Try.prog 56 #[Value.slice A7 n8 c9, Value.func (.func 57) #[] #[Value.pointer (some ⟨b1, 0, none⟩)]] w5 fun e11 w10 =>
    ∃ (A12 : Option Addr) (n13 c14 : Nat), e11 = .returned (Value.slice A12 n13 c14) ∧ (
      Q (Value.slice A12 n13 c14) w10))
def F47.an : Ann := ⟨[], []⟩
theorem F47.eq (x0A : Option Addr) (x0n x0c : Nat) (x1A : Option Addr) (x1n x1c : Nat) (w : World) (Q : Value → World → Prop) : vcFn Try.prog F47.an 47 [Value.slice x0A x0n x0c, Value.slice x1A x1n x1c] w Q = F47.vc x0A x0n x0c x1A x1n x1c w Q := by kernel_rfl
theorem F47.of (x0A : Option Addr) (x0n x0c : Nat) (x1A : Option Addr) (x1n x1c : Nat) (w : World) {Q : Value → World → Prop} (h : F47.vc x0A x0n x0c x1A x1n x1c w Q) : Calls Try.prog 47 #[Value.slice x0A x0n x0c, Value.slice x1A x1n x1c] w (fun e w' => ∃ v, e = .returned v ∧ Q v w') := vcFn_sound noCount mixed ((F47.eq x0A x0n x0c x1A x1n x1c w Q).symm ▸ h)
/-! ### function 48: slices.Contains[[]int,int] -/
def F48.vc (x0A : Option Addr) (x0n x0c : Nat) (x1 : Int) (w : World) (Q : Value → World → Prop) : Prop :=
  Calls Try.prog 58 #[Value.slice x0A x0n x0c, Value.int .i64 x1] w fun e2 w1 =>
  ∃ i3 : Int, e2 = .returned (Value.int .i64 i3) ∧ (
    Q (Value.bool (decide (i3 ≥ 0))) w1)
def F48.an : Ann := ⟨[], []⟩
theorem F48.eq (x0A : Option Addr) (x0n x0c : Nat) (x1 : Int) (w : World) (Q : Value → World → Prop) : vcFn Try.prog F48.an 48 [Value.slice x0A x0n x0c, Value.int .i64 x1] w Q = F48.vc x0A x0n x0c x1 w Q := by kernel_rfl
theorem F48.of (x0A : Option Addr) (x0n x0c : Nat) (x1 : Int) (w : World) {Q : Value → World → Prop} (h : F48.vc x0A x0n x0c x1 w Q) : Calls Try.prog 48 #[Value.slice x0A x0n x0c, Value.int .i64 x1] w (fun e w' => ∃ v, e = .returned v ∧ Q v w') := vcFn_sound noCount mixed ((F48.eq x0A x0n x0c x1 w Q).symm ▸ h)
/-! ### function 49: stillage/stillageref19.both -/
def F49.b3c (Q : Value → World → Prop) (C3 : ((Option Addr × Nat × Nat) × (Option Addr × Nat × Nat) × (Option Addr × Nat × Nat) × Int × Unit) → World → Prop) (x0 : (Option Addr × Nat × Nat)) (x1 : (Option Addr × Nat × Nat)) (x5 : (Option Addr × Nat × Nat)) (x6 : Int) (w : World) : Prop :=
  vIf (decide (x6 < ((x0.2.1 : Nat) : Int)))
  (dr x0.1 fun b1 o2 =>
    gd (decide (0 ≤ x6)) <|
    gd (decide (x6 < ((x0.2.1 : Nat) : Int))) <|
    ldI .i64 w b1 (o2 + (x6).toNat * 1) fun i3 =>
    Calls Try.prog 50 #[Value.slice x1.1 x1.2.1 x1.2.2, Value.int .i64 i3] w fun e5 w4 =>
    ∃ t6 : Bool, e5 = .returned (Value.bool t6) ∧ (
      vIf t6
      (dr x0.1 fun b7 o8 =>
        gd (decide (0 ≤ x6)) <|
        gd (decide (x6 < ((x0.2.1 : Nat) : Int))) <|
        ldI .i64 w4 b7 (o8 + (x6).toNat * 1) fun i9 =>
        Calls Try.prog 45 #[Value.slice x5.1 x5.2.1 x5.2.2, Value.int .i64 i9] w4 fun e11 w10 =>
        ∃ (A12 : Option Addr) (n13 c14 : Nat), e11 = .returned (Value.slice A12 n13 c14) ∧ (
          jnC C3 ((x0.1, x0.2.1, x0.2.2), (x1.1, x1.2.1, x1.2.2), (A12, n13, c14), ((IntKind.wrap .i64 (x6 + 1))), ()) w10))
      (jnC C3 ((x0.1, x0.2.1, x0.2.2), (x1.1, x1.2.1, x1.2.2), (x5.1, x5.2.1, x5.2.2), ((IntKind.wrap .i64 (x6 + 1))), ()) w4)))
  (Q (Value.slice x5.1 x5.2.1 x5.2.2) w)
def F49.b3 (Q : Value → World → Prop) : ((Option Addr × Nat × Nat) × (Option Addr × Nat × Nat) × (Option Addr × Nat × Nat) × Int × Unit) → World → (((Option Addr × Nat × Nat) × (Option Addr × Nat × Nat) × (Option Addr × Nat × Nat) × Int × Unit) → World → Prop) → Prop := fun s w C3 => ∀ _ : Nat → Value, F49.b3c Q C3 s.1 s.2.1 s.2.2.1 s.2.2.2.1 w
def F49.l3 (Q : Value → World → Prop) : ((Option Addr × Nat × Nat) × (Option Addr × Nat × Nat) × (Option Addr × Nat × Nat) × Int × Unit) → World → Prop := fun s w => ∃ n, loopC (F49.b3 Q) n s w
def F49.vc (x0A : Option Addr) (x0n x0c : Nat) (x1A : Option Addr) (x1n x1c : Nat) (w : World) (Q : Value → World → Prop) : Prop :=
  jnC (F49.l3 Q) ((x0A, x0n, x0c), (x1A, x1n, x1c), (none, 0, 0), (0), ()) w
def F49.an : Ann := ⟨[(3, [(0, .kSl), (1, .kSl), (5, .kSl), (6, .kI .i64)])], []⟩
theorem F49.eq (x0A : Option Addr) (x0n x0c : Nat) (x1A : Option Addr) (x1n x1c : Nat) (w : World) (Q : Value → World → Prop) : vcFn Try.prog F49.an 49 [Value.slice x0A x0n x0c, Value.slice x1A x1n x1c] w Q = F49.vc x0A x0n x0c x1A x1n x1c w Q := by kernel_rfl
theorem F49.of (x0A : Option Addr) (x0n x0c : Nat) (x1A : Option Addr) (x1n x1c : Nat) (w : World) {Q : Value → World → Prop} (h : F49.vc x0A x0n x0c x1A x1n x1c w Q) : Calls Try.prog 49 #[Value.slice x0A x0n x0c, Value.slice x1A x1n x1c] w (fun e w' => ∃ v, e = .returned v ∧ Q v w') := vcFn_sound noCount mixed ((F49.eq x0A x0n x0c x1A x1n x1c w Q).symm ▸ h)
/-! ### function 50: stillage/stillageref19.in -/
def F50.b2c (Q : Value → World → Prop) (C2 : ((Option Addr × Nat × Nat) × Int × Int × Unit) → World → Prop) (x0 : (Option Addr × Nat × Nat)) (x1 : Int) (x5 : Int) (w : World) : Prop :=
  vIf (decide (x5 < ((x0.2.1 : Nat) : Int)))
  (dr x0.1 fun b1 o2 =>
    gd (decide (0 ≤ x5)) <|
    gd (decide (x5 < ((x0.2.1 : Nat) : Int))) <|
    ldI .i64 w b1 (o2 + (x5).toNat * 1) fun i3 =>
    vIf (i3 == x1)
    (Q (Value.bool true) w)
    (jnC C2 ((x0.1, x0.2.1, x0.2.2), (x1), ((IntKind.wrap .i64 (x5 + 1))), ()) w))
  (Q (Value.bool false) w)
def F50.b2 (Q : Value → World → Prop) : ((Option Addr × Nat × Nat) × Int × Int × Unit) → World → (((Option Addr × Nat × Nat) × Int × Int × Unit) → World → Prop) → Prop := fun s w C2 => ∀ _ : Nat → Value, F50.b2c Q C2 s.1 s.2.1 s.2.2.1 w
def F50.l2 (Q : Value → World → Prop) : ((Option Addr × Nat × Nat) × Int × Int × Unit) → World → Prop := fun s w => ∃ n, loopC (F50.b2 Q) n s w
def F50.vc (x0A : Option Addr) (x0n x0c : Nat) (x1 : Int) (w : World) (Q : Value → World → Prop) : Prop :=
  jnC (F50.l2 Q) ((x0A, x0n, x0c), (x1), (0), ()) w
def F50.an : Ann := ⟨[(2, [(0, .kSl), (1, .kI .i64), (5, .kI .i64)])], []⟩
theorem F50.eq (x0A : Option Addr) (x0n x0c : Nat) (x1 : Int) (w : World) (Q : Value → World → Prop) : vcFn Try.prog F50.an 50 [Value.slice x0A x0n x0c, Value.int .i64 x1] w Q = F50.vc x0A x0n x0c x1 w Q := by kernel_rfl
theorem F50.of (x0A : Option Addr) (x0n x0c : Nat) (x1 : Int) (w : World) {Q : Value → World → Prop} (h : F50.vc x0A x0n x0c x1 w Q) : Calls Try.prog 50 #[Value.slice x0A x0n x0c, Value.int .i64 x1] w (fun e w' => ∃ v, e = .returned v ∧ Q v w') := vcFn_sound noCount mixed ((F50.eq x0A x0n x0c x1 w Q).symm ▸ h)
/-! ### function 51: slices.IndexFunc[[]stillage/api.TagEntry,stillage/api.TagEntry] -/
def F51s.b2c (Q : Value → World → Prop) (C2 : ((Option Addr × Nat × Nat) × Unit × Int × Int × Unit) → World → Prop) (x0 : (Option Addr × Nat × Nat)) (x1 : Unit) (x7 : Int) (x8 : Int) (w : World) : Prop :=
  vIf (decide (x8 < x7))
  (dr x0.1 fun b1 o2 =>
    gd (decide (0 ≤ x8)) <|
    gd (decide (x8 < ((x0.2.1 : Nat) : Int))) <|
    ldA 38 w b1 (o2 + (x8).toNat * 38) fun a3 =>
    Calls Try.prog 40 #[ofL a3] w fun e5 w4 =>
    ∃ t6 : Bool, e5 = .returned (Value.bool t6) ∧ (
      vIf t6
      (Q (Value.int .i64 x8) w4)
      (jnC C2 ((x0.1, x0.2.1, x0.2.2), (), (x7), ((IntKind.wrap .i64 (x8 + 1))), ()) w4)))
  (Q (Value.int .i64 (-1)) w)
def F51s.b2 (Q : Value → World → Prop) : ((Option Addr × Nat × Nat) × Unit × Int × Int × Unit) → World → (((Option Addr × Nat × Nat) × Unit × Int × Int × Unit) → World → Prop) → Prop := fun s w C2 => ∀ _ : Nat → Value, F51s.b2c Q C2 s.1 s.2.1 s.2.2.1 s.2.2.2.1 w
def F51s.l2 (Q : Value → World → Prop) : ((Option Addr × Nat × Nat) × Unit × Int × Int × Unit) → World → Prop := fun s w => ∃ n, loopC (F51s.b2 Q) n s w
def F51s.vc (x0A : Option Addr) (x0n x0c : Nat) (w : World) (Q : Value → World → Prop) : Prop :=
  jnC (F51s.l2 Q) ((x0A, x0n, x0c), (), (((x0n : Nat) : Int)), (0), ()) w
def F51s.an : Ann := ⟨[(2, [(0, .kSl), (1, .kF 40), (7, .kI .i64), (8, .kI .i64)])], []⟩
theorem F51s.eq (x0A : Option Addr) (x0n x0c : Nat) (w : World) (Q : Value → World → Prop) : vcFn Try.prog F51s.an 51 [Value.slice x0A x0n x0c, Value.func (.func 40) #[] #[]] w Q = F51s.vc x0A x0n x0c w Q := by kernel_rfl
theorem F51s.of (x0A : Option Addr) (x0n x0c : Nat) (w : World) {Q : Value → World → Prop} (h : F51s.vc x0A x0n x0c w Q) : Calls Try.prog 51 #[Value.slice x0A x0n x0c, Value.func (.func 40) #[] #[]] w (fun e w' => ∃ v, e = .returned v ∧ Q v w') := vcFn_sound noCount mixed ((F51s.eq x0A x0n x0c w Q).symm ▸ h)
/-! ### function 52: internal/bytealg.CompareString -/
def F52.vc (x0 : ByteArray) (x1 : ByteArray) (w : World) (Q : Value → World → Prop) : Prop :=
  extC Try.prog 59 #[Value.string x0, Value.string x1] w fun v3 w1 =>
  ∃ i4 : Int, v3 = Value.int .i64 i4 ∧ (
    Q (Value.int .i64 i4) w1)
def F52.an : Ann := ⟨[], []⟩
theorem F52.eq (x0 : ByteArray) (x1 : ByteArray) (w : World) (Q : Value → World → Prop) : vcFn Try.prog F52.an 52 [Value.string x0, Value.string x1] w Q = F52.vc x0 x1 w Q := by kernel_rfl
theorem F52.of (x0 : ByteArray) (x1 : ByteArray) (w : World) {Q : Value → World → Prop} (h : F52.vc x0 x1 w Q) : Calls Try.prog 52 #[Value.string x0, Value.string x1] w (fun e w' => ∃ v, e = .returned v ∧ Q v w') := vcFn_sound noCount mixed ((F52.eq x0 x1 w Q).symm ▸ h)
/-! ### function 53: slices.Concat[[]int,int] -/
def F53.b11c (Q : Value → World → Prop) (C11 : ((Option Addr × Nat × Nat) × (Option Addr × Nat × Nat) × Int × Int × Unit) → World → Prop) (x6 : (Option Addr × Nat × Nat)) (x25 : (Option Addr × Nat × Nat)) (x26 : Int) (x27 : Int) (w : World) : Prop :=
  vIf (decide (x27 < x26))
  (dr x25.1 fun b11 o12 =>
    gd (decide (0 ≤ x27)) <|
    gd (decide (x27 < ((x25.2.1 : Nat) : Int))) <|
    ldSl w b11 (o12 + (x27).toNat * 1) fun A13 n14 c15 =>
    app w 1 8 [Value.int .i64 0] 3 x6.1 x6.2.1 x6.2.2 (Value.slice A13 n14 c15) fun A16 n17 c18 w19 =>
    jnC C11 ((A16, n17, c18), (x25.1, x25.2.1, x25.2.2), (x26), ((IntKind.wrap .i64 (x27 + 1))), ()) w19)
  (Q (Value.slice x6.1 x6.2.1 x6.2.2) w)
def F53.b11 (Q : Value → World → Prop) : ((Option Addr × Nat × Nat) × (Option Addr × Nat × Nat) × Int × Int × Unit) → World → (((Option Addr × Nat × Nat) × (Option Addr × Nat × Nat) × Int × Int × Unit) → World → Prop) → Prop := fun s w C11 => ∀ _ : Nat → Value, F53.b11c Q C11 s.1 s.2.1 s.2.2.1 s.2.2.2.1 w
def F53.l11 (Q : Value → World → Prop) : ((Option Addr × Nat × Nat) × (Option Addr × Nat × Nat) × Int × Int × Unit) → World → Prop := fun s w => ∃ n, loopC (F53.b11 Q) n s w
def F53.b3c (Q : Value → World → Prop) (C3 : ((Option Addr × Nat × Nat) × Int × (Option Addr × Nat × Nat) × Int × Int × Unit) → World → Prop) (x0 : (Option Addr × Nat × Nat)) (x3 : Int) (x9 : (Option Addr × Nat × Nat)) (x10 : Int) (x11 : Int) (w : World) : Prop :=
  vIf (decide (x11 < x10))
  (dr x9.1 fun b1 o2 =>
    gd (decide (0 ≤ x11)) <|
    gd (decide (x11 < ((x9.2.1 : Nat) : Int))) <|
    ldSl w b1 (o2 + (x11).toNat * 1) fun A3 n4 c5 =>
    vIf (decide ((IntKind.wrap .i64 (x3 + ((n4 : Nat) : Int))) < 0))
    (False)
    (jnC C3 ((x0.1, x0.2.1, x0.2.2), ((IntKind.wrap .i64 (x3 + ((n4 : Nat) : Int)))), (x9.1, x9.2.1, x9.2.2), (x10), ((IntKind.wrap .i64 (x11 + 1))), ()) w))
  (Calls Try.prog 60 #[Value.slice none 0 0, Value.int .i64 x3] w fun e7 w6 =>
    ∃ (A8 : Option Addr) (n9 c10 : Nat), e7 = .returned (Value.slice A8 n9 c10) ∧ (
      jnC (F53.l11 Q) ((A8, n9, c10), (x0.1, x0.2.1, x0.2.2), (((x0.2.1 : Nat) : Int)), (0), ()) w6))
def F53.b3 (Q : Value → World → Prop) : ((Option Addr × Nat × Nat) × Int × (Option Addr × Nat × Nat) × Int × Int × Unit) → World → (((Option Addr × Nat × Nat) × Int × (Option Addr × Nat × Nat) × Int × Int × Unit) → World → Prop) → Prop := fun s w C3 => ∀ _ : Nat → Value, F53.b3c Q C3 s.1 s.2.1 s.2.2.1 s.2.2.2.1 s.2.2.2.2.1 w
def F53.l3 (Q : Value → World → Prop) : ((Option Addr × Nat × Nat) × Int × (Option Addr × Nat × Nat) × Int × Int × Unit) → World → Prop := fun s w => ∃ n, loopC (F53.b3 Q) n s w
def F53.vc (x0A : Option Addr) (x0n x0c : Nat) (w : World) (Q : Value → World → Prop) : Prop :=
  jnC (F53.l3 Q) ((x0A, x0n, x0c), (0), (x0A, x0n, x0c), (((x0n : Nat) : Int)), (0), ()) w
def F53.an : Ann := ⟨[(3, [(0, .kSl), (3, .kI .i64), (9, .kSl), (10, .kI .i64), (11, .kI .i64)]), (11, [(6, .kSl), (25, .kSl), (26, .kI .i64), (27, .kI .i64)])], []⟩
theorem F53.eq (x0A : Option Addr) (x0n x0c : Nat) (w : World) (Q : Value → World → Prop) : vcFn Try.prog F53.an 53 [Value.slice x0A x0n x0c] w Q = F53.vc x0A x0n x0c w Q := by kernel_rfl
theorem F53.of (x0A : Option Addr) (x0n x0c : Nat) (w : World) {Q : Value → World → Prop} (h : F53.vc x0A x0n x0c w Q) : Calls Try.prog 53 #[Value.slice x0A x0n x0c] w (fun e w' => ∃ v, e = .returned v ∧ Q v w') := vcFn_sound noCount mixed ((F53.eq x0A x0n x0c w Q).symm ▸ h)
/-! ### function 55: slices.Compact[[]int,int] -/
def F55.k15c (Q : Value → World → Prop) (C4 : ((Option Addr × Nat × Nat) × Int × Unit) → World → Prop) (x0 : (Option Addr × Nat × Nat)) (x3 : Int) (w : World) : Prop :=
  gd (decide (0 ≤ x3)) <|
  gd (decide (x3 ≤ ((x0.2.2 : Nat) : Int))) <|
  Q (Value.slice (slA x0.1 x0.2.2 0 1) (x3).toNat x0.2.2) w
def F55.k15 (Q : Value → World → Prop) (C4 : ((Option Addr × Nat × Nat) × Int × Unit) → World → Prop) : ((Option Addr × Nat × Nat) × Int × Unit) → World → Prop := fun s w => ∀ _ : Nat → Value, F55.k15c Q C4 s.1 s.2.1 w
def F55.b9c (Q : Value → World → Prop) (C4 : ((Option Addr × Nat × Nat) × Int × Unit) → World → Prop) (C9 : ((Option Addr × Nat × Nat) × Int × (Option Addr × Nat × Nat) × Int × Unit) → World → Prop) (x0 : (Option Addr × Nat × Nat)) (x3 : Int) (x4 : (Option Addr × Nat × Nat)) (x5 : Int) (w : World) : Prop :=
  vIf (decide (x5 < ((x4.2.1 : Nat) : Int)))
  (dr x4.1 fun b7 o8 =>
    gd (decide (0 ≤ x5)) <|
    gd (decide (x5 < ((x4.2.1 : Nat) : Int))) <|
    ldI .i64 w.drew b7 (o8 + (x5).toNat * 1) fun i9 =>
    dr x4.1 fun b10 o11 =>
    gd (decide (0 ≤ (IntKind.wrap .i64 (x5 - 1)))) <|
    gd (decide ((IntKind.wrap .i64 (x5 - 1)) < ((x4.2.1 : Nat) : Int))) <|
    ldI .i64 w.drew b10 (o11 + ((IntKind.wrap .i64 (x5 - 1))).toNat * 1) fun i12 =>
    vIf (i9 != i12)
    (dr x4.1 fun b13 o14 =>
      gd (decide (0 ≤ x5)) <|
      gd (decide (x5 < ((x4.2.1 : Nat) : Int))) <|
      ldI .i64 w.drew b13 (o14 + (x5).toNat * 1) fun i15 =>
      dr x0.1 fun b16 o17 =>
      gd (decide (0 ≤ x3)) <|
      gd (decide (x3 < ((x0.2.1 : Nat) : Int))) <|
      st w.drew b16 (o17 + (x3).toNat * 1) [Value.int .i64 i15] fun w18 =>
      jnC C9 ((x0.1, x0.2.1, x0.2.2), ((IntKind.wrap .i64 (x3 + 1))), (x4.1, x4.2.1, x4.2.2), ((IntKind.wrap .i64 (x5 + 1))), ()) w18)
    (jnC C9 ((x0.1, x0.2.1, x0.2.2), (x3), (x4.1, x4.2.1, x4.2.2), ((IntKind.wrap .i64 (x5 + 1))), ()) w.drew))
  (gd (decide (0 ≤ x3)) <|
    gd (decide (x3 ≤ ((x0.2.1 : Nat) : Int))) <|
    vIf ((x0.2.1 - (x3).toNat) == 0)
    (jnC (F55.k15 Q C4) ((x0.1, x0.2.1, x0.2.2), (x3), ()) w)
    (dr (slA x0.1 x0.2.2 (x3).toNat 1) fun b20 o21 =>
      st w b20 o21 (zeros (x0.2.1 - (x3).toNat) [Value.int .i64 0]) fun w19 =>
      jnC (F55.k15 Q C4) ((x0.1, x0.2.1, x0.2.2), (x3), ()) w19))
def F55.b9 (Q : Value → World → Prop) (C4 : ((Option Addr × Nat × Nat) × Int × Unit) → World → Prop) : ((Option Addr × Nat × Nat) × Int × (Option Addr × Nat × Nat) × Int × Unit) → World → (((Option Addr × Nat × Nat) × Int × (Option Addr × Nat × Nat) × Int × Unit) → World → Prop) → Prop := fun s w C9 => ∀ _ : Nat → Value, F55.b9c Q C4 C9 s.1 s.2.1 s.2.2.1 s.2.2.2.1 w
def F55.l9 (Q : Value → World → Prop) (C4 : ((Option Addr × Nat × Nat) × Int × Unit) → World → Prop) : ((Option Addr × Nat × Nat) × Int × (Option Addr × Nat × Nat) × Int × Unit) → World → Prop := fun s w => ∃ n, loopC (F55.b9 Q C4) n s w
def F55.b4c (Q : Value → World → Prop) (C4 : ((Option Addr × Nat × Nat) × Int × Unit) → World → Prop) (x0 : (Option Addr × Nat × Nat)) (x3 : Int) (w : World) : Prop :=
  vIf (decide (x3 < ((x0.2.1 : Nat) : Int)))
  (dr x0.1 fun b1 o2 =>
    gd (decide (0 ≤ x3)) <|
    gd (decide (x3 < ((x0.2.1 : Nat) : Int))) <|
    ldI .i64 w.drew b1 (o2 + (x3).toNat * 1) fun i3 =>
    dr x0.1 fun b4 o5 =>
    gd (decide (0 ≤ (IntKind.wrap .i64 (x3 - 1)))) <|
    gd (decide ((IntKind.wrap .i64 (x3 - 1)) < ((x0.2.1 : Nat) : Int))) <|
    ldI .i64 w.drew b4 (o5 + ((IntKind.wrap .i64 (x3 - 1))).toNat * 1) fun i6 =>
    vIf (i3 == i6)
    (gd (decide (0 ≤ x3)) <|
      gd (decide (x3 ≤ ((x0.2.1 : Nat) : Int))) <|
      jnC (F55.l9 Q C4) ((x0.1, x0.2.1, x0.2.2), (x3), ((slA x0.1 x0.2.2 (x3).toNat 1), (x0.2.1 - (x3).toNat), (x0.2.2 - (x3).toNat)), (1), ()) w.drew)
    (jnC C4 ((x0.1, x0.2.1, x0.2.2), ((IntKind.wrap .i64 (x3 + 1))), ()) w.drew))
  (Q (Value.slice x0.1 x0.2.1 x0.2.2) w)
def F55.b4 (Q : Value → World → Prop) : ((Option Addr × Nat × Nat) × Int × Unit) → World → (((Option Addr × Nat × Nat) × Int × Unit) → World → Prop) → Prop := fun s w C4 => ∀ _ : Nat → Value, F55.b4c Q C4 s.1 s.2.1 w
def F55.l4 (Q : Value → World → Prop) : ((Option Addr × Nat × Nat) × Int × Unit) → World → Prop := fun s w => ∃ n, loopC (F55.b4 Q) n s w
def F55.vc (x0A : Option Addr) (x0n x0c : Nat) (w : World) (Q : Value → World → Prop) : Prop :=
  vIf (decide (((x0n : Nat) : Int) < 2))
  (Q (Value.slice x0A x0n x0c) w)
  (jnC (F55.l4 Q) ((x0A, x0n, x0c), (1), ()) w)
def F55.an : Ann := ⟨[(4, [(0, .kSl), (3, .kI .i64)]), (9, [(0, .kSl), (3, .kI .i64), (4, .kSl), (5, .kI .i64)])], [(15, [(0, .kSl), (3, .kI .i64)])]⟩
theorem F55.eq (x0A : Option Addr) (x0n x0c : Nat) (w : World) (Q : Value → World → Prop) : vcFn Try.prog F55.an 55 [Value.slice x0A x0n x0c] w Q = F55.vc x0A x0n x0c w Q := by kernel_rfl
theorem F55.of (x0A : Option Addr) (x0n x0c : Nat) (w : World) {Q : Value → World → Prop} (h : F55.vc x0A x0n x0c w Q) : Calls Try.prog 55 #[Value.slice x0A x0n x0c] w (fun e w' => ∃ v, e = .returned v ∧ Q v w') := vcFn_sound noCount mixed ((F55.eq x0A x0n x0c w Q).symm ▸ h)
/-! ### function 56: slices.DeleteFunc[[]int,int] -/
def F56s.k12c (Q : Value → World → Prop) (x0 : (Option Addr × Nat × Nat)) (x5 : Int) (w : World) : Prop :=
  gd (decide (0 ≤ x5)) <|
  gd (decide (x5 ≤ ((x0.2.2 : Nat) : Int))) <|
  Q (Value.slice (slA x0.1 x0.2.2 0 1) (x5).toNat x0.2.2) w
def F56s.k12 (Q : Value → World → Prop) : ((Option Addr × Nat × Nat) × Int × Unit) → World → Prop := fun s w => ∀ _ : Nat → Value, F56s.k12c Q s.1 s.2.1 w
def F56s.b5c (Q : Value → World → Prop) (C5 : ((Option Addr × Nat × Nat) × (Nat × Nat) × Int × Int × Unit) → World → Prop) (x0 : (Option Addr × Nat × Nat)) (x1 : (Nat × Nat)) (x5 : Int) (x6 : Int) (w : World) : Prop :=
  vIf (decide (x6 < ((x0.2.1 : Nat) : Int)))
  (dr x0.1 fun b4 o5 =>
    gd (decide (0 ≤ x6)) <|
    gd (decide (x6 < ((x0.2.1 : Nat) : Int))) <|
    ldI .i64 w b4 (o5 + (x6).toNat * 1) fun i6 =>
    Calls Try.prog 57 #[Value.int .i64 i6, Value.pointer (some ⟨x1.1, x1.2, none⟩)] w fun e8 w7 =>
    ∃ t9 : Bool, e8 = .returned (Value.bool t9) ∧ (
      vIf (!t9)
      (dr x0.1 fun b10 o11 =>
        gd (decide (0 ≤ x5)) <|
        gd (decide (x5 < ((x0.2.1 : Nat) : Int))) <|
        st w7 b10 (o11 + (x5).toNat * 1) [Value.int .i64 i6] fun w12 =>
        jnC C5 ((x0.1, x0.2.1, x0.2.2), (x1.1, x1.2), ((IntKind.wrap .i64 (x5 + 1))), ((IntKind.wrap .i64 (x6 + 1))), ()) w12)
      (jnC C5 ((x0.1, x0.2.1, x0.2.2), (x1.1, x1.2), (x5), ((IntKind.wrap .i64 (x6 + 1))), ()) w7)))
  (gd (decide (0 ≤ x5)) <|
    gd (decide (x5 ≤ ((x0.2.1 : Nat) : Int))) <|
    vIf ((x0.2.1 - (x5).toNat) == 0)
    (jnC (F56s.k12 Q) ((x0.1, x0.2.1, x0.2.2), (x5), ()) w)
    (dr (slA x0.1 x0.2.2 (x5).toNat 1) fun b14 o15 =>
      st w b14 o15 (zeros (x0.2.1 - (x5).toNat) [Value.int .i64 0]) fun w13 =>
      jnC (F56s.k12 Q) ((x0.1, x0.2.1, x0.2.2), (x5), ()) w13))
def F56s.b5 (Q : Value → World → Prop) : ((Option Addr × Nat × Nat) × (Nat × Nat) × Int × Int × Unit) → World → (((Option Addr × Nat × Nat) × (Nat × Nat) × Int × Int × Unit) → World → Prop) → Prop := fun s w C5 => ∀ _ : Nat → Value, F56s.b5c Q C5 s.1 s.2.1 s.2.2.1 s.2.2.2.1 w
def F56s.l5 (Q : Value → World → Prop) : ((Option Addr × Nat × Nat) × (Nat × Nat) × Int × Int × Unit) → World → Prop := fun s w => ∃ n, loopC (F56s.b5 Q) n s w
def F56s.vc (x0A : Option Addr) (x0n x0c : Nat) (x1 : Nat × Nat) (w : World) (Q : Value → World → Prop) : Prop :=
  Calls Try.prog 63 #[Value.slice x0A x0n x0c, Value.func (.func 57) #[] #[Value.pointer (some ⟨x1.1, x1.2, none⟩)]] w fun e2 w1 =>
  ∃ i3 : Int, e2 = .returned (Value.int .i64 i3) ∧ (
    vIf (i3 == (-1))
    (Q (Value.slice x0A x0n x0c) w1)
    (jnC (F56s.l5 Q) ((x0A, x0n, x0c), (x1.1, x1.2), (i3), ((IntKind.wrap .i64 (i3 + 1))), ()) w1))
def F56s.an : Ann := ⟨[(5, [(0, .kSl), (1, .kG 57), (5, .kI .i64), (6, .kI .i64)])], [(12, [(0, .kSl), (5, .kI .i64)])]⟩
theorem F56s.eq (x0A : Option Addr) (x0n x0c : Nat) (x1 : Nat × Nat) (w : World) (Q : Value → World → Prop) : vcFn Try.prog F56s.an 56 [Value.slice x0A x0n x0c, Value.func (.func 57) #[] #[Value.pointer (some ⟨x1.1, x1.2, none⟩)]] w Q = F56s.vc x0A x0n x0c x1 w Q := by kernel_rfl
theorem F56s.of (x0A : Option Addr) (x0n x0c : Nat) (x1 : Nat × Nat) (w : World) {Q : Value → World → Prop} (h : F56s.vc x0A x0n x0c x1 w Q) : Calls Try.prog 56 #[Value.slice x0A x0n x0c, Value.func (.func 57) #[] #[Value.pointer (some ⟨x1.1, x1.2, none⟩)]] w (fun e w' => ∃ v, e = .returned v ∧ Q v w') := vcFn_sound noCount mixed ((F56s.eq x0A x0n x0c x1 w Q).symm ▸ h)
/-! ### function 57: stillage/entry.left$1 -/
def F57.vc (x0 : Int) (x1 : Nat × Nat) (w : World) (Q : Value → World → Prop) : Prop :=
  ldSl w x1.1 x1.2 fun A1 n2 c3 =>
  Calls Try.prog 48 #[Value.slice A1 n2 c3, Value.int .i64 x0] w fun e5 w4 =>
  ∃ t6 : Bool, e5 = .returned (Value.bool t6) ∧ (
    Q (Value.bool (!t6)) w4)
def F57.an : Ann := ⟨[], []⟩
theorem F57.eq (x0 : Int) (x1 : Nat × Nat) (w : World) (Q : Value → World → Prop) : vcFn Try.prog F57.an 57 [Value.int .i64 x0, Value.pointer (some ⟨x1.1, x1.2, none⟩)] w Q = F57.vc x0 x1 w Q := by kernel_rfl
theorem F57.of (x0 : Int) (x1 : Nat × Nat) (w : World) {Q : Value → World → Prop} (h : F57.vc x0 x1 w Q) : Calls Try.prog 57 #[Value.int .i64 x0, Value.pointer (some ⟨x1.1, x1.2, none⟩)] w (fun e w' => ∃ v, e = .returned v ∧ Q v w') := vcFn_sound noCount mixed ((F57.eq x0 x1 w Q).symm ▸ h)
/-! ### function 58: slices.Index[[]int,int] -/
def F58.b2c (Q : Value → World → Prop) (C2 : ((Option Addr × Nat × Nat) × Int × Int × Int × Unit) → World → Prop) (x0 : (Option Addr × Nat × Nat)) (x1 : Int) (x7 : Int) (x8 : Int) (w : World) : Prop :=
  vIf (decide (x8 < x7))
  (dr x0.1 fun b1 o2 =>
    gd (decide (0 ≤ x8)) <|
    gd (decide (x8 < ((x0.2.1 : Nat) : Int))) <|
    ldI .i64 w b1 (o2 + (x8).toNat * 1) fun i3 =>
    vIf (x1 == i3)
    (Q (Value.int .i64 x8) w)
    (jnC C2 ((x0.1, x0.2.1, x0.2.2), (x1), (x7), ((IntKind.wrap .i64 (x8 + 1))), ()) w))
  (Q (Value.int .i64 (-1)) w)
def F58.b2 (Q : Value → World → Prop) : ((Option Addr × Nat × Nat) × Int × Int × Int × Unit) → World → (((Option Addr × Nat × Nat) × Int × Int × Int × Unit) → World → Prop) → Prop := fun s w C2 => ∀ _ : Nat → Value, F58.b2c Q C2 s.1 s.2.1 s.2.2.1 s.2.2.2.1 w
def F58.l2 (Q : Value → World → Prop) : ((Option Addr × Nat × Nat) × Int × Int × Int × Unit) → World → Prop := fun s w => ∃ n, loopC (F58.b2 Q) n s w
def F58.vc (x0A : Option Addr) (x0n x0c : Nat) (x1 : Int) (w : World) (Q : Value → World → Prop) : Prop :=
  jnC (F58.l2 Q) ((x0A, x0n, x0c), (x1), (((x0n : Nat) : Int)), (0), ()) w
def F58.an : Ann := ⟨[(2, [(0, .kSl), (1, .kI .i64), (7, .kI .i64), (8, .kI .i64)])], []⟩
theorem F58.eq (x0A : Option Addr) (x0n x0c : Nat) (x1 : Int) (w : World) (Q : Value → World → Prop) : vcFn Try.prog F58.an 58 [Value.slice x0A x0n x0c, Value.int .i64 x1] w Q = F58.vc x0A x0n x0c x1 w Q := by kernel_rfl
theorem F58.of (x0A : Option Addr) (x0n x0c : Nat) (x1 : Int) (w : World) {Q : Value → World → Prop} (h : F58.vc x0A x0n x0c x1 w Q) : Calls Try.prog 58 #[Value.slice x0A x0n x0c, Value.int .i64 x1] w (fun e w' => ∃ v, e = .returned v ∧ Q v w') := vcFn_sound noCount mixed ((F58.eq x0A x0n x0c x1 w Q).symm ▸ h)
/-! ### function 60: slices.Grow[[]int,int] -/
def F60.k3c (Q : Value → World → Prop) (x0 : (Option Addr × Nat × Nat)) (x1 : Int) (w : World) : Prop :=
  vIf (decide ((IntKind.wrap .i64 (x1 - (IntKind.wrap .i64 (((x0.2.2 : Nat) : Int) - ((x0.2.1 : Nat) : Int))))) > 0))
  (gd (decide (0 ≤ ((x0.2.2 : Nat) : Int))) <|
    gd (decide (((x0.2.2 : Nat) : Int) ≤ ((x0.2.2 : Nat) : Int))) <|
    appZ w 1 8 [Value.int .i64 0] 3 (slA x0.1 x0.2.2 0 1) ((((x0.2.2 : Nat) : Int)).toNat) x0.2.2 (IntKind.wrap .i64 (x1 - (IntKind.wrap .i64 (((x0.2.2 : Nat) : Int) - ((x0.2.1 : Nat) : Int))))) fun A1 n2 c3 w4 =>
    gd (decide (0 ≤ ((x0.2.1 : Nat) : Int))) <|
    gd (decide (((x0.2.1 : Nat) : Int) ≤ ((c3 : Nat) : Int))) <|
    Q (Value.slice (slA A1 c3 0 1) (((x0.2.1 : Nat) : Int)).toNat c3) w4)
  (Q (Value.slice x0.1 x0.2.1 x0.2.2) w)
def F60.k3 (Q : Value → World → Prop) : ((Option Addr × Nat × Nat) × Int × Unit) → World → Prop := fun s w => ∀ _ : Nat → Value, F60.k3c Q s.1 s.2.1 w
def F60.vc (x0A : Option Addr) (x0n x0c : Nat) (x1 : Int) (w : World) (Q : Value → World → Prop) : Prop :=
  vIf (decide (x1 < 0))
  (False)
  (jnC (F60.k3 Q) ((x0A, x0n, x0c), (x1), ()) w)
def F60.an : Ann := ⟨[], [(3, [(0, .kSl), (1, .kI .i64)])]⟩
theorem F60.eq (x0A : Option Addr) (x0n x0c : Nat) (x1 : Int) (w : World) (Q : Value → World → Prop) : vcFn Try.prog F60.an 60 [Value.slice x0A x0n x0c, Value.int .i64 x1] w Q = F60.vc x0A x0n x0c x1 w Q := by kernel_rfl
theorem F60.of (x0A : Option Addr) (x0n x0c : Nat) (x1 : Int) (w : World) {Q : Value → World → Prop} (h : F60.vc x0A x0n x0c x1 w Q) : Calls Try.prog 60 #[Value.slice x0A x0n x0c, Value.int .i64 x1] w (fun e w' => ∃ v, e = .returned v ∧ Q v w') := vcFn_sound noCount mixed ((F60.eq x0A x0n x0c x1 w Q).symm ▸ h)
/-! ### function 63: slices.IndexFunc[[]int,int] -/
def F63t.b2c (Q : Value → World → Prop) (C2 : ((Option Addr × Nat × Nat) × (Nat × Nat) × Int × Int × Unit) → World → Prop) (x0 : (Option Addr × Nat × Nat)) (x1 : (Nat × Nat)) (x7 : Int) (x8 : Int) (w : World) : Prop :=
  vIf (decide (x8 < x7))
  (dr x0.1 fun b1 o2 =>
    gd (decide (0 ≤ x8)) <|
    gd (decide (x8 < ((x0.2.1 : Nat) : Int))) <|
    ldI .i64 w b1 (o2 + (x8).toNat * 1) fun i3 =>
    Calls Try.prog 57 #[Value.int .i64 i3, Value.pointer (some ⟨x1.1, x1.2, none⟩)] w fun e5 w4 =>
    ∃ t6 : Bool, e5 = .returned (Value.bool t6) ∧ (
      vIf t6
      (Q (Value.int .i64 x8) w4)
      (jnC C2 ((x0.1, x0.2.1, x0.2.2), (x1.1, x1.2), (x7), ((IntKind.wrap .i64 (x8 + 1))), ()) w4)))
  (Q (Value.int .i64 (-1)) w)
def F63t.b2 (Q : Value → World → Prop) : ((Option Addr × Nat × Nat) × (Nat × Nat) × Int × Int × Unit) → World → (((Option Addr × Nat × Nat) × (Nat × Nat) × Int × Int × Unit) → World → Prop) → Prop := fun s w C2 => ∀ _ : Nat → Value, F63t.b2c Q C2 s.1 s.2.1 s.2.2.1 s.2.2.2.1 w
def F63t.l2 (Q : Value → World → Prop) : ((Option Addr × Nat × Nat) × (Nat × Nat) × Int × Int × Unit) → World → Prop := fun s w => ∃ n, loopC (F63t.b2 Q) n s w
def F63t.vc (x0A : Option Addr) (x0n x0c : Nat) (x1 : Nat × Nat) (w : World) (Q : Value → World → Prop) : Prop :=
  jnC (F63t.l2 Q) ((x0A, x0n, x0c), (x1.1, x1.2), (((x0n : Nat) : Int)), (0), ()) w
def F63t.an : Ann := ⟨[(2, [(0, .kSl), (1, .kG 57), (7, .kI .i64), (8, .kI .i64)])], []⟩
theorem F63t.eq (x0A : Option Addr) (x0n x0c : Nat) (x1 : Nat × Nat) (w : World) (Q : Value → World → Prop) : vcFn Try.prog F63t.an 63 [Value.slice x0A x0n x0c, Value.func (.func 57) #[] #[Value.pointer (some ⟨x1.1, x1.2, none⟩)]] w Q = F63t.vc x0A x0n x0c x1 w Q := by kernel_rfl
theorem F63t.of (x0A : Option Addr) (x0n x0c : Nat) (x1 : Nat × Nat) (w : World) {Q : Value → World → Prop} (h : F63t.vc x0A x0n x0c x1 w Q) : Calls Try.prog 63 #[Value.slice x0A x0n x0c, Value.func (.func 57) #[] #[Value.pointer (some ⟨x1.1, x1.2, none⟩)]] w (fun e w' => ∃ v, e = .returned v ∧ Q v w') := vcFn_sound noCount mixed ((F63t.eq x0A x0n x0c x1 w Q).symm ▸ h)
end Go.Proofs.Ytklanoocjlpemaa
