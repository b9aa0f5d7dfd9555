/- PRINTED BY MY OWN gen.py out of the translation: each function as a proposition. -/
import Derived.Test.YtbifohpdlknjiaaProg
import Derived.Test.YtbifohpdlknjiaaG7
namespace Go.Proofs.Ytbifohpdlknjiaa
open Go.GV
set_option linter.unusedVariables false
set_option maxRecDepth 100000
theorem noCount : NoCount Try.prog := noCount_of (by kernel_rfl)
theorem mixed : Try.prog.follows .mixedOrders = true := by kernel_rfl
def Z27 : List Value := [Value.int .u8 0, Value.int .u8 0, Value.int .u8 0, Value.int .u8 0, Value.int .u8 0, Value.int .u8 0, Value.int .u8 0, Value.int .u8 0, Value.int .u8 0, Value.int .u8 0, Value.int .u8 0, Value.int .u8 0, Value.int .u8 0, Value.int .u8 0, Value.int .u8 0, Value.int .u8 0, Value.int .u8 0, Value.int .u8 0, Value.int .u8 0, Value.int .u8 0, Value.int .u8 0, Value.int .u8 0, Value.int .u8 0, Value.int .u8 0, Value.int .u8 0, Value.int .u8 0, Value.int .u8 0, Value.int .u8 0, Value.int .u8 0, Value.int .u8 0, Value.int .u8 0, Value.int .u8 0]
def Z29 : List Value := [Value.int .u8 0, Value.int .u8 0, Value.int .u8 0, Value.int .u8 0, Value.int .u8 0, Value.int .u8 0, Value.int .u8 0, Value.int .u8 0, Value.int .u8 0, Value.int .u8 0, Value.int .u8 0, Value.int .u8 0, Value.int .u8 0, Value.int .u8 0, Value.int .u8 0, Value.int .u8 0, Value.int .u8 0, Value.int .u8 0, Value.int .u8 0, Value.int .u8 0, Value.int .u8 0, Value.int .u8 0, Value.int .u8 0, Value.int .u8 0, Value.int .u8 0, Value.int .u8 0, Value.int .u8 0, Value.int .u8 0, Value.int .u8 0, Value.int .u8 0, Value.int .u8 0, Value.int .u8 0, Value.int .u8 0, Value.int .u8 0, Value.int .u8 0, Value.int .u8 0, Value.int .u8 0, Value.int .u8 0, Value.int .u8 0, Value.int .u8 0, Value.int .u8 0, Value.int .u8 0, Value.int .u8 0, Value.int .u8 0, Value.int .u8 0, Value.int .u8 0, Value.int .u8 0, Value.int .u8 0, Value.int .u8 0, Value.int .u8 0, Value.int .u8 0, Value.int .u8 0, Value.int .u8 0, Value.int .u8 0, Value.int .u8 0, Value.int .u8 0, Value.int .u8 0, Value.int .u8 0, Value.int .u8 0, Value.int .u8 0, Value.int .u8 0, Value.int .u8 0, Value.int .u8 0, Value.int .u8 0]
/-! ### function 3: stillage/stillagelaw33.ReachLeast -/
def F3.k14c (Q : Value → World → Prop) (C10 : ((Option Addr × Nat × Nat) × (Option Addr × Nat × Nat) × (Option Addr × Nat × Nat) × Bool × Int × Unit) → World → Prop) (x1 : (Option Addr × Nat × Nat)) (x2 : (Option Addr × Nat × Nat)) (x7 : (Option Addr × Nat × Nat)) (x8 : Bool) (x10 : Int) (w : World) : Prop :=
  vIf x8
  (dr x1.1 fun b30 o31 =>
    gd (decide (0 ≤ x10)) <|
    gd (decide (x10 < ((x1.2.1 : Nat) : Int))) <|
    ldA 32 w b30 (o31 + (x10).toNat * 64) fun a32 =>
    Calls Try.prog 7 #[Value.slice x2.1 x2.2.1 x2.2.2, ofL a32] w fun e34 w33 =>
    ∃ t35 : Bool, e34 = .returned (Value.bool t35) ∧ (
      vIf (!t35)
      (jnC C10 ((x1.1, x1.2.1, x1.2.2), (x2.1, x2.2.1, x2.2.2), (x7.1, x7.2.1, x7.2.2), true, ((IntKind.wrap .i64 (x10 + 1))), ()) w33)
      (dr x1.1 fun b36 o37 =>
        gd (decide (0 ≤ x10)) <|
        gd (decide (x10 < ((x1.2.1 : Nat) : Int))) <|
        ldA 32 w33 b36 ((o37 + (x10).toNat * 64) + 32) fun a38 =>
        Calls Try.prog 7 #[Value.slice x2.1 x2.2.1 x2.2.2, ofL a38] w33 fun e40 w39 =>
        ∃ t41 : Bool, e40 = .returned (Value.bool t41) ∧ (
          jnC C10 ((x1.1, x1.2.1, x1.2.2), (x2.1, x2.2.1, x2.2.2), (x7.1, x7.2.1, x7.2.2), t41, ((IntKind.wrap .i64 (x10 + 1))), ()) w39))))
  (jnC C10 ((x1.1, x1.2.1, x1.2.2), (x2.1, x2.2.1, x2.2.2), (x7.1, x7.2.1, x7.2.2), false, ((IntKind.wrap .i64 (x10 + 1))), ()) w)
def F3.k14 (Q : Value → World → Prop) (C10 : ((Option Addr × Nat × Nat) × (Option Addr × Nat × Nat) × (Option Addr × Nat × Nat) × Bool × Int × Unit) → World → Prop) : ((Option Addr × Nat × Nat) × (Option Addr × Nat × Nat) × (Option Addr × Nat × Nat) × Bool × Int × Unit) → World → Prop := fun s w => ∀ _ : Nat → Value, F3.k14c Q C10 s.1 s.2.1 s.2.2.1 s.2.2.2.1 s.2.2.2.2.1 w
def F3.k18c (Q : Value → World → Prop) (C16 : ((Option Addr × Nat × Nat) × (Option Addr × Nat × Nat) × Bool × Int × Unit) → World → Prop) (x2 : (Option Addr × Nat × Nat)) (x7 : (Option Addr × Nat × Nat)) (x8 : Bool) (x11 : Int) (w : World) : Prop :=
  dr x7.1 fun b42 o43 =>
  gd (decide (0 ≤ x11)) <|
  gd (decide (x11 < ((x7.2.1 : Nat) : Int))) <|
  ldA 32 w b42 (o43 + (x11).toNat * 32) fun a44 =>
  Calls Try.prog 7 #[Value.slice x2.1 x2.2.1 x2.2.2, ofL a44] w fun e46 w45 =>
  ∃ t47 : Bool, e46 = .returned (Value.bool t47) ∧ (
    vIf (!t47)
    (Q (Value.bool false) w45)
    (jnC C16 ((x2.1, x2.2.1, x2.2.2), (x7.1, x7.2.1, x7.2.2), x8, ((IntKind.wrap .i64 (x11 + 1))), ()) w45))
def F3.k18 (Q : Value → World → Prop) (C16 : ((Option Addr × Nat × Nat) × (Option Addr × Nat × Nat) × Bool × Int × Unit) → World → Prop) : ((Option Addr × Nat × Nat) × (Option Addr × Nat × Nat) × Bool × Int × Unit) → World → Prop := fun s w => ∀ _ : Nat → Value, F3.k18c Q C16 s.1 s.2.1 s.2.2.1 s.2.2.2.1 w
def F3.b16c (Q : Value → World → Prop) (C16 : ((Option Addr × Nat × Nat) × (Option Addr × Nat × Nat) × Bool × Int × Unit) → World → Prop) (x2 : (Option Addr × Nat × Nat)) (x7 : (Option Addr × Nat × Nat)) (x8 : Bool) (x11 : Int) (w : World) : Prop :=
  vIf (decide (x11 < ((x7.2.1 : Nat) : Int)))
  (vIf x8
    (jnC (F3.k18 Q C16) ((x2.1, x2.2.1, x2.2.2), (x7.1, x7.2.1, x7.2.2), x8, (x11), ()) w)
    (Calls Try.prog 8 #[] w fun e49 w48 =>
      ∃ t50 : Bool, e49 = .returned (Value.bool t50) ∧ (
        Q (Value.bool t50) w48)))
  (Calls Try.prog 8 #[] w fun e52 w51 =>
    ∃ t53 : Bool, e52 = .returned (Value.bool t53) ∧ (
      Q (Value.bool t53) w51))
def F3.b16 (Q : Value → World → Prop) : ((Option Addr × Nat × Nat) × (Option Addr × Nat × Nat) × Bool × Int × Unit) → World → (((Option Addr × Nat × Nat) × (Option Addr × Nat × Nat) × Bool × Int × Unit) → World → Prop) → Prop := fun s w C16 => ∀ _ : Nat → Value, F3.b16c Q C16 s.1 s.2.1 s.2.2.1 s.2.2.2.1 w
def F3.l16 (Q : Value → World → Prop) : ((Option Addr × Nat × Nat) × (Option Addr × Nat × Nat) × Bool × Int × Unit) → World → Prop := fun s w => ∃ n, loopC (F3.b16 Q) n s w
def F3.b10c (Q : Value → World → Prop) (C10 : ((Option Addr × Nat × Nat) × (Option Addr × Nat × Nat) × (Option Addr × Nat × Nat) × Bool × Int × Unit) → World → Prop) (x1 : (Option Addr × Nat × Nat)) (x2 : (Option Addr × Nat × Nat)) (x7 : (Option Addr × Nat × Nat)) (x8 : Bool) (x10 : Int) (w : World) : Prop :=
  vIf (decide (x10 < ((x1.2.1 : Nat) : Int)))
  (dr x1.1 fun b18 o19 =>
    gd (decide (0 ≤ x10)) <|
    gd (decide (x10 < ((x1.2.1 : Nat) : Int))) <|
    ldA 32 w b18 (o19 + (x10).toNat * 64) fun a20 =>
    Calls Try.prog 7 #[Value.slice x7.1 x7.2.1 x7.2.2, ofL a20] w fun e22 w21 =>
    ∃ t23 : Bool, e22 = .returned (Value.bool t23) ∧ (
      vIf t23
      (dr x1.1 fun b24 o25 =>
        gd (decide (0 ≤ x10)) <|
        gd (decide (x10 < ((x1.2.1 : Nat) : Int))) <|
        ldA 32 w21 b24 ((o25 + (x10).toNat * 64) + 32) fun a26 =>
        Calls Try.prog 7 #[Value.slice x7.1 x7.2.1 x7.2.2, ofL a26] w21 fun e28 w27 =>
        ∃ t29 : Bool, e28 = .returned (Value.bool t29) ∧ (
          vIf (!t29)
          (Q (Value.bool false) w27)
          (jnC (F3.k14 Q C10) ((x1.1, x1.2.1, x1.2.2), (x2.1, x2.2.1, x2.2.2), (x7.1, x7.2.1, x7.2.2), x8, (x10), ()) w27)))
      (jnC (F3.k14 Q C10) ((x1.1, x1.2.1, x1.2.2), (x2.1, x2.2.1, x2.2.2), (x7.1, x7.2.1, x7.2.2), x8, (x10), ()) w21)))
  (jnC (F3.l16 Q) ((x2.1, x2.2.1, x2.2.2), (x7.1, x7.2.1, x7.2.2), x8, (0), ()) w)
def F3.b10 (Q : Value → World → Prop) : ((Option Addr × Nat × Nat) × (Option Addr × Nat × Nat) × (Option Addr × Nat × Nat) × Bool × Int × Unit) → World → (((Option Addr × Nat × Nat) × (Option Addr × Nat × Nat) × (Option Addr × Nat × Nat) × Bool × Int × Unit) → World → Prop) → Prop := fun s w C10 => ∀ _ : Nat → Value, F3.b10c Q C10 s.1 s.2.1 s.2.2.1 s.2.2.2.1 s.2.2.2.2.1 w
def F3.l10 (Q : Value → World → Prop) : ((Option Addr × Nat × Nat) × (Option Addr × Nat × Nat) × (Option Addr × Nat × Nat) × Bool × Int × Unit) → World → Prop := fun s w => ∃ n, loopC (F3.b10 Q) n s w
def F3.b4c (Q : Value → World → Prop) (C4 : ((Option Addr × Nat × Nat) × (Option Addr × Nat × Nat) × (Option Addr × Nat × Nat) × (Option Addr × Nat × Nat) × Bool × Int × Unit) → World → Prop) (x0 : (Option Addr × Nat × Nat)) (x1 : (Option Addr × Nat × Nat)) (x2 : (Option Addr × Nat × Nat)) (x7 : (Option Addr × Nat × Nat)) (x8 : Bool) (x9 : Int) (w : World) : Prop :=
  vIf (decide (x9 < ((x0.2.1 : Nat) : Int)))
  (dr x0.1 fun b6 o7 =>
    gd (decide (0 ≤ x9)) <|
    gd (decide (x9 < ((x0.2.1 : Nat) : Int))) <|
    ldA 32 w b6 (o7 + (x9).toNat * 32) fun a8 =>
    Calls Try.prog 7 #[Value.slice x7.1 x7.2.1 x7.2.2, ofL a8] w fun e10 w9 =>
    ∃ t11 : Bool, e10 = .returned (Value.bool t11) ∧ (
      vIf (!t11)
      (Q (Value.bool false) w9)
      (vIf x8
        (dr x0.1 fun b12 o13 =>
          gd (decide (0 ≤ x9)) <|
          gd (decide (x9 < ((x0.2.1 : Nat) : Int))) <|
          ldA 32 w9 b12 (o13 + (x9).toNat * 32) fun a14 =>
          Calls Try.prog 7 #[Value.slice x2.1 x2.2.1 x2.2.2, ofL a14] w9 fun e16 w15 =>
          ∃ t17 : Bool, e16 = .returned (Value.bool t17) ∧ (
            jnC C4 ((x0.1, x0.2.1, x0.2.2), (x1.1, x1.2.1, x1.2.2), (x2.1, x2.2.1, x2.2.2), (x7.1, x7.2.1, x7.2.2), t17, ((IntKind.wrap .i64 (x9 + 1))), ()) w15))
        (jnC C4 ((x0.1, x0.2.1, x0.2.2), (x1.1, x1.2.1, x1.2.2), (x2.1, x2.2.1, x2.2.2), (x7.1, x7.2.1, x7.2.2), false, ((IntKind.wrap .i64 (x9 + 1))), ()) w9))))
  (jnC (F3.l10 Q) ((x1.1, x1.2.1, x1.2.2), (x2.1, x2.2.1, x2.2.2), (x7.1, x7.2.1, x7.2.2), x8, (0), ()) w)
def F3.b4 (Q : Value → World → Prop) : ((Option Addr × Nat × Nat) × (Option Addr × Nat × Nat) × (Option Addr × Nat × Nat) × (Option Addr × Nat × Nat) × Bool × Int × Unit) → World → (((Option Addr × Nat × Nat) × (Option Addr × Nat × Nat) × (Option Addr × Nat × Nat) × (Option Addr × Nat × Nat) × Bool × Int × Unit) → World → Prop) → Prop := fun s w C4 => ∀ _ : Nat → Value, F3.b4c Q C4 s.1 s.2.1 s.2.2.1 s.2.2.2.1 s.2.2.2.2.1 s.2.2.2.2.2.1 w
def F3.l4 (Q : Value → World → Prop) : ((Option Addr × Nat × Nat) × (Option Addr × Nat × Nat) × (Option Addr × Nat × Nat) × (Option Addr × Nat × Nat) × Bool × Int × Unit) → World → Prop := fun s w => ∃ n, loopC (F3.b4 Q) n s w
def F3.vc (x0A : Option Addr) (x0n x0c : Nat) (x1A : Option Addr) (x1n x1c : Nat) (x2A : Option Addr) (x2n x2c : Nat) (w : World) (Q : Value → World → Prop) : Prop :=
  Calls Try.prog 6 #[Value.slice x0A x0n x0c, Value.slice x1A x1n x1c] w fun e2 w1 =>
  ∃ (A3 : Option Addr) (n4 c5 : Nat), e2 = .returned (Value.slice A3 n4 c5) ∧ (
    jnC (F3.l4 Q) ((x0A, x0n, x0c), (x1A, x1n, x1c), (x2A, x2n, x2c), (A3, n4, c5), true, (0), ()) w1)
def F3.an : Ann := ⟨[(4, [(0, .kSl), (1, .kSl), (2, .kSl), (7, .kSl), (8, .kB), (9, .kI .i64)]), (10, [(1, .kSl), (2, .kSl), (7, .kSl), (8, .kB), (10, .kI .i64)]), (16, [(2, .kSl), (7, .kSl), (8, .kB), (11, .kI .i64)])], [(14, [(1, .kSl), (2, .kSl), (7, .kSl), (8, .kB), (10, .kI .i64)]), (18, [(2, .kSl), (7, .kSl), (8, .kB), (11, .kI .i64)])]⟩
theorem F3.eq (x0A : Option Addr) (x0n x0c : Nat) (x1A : Option Addr) (x1n x1c : Nat) (x2A : Option Addr) (x2n x2c : Nat) (w : World) (Q : Value → World → Prop) : vcFn Try.prog F3.an 3 [Value.slice x0A x0n x0c, Value.slice x1A x1n x1c, Value.slice x2A x2n x2c] w Q = F3.vc x0A x0n x0c x1A x1n x1c x2A x2n x2c w Q := by kernel_rfl
theorem F3.of (x0A : Option Addr) (x0n x0c : Nat) (x1A : Option Addr) (x1n x1c : Nat) (x2A : Option Addr) (x2n x2c : Nat) (w : World) {Q : Value → World → Prop} (h : F3.vc x0A x0n x0c x1A x1n x1c x2A x2n x2c w Q) : Calls Try.prog 3 #[Value.slice x0A x0n x0c, Value.slice x1A x1n x1c, Value.slice x2A x2n x2c] w (fun e w' => ∃ v, e = .returned v ∧ Q v w') := vcFn_sound noCount mixed ((F3.eq x0A x0n x0c x1A x1n x1c x2A x2n x2c w Q).symm ▸ h)
/-! ### function 4: stillage/stillagelaw33.ReachMore -/
def F4.b4c (Q : Value → World → Prop) (C4 : ((Nat × Nat) × (Option Addr × Nat × Nat) × (Option Addr × Nat × Nat) × Int × Unit) → World → Prop) (x1 : (Nat × Nat)) (x3 : (Option Addr × Nat × Nat)) (x4 : (Option Addr × Nat × Nat)) (x5 : Int) (w : World) : Prop :=
  vIf (decide (x5 < ((x3.2.1 : Nat) : Int)))
  (dr x3.1 fun b51 o52 =>
    gd (decide (0 ≤ x5)) <|
    gd (decide (x5 < ((x3.2.1 : Nat) : Int))) <|
    ldA 32 w b51 (o52 + (x5).toNat * 32) fun a53 =>
    Calls Try.prog 7 #[Value.slice x4.1 x4.2.1 x4.2.2, ofL a53] w fun e55 w54 =>
    ∃ t56 : Bool, e55 = .returned (Value.bool t56) ∧ (
      vIf (!t56)
      (Q (Value.bool false) w54)
      (jnC C4 ((x1.1, x1.2), (x3.1, x3.2.1, x3.2.2), (x4.1, x4.2.1, x4.2.2), ((IntKind.wrap .i64 (x5 + 1))), ()) w54)))
  (ldSl w x1.1 (x1.2 + 2) fun A57 n58 c59 =>
    Calls Try.prog 6 #[Value.slice x3.1 x3.2.1 x3.2.2, Value.slice A57 n58 c59] w fun e61 w60 =>
    ∃ (A62 : Option Addr) (n63 c64 : Nat), e61 = .returned (Value.slice A62 n63 c64) ∧ (
      Calls Try.prog 9 #[Value.slice A62 n63 c64, Value.slice x3.1 x3.2.1 x3.2.2] w60 fun e66 w65 =>
      ∃ t67 : Bool, e66 = .returned (Value.bool t67) ∧ (
        vIf t67
        (Calls Try.prog 8 #[] w65 fun e69 w68 =>
          ∃ t70 : Bool, e69 = .returned (Value.bool t70) ∧ (
            Q (Value.bool t70) w68))
        (Q (Value.bool false) w65))))
def F4.b4 (Q : Value → World → Prop) : ((Nat × Nat) × (Option Addr × Nat × Nat) × (Option Addr × Nat × Nat) × Int × Unit) → World → (((Nat × Nat) × (Option Addr × Nat × Nat) × (Option Addr × Nat × Nat) × Int × Unit) → World → Prop) → Prop := fun s w C4 => ∀ _ : Nat → Value, F4.b4c Q C4 s.1 s.2.1 s.2.2.1 s.2.2.2.1 w
def F4.l4 (Q : Value → World → Prop) : ((Nat × Nat) × (Option Addr × Nat × Nat) × (Option Addr × Nat × Nat) × Int × Unit) → World → Prop := fun s w => ∃ n, loopC (F4.b4 Q) n s w
def F4.vc (x0 : List Value) (w : World) (Q : Value → World → Prop) : Prop :=
  nw w x0 33 fun b1 w2 =>
  ldSl w2 b1 0 fun A3 n4 c5 =>
  ldSl w2 b1 (0 + 2) fun A6 n7 c8 =>
  Calls Try.prog 6 #[Value.slice A3 n4 c5, Value.slice A6 n7 c8] w2 fun e10 w9 =>
  ∃ (A11 : Option Addr) (n12 c13 : Nat), e10 = .returned (Value.slice A11 n12 c13) ∧ (
    ldSl w9.drew b1 0 fun A14 n15 c16 =>
    ldSl w9.drew b1 (0 + 1) fun A17 n18 c19 =>
    ldSl w9.drew b1 (0 + 2) fun A20 n21 c22 =>
    ldSl w9.drew b1 (0 + 3) fun A23 n24 c25 =>
    (nw w9.drew [] 27 fun b26 w27 =>
      kp w9.drew b1 (0 + 3) 1 w27 <|
      kp w9.drew b1 (0 + 2) 1 w27 <|
      kp w9.drew b1 (0 + 1) 1 w27 <|
      kp w9.drew b1 0 1 w27 <|
      (app w27 32 32 Z27 27 (some ⟨b26, 0, none⟩) 0 0 (Value.slice A14 n15 c16) fun A28 n29 c30 w31 =>
        kp w9.drew b1 (0 + 3) 1 w31 <|
        kp w9.drew b1 (0 + 2) 1 w31 <|
        kp w9.drew b1 (0 + 1) 1 w31 <|
        (app w31 32 32 Z27 27 A28 n29 c30 (Value.slice A17 n18 c19) fun A32 n33 c34 w35 =>
          kp w9.drew b1 (0 + 3) 1 w35 <|
          kp w9.drew b1 (0 + 2) 1 w35 <|
          nw w35 [] 29 fun b36 w37 =>
          kp w9.drew b1 (0 + 3) 1 w37 <|
          kp w9.drew b1 (0 + 2) 1 w37 <|
          kp w9.drew b1 (0 + 1) 1 w37 <|
          kp w9.drew b1 0 1 w37 <|
          app w37 64 64 Z29 29 (some ⟨b36, 0, none⟩) 0 0 (Value.slice A20 n21 c22) fun A38 n39 c40 w41 =>
          kp w9.drew b1 (0 + 3) 1 w41 <|
          app w41 64 64 Z29 29 A38 n39 c40 (Value.slice A23 n24 c25) fun A42 n43 c44 w45 =>
          Calls Try.prog 6 #[Value.slice A32 n33 c34, Value.slice A42 n43 c44] w45 fun e47 w46 =>
          ∃ (A48 : Option Addr) (n49 c50 : Nat), e47 = .returned (Value.slice A48 n49 c50) ∧ (
            jnC (F4.l4 Q) ((b1, 0), (A11, n12, c13), (A48, n49, c50), (0), ()) w46)) ∧
        (nw w31 [] 29 fun b71 w72 =>
          kp w9.drew b1 (0 + 3) 1 w72 <|
          kp w9.drew b1 (0 + 2) 1 w72 <|
          kp w9.drew b1 (0 + 1) 1 w72 <|
          kp w9.drew b1 0 1 w72 <|
          app w72 32 32 Z27 27 A28 n29 c30 (Value.slice A17 n18 c19) fun A73 n74 c75 w76 =>
          kp w9.drew b1 (0 + 3) 1 w76 <|
          kp w9.drew b1 (0 + 2) 1 w76 <|
          app w76 64 64 Z29 29 (some ⟨b71, 0, none⟩) 0 0 (Value.slice A20 n21 c22) fun A77 n78 c79 w80 =>
          kp w9.drew b1 (0 + 3) 1 w80 <|
          app w80 64 64 Z29 29 A77 n78 c79 (Value.slice A23 n24 c25) fun A81 n82 c83 w84 =>
          Calls Try.prog 6 #[Value.slice A73 n74 c75, Value.slice A81 n82 c83] w84 fun e86 w85 =>
          ∃ (A87 : Option Addr) (n88 c89 : Nat), e86 = .returned (Value.slice A87 n88 c89) ∧ (
            jnC (F4.l4 Q) ((b1, 0), (A11, n12, c13), (A87, n88, c89), (0), ()) w85))) ∧
      (nw w27 [] 29 fun b90 w91 =>
        kp w9.drew b1 (0 + 3) 1 w91 <|
        kp w9.drew b1 (0 + 2) 1 w91 <|
        kp w9.drew b1 (0 + 1) 1 w91 <|
        kp w9.drew b1 0 1 w91 <|
        app w91 32 32 Z27 27 (some ⟨b26, 0, none⟩) 0 0 (Value.slice A14 n15 c16) fun A92 n93 c94 w95 =>
        kp w9.drew b1 (0 + 3) 1 w95 <|
        kp w9.drew b1 (0 + 2) 1 w95 <|
        kp w9.drew b1 (0 + 1) 1 w95 <|
        app w95 32 32 Z27 27 A92 n93 c94 (Value.slice A17 n18 c19) fun A96 n97 c98 w99 =>
        kp w9.drew b1 (0 + 3) 1 w99 <|
        kp w9.drew b1 (0 + 2) 1 w99 <|
        app w99 64 64 Z29 29 (some ⟨b90, 0, none⟩) 0 0 (Value.slice A20 n21 c22) fun A100 n101 c102 w103 =>
        kp w9.drew b1 (0 + 3) 1 w103 <|
        app w103 64 64 Z29 29 A100 n101 c102 (Value.slice A23 n24 c25) fun A104 n105 c106 w107 =>
        Calls Try.prog 6 #[Value.slice A96 n97 c98, Value.slice A104 n105 c106] w107 fun e109 w108 =>
        ∃ (A110 : Option Addr) (n111 c112 : Nat), e109 = .returned (Value.slice A110 n111 c112) ∧ (
          jnC (F4.l4 Q) ((b1, 0), (A11, n12, c13), (A110, n111, c112), (0), ()) w108))) ∧
    (nw w9.drew [] 29 fun b113 w114 =>
      kp w9.drew b1 (0 + 3) 1 w114 <|
      kp w9.drew b1 (0 + 2) 1 w114 <|
      kp w9.drew b1 (0 + 1) 1 w114 <|
      kp w9.drew b1 0 1 w114 <|
      nw w114 [] 27 fun b115 w116 =>
      kp w9.drew b1 (0 + 3) 1 w116 <|
      kp w9.drew b1 (0 + 2) 1 w116 <|
      kp w9.drew b1 (0 + 1) 1 w116 <|
      kp w9.drew b1 0 1 w116 <|
      app w116 32 32 Z27 27 (some ⟨b115, 0, none⟩) 0 0 (Value.slice A14 n15 c16) fun A117 n118 c119 w120 =>
      kp w9.drew b1 (0 + 3) 1 w120 <|
      kp w9.drew b1 (0 + 2) 1 w120 <|
      kp w9.drew b1 (0 + 1) 1 w120 <|
      app w120 32 32 Z27 27 A117 n118 c119 (Value.slice A17 n18 c19) fun A121 n122 c123 w124 =>
      kp w9.drew b1 (0 + 3) 1 w124 <|
      kp w9.drew b1 (0 + 2) 1 w124 <|
      app w124 64 64 Z29 29 (some ⟨b113, 0, none⟩) 0 0 (Value.slice A20 n21 c22) fun A125 n126 c127 w128 =>
      kp w9.drew b1 (0 + 3) 1 w128 <|
      app w128 64 64 Z29 29 A125 n126 c127 (Value.slice A23 n24 c25) fun A129 n130 c131 w132 =>
      Calls Try.prog 6 #[Value.slice A121 n122 c123, Value.slice A129 n130 c131] w132 fun e134 w133 =>
      ∃ (A135 : Option Addr) (n136 c137 : Nat), e134 = .returned (Value.slice A135 n136 c137) ∧ (
        jnC (F4.l4 Q) ((b1, 0), (A11, n12, c13), (A135, n136, c137), (0), ()) w133)))
def F4.an : Ann := ⟨[(4, [(1, .kL), (3, .kSl), (4, .kSl), (5, .kI .i64)])], []⟩
theorem F4.eq (x0 : List Value) (w : World) (Q : Value → World → Prop) : vcFn Try.prog F4.an 4 [ofL x0] w Q = F4.vc x0 w Q := by kernel_rfl
theorem F4.of (x0 : List Value) (w : World) {Q : Value → World → Prop} (h : F4.vc x0 w Q) : Calls Try.prog 4 #[ofL x0] w (fun e w' => ∃ v, e = .returned v ∧ Q v w') := vcFn_sound noCount mixed ((F4.eq x0 w Q).symm ▸ h)
/-! ### function 5: stillage/stillagelaw33.ReachTells -/
def F5.b2c (Q : Value → World → Prop) (C2 : ((Option Addr × Nat × Nat) × (Option Addr × Nat × Nat) × (Option Addr × Nat × Nat) × Int × Unit) → World → Prop) (x0 : (Option Addr × Nat × Nat)) (x1 : (Option Addr × Nat × Nat)) (x2 : (Option Addr × Nat × Nat)) (x7 : Int) (w : World) : Prop :=
  vIf (decide (x7 < ((x0.2.1 : Nat) : Int)))
  (dr x0.1 fun b1 o2 =>
    gd (decide (0 ≤ x7)) <|
    gd (decide (x7 < ((x0.2.1 : Nat) : Int))) <|
    ldA 32 w.drew b1 (o2 + (x7).toNat * 32) fun a3 =>
    dr x0.1 fun b4 o5 =>
    gd (decide (0 ≤ x7)) <|
    gd (decide (x7 < ((x0.2.1 : Nat) : Int))) <|
    ldA 32 w.drew b4 (o5 + (x7).toNat * 32) fun a6 =>
    Calls Try.prog 10 #[ofL a3, Value.slice x2.1 x2.2.1 x2.2.2] w.drew fun e8 w7 =>
    ∃ (A9 : Option Addr) (n10 c11 : Nat), e8 = .returned (Value.slice A9 n10 c11) ∧ (
      kp w.drew b4 (o5 + (x7).toNat * 32) 32 w7 <|
      Calls Try.prog 11 #[ofL a6, Value.slice x2.1 x2.2.1 x2.2.2] w7 fun e13 w12 =>
      ∃ (A14 : Option Addr) (n15 c16 : Nat), e13 = .returned (Value.slice A14 n15 c16) ∧ (
        Calls Try.prog 9 #[Value.slice A9 n10 c11, Value.slice A14 n15 c16] w12 fun e18 w17 =>
        ∃ t19 : Bool, e18 = .returned (Value.bool t19) ∧ (
          vIf (!t19)
          (Q (Value.bool false) w17)
          (jnC C2 ((x0.1, x0.2.1, x0.2.2), (x1.1, x1.2.1, x1.2.2), (x2.1, x2.2.1, x2.2.2), ((IntKind.wrap .i64 (x7 + 1))), ()) w17)))))
  (Calls Try.prog 6 #[Value.slice x1.1 x1.2.1 x1.2.2, Value.slice x2.1 x2.2.1 x2.2.2] w fun e21 w20 =>
    ∃ (A22 : Option Addr) (n23 c24 : Nat), e21 = .returned (Value.slice A22 n23 c24) ∧ (
      Calls Try.prog 12 #[Value.slice x1.1 x1.2.1 x1.2.2, Value.slice x2.1 x2.2.1 x2.2.2] w20 fun e26 w25 =>
      ∃ (A27 : Option Addr) (n28 c29 : Nat), e26 = .returned (Value.slice A27 n28 c29) ∧ (
        Calls Try.prog 9 #[Value.slice A22 n23 c24, Value.slice A27 n28 c29] w25 fun e31 w30 =>
        ∃ t32 : Bool, e31 = .returned (Value.bool t32) ∧ (
          vIf t32
          (Calls Try.prog 13 #[Value.slice x0.1 x0.2.1 x0.2.2, Value.slice x1.1 x1.2.1 x1.2.2, Value.slice x2.1 x2.2.1 x2.2.2] w30 fun e34 w33 =>
            ∃ (A35 : Option Addr) (n36 c37 : Nat), e34 = .returned (Value.slice A35 n36 c37) ∧ (
              Calls Try.prog 14 #[Value.slice x0.1 x0.2.1 x0.2.2, Value.slice x1.1 x1.2.1 x1.2.2, Value.slice x2.1 x2.2.1 x2.2.2] w33 fun e39 w38 =>
              ∃ (A40 : Option Addr) (n41 c42 : Nat), e39 = .returned (Value.slice A40 n41 c42) ∧ (
                Calls Try.prog 9 #[Value.slice A35 n36 c37, Value.slice A40 n41 c42] w38 fun e44 w43 =>
                ∃ t45 : Bool, e44 = .returned (Value.bool t45) ∧ (
                  vIf t45
                  (Calls Try.prog 8 #[] w43 fun e47 w46 =>
                    ∃ t48 : Bool, e47 = .returned (Value.bool t48) ∧ (
                      Q (Value.bool t48) w46))
                  (Q (Value.bool false) w43)))))
          (Q (Value.bool false) w30)))))
def F5.b2 (Q : Value → World → Prop) : ((Option Addr × Nat × Nat) × (Option Addr × Nat × Nat) × (Option Addr × Nat × Nat) × Int × Unit) → World → (((Option Addr × Nat × Nat) × (Option Addr × Nat × Nat) × (Option Addr × Nat × Nat) × Int × Unit) → World → Prop) → Prop := fun s w C2 => ∀ _ : Nat → Value, F5.b2c Q C2 s.1 s.2.1 s.2.2.1 s.2.2.2.1 w
def F5.l2 (Q : Value → World → Prop) : ((Option Addr × Nat × Nat) × (Option Addr × Nat × Nat) × (Option Addr × Nat × Nat) × Int × Unit) → World → Prop := fun s w => ∃ n, loopC (F5.b2 Q) n s w
def F5.vc (x0A : Option Addr) (x0n x0c : Nat) (x1A : Option Addr) (x1n x1c : Nat) (x2A : Option Addr) (x2n x2c : Nat) (w : World) (Q : Value → World → Prop) : Prop :=
  jnC (F5.l2 Q) ((x0A, x0n, x0c), (x1A, x1n, x1c), (x2A, x2n, x2c), (0), ()) w
def F5.an : Ann := ⟨[(2, [(0, .kSl), (1, .kSl), (2, .kSl), (7, .kI .i64)])], []⟩
theorem F5.eq (x0A : Option Addr) (x0n x0c : Nat) (x1A : Option Addr) (x1n x1c : Nat) (x2A : Option Addr) (x2n x2c : Nat) (w : World) (Q : Value → World → Prop) : vcFn Try.prog F5.an 5 [Value.slice x0A x0n x0c, Value.slice x1A x1n x1c, Value.slice x2A x2n x2c] w Q = F5.vc x0A x0n x0c x1A x1n x1c x2A x2n x2c w Q := by kernel_rfl
theorem F5.of (x0A : Option Addr) (x0n x0c : Nat) (x1A : Option Addr) (x1n x1c : Nat) (x2A : Option Addr) (x2n x2c : Nat) (w : World) {Q : Value → World → Prop} (h : F5.vc x0A x0n x0c x1A x1n x1c x2A x2n x2c w Q) : Calls Try.prog 5 #[Value.slice x0A x0n x0c, Value.slice x1A x1n x1c, Value.slice x2A x2n x2c] w (fun e w' => ∃ v, e = .returned v ∧ Q v w') := vcFn_sound noCount mixed ((F5.eq x0A x0n x0c x1A x1n x1c x2A x2n x2c w Q).symm ▸ h)
/-! ### function 6: stillage/reach.Of -/
def F6.k10c (Q : Value → World → Prop) (C3 : ((Option Addr × Nat × Nat) × (Option Addr × Nat × Nat) × (Option Addr × Nat × Nat) × Unit) → World → Prop) (C7 : ((Option Addr × Nat × Nat) × (Option Addr × Nat × Nat) × (Option Addr × Nat × Nat) × (Nat × Nat) × (Option Addr × Nat × Nat) × Int × Int × Unit) → World → Prop) (x1 : (Option Addr × Nat × Nat)) (x5 : (Option Addr × Nat × Nat)) (x6 : (Option Addr × Nat × Nat)) (x7 : (Nat × Nat)) (x9 : (Nat × Nat)) (w : World) : Prop :=
  ldA 32 w x9.1 (x9.2 + 32) fun a30 =>
  gd (a30.length == 32) <|
  nw w (a30 ++ []) 27 fun b31 w32 =>
  app w32 32 32 Z27 27 x5.1 x5.2.1 x5.2.2 (Value.slice (some ⟨b31, 0, none⟩) 1 1) fun A33 n34 c35 w36 =>
  Calls Try.prog 15 #[Value.slice A33 n34 c35] w36 fun e38 w37 =>
  ∃ (A39 : Option Addr) (n40 c41 : Nat), e38 = .returned (Value.slice A39 n40 c41) ∧ (
    ldA 32 w37 x9.1 (x9.2 + 32) fun a42 =>
    ldA 32 w37 x7.1 x7.2 fun a43 =>
    gd (a42.length == 32) <|
    gd (a43.length == 32) <|
    nw w37 (a42 ++ (a43 ++ [])) 27 fun b44 w45 =>
    app w45 32 32 Z27 27 x6.1 x6.2.1 x6.2.2 (Value.slice (some ⟨b44, 0, none⟩) 2 2) fun A46 n47 c48 w49 =>
    jnC C3 ((x1.1, x1.2.1, x1.2.2), (A39, n40, c41), (A46, n47, c48), ()) w49)
def F6.k10 (Q : Value → World → Prop) (C3 : ((Option Addr × Nat × Nat) × (Option Addr × Nat × Nat) × (Option Addr × Nat × Nat) × Unit) → World → Prop) (C7 : ((Option Addr × Nat × Nat) × (Option Addr × Nat × Nat) × (Option Addr × Nat × Nat) × (Nat × Nat) × (Option Addr × Nat × Nat) × Int × Int × Unit) → World → Prop) : ((Option Addr × Nat × Nat) × (Option Addr × Nat × Nat) × (Option Addr × Nat × Nat) × (Nat × Nat) × (Nat × Nat) × Unit) → World → Prop := fun s w => ∀ _ : Nat → Value, F6.k10c Q C3 C7 s.1 s.2.1 s.2.2.1 s.2.2.2.1 s.2.2.2.2.1 w
def F6.b7c (Q : Value → World → Prop) (C3 : ((Option Addr × Nat × Nat) × (Option Addr × Nat × Nat) × (Option Addr × Nat × Nat) × Unit) → World → Prop) (C7 : ((Option Addr × Nat × Nat) × (Option Addr × Nat × Nat) × (Option Addr × Nat × Nat) × (Nat × Nat) × (Option Addr × Nat × Nat) × Int × Int × Unit) → World → Prop) (x1 : (Option Addr × Nat × Nat)) (x5 : (Option Addr × Nat × Nat)) (x6 : (Option Addr × Nat × Nat)) (x7 : (Nat × Nat)) (x22 : (Option Addr × Nat × Nat)) (x23 : Int) (x24 : Int) (w : World) : Prop :=
  vIf (decide (x24 < x23))
  (dr x22.1 fun b17 o18 =>
    gd (decide (0 ≤ x24)) <|
    gd (decide (x24 < ((x22.2.1 : Nat) : Int))) <|
    ldA 64 w b17 (o18 + (x24).toNat * 64) fun a19 =>
    nw w Z29 29 fun b20 w21 =>
    gd (a19.length == 64) <|
    st w21 b20 0 a19 fun w22 =>
    ldA 32 w22 b20 0 fun a23 =>
    ldA 32 w22 x7.1 x7.2 fun a24 =>
    eqAB 32 a23 a24 fun t25 =>
    vIf (!t25)
    (jnC C7 ((x1.1, x1.2.1, x1.2.2), (x5.1, x5.2.1, x5.2.2), (x6.1, x6.2.1, x6.2.2), (x7.1, x7.2), (x22.1, x22.2.1, x22.2.2), (x23), ((IntKind.wrap .i64 (x24 + 1))), ()) w22)
    (ldA 32 w22 b20 (0 + 32) fun a26 =>
      Calls Try.prog 17 #[Value.slice x5.1 x5.2.1 x5.2.2, ofL a26] w22 fun e28 w27 =>
      ∃ t29 : Bool, e28 = .returned (Value.bool t29) ∧ (
        vIf t29
        (jnC C7 ((x1.1, x1.2.1, x1.2.2), (x5.1, x5.2.1, x5.2.2), (x6.1, x6.2.1, x6.2.2), (x7.1, x7.2), (x22.1, x22.2.1, x22.2.2), (x23), ((IntKind.wrap .i64 (x24 + 1))), ()) w27)
        (jnC (F6.k10 Q C3 C7) ((x1.1, x1.2.1, x1.2.2), (x5.1, x5.2.1, x5.2.2), (x6.1, x6.2.1, x6.2.2), (x7.1, x7.2), (b20, 0), ()) w27))))
  (jnC C3 ((x1.1, x1.2.1, x1.2.2), (x5.1, x5.2.1, x5.2.2), (x6.1, x6.2.1, x6.2.2), ()) w)
def F6.b7 (Q : Value → World → Prop) (C3 : ((Option Addr × Nat × Nat) × (Option Addr × Nat × Nat) × (Option Addr × Nat × Nat) × Unit) → World → Prop) : ((Option Addr × Nat × Nat) × (Option Addr × Nat × Nat) × (Option Addr × Nat × Nat) × (Nat × Nat) × (Option Addr × Nat × Nat) × Int × Int × Unit) → World → (((Option Addr × Nat × Nat) × (Option Addr × Nat × Nat) × (Option Addr × Nat × Nat) × (Nat × Nat) × (Option Addr × Nat × Nat) × Int × Int × Unit) → World → Prop) → Prop := fun s w C7 => ∀ _ : Nat → Value, F6.b7c Q C3 C7 s.1 s.2.1 s.2.2.1 s.2.2.2.1 s.2.2.2.2.1 s.2.2.2.2.2.1 s.2.2.2.2.2.2.1 w
def F6.l7 (Q : Value → World → Prop) (C3 : ((Option Addr × Nat × Nat) × (Option Addr × Nat × Nat) × (Option Addr × Nat × Nat) × Unit) → World → Prop) : ((Option Addr × Nat × Nat) × (Option Addr × Nat × Nat) × (Option Addr × Nat × Nat) × (Nat × Nat) × (Option Addr × Nat × Nat) × Int × Int × Unit) → World → Prop := fun s w => ∃ n, loopC (F6.b7 Q C3) n s w
def F6.b3c (Q : Value → World → Prop) (C3 : ((Option Addr × Nat × Nat) × (Option Addr × Nat × Nat) × (Option Addr × Nat × Nat) × Unit) → World → Prop) (x1 : (Option Addr × Nat × Nat)) (x5 : (Option Addr × Nat × Nat)) (x6 : (Option Addr × Nat × Nat)) (w : World) : Prop :=
  vIf (decide (((x6.2.1 : Nat) : Int) > 0))
  (dr x6.1 fun b11 o12 =>
    gd (decide ((0 : Int) < ((x6.2.1 : Nat) : Int))) <|
    ldA 32 w b11 o12 fun a13 =>
    nw w Z27 27 fun b14 w15 =>
    gd (a13.length == 32) <|
    st w15 b14 0 a13 fun w16 =>
    gd (decide ((1 : Int) ≤ ((x6.2.1 : Nat) : Int))) <|
    jnC (F6.l7 Q C3) ((x1.1, x1.2.1, x1.2.2), (x5.1, x5.2.1, x5.2.2), ((slA x6.1 x6.2.2 1 32), (x6.2.1 - 1), (x6.2.2 - 1)), (b14, 0), (x1.1, x1.2.1, x1.2.2), (((x1.2.1 : Nat) : Int)), (0), ()) w16)
  (Q (Value.slice x5.1 x5.2.1 x5.2.2) w)
def F6.b3 (Q : Value → World → Prop) : ((Option Addr × Nat × Nat) × (Option Addr × Nat × Nat) × (Option Addr × Nat × Nat) × Unit) → World → (((Option Addr × Nat × Nat) × (Option Addr × Nat × Nat) × (Option Addr × Nat × Nat) × Unit) → World → Prop) → Prop := fun s w C3 => ∀ _ : Nat → Value, F6.b3c Q C3 s.1 s.2.1 s.2.2.1 w
def F6.l3 (Q : Value → World → Prop) : ((Option Addr × Nat × Nat) × (Option Addr × Nat × Nat) × (Option Addr × Nat × Nat) × Unit) → World → Prop := fun s w => ∃ n, loopC (F6.b3 Q) n s w
def F6.vc (x0A : Option Addr) (x0n x0c : Nat) (x1A : Option Addr) (x1n x1c : Nat) (w : World) (Q : Value → World → Prop) : Prop :=
  Calls Try.prog 15 #[Value.slice x0A x0n x0c] w fun e2 w1 =>
  ∃ (A3 : Option Addr) (n4 c5 : Nat), e2 = .returned (Value.slice A3 n4 c5) ∧ (
    Calls Try.prog 16 #[Value.slice A3 n4 c5] w1 fun e7 w6 =>
    ∃ (A8 : Option Addr) (n9 c10 : Nat), e7 = .returned (Value.slice A8 n9 c10) ∧ (
      jnC (F6.l3 Q) ((x1A, x1n, x1c), (A3, n4, c5), (A8, n9, c10), ()) w6))
def F6.an : Ann := ⟨[(3, [(1, .kSl), (5, .kSl), (6, .kSl)]), (7, [(1, .kSl), (5, .kSl), (6, .kSl), (7, .kL), (22, .kSl), (23, .kI .i64), (24, .kI .i64)])], [(10, [(1, .kSl), (5, .kSl), (6, .kSl), (7, .kL), (9, .kL)])]⟩
theorem F6.eq (x0A : Option Addr) (x0n x0c : Nat) (x1A : Option Addr) (x1n x1c : Nat) (w : World) (Q : Value → World → Prop) : vcFn Try.prog F6.an 6 [Value.slice x0A x0n x0c, Value.slice x1A x1n x1c] w Q = F6.vc x0A x0n x0c x1A x1n x1c w Q := by kernel_rfl
theorem F6.of (x0A : Option Addr) (x0n x0c : Nat) (x1A : Option Addr) (x1n x1c : Nat) (w : World) {Q : Value → World → Prop} (h : F6.vc x0A x0n x0c x1A x1n x1c w Q) : Calls Try.prog 6 #[Value.slice x0A x0n x0c, Value.slice x1A x1n x1c] w (fun e w' => ∃ v, e = .returned v ∧ Q v w') := vcFn_sound noCount mixed ((F6.eq x0A x0n x0c x1A x1n x1c w Q).symm ▸ h)
/-! ### function 7: stillage/stillageref06.Has -/
def F7.b2c (Q : Value → World → Prop) (C2 : ((Option Addr × Nat × Nat) × (Nat × Nat) × Int × Unit) → World → Prop) (x0 : (Option Addr × Nat × Nat)) (x3 : (Nat × Nat)) (x5 : Int) (w : World) : Prop :=
  vIf (decide (x5 < ((x0.2.1 : Nat) : Int)))
  (dr x0.1 fun b3 o4 =>
    gd (decide (0 ≤ x5)) <|
    gd (decide (x5 < ((x0.2.1 : Nat) : Int))) <|
    ldA 32 w.drew b3 (o4 + (x5).toNat * 32) fun a5 =>
    ldA 32 w.drew x3.1 x3.2 fun a6 =>
    eqAB 32 a5 a6 fun t7 =>
    vIf t7
    (Q (Value.bool true) w.drew)
    (jnC C2 ((x0.1, x0.2.1, x0.2.2), (x3.1, x3.2), ((IntKind.wrap .i64 (x5 + 1))), ()) w.drew))
  (Q (Value.bool false) w)
def F7.b2 (Q : Value → World → Prop) : ((Option Addr × Nat × Nat) × (Nat × Nat) × Int × Unit) → World → (((Option Addr × Nat × Nat) × (Nat × Nat) × Int × Unit) → World → Prop) → Prop := fun s w C2 => ∀ _ : Nat → Value, F7.b2c Q C2 s.1 s.2.1 s.2.2.1 w
def F7.l2 (Q : Value → World → Prop) : ((Option Addr × Nat × Nat) × (Nat × Nat) × Int × Unit) → World → Prop := fun s w => ∃ n, loopC (F7.b2 Q) n s w
def F7.vc (x0A : Option Addr) (x0n x0c : Nat) (x1 : List Value) (w : World) (Q : Value → World → Prop) : Prop :=
  nw w x1 27 fun b1 w2 =>
  jnC (F7.l2 Q) ((x0A, x0n, x0c), (b1, 0), (0), ()) w2
def F7.an : Ann := ⟨[(2, [(0, .kSl), (3, .kL), (5, .kI .i64)])], []⟩
theorem F7.eq (x0A : Option Addr) (x0n x0c : Nat) (x1 : List Value) (w : World) (Q : Value → World → Prop) : vcFn Try.prog F7.an 7 [Value.slice x0A x0n x0c, ofL x1] w Q = F7.vc x0A x0n x0c x1 w Q := by kernel_rfl
theorem F7.of (x0A : Option Addr) (x0n x0c : Nat) (x1 : List Value) (w : World) {Q : Value → World → Prop} (h : F7.vc x0A x0n x0c x1 w Q) : Calls Try.prog 7 #[Value.slice x0A x0n x0c, ofL x1] w (fun e w' => ∃ v, e = .returned v ∧ Q v w') := vcFn_sound noCount mixed ((F7.eq x0A x0n x0c x1 w Q).symm ▸ h)
/-! ### function 8: stillage/stillagelaw33.lives -/
def F8.vc  (w : World) (Q : Value → World → Prop) : Prop :=
  gd (([Value.int .u8 1] ++ ([Value.int .u8 0] ++ ([Value.int .u8 0] ++ ([Value.int .u8 0] ++ ([Value.int .u8 0] ++ ([Value.int .u8 0] ++ ([Value.int .u8 0] ++ ([Value.int .u8 0] ++ ([Value.int .u8 0] ++ ([Value.int .u8 0] ++ ([Value.int .u8 0] ++ ([Value.int .u8 0] ++ ([Value.int .u8 0] ++ ([Value.int .u8 0] ++ ([Value.int .u8 0] ++ ([Value.int .u8 0] ++ ([Value.int .u8 0] ++ ([Value.int .u8 0] ++ ([Value.int .u8 0] ++ ([Value.int .u8 0] ++ ([Value.int .u8 0] ++ ([Value.int .u8 0] ++ ([Value.int .u8 0] ++ ([Value.int .u8 0] ++ ([Value.int .u8 0] ++ ([Value.int .u8 0] ++ ([Value.int .u8 0] ++ ([Value.int .u8 0] ++ ([Value.int .u8 0] ++ ([Value.int .u8 0] ++ ([Value.int .u8 0] ++ ([Value.int .u8 0] ++ [])))))))))))))))))))))))))))))))).length == 32) <|
  nw w (([Value.int .u8 1] ++ ([Value.int .u8 0] ++ ([Value.int .u8 0] ++ ([Value.int .u8 0] ++ ([Value.int .u8 0] ++ ([Value.int .u8 0] ++ ([Value.int .u8 0] ++ ([Value.int .u8 0] ++ ([Value.int .u8 0] ++ ([Value.int .u8 0] ++ ([Value.int .u8 0] ++ ([Value.int .u8 0] ++ ([Value.int .u8 0] ++ ([Value.int .u8 0] ++ ([Value.int .u8 0] ++ ([Value.int .u8 0] ++ ([Value.int .u8 0] ++ ([Value.int .u8 0] ++ ([Value.int .u8 0] ++ ([Value.int .u8 0] ++ ([Value.int .u8 0] ++ ([Value.int .u8 0] ++ ([Value.int .u8 0] ++ ([Value.int .u8 0] ++ ([Value.int .u8 0] ++ ([Value.int .u8 0] ++ ([Value.int .u8 0] ++ ([Value.int .u8 0] ++ ([Value.int .u8 0] ++ ([Value.int .u8 0] ++ ([Value.int .u8 0] ++ ([Value.int .u8 0] ++ [])))))))))))))))))))))))))))))))) ++ []) 27 fun b1 w2 =>
  gd (([Value.int .u8 2] ++ ([Value.int .u8 0] ++ ([Value.int .u8 0] ++ ([Value.int .u8 0] ++ ([Value.int .u8 0] ++ ([Value.int .u8 0] ++ ([Value.int .u8 0] ++ ([Value.int .u8 0] ++ ([Value.int .u8 0] ++ ([Value.int .u8 0] ++ ([Value.int .u8 0] ++ ([Value.int .u8 0] ++ ([Value.int .u8 0] ++ ([Value.int .u8 0] ++ ([Value.int .u8 0] ++ ([Value.int .u8 0] ++ ([Value.int .u8 0] ++ ([Value.int .u8 0] ++ ([Value.int .u8 0] ++ ([Value.int .u8 0] ++ ([Value.int .u8 0] ++ ([Value.int .u8 0] ++ ([Value.int .u8 0] ++ ([Value.int .u8 0] ++ ([Value.int .u8 0] ++ ([Value.int .u8 0] ++ ([Value.int .u8 0] ++ ([Value.int .u8 0] ++ ([Value.int .u8 0] ++ ([Value.int .u8 0] ++ ([Value.int .u8 0] ++ ([Value.int .u8 0] ++ [])))))))))))))))))))))))))))))))).length == 32) <|
  gd (([Value.int .u8 3] ++ ([Value.int .u8 0] ++ ([Value.int .u8 0] ++ ([Value.int .u8 0] ++ ([Value.int .u8 0] ++ ([Value.int .u8 0] ++ ([Value.int .u8 0] ++ ([Value.int .u8 0] ++ ([Value.int .u8 0] ++ ([Value.int .u8 0] ++ ([Value.int .u8 0] ++ ([Value.int .u8 0] ++ ([Value.int .u8 0] ++ ([Value.int .u8 0] ++ ([Value.int .u8 0] ++ ([Value.int .u8 0] ++ ([Value.int .u8 0] ++ ([Value.int .u8 0] ++ ([Value.int .u8 0] ++ ([Value.int .u8 0] ++ ([Value.int .u8 0] ++ ([Value.int .u8 0] ++ ([Value.int .u8 0] ++ ([Value.int .u8 0] ++ ([Value.int .u8 0] ++ ([Value.int .u8 0] ++ ([Value.int .u8 0] ++ ([Value.int .u8 0] ++ ([Value.int .u8 0] ++ ([Value.int .u8 0] ++ ([Value.int .u8 0] ++ ([Value.int .u8 0] ++ [])))))))))))))))))))))))))))))))).length == 32) <|
  gd (([Value.int .u8 1] ++ ([Value.int .u8 0] ++ ([Value.int .u8 0] ++ ([Value.int .u8 0] ++ ([Value.int .u8 0] ++ ([Value.int .u8 0] ++ ([Value.int .u8 0] ++ ([Value.int .u8 0] ++ ([Value.int .u8 0] ++ ([Value.int .u8 0] ++ ([Value.int .u8 0] ++ ([Value.int .u8 0] ++ ([Value.int .u8 0] ++ ([Value.int .u8 0] ++ ([Value.int .u8 0] ++ ([Value.int .u8 0] ++ ([Value.int .u8 0] ++ ([Value.int .u8 0] ++ ([Value.int .u8 0] ++ ([Value.int .u8 0] ++ ([Value.int .u8 0] ++ ([Value.int .u8 0] ++ ([Value.int .u8 0] ++ ([Value.int .u8 0] ++ ([Value.int .u8 0] ++ ([Value.int .u8 0] ++ ([Value.int .u8 0] ++ ([Value.int .u8 0] ++ ([Value.int .u8 0] ++ ([Value.int .u8 0] ++ ([Value.int .u8 0] ++ ([Value.int .u8 0] ++ [])))))))))))))))))))))))))))))))).length == 32) <|
  gd (([Value.int .u8 2] ++ ([Value.int .u8 0] ++ ([Value.int .u8 0] ++ ([Value.int .u8 0] ++ ([Value.int .u8 0] ++ ([Value.int .u8 0] ++ ([Value.int .u8 0] ++ ([Value.int .u8 0] ++ ([Value.int .u8 0] ++ ([Value.int .u8 0] ++ ([Value.int .u8 0] ++ ([Value.int .u8 0] ++ ([Value.int .u8 0] ++ ([Value.int .u8 0] ++ ([Value.int .u8 0] ++ ([Value.int .u8 0] ++ ([Value.int .u8 0] ++ ([Value.int .u8 0] ++ ([Value.int .u8 0] ++ ([Value.int .u8 0] ++ ([Value.int .u8 0] ++ ([Value.int .u8 0] ++ ([Value.int .u8 0] ++ ([Value.int .u8 0] ++ ([Value.int .u8 0] ++ ([Value.int .u8 0] ++ ([Value.int .u8 0] ++ ([Value.int .u8 0] ++ ([Value.int .u8 0] ++ ([Value.int .u8 0] ++ ([Value.int .u8 0] ++ ([Value.int .u8 0] ++ [])))))))))))))))))))))))))))))))).length == 32) <|
  gd (([Value.int .u8 4] ++ ([Value.int .u8 0] ++ ([Value.int .u8 0] ++ ([Value.int .u8 0] ++ ([Value.int .u8 0] ++ ([Value.int .u8 0] ++ ([Value.int .u8 0] ++ ([Value.int .u8 0] ++ ([Value.int .u8 0] ++ ([Value.int .u8 0] ++ ([Value.int .u8 0] ++ ([Value.int .u8 0] ++ ([Value.int .u8 0] ++ ([Value.int .u8 0] ++ ([Value.int .u8 0] ++ ([Value.int .u8 0] ++ ([Value.int .u8 0] ++ ([Value.int .u8 0] ++ ([Value.int .u8 0] ++ ([Value.int .u8 0] ++ ([Value.int .u8 0] ++ ([Value.int .u8 0] ++ ([Value.int .u8 0] ++ ([Value.int .u8 0] ++ ([Value.int .u8 0] ++ ([Value.int .u8 0] ++ ([Value.int .u8 0] ++ ([Value.int .u8 0] ++ ([Value.int .u8 0] ++ ([Value.int .u8 0] ++ ([Value.int .u8 0] ++ ([Value.int .u8 0] ++ [])))))))))))))))))))))))))))))))).length == 32) <|
  gd (([Value.int .u8 5] ++ ([Value.int .u8 0] ++ ([Value.int .u8 0] ++ ([Value.int .u8 0] ++ ([Value.int .u8 0] ++ ([Value.int .u8 0] ++ ([Value.int .u8 0] ++ ([Value.int .u8 0] ++ ([Value.int .u8 0] ++ ([Value.int .u8 0] ++ ([Value.int .u8 0] ++ ([Value.int .u8 0] ++ ([Value.int .u8 0] ++ ([Value.int .u8 0] ++ ([Value.int .u8 0] ++ ([Value.int .u8 0] ++ ([Value.int .u8 0] ++ ([Value.int .u8 0] ++ ([Value.int .u8 0] ++ ([Value.int .u8 0] ++ ([Value.int .u8 0] ++ ([Value.int .u8 0] ++ ([Value.int .u8 0] ++ ([Value.int .u8 0] ++ ([Value.int .u8 0] ++ ([Value.int .u8 0] ++ ([Value.int .u8 0] ++ ([Value.int .u8 0] ++ ([Value.int .u8 0] ++ ([Value.int .u8 0] ++ ([Value.int .u8 0] ++ ([Value.int .u8 0] ++ [])))))))))))))))))))))))))))))))).length == 32) <|
  gd ((([Value.int .u8 2] ++ ([Value.int .u8 0] ++ ([Value.int .u8 0] ++ ([Value.int .u8 0] ++ ([Value.int .u8 0] ++ ([Value.int .u8 0] ++ ([Value.int .u8 0] ++ ([Value.int .u8 0] ++ ([Value.int .u8 0] ++ ([Value.int .u8 0] ++ ([Value.int .u8 0] ++ ([Value.int .u8 0] ++ ([Value.int .u8 0] ++ ([Value.int .u8 0] ++ ([Value.int .u8 0] ++ ([Value.int .u8 0] ++ ([Value.int .u8 0] ++ ([Value.int .u8 0] ++ ([Value.int .u8 0] ++ ([Value.int .u8 0] ++ ([Value.int .u8 0] ++ ([Value.int .u8 0] ++ ([Value.int .u8 0] ++ ([Value.int .u8 0] ++ ([Value.int .u8 0] ++ ([Value.int .u8 0] ++ ([Value.int .u8 0] ++ ([Value.int .u8 0] ++ ([Value.int .u8 0] ++ ([Value.int .u8 0] ++ ([Value.int .u8 0] ++ ([Value.int .u8 0] ++ [])))))))))))))))))))))))))))))))) ++ (([Value.int .u8 3] ++ ([Value.int .u8 0] ++ ([Value.int .u8 0] ++ ([Value.int .u8 0] ++ ([Value.int .u8 0] ++ ([Value.int .u8 0] ++ ([Value.int .u8 0] ++ ([Value.int .u8 0] ++ ([Value.int .u8 0] ++ ([Value.int .u8 0] ++ ([Value.int .u8 0] ++ ([Value.int .u8 0] ++ ([Value.int .u8 0] ++ ([Value.int .u8 0] ++ ([Value.int .u8 0] ++ ([Value.int .u8 0] ++ ([Value.int .u8 0] ++ ([Value.int .u8 0] ++ ([Value.int .u8 0] ++ ([Value.int .u8 0] ++ ([Value.int .u8 0] ++ ([Value.int .u8 0] ++ ([Value.int .u8 0] ++ ([Value.int .u8 0] ++ ([Value.int .u8 0] ++ ([Value.int .u8 0] ++ ([Value.int .u8 0] ++ ([Value.int .u8 0] ++ ([Value.int .u8 0] ++ ([Value.int .u8 0] ++ ([Value.int .u8 0] ++ ([Value.int .u8 0] ++ [])))))))))))))))))))))))))))))))) ++ [])).length == 64) <|
  gd ((([Value.int .u8 1] ++ ([Value.int .u8 0] ++ ([Value.int .u8 0] ++ ([Value.int .u8 0] ++ ([Value.int .u8 0] ++ ([Value.int .u8 0] ++ ([Value.int .u8 0] ++ ([Value.int .u8 0] ++ ([Value.int .u8 0] ++ ([Value.int .u8 0] ++ ([Value.int .u8 0] ++ ([Value.int .u8 0] ++ ([Value.int .u8 0] ++ ([Value.int .u8 0] ++ ([Value.int .u8 0] ++ ([Value.int .u8 0] ++ ([Value.int .u8 0] ++ ([Value.int .u8 0] ++ ([Value.int .u8 0] ++ ([Value.int .u8 0] ++ ([Value.int .u8 0] ++ ([Value.int .u8 0] ++ ([Value.int .u8 0] ++ ([Value.int .u8 0] ++ ([Value.int .u8 0] ++ ([Value.int .u8 0] ++ ([Value.int .u8 0] ++ ([Value.int .u8 0] ++ ([Value.int .u8 0] ++ ([Value.int .u8 0] ++ ([Value.int .u8 0] ++ ([Value.int .u8 0] ++ [])))))))))))))))))))))))))))))))) ++ (([Value.int .u8 2] ++ ([Value.int .u8 0] ++ ([Value.int .u8 0] ++ ([Value.int .u8 0] ++ ([Value.int .u8 0] ++ ([Value.int .u8 0] ++ ([Value.int .u8 0] ++ ([Value.int .u8 0] ++ ([Value.int .u8 0] ++ ([Value.int .u8 0] ++ ([Value.int .u8 0] ++ ([Value.int .u8 0] ++ ([Value.int .u8 0] ++ ([Value.int .u8 0] ++ ([Value.int .u8 0] ++ ([Value.int .u8 0] ++ ([Value.int .u8 0] ++ ([Value.int .u8 0] ++ ([Value.int .u8 0] ++ ([Value.int .u8 0] ++ ([Value.int .u8 0] ++ ([Value.int .u8 0] ++ ([Value.int .u8 0] ++ ([Value.int .u8 0] ++ ([Value.int .u8 0] ++ ([Value.int .u8 0] ++ ([Value.int .u8 0] ++ ([Value.int .u8 0] ++ ([Value.int .u8 0] ++ ([Value.int .u8 0] ++ ([Value.int .u8 0] ++ ([Value.int .u8 0] ++ [])))))))))))))))))))))))))))))))) ++ [])).length == 64) <|
  gd ((([Value.int .u8 4] ++ ([Value.int .u8 0] ++ ([Value.int .u8 0] ++ ([Value.int .u8 0] ++ ([Value.int .u8 0] ++ ([Value.int .u8 0] ++ ([Value.int .u8 0] ++ ([Value.int .u8 0] ++ ([Value.int .u8 0] ++ ([Value.int .u8 0] ++ ([Value.int .u8 0] ++ ([Value.int .u8 0] ++ ([Value.int .u8 0] ++ ([Value.int .u8 0] ++ ([Value.int .u8 0] ++ ([Value.int .u8 0] ++ ([Value.int .u8 0] ++ ([Value.int .u8 0] ++ ([Value.int .u8 0] ++ ([Value.int .u8 0] ++ ([Value.int .u8 0] ++ ([Value.int .u8 0] ++ ([Value.int .u8 0] ++ ([Value.int .u8 0] ++ ([Value.int .u8 0] ++ ([Value.int .u8 0] ++ ([Value.int .u8 0] ++ ([Value.int .u8 0] ++ ([Value.int .u8 0] ++ ([Value.int .u8 0] ++ ([Value.int .u8 0] ++ ([Value.int .u8 0] ++ [])))))))))))))))))))))))))))))))) ++ (([Value.int .u8 5] ++ ([Value.int .u8 0] ++ ([Value.int .u8 0] ++ ([Value.int .u8 0] ++ ([Value.int .u8 0] ++ ([Value.int .u8 0] ++ ([Value.int .u8 0] ++ ([Value.int .u8 0] ++ ([Value.int .u8 0] ++ ([Value.int .u8 0] ++ ([Value.int .u8 0] ++ ([Value.int .u8 0] ++ ([Value.int .u8 0] ++ ([Value.int .u8 0] ++ ([Value.int .u8 0] ++ ([Value.int .u8 0] ++ ([Value.int .u8 0] ++ ([Value.int .u8 0] ++ ([Value.int .u8 0] ++ ([Value.int .u8 0] ++ ([Value.int .u8 0] ++ ([Value.int .u8 0] ++ ([Value.int .u8 0] ++ ([Value.int .u8 0] ++ ([Value.int .u8 0] ++ ([Value.int .u8 0] ++ ([Value.int .u8 0] ++ ([Value.int .u8 0] ++ ([Value.int .u8 0] ++ ([Value.int .u8 0] ++ ([Value.int .u8 0] ++ ([Value.int .u8 0] ++ [])))))))))))))))))))))))))))))))) ++ [])).length == 64) <|
  nw w2 ((([Value.int .u8 2] ++ ([Value.int .u8 0] ++ ([Value.int .u8 0] ++ ([Value.int .u8 0] ++ ([Value.int .u8 0] ++ ([Value.int .u8 0] ++ ([Value.int .u8 0] ++ ([Value.int .u8 0] ++ ([Value.int .u8 0] ++ ([Value.int .u8 0] ++ ([Value.int .u8 0] ++ ([Value.int .u8 0] ++ ([Value.int .u8 0] ++ ([Value.int .u8 0] ++ ([Value.int .u8 0] ++ ([Value.int .u8 0] ++ ([Value.int .u8 0] ++ ([Value.int .u8 0] ++ ([Value.int .u8 0] ++ ([Value.int .u8 0] ++ ([Value.int .u8 0] ++ ([Value.int .u8 0] ++ ([Value.int .u8 0] ++ ([Value.int .u8 0] ++ ([Value.int .u8 0] ++ ([Value.int .u8 0] ++ ([Value.int .u8 0] ++ ([Value.int .u8 0] ++ ([Value.int .u8 0] ++ ([Value.int .u8 0] ++ ([Value.int .u8 0] ++ ([Value.int .u8 0] ++ [])))))))))))))))))))))))))))))))) ++ (([Value.int .u8 3] ++ ([Value.int .u8 0] ++ ([Value.int .u8 0] ++ ([Value.int .u8 0] ++ ([Value.int .u8 0] ++ ([Value.int .u8 0] ++ ([Value.int .u8 0] ++ ([Value.int .u8 0] ++ ([Value.int .u8 0] ++ ([Value.int .u8 0] ++ ([Value.int .u8 0] ++ ([Value.int .u8 0] ++ ([Value.int .u8 0] ++ ([Value.int .u8 0] ++ ([Value.int .u8 0] ++ ([Value.int .u8 0] ++ ([Value.int .u8 0] ++ ([Value.int .u8 0] ++ ([Value.int .u8 0] ++ ([Value.int .u8 0] ++ ([Value.int .u8 0] ++ ([Value.int .u8 0] ++ ([Value.int .u8 0] ++ ([Value.int .u8 0] ++ ([Value.int .u8 0] ++ ([Value.int .u8 0] ++ ([Value.int .u8 0] ++ ([Value.int .u8 0] ++ ([Value.int .u8 0] ++ ([Value.int .u8 0] ++ ([Value.int .u8 0] ++ ([Value.int .u8 0] ++ [])))))))))))))))))))))))))))))))) ++ [])) ++ ((([Value.int .u8 1] ++ ([Value.int .u8 0] ++ ([Value.int .u8 0] ++ ([Value.int .u8 0] ++ ([Value.int .u8 0] ++ ([Value.int .u8 0] ++ ([Value.int .u8 0] ++ ([Value.int .u8 0] ++ ([Value.int .u8 0] ++ ([Value.int .u8 0] ++ ([Value.int .u8 0] ++ ([Value.int .u8 0] ++ ([Value.int .u8 0] ++ ([Value.int .u8 0] ++ ([Value.int .u8 0] ++ ([Value.int .u8 0] ++ ([Value.int .u8 0] ++ ([Value.int .u8 0] ++ ([Value.int .u8 0] ++ ([Value.int .u8 0] ++ ([Value.int .u8 0] ++ ([Value.int .u8 0] ++ ([Value.int .u8 0] ++ ([Value.int .u8 0] ++ ([Value.int .u8 0] ++ ([Value.int .u8 0] ++ ([Value.int .u8 0] ++ ([Value.int .u8 0] ++ ([Value.int .u8 0] ++ ([Value.int .u8 0] ++ ([Value.int .u8 0] ++ ([Value.int .u8 0] ++ [])))))))))))))))))))))))))))))))) ++ (([Value.int .u8 2] ++ ([Value.int .u8 0] ++ ([Value.int .u8 0] ++ ([Value.int .u8 0] ++ ([Value.int .u8 0] ++ ([Value.int .u8 0] ++ ([Value.int .u8 0] ++ ([Value.int .u8 0] ++ ([Value.int .u8 0] ++ ([Value.int .u8 0] ++ ([Value.int .u8 0] ++ ([Value.int .u8 0] ++ ([Value.int .u8 0] ++ ([Value.int .u8 0] ++ ([Value.int .u8 0] ++ ([Value.int .u8 0] ++ ([Value.int .u8 0] ++ ([Value.int .u8 0] ++ ([Value.int .u8 0] ++ ([Value.int .u8 0] ++ ([Value.int .u8 0] ++ ([Value.int .u8 0] ++ ([Value.int .u8 0] ++ ([Value.int .u8 0] ++ ([Value.int .u8 0] ++ ([Value.int .u8 0] ++ ([Value.int .u8 0] ++ ([Value.int .u8 0] ++ ([Value.int .u8 0] ++ ([Value.int .u8 0] ++ ([Value.int .u8 0] ++ ([Value.int .u8 0] ++ [])))))))))))))))))))))))))))))))) ++ [])) ++ ((([Value.int .u8 4] ++ ([Value.int .u8 0] ++ ([Value.int .u8 0] ++ ([Value.int .u8 0] ++ ([Value.int .u8 0] ++ ([Value.int .u8 0] ++ ([Value.int .u8 0] ++ ([Value.int .u8 0] ++ ([Value.int .u8 0] ++ ([Value.int .u8 0] ++ ([Value.int .u8 0] ++ ([Value.int .u8 0] ++ ([Value.int .u8 0] ++ ([Value.int .u8 0] ++ ([Value.int .u8 0] ++ ([Value.int .u8 0] ++ ([Value.int .u8 0] ++ ([Value.int .u8 0] ++ ([Value.int .u8 0] ++ ([Value.int .u8 0] ++ ([Value.int .u8 0] ++ ([Value.int .u8 0] ++ ([Value.int .u8 0] ++ ([Value.int .u8 0] ++ ([Value.int .u8 0] ++ ([Value.int .u8 0] ++ ([Value.int .u8 0] ++ ([Value.int .u8 0] ++ ([Value.int .u8 0] ++ ([Value.int .u8 0] ++ ([Value.int .u8 0] ++ ([Value.int .u8 0] ++ [])))))))))))))))))))))))))))))))) ++ (([Value.int .u8 5] ++ ([Value.int .u8 0] ++ ([Value.int .u8 0] ++ ([Value.int .u8 0] ++ ([Value.int .u8 0] ++ ([Value.int .u8 0] ++ ([Value.int .u8 0] ++ ([Value.int .u8 0] ++ ([Value.int .u8 0] ++ ([Value.int .u8 0] ++ ([Value.int .u8 0] ++ ([Value.int .u8 0] ++ ([Value.int .u8 0] ++ ([Value.int .u8 0] ++ ([Value.int .u8 0] ++ ([Value.int .u8 0] ++ ([Value.int .u8 0] ++ ([Value.int .u8 0] ++ ([Value.int .u8 0] ++ ([Value.int .u8 0] ++ ([Value.int .u8 0] ++ ([Value.int .u8 0] ++ ([Value.int .u8 0] ++ ([Value.int .u8 0] ++ ([Value.int .u8 0] ++ ([Value.int .u8 0] ++ ([Value.int .u8 0] ++ ([Value.int .u8 0] ++ ([Value.int .u8 0] ++ ([Value.int .u8 0] ++ ([Value.int .u8 0] ++ ([Value.int .u8 0] ++ [])))))))))))))))))))))))))))))))) ++ [])) ++ []))) 29 fun b3 w4 =>
  Calls Try.prog 6 #[Value.slice (some ⟨b1, 0, none⟩) 1 1, Value.slice (some ⟨b3, 0, none⟩) 3 3] w4 fun e6 w5 =>
  ∃ (A7 : Option Addr) (n8 c9 : Nat), e6 = .returned (Value.slice A7 n8 c9) ∧ (
    vIf (((n8 : Nat) : Int) == 3)
    (dr A7 fun b10 o11 =>
      gd (decide ((2 : Int) < ((n8 : Nat) : Int))) <|
      ldA 32 w5 b10 (o11 + 64) fun a12 =>
      eqAB 32 a12 ([Value.int .u8 3] ++ ([Value.int .u8 0] ++ ([Value.int .u8 0] ++ ([Value.int .u8 0] ++ ([Value.int .u8 0] ++ ([Value.int .u8 0] ++ ([Value.int .u8 0] ++ ([Value.int .u8 0] ++ ([Value.int .u8 0] ++ ([Value.int .u8 0] ++ ([Value.int .u8 0] ++ ([Value.int .u8 0] ++ ([Value.int .u8 0] ++ ([Value.int .u8 0] ++ ([Value.int .u8 0] ++ ([Value.int .u8 0] ++ ([Value.int .u8 0] ++ ([Value.int .u8 0] ++ ([Value.int .u8 0] ++ ([Value.int .u8 0] ++ ([Value.int .u8 0] ++ ([Value.int .u8 0] ++ ([Value.int .u8 0] ++ ([Value.int .u8 0] ++ ([Value.int .u8 0] ++ ([Value.int .u8 0] ++ ([Value.int .u8 0] ++ ([Value.int .u8 0] ++ ([Value.int .u8 0] ++ ([Value.int .u8 0] ++ ([Value.int .u8 0] ++ ([Value.int .u8 0] ++ [])))))))))))))))))))))))))))))))) fun t13 =>
      Q (Value.bool t13) w5)
    (Q (Value.bool false) w5))
def F8.an : Ann := ⟨[], []⟩
theorem F8.eq  (w : World) (Q : Value → World → Prop) : vcFn Try.prog F8.an 8 [] w Q = F8.vc  w Q := by kernel_rfl
theorem F8.of  (w : World) {Q : Value → World → Prop} (h : F8.vc  w Q) : Calls Try.prog 8 #[] w (fun e w' => ∃ v, e = .returned v ∧ Q v w') := vcFn_sound noCount mixed ((F8.eq  w Q).symm ▸ h)
/-! ### function 9: stillage/stillageref06.Same -/
def F9.b4c (Q : Value → World → Prop) (C4 : ((Option Addr × Nat × Nat) × (Option Addr × Nat × Nat) × Int × Unit) → World → Prop) (x0 : (Option Addr × Nat × Nat)) (x1 : (Option Addr × Nat × Nat)) (x5 : Int) (w : World) : Prop :=
  vIf (decide (x5 < ((x0.2.1 : Nat) : Int)))
  (dr x0.1 fun b1 o2 =>
    gd (decide (0 ≤ x5)) <|
    gd (decide (x5 < ((x0.2.1 : Nat) : Int))) <|
    ldA 32 w.drew b1 (o2 + (x5).toNat * 32) fun a3 =>
    dr x1.1 fun b4 o5 =>
    gd (decide (0 ≤ x5)) <|
    gd (decide (x5 < ((x1.2.1 : Nat) : Int))) <|
    ldA 32 w.drew b4 (o5 + (x5).toNat * 32) fun a6 =>
    eqAB 32 a3 a6 fun t7 =>
    vIf (!t7)
    (Q (Value.bool false) w.drew)
    (jnC C4 ((x0.1, x0.2.1, x0.2.2), (x1.1, x1.2.1, x1.2.2), ((IntKind.wrap .i64 (x5 + 1))), ()) w.drew))
  (Q (Value.bool true) w)
def F9.b4 (Q : Value → World → Prop) : ((Option Addr × Nat × Nat) × (Option Addr × Nat × Nat) × Int × Unit) → World → (((Option Addr × Nat × Nat) × (Option Addr × Nat × Nat) × Int × Unit) → World → Prop) → Prop := fun s w C4 => ∀ _ : Nat → Value, F9.b4c Q C4 s.1 s.2.1 s.2.2.1 w
def F9.l4 (Q : Value → World → Prop) : ((Option Addr × Nat × Nat) × (Option Addr × Nat × Nat) × Int × Unit) → World → Prop := fun s w => ∃ n, loopC (F9.b4 Q) n s w
def F9.vc (x0A : Option Addr) (x0n x0c : Nat) (x1A : Option Addr) (x1n x1c : Nat) (w : World) (Q : Value → World → Prop) : Prop :=
  vIf (((x0n : Nat) : Int) != ((x1n : Nat) : Int))
  (Q (Value.bool false) w)
  (jnC (F9.l4 Q) ((x0A, x0n, x0c), (x1A, x1n, x1c), (0), ()) w)
def F9.an : Ann := ⟨[(4, [(0, .kSl), (1, .kSl), (5, .kI .i64)])], []⟩
theorem F9.eq (x0A : Option Addr) (x0n x0c : Nat) (x1A : Option Addr) (x1n x1c : Nat) (w : World) (Q : Value → World → Prop) : vcFn Try.prog F9.an 9 [Value.slice x0A x0n x0c, Value.slice x1A x1n x1c] w Q = F9.vc x0A x0n x0c x1A x1n x1c w Q := by kernel_rfl
theorem F9.of (x0A : Option Addr) (x0n x0c : Nat) (x1A : Option Addr) (x1n x1c : Nat) (w : World) {Q : Value → World → Prop} (h : F9.vc x0A x0n x0c x1A x1n x1c w Q) : Calls Try.prog 9 #[Value.slice x0A x0n x0c, Value.slice x1A x1n x1c] w (fun e w' => ∃ v, e = .returned v ∧ Q v w') := vcFn_sound noCount mixed ((F9.eq x0A x0n x0c x1A x1n x1c w Q).symm ▸ h)
/-! ### function 10: stillage/reach.Users -/
def F10.b3c (Q : Value → World → Prop) (C3 : ((Nat × Nat) × (Option Addr × Nat × Nat) × (Option Addr × Nat × Nat) × Int × Int × Unit) → World → Prop) (x2 : (Nat × Nat)) (x5 : (Option Addr × Nat × Nat)) (x8 : (Option Addr × Nat × Nat)) (x9 : Int) (x10 : Int) (w : World) : Prop :=
  vIf (decide (x10 < x9))
  (dr x8.1 fun b3 o4 =>
    gd (decide (0 ≤ x10)) <|
    gd (decide (x10 < ((x8.2.1 : Nat) : Int))) <|
    ldA 64 w b3 (o4 + (x10).toNat * 64) fun a5 =>
    nw w Z29 29 fun b6 w7 =>
    gd (a5.length == 64) <|
    st w7 b6 0 a5 fun w8 =>
    ldA 32 w8 b6 (0 + 32) fun a9 =>
    ldA 32 w8 x2.1 x2.2 fun a10 =>
    eqAB 32 a9 a10 fun t11 =>
    vIf t11
    (ldA 32 w8 b6 0 fun a12 =>
      gd (a12.length == 32) <|
      nw w8 (a12 ++ []) 27 fun b13 w14 =>
      app w14 32 32 Z27 27 x5.1 x5.2.1 x5.2.2 (Value.slice (some ⟨b13, 0, none⟩) 1 1) fun A15 n16 c17 w18 =>
      jnC C3 ((x2.1, x2.2), (A15, n16, c17), (x8.1, x8.2.1, x8.2.2), (x9), ((IntKind.wrap .i64 (x10 + 1))), ()) w18)
    (jnC C3 ((x2.1, x2.2), (x5.1, x5.2.1, x5.2.2), (x8.1, x8.2.1, x8.2.2), (x9), ((IntKind.wrap .i64 (x10 + 1))), ()) w8))
  (Calls Try.prog 15 #[Value.slice x5.1 x5.2.1 x5.2.2] w fun e20 w19 =>
    ∃ (A21 : Option Addr) (n22 c23 : Nat), e20 = .returned (Value.slice A21 n22 c23) ∧ (
      Q (Value.slice A21 n22 c23) w19))
def F10.b3 (Q : Value → World → Prop) : ((Nat × Nat) × (Option Addr × Nat × Nat) × (Option Addr × Nat × Nat) × Int × Int × Unit) → World → (((Nat × Nat) × (Option Addr × Nat × Nat) × (Option Addr × Nat × Nat) × Int × Int × Unit) → World → Prop) → Prop := fun s w C3 => ∀ _ : Nat → Value, F10.b3c Q C3 s.1 s.2.1 s.2.2.1 s.2.2.2.1 s.2.2.2.2.1 w
def F10.l3 (Q : Value → World → Prop) : ((Nat × Nat) × (Option Addr × Nat × Nat) × (Option Addr × Nat × Nat) × Int × Int × Unit) → World → Prop := fun s w => ∃ n, loopC (F10.b3 Q) n s w
def F10.vc (x0 : List Value) (x1A : Option Addr) (x1n x1c : Nat) (w : World) (Q : Value → World → Prop) : Prop :=
  nw w x0 27 fun b1 w2 =>
  jnC (F10.l3 Q) ((b1, 0), (none, 0, 0), (x1A, x1n, x1c), (((x1n : Nat) : Int)), (0), ()) w2
def F10.an : Ann := ⟨[(3, [(2, .kL), (5, .kSl), (8, .kSl), (9, .kI .i64), (10, .kI .i64)])], []⟩
theorem F10.eq (x0 : List Value) (x1A : Option Addr) (x1n x1c : Nat) (w : World) (Q : Value → World → Prop) : vcFn Try.prog F10.an 10 [ofL x0, Value.slice x1A x1n x1c] w Q = F10.vc x0 x1A x1n x1c w Q := by kernel_rfl
theorem F10.of (x0 : List Value) (x1A : Option Addr) (x1n x1c : Nat) (w : World) {Q : Value → World → Prop} (h : F10.vc x0 x1A x1n x1c w Q) : Calls Try.prog 10 #[ofL x0, Value.slice x1A x1n x1c] w (fun e w' => ∃ v, e = .returned v ∧ Q v w') := vcFn_sound noCount mixed ((F10.eq x0 x1A x1n x1c w Q).symm ▸ h)
/-! ### function 11: stillage/stillageref33.Users -/
def F11.b3c (Q : Value → World → Prop) (C3 : ((Option Addr × Nat × Nat) × (Nat × Nat) × (Option Addr × Nat × Nat) × Int × Unit) → World → Prop) (x1 : (Option Addr × Nat × Nat)) (x2 : (Nat × Nat)) (x5 : (Option Addr × Nat × Nat)) (x6 : Int) (w : World) : Prop :=
  vIf (decide (x6 < ((x1.2.1 : Nat) : Int)))
  (dr x1.1 fun b3 o4 =>
    gd (decide (0 ≤ x6)) <|
    gd (decide (x6 < ((x1.2.1 : Nat) : Int))) <|
    ldA 32 w.drew b3 ((o4 + (x6).toNat * 64) + 32) fun a5 =>
    ldA 32 w.drew x2.1 x2.2 fun a6 =>
    eqAB 32 a5 a6 fun t7 =>
    vIf t7
    (dr x1.1 fun b8 o9 =>
      gd (decide (0 ≤ x6)) <|
      gd (decide (x6 < ((x1.2.1 : Nat) : Int))) <|
      ldA 32 w.drew b8 (o9 + (x6).toNat * 64) fun a10 =>
      Calls Try.prog 18 #[Value.slice x5.1 x5.2.1 x5.2.2, ofL a10] w.drew fun e12 w11 =>
      ∃ (A13 : Option Addr) (n14 c15 : Nat), e12 = .returned (Value.slice A13 n14 c15) ∧ (
        jnC C3 ((x1.1, x1.2.1, x1.2.2), (x2.1, x2.2), (A13, n14, c15), ((IntKind.wrap .i64 (x6 + 1))), ()) w11))
    (jnC C3 ((x1.1, x1.2.1, x1.2.2), (x2.1, x2.2), (x5.1, x5.2.1, x5.2.2), ((IntKind.wrap .i64 (x6 + 1))), ()) w.drew))
  (Q (Value.slice x5.1 x5.2.1 x5.2.2) w)
def F11.b3 (Q : Value → World → Prop) : ((Option Addr × Nat × Nat) × (Nat × Nat) × (Option Addr × Nat × Nat) × Int × Unit) → World → (((Option Addr × Nat × Nat) × (Nat × Nat) × (Option Addr × Nat × Nat) × Int × Unit) → World → Prop) → Prop := fun s w C3 => ∀ _ : Nat → Value, F11.b3c Q C3 s.1 s.2.1 s.2.2.1 s.2.2.2.1 w
def F11.l3 (Q : Value → World → Prop) : ((Option Addr × Nat × Nat) × (Nat × Nat) × (Option Addr × Nat × Nat) × Int × Unit) → World → Prop := fun s w => ∃ n, loopC (F11.b3 Q) n s w
def F11.vc (x0 : List Value) (x1A : Option Addr) (x1n x1c : Nat) (w : World) (Q : Value → World → Prop) : Prop :=
  nw w x0 27 fun b1 w2 =>
  jnC (F11.l3 Q) ((x1A, x1n, x1c), (b1, 0), (none, 0, 0), (0), ()) w2
def F11.an : Ann := ⟨[(3, [(1, .kSl), (2, .kL), (5, .kSl), (6, .kI .i64)])], []⟩
theorem F11.eq (x0 : List Value) (x1A : Option Addr) (x1n x1c : Nat) (w : World) (Q : Value → World → Prop) : vcFn Try.prog F11.an 11 [ofL x0, Value.slice x1A x1n x1c] w Q = F11.vc x0 x1A x1n x1c w Q := by kernel_rfl
theorem F11.of (x0 : List Value) (x1A : Option Addr) (x1n x1c : Nat) (w : World) {Q : Value → World → Prop} (h : F11.vc x0 x1A x1n x1c w Q) : Calls Try.prog 11 #[ofL x0, Value.slice x1A x1n x1c] w (fun e w' => ∃ v, e = .returned v ∧ Q v w') := vcFn_sound noCount mixed ((F11.eq x0 x1A x1n x1c w Q).symm ▸ h)
/-! ### function 12: stillage/stillageref33.Of -/
def F12.b6c (Q : Value → World → Prop) (C3 : ((Option Addr × Nat × Nat) × (Option Addr × Nat × Nat) × Int × Unit) → World → Prop) (C6 : ((Option Addr × Nat × Nat) × (Option Addr × Nat × Nat) × Int × Int × Unit) → World → Prop) (x1 : (Option Addr × Nat × Nat)) (x5 : (Option Addr × Nat × Nat)) (x6 : Int) (x7 : Int) (w : World) : Prop :=
  vIf (decide (x7 < ((x1.2.1 : Nat) : Int)))
  (dr x1.1 fun b6 o7 =>
    gd (decide (0 ≤ x7)) <|
    gd (decide (x7 < ((x1.2.1 : Nat) : Int))) <|
    ldA 32 w b6 (o7 + (x7).toNat * 64) fun a8 =>
    Calls Try.prog 7 #[Value.slice x5.1 x5.2.1 x5.2.2, ofL a8] w fun e10 w9 =>
    ∃ t11 : Bool, e10 = .returned (Value.bool t11) ∧ (
      vIf t11
      (dr x1.1 fun b12 o13 =>
        gd (decide (0 ≤ x7)) <|
        gd (decide (x7 < ((x1.2.1 : Nat) : Int))) <|
        ldA 32 w9 b12 ((o13 + (x7).toNat * 64) + 32) fun a14 =>
        Calls Try.prog 18 #[Value.slice x5.1 x5.2.1 x5.2.2, ofL a14] w9 fun e16 w15 =>
        ∃ (A17 : Option Addr) (n18 c19 : Nat), e16 = .returned (Value.slice A17 n18 c19) ∧ (
          jnC C6 ((x1.1, x1.2.1, x1.2.2), (A17, n18, c19), (x6), ((IntKind.wrap .i64 (x7 + 1))), ()) w15))
      (jnC C6 ((x1.1, x1.2.1, x1.2.2), (x5.1, x5.2.1, x5.2.2), (x6), ((IntKind.wrap .i64 (x7 + 1))), ()) w9)))
  (jnC C3 ((x1.1, x1.2.1, x1.2.2), (x5.1, x5.2.1, x5.2.2), ((IntKind.wrap .i64 (x6 + 1))), ()) w)
def F12.b6 (Q : Value → World → Prop) (C3 : ((Option Addr × Nat × Nat) × (Option Addr × Nat × Nat) × Int × Unit) → World → Prop) : ((Option Addr × Nat × Nat) × (Option Addr × Nat × Nat) × Int × Int × Unit) → World → (((Option Addr × Nat × Nat) × (Option Addr × Nat × Nat) × Int × Int × Unit) → World → Prop) → Prop := fun s w C6 => ∀ _ : Nat → Value, F12.b6c Q C3 C6 s.1 s.2.1 s.2.2.1 s.2.2.2.1 w
def F12.l6 (Q : Value → World → Prop) (C3 : ((Option Addr × Nat × Nat) × (Option Addr × Nat × Nat) × Int × Unit) → World → Prop) : ((Option Addr × Nat × Nat) × (Option Addr × Nat × Nat) × Int × Int × Unit) → World → Prop := fun s w => ∃ n, loopC (F12.b6 Q C3) n s w
def F12.b3c (Q : Value → World → Prop) (C3 : ((Option Addr × Nat × Nat) × (Option Addr × Nat × Nat) × Int × Unit) → World → Prop) (x1 : (Option Addr × Nat × Nat)) (x5 : (Option Addr × Nat × Nat)) (x6 : Int) (w : World) : Prop :=
  vIf (decide (x6 ≤ ((x1.2.1 : Nat) : Int)))
  (jnC (F12.l6 Q C3) ((x1.1, x1.2.1, x1.2.2), (x5.1, x5.2.1, x5.2.2), (x6), (0), ()) w)
  (Q (Value.slice x5.1 x5.2.1 x5.2.2) w)
def F12.b3 (Q : Value → World → Prop) : ((Option Addr × Nat × Nat) × (Option Addr × Nat × Nat) × Int × Unit) → World → (((Option Addr × Nat × Nat) × (Option Addr × Nat × Nat) × Int × Unit) → World → Prop) → Prop := fun s w C3 => ∀ _ : Nat → Value, F12.b3c Q C3 s.1 s.2.1 s.2.2.1 w
def F12.l3 (Q : Value → World → Prop) : ((Option Addr × Nat × Nat) × (Option Addr × Nat × Nat) × Int × Unit) → World → Prop := fun s w => ∃ n, loopC (F12.b3 Q) n s w
def F12.vc (x0A : Option Addr) (x0n x0c : Nat) (x1A : Option Addr) (x1n x1c : Nat) (w : World) (Q : Value → World → Prop) : Prop :=
  Calls Try.prog 19 #[Value.slice x0A x0n x0c] w fun e2 w1 =>
  ∃ (A3 : Option Addr) (n4 c5 : Nat), e2 = .returned (Value.slice A3 n4 c5) ∧ (
    jnC (F12.l3 Q) ((x1A, x1n, x1c), (A3, n4, c5), (0), ()) w1)
def F12.an : Ann := ⟨[(3, [(1, .kSl), (5, .kSl), (6, .kI .i64)]), (6, [(1, .kSl), (5, .kSl), (6, .kI .i64), (7, .kI .i64)])], []⟩
theorem F12.eq (x0A : Option Addr) (x0n x0c : Nat) (x1A : Option Addr) (x1n x1c : Nat) (w : World) (Q : Value → World → Prop) : vcFn Try.prog F12.an 12 [Value.slice x0A x0n x0c, Value.slice x1A x1n x1c] w Q = F12.vc x0A x0n x0c x1A x1n x1c w Q := by kernel_rfl
theorem F12.of (x0A : Option Addr) (x0n x0c : Nat) (x1A : Option Addr) (x1n x1c : Nat) (w : World) {Q : Value → World → Prop} (h : F12.vc x0A x0n x0c x1A x1n x1c w Q) : Calls Try.prog 12 #[Value.slice x0A x0n x0c, Value.slice x1A x1n x1c] w (fun e w' => ∃ v, e = .returned v ∧ Q v w') := vcFn_sound noCount mixed ((F12.eq x0A x0n x0c x1A x1n x1c w Q).symm ▸ h)
/-! ### function 13: stillage/reach.Missing -/
def F13.vc (x0A : Option Addr) (x0n x0c : Nat) (x1A : Option Addr) (x1n x1c : Nat) (x2A : Option Addr) (x2n x2c : Nat) (w : World) (Q : Value → World → Prop) : Prop :=
  Calls Try.prog 6 #[Value.slice x1A x1n x1c, Value.slice x2A x2n x2c] w fun e2 w1 =>
  ∃ (A3 : Option Addr) (n4 c5 : Nat), e2 = .returned (Value.slice A3 n4 c5) ∧ (
    nw w1 [Value.slice none 0 0] 22 fun b6 w7 =>
    st w7 b6 0 [Value.slice A3 n4 c5] fun w8 =>
    Calls Try.prog 15 #[Value.slice x0A x0n x0c] w8 fun e10 w9 =>
    ∃ (A11 : Option Addr) (n12 c13 : Nat), e10 = .returned (Value.slice A11 n12 c13) ∧ (
      Calls Try.prog 20 #[Value.slice A11 n12 c13, Value.func (.func 21) #[] #[Value.pointer (some ⟨b6, 0, none⟩)]] w9 fun e15 w14 =>
      ∃ (A16 : Option Addr) (n17 c18 : Nat), e15 = .returned (Value.slice A16 n17 c18) ∧ (
        Q (Value.slice A16 n17 c18) w14)))
def F13.an : Ann := ⟨[], []⟩
theorem F13.eq (x0A : Option Addr) (x0n x0c : Nat) (x1A : Option Addr) (x1n x1c : Nat) (x2A : Option Addr) (x2n x2c : Nat) (w : World) (Q : Value → World → Prop) : vcFn Try.prog F13.an 13 [Value.slice x0A x0n x0c, Value.slice x1A x1n x1c, Value.slice x2A x2n x2c] w Q = F13.vc x0A x0n x0c x1A x1n x1c x2A x2n x2c w Q := by kernel_rfl
theorem F13.of (x0A : Option Addr) (x0n x0c : Nat) (x1A : Option Addr) (x1n x1c : Nat) (x2A : Option Addr) (x2n x2c : Nat) (w : World) {Q : Value → World → Prop} (h : F13.vc x0A x0n x0c x1A x1n x1c x2A x2n x2c w Q) : Calls Try.prog 13 #[Value.slice x0A x0n x0c, Value.slice x1A x1n x1c, Value.slice x2A x2n x2c] w (fun e w' => ∃ v, e = .returned v ∧ Q v w') := vcFn_sound noCount mixed ((F13.eq x0A x0n x0c x1A x1n x1c x2A x2n x2c w Q).symm ▸ h)
/-! ### function 14: stillage/stillageref33.Missing -/
def F14.b5c (Q : Value → World → Prop) (C5 : ((Option Addr × Nat × Nat) × (Option Addr × Nat × Nat) × (Option Addr × Nat × Nat) × Int × Unit) → World → Prop) (x7 : (Option Addr × Nat × Nat)) (x8 : (Option Addr × Nat × Nat)) (x9 : (Option Addr × Nat × Nat)) (x10 : Int) (w : World) : Prop :=
  vIf (decide (x10 < ((x9.2.1 : Nat) : Int)))
  (dr x9.1 fun b11 o12 =>
    gd (decide (0 ≤ x10)) <|
    gd (decide (x10 < ((x9.2.1 : Nat) : Int))) <|
    ldA 32 w b11 (o12 + (x10).toNat * 32) fun a13 =>
    Calls Try.prog 7 #[Value.slice x7.1 x7.2.1 x7.2.2, ofL a13] w fun e15 w14 =>
    ∃ t16 : Bool, e15 = .returned (Value.bool t16) ∧ (
      vIf (!t16)
      (dr x9.1 fun b17 o18 =>
        gd (decide (0 ≤ x10)) <|
        gd (decide (x10 < ((x9.2.1 : Nat) : Int))) <|
        ldA 32 w14 b17 (o18 + (x10).toNat * 32) fun a19 =>
        gd (a19.length == 32) <|
        nw w14 (a19 ++ []) 27 fun b20 w21 =>
        app w21 32 32 Z27 27 x8.1 x8.2.1 x8.2.2 (Value.slice (some ⟨b20, 0, none⟩) 1 1) fun A22 n23 c24 w25 =>
        jnC C5 ((x7.1, x7.2.1, x7.2.2), (A22, n23, c24), (x9.1, x9.2.1, x9.2.2), ((IntKind.wrap .i64 (x10 + 1))), ()) w25)
      (jnC C5 ((x7.1, x7.2.1, x7.2.2), (x8.1, x8.2.1, x8.2.2), (x9.1, x9.2.1, x9.2.2), ((IntKind.wrap .i64 (x10 + 1))), ()) w14)))
  (Q (Value.slice x8.1 x8.2.1 x8.2.2) w)
def F14.b5 (Q : Value → World → Prop) : ((Option Addr × Nat × Nat) × (Option Addr × Nat × Nat) × (Option Addr × Nat × Nat) × Int × Unit) → World → (((Option Addr × Nat × Nat) × (Option Addr × Nat × Nat) × (Option Addr × Nat × Nat) × Int × Unit) → World → Prop) → Prop := fun s w C5 => ∀ _ : Nat → Value, F14.b5c Q C5 s.1 s.2.1 s.2.2.1 s.2.2.2.1 w
def F14.l5 (Q : Value → World → Prop) : ((Option Addr × Nat × Nat) × (Option Addr × Nat × Nat) × (Option Addr × Nat × Nat) × Int × Unit) → World → Prop := fun s w => ∃ n, loopC (F14.b5 Q) n s w
def F14.vc (x0A : Option Addr) (x0n x0c : Nat) (x1A : Option Addr) (x1n x1c : Nat) (x2A : Option Addr) (x2n x2c : Nat) (w : World) (Q : Value → World → Prop) : Prop :=
  Calls Try.prog 12 #[Value.slice x1A x1n x1c, Value.slice x2A x2n x2c] w fun e2 w1 =>
  ∃ (A3 : Option Addr) (n4 c5 : Nat), e2 = .returned (Value.slice A3 n4 c5) ∧ (
    Calls Try.prog 19 #[Value.slice x0A x0n x0c] w1 fun e7 w6 =>
    ∃ (A8 : Option Addr) (n9 c10 : Nat), e7 = .returned (Value.slice A8 n9 c10) ∧ (
      jnC (F14.l5 Q) ((A3, n4, c5), (none, 0, 0), (A8, n9, c10), (0), ()) w6))
def F14.an : Ann := ⟨[(5, [(7, .kSl), (8, .kSl), (9, .kSl), (10, .kI .i64)])], []⟩
theorem F14.eq (x0A : Option Addr) (x0n x0c : Nat) (x1A : Option Addr) (x1n x1c : Nat) (x2A : Option Addr) (x2n x2c : Nat) (w : World) (Q : Value → World → Prop) : vcFn Try.prog F14.an 14 [Value.slice x0A x0n x0c, Value.slice x1A x1n x1c, Value.slice x2A x2n x2c] w Q = F14.vc x0A x0n x0c x1A x1n x1c x2A x2n x2c w Q := by kernel_rfl
theorem F14.of (x0A : Option Addr) (x0n x0c : Nat) (x1A : Option Addr) (x1n x1c : Nat) (x2A : Option Addr) (x2n x2c : Nat) (w : World) {Q : Value → World → Prop} (h : F14.vc x0A x0n x0c x1A x1n x1c x2A x2n x2c w Q) : Calls Try.prog 14 #[Value.slice x0A x0n x0c, Value.slice x1A x1n x1c, Value.slice x2A x2n x2c] w (fun e w' => ∃ v, e = .returned v ∧ Q v w') := vcFn_sound noCount mixed ((F14.eq x0A x0n x0c x1A x1n x1c x2A x2n x2c w Q).symm ▸ h)
/-! ### function 15: stillage/digest.Row -/
def F15.vc (x0A : Option Addr) (x0n x0c : Nat) (w : World) (Q : Value → World → Prop) : Prop :=
  Calls Try.prog 16 #[Value.slice x0A x0n x0c] w fun e2 w1 =>
  ∃ (A3 : Option Addr) (n4 c5 : Nat), e2 = .returned (Value.slice A3 n4 c5) ∧ (
    Calls Try.prog 22 #[Value.slice A3 n4 c5, Value.func (.func 23) #[] #[]] w1 fun e7 w6 =>
    e7 = .returned (Value.tuple #[]) ∧ (
      Calls Try.prog 24 #[Value.slice A3 n4 c5] w6 fun e9 w8 =>
      ∃ (A10 : Option Addr) (n11 c12 : Nat), e9 = .returned (Value.slice A10 n11 c12) ∧ (
        Q (Value.slice A10 n11 c12) w8)))
def F15.an : Ann := ⟨[], []⟩
theorem F15.eq (x0A : Option Addr) (x0n x0c : Nat) (w : World) (Q : Value → World → Prop) : vcFn Try.prog F15.an 15 [Value.slice x0A x0n x0c] w Q = F15.vc x0A x0n x0c w Q := by kernel_rfl
theorem F15.of (x0A : Option Addr) (x0n x0c : Nat) (w : World) {Q : Value → World → Prop} (h : F15.vc x0A x0n x0c w Q) : Calls Try.prog 15 #[Value.slice x0A x0n x0c] w (fun e w' => ∃ v, e = .returned v ∧ Q v w') := vcFn_sound noCount mixed ((F15.eq x0A x0n x0c w Q).symm ▸ h)
/-! ### function 16: slices.Clone[[]stillage/api.Digest,stillage/api.Digest] -/
def F16.vc (x0A : Option Addr) (x0n x0c : Nat) (w : World) (Q : Value → World → Prop) : Prop :=
  vIf x0A.isNone
  (Q (Value.slice none 0 0) w)
  (nw w [] 27 fun b1 w2 =>
    app w2 32 32 Z27 27 (some ⟨b1, 0, none⟩) 0 0 (Value.slice x0A x0n x0c) fun A3 n4 c5 w6 =>
    Q (Value.slice A3 n4 c5) w6)
def F16.an : Ann := ⟨[], []⟩
theorem F16.eq (x0A : Option Addr) (x0n x0c : Nat) (w : World) (Q : Value → World → Prop) : vcFn Try.prog F16.an 16 [Value.slice x0A x0n x0c] w Q = F16.vc x0A x0n x0c w Q := by kernel_rfl
theorem F16.of (x0A : Option Addr) (x0n x0c : Nat) (w : World) {Q : Value → World → Prop} (h : F16.vc x0A x0n x0c w Q) : Calls Try.prog 16 #[Value.slice x0A x0n x0c] w (fun e w' => ∃ v, e = .returned v ∧ Q v w') := vcFn_sound noCount mixed ((F16.eq x0A x0n x0c w Q).symm ▸ h)
/-! ### function 17: stillage/digest.Has -/
def F17.vc (x0A : Option Addr) (x0n x0c : Nat) (x1 : List Value) (w : World) (Q : Value → World → Prop) : Prop :=
  nw w x1 27 fun b1 w2 =>
  ldA 32 w2 b1 0 fun a3 =>
  Calls Try.prog 25 #[Value.slice x0A x0n x0c, ofL a3, Value.func (.func 23) #[] #[]] w2 fun e5 w4 =>
  ∃ i6 : Int, ∃ t7 : Bool, e5 = .returned (Value.tuple #[Value.int .i64 i6, Value.bool t7]) ∧ (
    Q (Value.bool t7) w4)
def F17.an : Ann := ⟨[], []⟩
theorem F17.eq (x0A : Option Addr) (x0n x0c : Nat) (x1 : List Value) (w : World) (Q : Value → World → Prop) : vcFn Try.prog F17.an 17 [Value.slice x0A x0n x0c, ofL x1] w Q = F17.vc x0A x0n x0c x1 w Q := by kernel_rfl
theorem F17.of (x0A : Option Addr) (x0n x0c : Nat) (x1 : List Value) (w : World) {Q : Value → World → Prop} (h : F17.vc x0A x0n x0c x1 w Q) : Calls Try.prog 17 #[Value.slice x0A x0n x0c, ofL x1] w (fun e w' => ∃ v, e = .returned v ∧ Q v w') := vcFn_sound noCount mixed ((F17.eq x0A x0n x0c x1 w Q).symm ▸ h)
/-! ### function 18: stillage/stillageref06.Put -/
def F18.k10c (Q : Value → World → Prop) (C4 : ((Option Addr × Nat × Nat) × (Nat × Nat) × (Option Addr × Nat × Nat) × Bool × Int × Unit) → World → Prop) (x0 : (Option Addr × Nat × Nat)) (x3 : (Nat × Nat)) (x5 : (Option Addr × Nat × Nat)) (x6 : Bool) (x7 : Int) (w : World) : Prop :=
  dr x0.1 fun b22 o23 =>
  gd (decide (0 ≤ x7)) <|
  gd (decide (x7 < ((x0.2.1 : Nat) : Int))) <|
  ldA 32 w b22 (o23 + (x7).toNat * 32) fun a24 =>
  gd (a24.length == 32) <|
  nw w (a24 ++ []) 27 fun b25 w26 =>
  app w26 32 32 Z27 27 x5.1 x5.2.1 x5.2.2 (Value.slice (some ⟨b25, 0, none⟩) 1 1) fun A27 n28 c29 w30 =>
  jnC C4 ((x0.1, x0.2.1, x0.2.2), (x3.1, x3.2), (A27, n28, c29), x6, ((IntKind.wrap .i64 (x7 + 1))), ()) w30
def F18.k10 (Q : Value → World → Prop) (C4 : ((Option Addr × Nat × Nat) × (Nat × Nat) × (Option Addr × Nat × Nat) × Bool × Int × Unit) → World → Prop) : ((Option Addr × Nat × Nat) × (Nat × Nat) × (Option Addr × Nat × Nat) × Bool × Int × Unit) → World → Prop := fun s w => ∀ _ : Nat → Value, F18.k10c Q C4 s.1 s.2.1 s.2.2.1 s.2.2.2.1 s.2.2.2.2.1 w
def F18.k7c (Q : Value → World → Prop) (C4 : ((Option Addr × Nat × Nat) × (Nat × Nat) × (Option Addr × Nat × Nat) × Bool × Int × Unit) → World → Prop) (x0 : (Option Addr × Nat × Nat)) (x3 : (Nat × Nat)) (x5 : (Option Addr × Nat × Nat)) (x6 : Bool) (x7 : Int) (x24 : Bool) (w : World) : Prop :=
  vIf x24
  (dr x0.1 fun b10 o11 =>
    gd (decide (0 ≤ x7)) <|
    gd (decide (x7 < ((x0.2.1 : Nat) : Int))) <|
    ldA 32 w.drew b10 (o11 + (x7).toNat * 32) fun a12 =>
    ldA 32 w.drew x3.1 x3.2 fun a13 =>
    eqAB 32 a12 a13 fun t14 =>
    vIf (!t14)
    (ldA 32 w.drew x3.1 x3.2 fun a15 =>
      gd (a15.length == 32) <|
      nw w.drew (a15 ++ []) 27 fun b16 w17 =>
      app w17 32 32 Z27 27 x5.1 x5.2.1 x5.2.2 (Value.slice (some ⟨b16, 0, none⟩) 1 1) fun A18 n19 c20 w21 =>
      jnC (F18.k10 Q C4) ((x0.1, x0.2.1, x0.2.2), (x3.1, x3.2), (A18, n19, c20), true, (x7), ()) w21)
    (jnC (F18.k10 Q C4) ((x0.1, x0.2.1, x0.2.2), (x3.1, x3.2), (x5.1, x5.2.1, x5.2.2), true, (x7), ()) w.drew))
  (jnC (F18.k10 Q C4) ((x0.1, x0.2.1, x0.2.2), (x3.1, x3.2), (x5.1, x5.2.1, x5.2.2), x6, (x7), ()) w)
def F18.k7 (Q : Value → World → Prop) (C4 : ((Option Addr × Nat × Nat) × (Nat × Nat) × (Option Addr × Nat × Nat) × Bool × Int × Unit) → World → Prop) : ((Option Addr × Nat × Nat) × (Nat × Nat) × (Option Addr × Nat × Nat) × Bool × Int × Bool × Unit) → World → Prop := fun s w => ∀ _ : Nat → Value, F18.k7c Q C4 s.1 s.2.1 s.2.2.1 s.2.2.2.1 s.2.2.2.2.1 s.2.2.2.2.2.1 w
def F18.b4c (Q : Value → World → Prop) (C4 : ((Option Addr × Nat × Nat) × (Nat × Nat) × (Option Addr × Nat × Nat) × Bool × Int × Unit) → World → Prop) (x0 : (Option Addr × Nat × Nat)) (x3 : (Nat × Nat)) (x5 : (Option Addr × Nat × Nat)) (x6 : Bool) (x7 : Int) (w : World) : Prop :=
  vIf (decide (x7 < ((x0.2.1 : Nat) : Int)))
  (vIf (!x6)
    (dr x0.1 fun b3 o4 =>
      gd (decide (0 ≤ x7)) <|
      gd (decide (x7 < ((x0.2.1 : Nat) : Int))) <|
      ldA 32 w.drew b3 (o4 + (x7).toNat * 32) fun a5 =>
      ldA 32 w.drew x3.1 x3.2 fun a6 =>
      Calls Try.prog 26 #[ofL a5, ofL a6] w.drew fun e8 w7 =>
      ∃ t9 : Bool, e8 = .returned (Value.bool t9) ∧ (
        jnC (F18.k7 Q C4) ((x0.1, x0.2.1, x0.2.2), (x3.1, x3.2), (x5.1, x5.2.1, x5.2.2), x6, (x7), (!t9), ()) w7))
    (jnC (F18.k7 Q C4) ((x0.1, x0.2.1, x0.2.2), (x3.1, x3.2), (x5.1, x5.2.1, x5.2.2), x6, (x7), false, ()) w.drew))
  (vIf (!x6)
    (ldA 32 w x3.1 x3.2 fun a31 =>
      gd (a31.length == 32) <|
      nw w (a31 ++ []) 27 fun b32 w33 =>
      app w33 32 32 Z27 27 x5.1 x5.2.1 x5.2.2 (Value.slice (some ⟨b32, 0, none⟩) 1 1) fun A34 n35 c36 w37 =>
      Q (Value.slice A34 n35 c36) w37)
    (Q (Value.slice x5.1 x5.2.1 x5.2.2) w))
def F18.b4 (Q : Value → World → Prop) : ((Option Addr × Nat × Nat) × (Nat × Nat) × (Option Addr × Nat × Nat) × Bool × Int × Unit) → World → (((Option Addr × Nat × Nat) × (Nat × Nat) × (Option Addr × Nat × Nat) × Bool × Int × Unit) → World → Prop) → Prop := fun s w C4 => ∀ _ : Nat → Value, F18.b4c Q C4 s.1 s.2.1 s.2.2.1 s.2.2.2.1 s.2.2.2.2.1 w
def F18.l4 (Q : Value → World → Prop) : ((Option Addr × Nat × Nat) × (Nat × Nat) × (Option Addr × Nat × Nat) × Bool × Int × Unit) → World → Prop := fun s w => ∃ n, loopC (F18.b4 Q) n s w
def F18.vc (x0A : Option Addr) (x0n x0c : Nat) (x1 : List Value) (w : World) (Q : Value → World → Prop) : Prop :=
  nw w x1 27 fun b1 w2 =>
  jnC (F18.l4 Q) ((x0A, x0n, x0c), (b1, 0), (none, 0, 0), false, (0), ()) w2
def F18.an : Ann := ⟨[(4, [(0, .kSl), (3, .kL), (5, .kSl), (6, .kB), (7, .kI .i64)])], [(7, [(0, .kSl), (3, .kL), (5, .kSl), (6, .kB), (7, .kI .i64), (24, .kB)]), (10, [(0, .kSl), (3, .kL), (5, .kSl), (6, .kB), (7, .kI .i64)])]⟩
theorem F18.eq (x0A : Option Addr) (x0n x0c : Nat) (x1 : List Value) (w : World) (Q : Value → World → Prop) : vcFn Try.prog F18.an 18 [Value.slice x0A x0n x0c, ofL x1] w Q = F18.vc x0A x0n x0c x1 w Q := by kernel_rfl
theorem F18.of (x0A : Option Addr) (x0n x0c : Nat) (x1 : List Value) (w : World) {Q : Value → World → Prop} (h : F18.vc x0A x0n x0c x1 w Q) : Calls Try.prog 18 #[Value.slice x0A x0n x0c, ofL x1] w (fun e w' => ∃ v, e = .returned v ∧ Q v w') := vcFn_sound noCount mixed ((F18.eq x0A x0n x0c x1 w Q).symm ▸ h)
/-! ### function 19: stillage/stillageref06.Row -/
def F19.b3c (Q : Value → World → Prop) (C3 : ((Option Addr × Nat × Nat) × (Option Addr × Nat × Nat) × Int × Unit) → World → Prop) (x0 : (Option Addr × Nat × Nat)) (x3 : (Option Addr × Nat × Nat)) (x4 : Int) (w : World) : Prop :=
  vIf (decide (x4 < ((x0.2.1 : Nat) : Int)))
  (dr x0.1 fun b1 o2 =>
    gd (decide (0 ≤ x4)) <|
    gd (decide (x4 < ((x0.2.1 : Nat) : Int))) <|
    ldA 32 w b1 (o2 + (x4).toNat * 32) fun a3 =>
    Calls Try.prog 18 #[Value.slice x3.1 x3.2.1 x3.2.2, ofL a3] w fun e5 w4 =>
    ∃ (A6 : Option Addr) (n7 c8 : Nat), e5 = .returned (Value.slice A6 n7 c8) ∧ (
      jnC C3 ((x0.1, x0.2.1, x0.2.2), (A6, n7, c8), ((IntKind.wrap .i64 (x4 + 1))), ()) w4))
  (Q (Value.slice x3.1 x3.2.1 x3.2.2) w)
def F19.b3 (Q : Value → World → Prop) : ((Option Addr × Nat × Nat) × (Option Addr × Nat × Nat) × Int × Unit) → World → (((Option Addr × Nat × Nat) × (Option Addr × Nat × Nat) × Int × Unit) → World → Prop) → Prop := fun s w C3 => ∀ _ : Nat → Value, F19.b3c Q C3 s.1 s.2.1 s.2.2.1 w
def F19.l3 (Q : Value → World → Prop) : ((Option Addr × Nat × Nat) × (Option Addr × Nat × Nat) × Int × Unit) → World → Prop := fun s w => ∃ n, loopC (F19.b3 Q) n s w
def F19.vc (x0A : Option Addr) (x0n x0c : Nat) (w : World) (Q : Value → World → Prop) : Prop :=
  jnC (F19.l3 Q) ((x0A, x0n, x0c), (none, 0, 0), (0), ()) w
def F19.an : Ann := ⟨[(3, [(0, .kSl), (3, .kSl), (4, .kI .i64)])], []⟩
theorem F19.eq (x0A : Option Addr) (x0n x0c : Nat) (w : World) (Q : Value → World → Prop) : vcFn Try.prog F19.an 19 [Value.slice x0A x0n x0c] w Q = F19.vc x0A x0n x0c w Q := by kernel_rfl
theorem F19.of (x0A : Option Addr) (x0n x0c : Nat) (w : World) {Q : Value → World → Prop} (h : F19.vc x0A x0n x0c w Q) : Calls Try.prog 19 #[Value.slice x0A x0n x0c] w (fun e w' => ∃ v, e = .returned v ∧ Q v w') := vcFn_sound noCount mixed ((F19.eq x0A x0n x0c w Q).symm ▸ h)
/-! ### function 20: slices.DeleteFunc[[]stillage/api.Digest,stillage/api.Digest] -/
def F20s.k12c (Q : Value → World → Prop) (x0 : (Option Addr × Nat × Nat)) (x5 : Int) (w : World) : Prop :=
  gd (decide (0 ≤ x5)) <|
  gd (decide (x5 ≤ ((x0.2.2 : Nat) : Int))) <|
  Q (Value.slice (slA x0.1 x0.2.2 0 32) (x5).toNat x0.2.2) w
def F20s.k12 (Q : Value → World → Prop) : ((Option Addr × Nat × Nat) × Int × Unit) → World → Prop := fun s w => ∀ _ : Nat → Value, F20s.k12c Q s.1 s.2.1 w
def F20s.b5c (Q : Value → World → Prop) (C5 : ((Option Addr × Nat × Nat) × (Nat × Nat) × Int × Int × Unit) → World → Prop) (x0 : (Option Addr × Nat × Nat)) (x1 : (Nat × Nat)) (x5 : Int) (x6 : Int) (w : World) : Prop :=
  vIf (decide (x6 < ((x0.2.1 : Nat) : Int)))
  (dr x0.1 fun b4 o5 =>
    gd (decide (0 ≤ x6)) <|
    gd (decide (x6 < ((x0.2.1 : Nat) : Int))) <|
    ldA 32 w b4 (o5 + (x6).toNat * 32) fun a6 =>
    nw w Z27 27 fun b7 w8 =>
    gd (a6.length == 32) <|
    st w8 b7 0 a6 fun w9 =>
    ldA 32 w9 b7 0 fun a10 =>
    Calls Try.prog 21 #[ofL a10, Value.pointer (some ⟨x1.1, x1.2, none⟩)] w9 fun e12 w11 =>
    ∃ t13 : Bool, e12 = .returned (Value.bool t13) ∧ (
      vIf (!t13)
      (ldA 32 w11 b7 0 fun a14 =>
        dr x0.1 fun b15 o16 =>
        gd (decide (0 ≤ x5)) <|
        gd (decide (x5 < ((x0.2.1 : Nat) : Int))) <|
        gd (a14.length == 32) <|
        st w11 b15 (o16 + (x5).toNat * 32) a14 fun w17 =>
        jnC C5 ((x0.1, x0.2.1, x0.2.2), (x1.1, x1.2), ((IntKind.wrap .i64 (x5 + 1))), ((IntKind.wrap .i64 (x6 + 1))), ()) w17)
      (jnC C5 ((x0.1, x0.2.1, x0.2.2), (x1.1, x1.2), (x5), ((IntKind.wrap .i64 (x6 + 1))), ()) w11)))
  (gd (decide (0 ≤ x5)) <|
    gd (decide (x5 ≤ ((x0.2.1 : Nat) : Int))) <|
    vIf ((x0.2.1 - (x5).toNat) == 0)
    (jnC (F20s.k12 Q) ((x0.1, x0.2.1, x0.2.2), (x5), ()) w)
    (dr (slA x0.1 x0.2.2 (x5).toNat 32) fun b19 o20 =>
      st w b19 o20 (zeros (x0.2.1 - (x5).toNat) Z27) fun w18 =>
      jnC (F20s.k12 Q) ((x0.1, x0.2.1, x0.2.2), (x5), ()) w18))
def F20s.b5 (Q : Value → World → Prop) : ((Option Addr × Nat × Nat) × (Nat × Nat) × Int × Int × Unit) → World → (((Option Addr × Nat × Nat) × (Nat × Nat) × Int × Int × Unit) → World → Prop) → Prop := fun s w C5 => ∀ _ : Nat → Value, F20s.b5c Q C5 s.1 s.2.1 s.2.2.1 s.2.2.2.1 w
def F20s.l5 (Q : Value → World → Prop) : ((Option Addr × Nat × Nat) × (Nat × Nat) × Int × Int × Unit) → World → Prop := fun s w => ∃ n, loopC (F20s.b5 Q) n s w
def F20s.vc (x0A : Option Addr) (x0n x0c : Nat) (x1 : Nat × Nat) (w : World) (Q : Value → World → Prop) : Prop :=
  Calls Try.prog 27 #[Value.slice x0A x0n x0c, Value.func (.func 21) #[] #[Value.pointer (some ⟨x1.1, x1.2, none⟩)]] w fun e2 w1 =>
  ∃ i3 : Int, e2 = .returned (Value.int .i64 i3) ∧ (
    vIf (i3 == (-1))
    (Q (Value.slice x0A x0n x0c) w1)
    (jnC (F20s.l5 Q) ((x0A, x0n, x0c), (x1.1, x1.2), (i3), ((IntKind.wrap .i64 (i3 + 1))), ()) w1))
def F20s.an : Ann := ⟨[(5, [(0, .kSl), (1, .kG 21), (5, .kI .i64), (6, .kI .i64)])], [(12, [(0, .kSl), (5, .kI .i64)])]⟩
theorem F20s.eq (x0A : Option Addr) (x0n x0c : Nat) (x1 : Nat × Nat) (w : World) (Q : Value → World → Prop) : vcFn Try.prog F20s.an 20 [Value.slice x0A x0n x0c, Value.func (.func 21) #[] #[Value.pointer (some ⟨x1.1, x1.2, none⟩)]] w Q = F20s.vc x0A x0n x0c x1 w Q := by kernel_rfl
theorem F20s.of (x0A : Option Addr) (x0n x0c : Nat) (x1 : Nat × Nat) (w : World) {Q : Value → World → Prop} (h : F20s.vc x0A x0n x0c x1 w Q) : Calls Try.prog 20 #[Value.slice x0A x0n x0c, Value.func (.func 21) #[] #[Value.pointer (some ⟨x1.1, x1.2, none⟩)]] w (fun e w' => ∃ v, e = .returned v ∧ Q v w') := vcFn_sound noCount mixed ((F20s.eq x0A x0n x0c x1 w Q).symm ▸ h)
/-! ### function 21: stillage/reach.Missing$1 -/
def F21.vc (x0 : List Value) (x1 : Nat × Nat) (w : World) (Q : Value → World → Prop) : Prop :=
  nw w x0 27 fun b1 w2 =>
  ldSl w2 x1.1 x1.2 fun A3 n4 c5 =>
  ldA 32 w2 b1 0 fun a6 =>
  Calls Try.prog 17 #[Value.slice A3 n4 c5, ofL a6] w2 fun e8 w7 =>
  ∃ t9 : Bool, e8 = .returned (Value.bool t9) ∧ (
    Q (Value.bool t9) w7)
def F21.an : Ann := ⟨[], []⟩
theorem F21.eq (x0 : List Value) (x1 : Nat × Nat) (w : World) (Q : Value → World → Prop) : vcFn Try.prog F21.an 21 [ofL x0, Value.pointer (some ⟨x1.1, x1.2, none⟩)] w Q = F21.vc x0 x1 w Q := by kernel_rfl
theorem F21.of (x0 : List Value) (x1 : Nat × Nat) (w : World) {Q : Value → World → Prop} (h : F21.vc x0 x1 w Q) : Calls Try.prog 21 #[ofL x0, Value.pointer (some ⟨x1.1, x1.2, none⟩)] w (fun e w' => ∃ v, e = .returned v ∧ Q v w') := vcFn_sound noCount mixed ((F21.eq x0 x1 w Q).symm ▸ h)
/-! ### function 23: stillage/digest.Cmp -/
def F23.vc (x0 : List Value) (x1 : List Value) (w : World) (Q : Value → World → Prop) : Prop :=
  nw w x0 27 fun b1 w2 =>
  nw w2 x1 27 fun b3 w4 =>
  ldA 32 w4 b1 0 fun a5 =>
  ldA 32 w4 b3 0 fun a6 =>
  eqAB 32 a5 a6 fun t7 =>
  vIf t7
  (Q (Value.int .i64 0) w4)
  (Calls Try.prog 30 #[Value.slice (some ⟨b1, 0, none⟩) 32 32, Value.slice (some ⟨b3, 0, none⟩) 32 32] w4.drew fun e9 w8 =>
    ∃ i10 : Int, e9 = .returned (Value.int .i64 i10) ∧ (
      Q (Value.int .i64 i10) w8))
def F23.an : Ann := ⟨[], []⟩
theorem F23.eq (x0 : List Value) (x1 : List Value) (w : World) (Q : Value → World → Prop) : vcFn Try.prog F23.an 23 [ofL x0, ofL x1] w Q = F23.vc x0 x1 w Q := by kernel_rfl
theorem F23.of (x0 : List Value) (x1 : List Value) (w : World) {Q : Value → World → Prop} (h : F23.vc x0 x1 w Q) : Calls Try.prog 23 #[ofL x0, ofL x1] w (fun e w' => ∃ v, e = .returned v ∧ Q v w') := vcFn_sound noCount mixed ((F23.eq x0 x1 w Q).symm ▸ h)
/-! ### function 24: slices.Compact[[]stillage/api.Digest,stillage/api.Digest] -/
def F24.k15c (Q : Value → World → Prop) (C4 : ((Option Addr × Nat × Nat) × Int × Unit) → World → Prop) (x0 : (Option Addr × Nat × Nat)) (x3 : Int) (w : World) : Prop :=
  gd (decide (0 ≤ x3)) <|
  gd (decide (x3 ≤ ((x0.2.2 : Nat) : Int))) <|
  Q (Value.slice (slA x0.1 x0.2.2 0 32) (x3).toNat x0.2.2) w
def F24.k15 (Q : Value → World → Prop) (C4 : ((Option Addr × Nat × Nat) × Int × Unit) → World → Prop) : ((Option Addr × Nat × Nat) × Int × Unit) → World → Prop := fun s w => ∀ _ : Nat → Value, F24.k15c Q C4 s.1 s.2.1 w
def F24.b9c (Q : Value → World → Prop) (C4 : ((Option Addr × Nat × Nat) × Int × Unit) → World → Prop) (C9 : ((Option Addr × Nat × Nat) × Int × (Option Addr × Nat × Nat) × Int × Unit) → World → Prop) (x0 : (Option Addr × Nat × Nat)) (x3 : Int) (x4 : (Option Addr × Nat × Nat)) (x5 : Int) (w : World) : Prop :=
  vIf (decide (x5 < ((x4.2.1 : Nat) : Int)))
  (dr x4.1 fun b8 o9 =>
    gd (decide (0 ≤ x5)) <|
    gd (decide (x5 < ((x4.2.1 : Nat) : Int))) <|
    ldA 32 w.drew b8 (o9 + (x5).toNat * 32) fun a10 =>
    dr x4.1 fun b11 o12 =>
    gd (decide (0 ≤ (IntKind.wrap .i64 (x5 - 1)))) <|
    gd (decide ((IntKind.wrap .i64 (x5 - 1)) < ((x4.2.1 : Nat) : Int))) <|
    ldA 32 w.drew b11 (o12 + ((IntKind.wrap .i64 (x5 - 1))).toNat * 32) fun a13 =>
    eqAB 32 a10 a13 fun t14 =>
    vIf (!t14)
    (dr x4.1 fun b15 o16 =>
      gd (decide (0 ≤ x5)) <|
      gd (decide (x5 < ((x4.2.1 : Nat) : Int))) <|
      ldA 32 w.drew b15 (o16 + (x5).toNat * 32) fun a17 =>
      dr x0.1 fun b18 o19 =>
      gd (decide (0 ≤ x3)) <|
      gd (decide (x3 < ((x0.2.1 : Nat) : Int))) <|
      gd (a17.length == 32) <|
      st w.drew b18 (o19 + (x3).toNat * 32) a17 fun w20 =>
      jnC C9 ((x0.1, x0.2.1, x0.2.2), ((IntKind.wrap .i64 (x3 + 1))), (x4.1, x4.2.1, x4.2.2), ((IntKind.wrap .i64 (x5 + 1))), ()) w20)
    (jnC C9 ((x0.1, x0.2.1, x0.2.2), (x3), (x4.1, x4.2.1, x4.2.2), ((IntKind.wrap .i64 (x5 + 1))), ()) w.drew))
  (gd (decide (0 ≤ x3)) <|
    gd (decide (x3 ≤ ((x0.2.1 : Nat) : Int))) <|
    vIf ((x0.2.1 - (x3).toNat) == 0)
    (jnC (F24.k15 Q C4) ((x0.1, x0.2.1, x0.2.2), (x3), ()) w)
    (dr (slA x0.1 x0.2.2 (x3).toNat 32) fun b22 o23 =>
      st w b22 o23 (zeros (x0.2.1 - (x3).toNat) Z27) fun w21 =>
      jnC (F24.k15 Q C4) ((x0.1, x0.2.1, x0.2.2), (x3), ()) w21))
def F24.b9 (Q : Value → World → Prop) (C4 : ((Option Addr × Nat × Nat) × Int × Unit) → World → Prop) : ((Option Addr × Nat × Nat) × Int × (Option Addr × Nat × Nat) × Int × Unit) → World → (((Option Addr × Nat × Nat) × Int × (Option Addr × Nat × Nat) × Int × Unit) → World → Prop) → Prop := fun s w C9 => ∀ _ : Nat → Value, F24.b9c Q C4 C9 s.1 s.2.1 s.2.2.1 s.2.2.2.1 w
def F24.l9 (Q : Value → World → Prop) (C4 : ((Option Addr × Nat × Nat) × Int × Unit) → World → Prop) : ((Option Addr × Nat × Nat) × Int × (Option Addr × Nat × Nat) × Int × Unit) → World → Prop := fun s w => ∃ n, loopC (F24.b9 Q C4) n s w
def F24.b4c (Q : Value → World → Prop) (C4 : ((Option Addr × Nat × Nat) × Int × Unit) → World → Prop) (x0 : (Option Addr × Nat × Nat)) (x3 : Int) (w : World) : Prop :=
  vIf (decide (x3 < ((x0.2.1 : Nat) : Int)))
  (dr x0.1 fun b1 o2 =>
    gd (decide (0 ≤ x3)) <|
    gd (decide (x3 < ((x0.2.1 : Nat) : Int))) <|
    ldA 32 w.drew b1 (o2 + (x3).toNat * 32) fun a3 =>
    dr x0.1 fun b4 o5 =>
    gd (decide (0 ≤ (IntKind.wrap .i64 (x3 - 1)))) <|
    gd (decide ((IntKind.wrap .i64 (x3 - 1)) < ((x0.2.1 : Nat) : Int))) <|
    ldA 32 w.drew b4 (o5 + ((IntKind.wrap .i64 (x3 - 1))).toNat * 32) fun a6 =>
    eqAB 32 a3 a6 fun t7 =>
    vIf t7
    (gd (decide (0 ≤ x3)) <|
      gd (decide (x3 ≤ ((x0.2.1 : Nat) : Int))) <|
      jnC (F24.l9 Q C4) ((x0.1, x0.2.1, x0.2.2), (x3), ((slA x0.1 x0.2.2 (x3).toNat 32), (x0.2.1 - (x3).toNat), (x0.2.2 - (x3).toNat)), (1), ()) w.drew)
    (jnC C4 ((x0.1, x0.2.1, x0.2.2), ((IntKind.wrap .i64 (x3 + 1))), ()) w.drew))
  (Q (Value.slice x0.1 x0.2.1 x0.2.2) w)
def F24.b4 (Q : Value → World → Prop) : ((Option Addr × Nat × Nat) × Int × Unit) → World → (((Option Addr × Nat × Nat) × Int × Unit) → World → Prop) → Prop := fun s w C4 => ∀ _ : Nat → Value, F24.b4c Q C4 s.1 s.2.1 w
def F24.l4 (Q : Value → World → Prop) : ((Option Addr × Nat × Nat) × Int × Unit) → World → Prop := fun s w => ∃ n, loopC (F24.b4 Q) n s w
def F24.vc (x0A : Option Addr) (x0n x0c : Nat) (w : World) (Q : Value → World → Prop) : Prop :=
  vIf (decide (((x0n : Nat) : Int) < 2))
  (Q (Value.slice x0A x0n x0c) w)
  (jnC (F24.l4 Q) ((x0A, x0n, x0c), (1), ()) w)
def F24.an : Ann := ⟨[(4, [(0, .kSl), (3, .kI .i64)]), (9, [(0, .kSl), (3, .kI .i64), (4, .kSl), (5, .kI .i64)])], [(15, [(0, .kSl), (3, .kI .i64)])]⟩
theorem F24.eq (x0A : Option Addr) (x0n x0c : Nat) (w : World) (Q : Value → World → Prop) : vcFn Try.prog F24.an 24 [Value.slice x0A x0n x0c] w Q = F24.vc x0A x0n x0c w Q := by kernel_rfl
theorem F24.of (x0A : Option Addr) (x0n x0c : Nat) (w : World) {Q : Value → World → Prop} (h : F24.vc x0A x0n x0c w Q) : Calls Try.prog 24 #[Value.slice x0A x0n x0c] w (fun e w' => ∃ v, e = .returned v ∧ Q v w') := vcFn_sound noCount mixed ((F24.eq x0A x0n x0c w Q).symm ▸ h)
/-! ### function 25: slices.BinarySearchFunc[[]stillage/api.Digest,stillage/api.Digest,stillage/api.Digest] -/
def F25s.b3c (Q : Value → World → Prop) (C3 : ((Option Addr × Nat × Nat) × Unit × (Nat × Nat) × Int × Int × Int × Unit) → World → Prop) (x0 : (Option Addr × Nat × Nat)) (x2 : Unit) (x4 : (Nat × Nat)) (x8 : Int) (x9 : Int) (x10 : Int) (w : World) : Prop :=
  vIf (decide (x9 < x10))
  (dr x0.1 fun b3 o4 =>
    gd (decide (0 ≤ (IntKind.wrap .i64 (Int.fdiv (IntKind.wrap .u64 (IntKind.wrap .i64 (x9 + x10))) (2 ^ 1))))) <|
    gd (decide ((IntKind.wrap .i64 (Int.fdiv (IntKind.wrap .u64 (IntKind.wrap .i64 (x9 + x10))) (2 ^ 1))) < ((x0.2.1 : Nat) : Int))) <|
    ldA 32 w.drew b3 (o4 + ((IntKind.wrap .i64 (Int.fdiv (IntKind.wrap .u64 (IntKind.wrap .i64 (x9 + x10))) (2 ^ 1)))).toNat * 32) fun a5 =>
    ldA 32 w.drew x4.1 x4.2 fun a6 =>
    Calls Try.prog 23 #[ofL a5, ofL a6] w.drew fun e8 w7 =>
    ∃ i9 : Int, e8 = .returned (Value.int .i64 i9) ∧ (
      vIf (decide (i9 < 0))
      (jnC C3 ((x0.1, x0.2.1, x0.2.2), (), (x4.1, x4.2), (x8), ((IntKind.wrap .i64 ((IntKind.wrap .i64 (Int.fdiv (IntKind.wrap .u64 (IntKind.wrap .i64 (x9 + x10))) (2 ^ 1))) + 1))), (x10), ()) w7)
      (jnC C3 ((x0.1, x0.2.1, x0.2.2), (), (x4.1, x4.2), (x8), (x9), ((IntKind.wrap .i64 (Int.fdiv (IntKind.wrap .u64 (IntKind.wrap .i64 (x9 + x10))) (2 ^ 1)))), ()) w7)))
  (vIf (decide (x9 < x8))
    (dr x0.1 fun b10 o11 =>
      gd (decide (0 ≤ x9)) <|
      gd (decide (x9 < ((x0.2.1 : Nat) : Int))) <|
      ldA 32 w.drew b10 (o11 + (x9).toNat * 32) fun a12 =>
      ldA 32 w.drew x4.1 x4.2 fun a13 =>
      Calls Try.prog 23 #[ofL a12, ofL a13] w.drew fun e15 w14 =>
      ∃ i16 : Int, e15 = .returned (Value.int .i64 i16) ∧ (
        Q (Value.tuple #[Value.int .i64 x9, Value.bool (i16 == 0)]) w14))
    (Q (Value.tuple #[Value.int .i64 x9, Value.bool false]) w.drew))
def F25s.b3 (Q : Value → World → Prop) : ((Option Addr × Nat × Nat) × Unit × (Nat × Nat) × Int × Int × Int × Unit) → World → (((Option Addr × Nat × Nat) × Unit × (Nat × Nat) × Int × Int × Int × Unit) → World → Prop) → Prop := fun s w C3 => ∀ _ : Nat → Value, F25s.b3c Q C3 s.1 s.2.1 s.2.2.1 s.2.2.2.1 s.2.2.2.2.1 s.2.2.2.2.2.1 w
def F25s.l3 (Q : Value → World → Prop) : ((Option Addr × Nat × Nat) × Unit × (Nat × Nat) × Int × Int × Int × Unit) → World → Prop := fun s w => ∃ n, loopC (F25s.b3 Q) n s w
def F25s.vc (x0A : Option Addr) (x0n x0c : Nat) (x1 : List Value) (w : World) (Q : Value → World → Prop) : Prop :=
  nw w x1 27 fun b1 w2 =>
  jnC (F25s.l3 Q) ((x0A, x0n, x0c), (), (b1, 0), (((x0n : Nat) : Int)), (0), (((x0n : Nat) : Int)), ()) w2
def F25s.an : Ann := ⟨[(3, [(0, .kSl), (2, .kF 23), (4, .kL), (8, .kI .i64), (9, .kI .i64), (10, .kI .i64)])], []⟩
theorem F25s.eq (x0A : Option Addr) (x0n x0c : Nat) (x1 : List Value) (w : World) (Q : Value → World → Prop) : vcFn Try.prog F25s.an 25 [Value.slice x0A x0n x0c, ofL x1, Value.func (.func 23) #[] #[]] w Q = F25s.vc x0A x0n x0c x1 w Q := by kernel_rfl
theorem F25s.of (x0A : Option Addr) (x0n x0c : Nat) (x1 : List Value) (w : World) {Q : Value → World → Prop} (h : F25s.vc x0A x0n x0c x1 w Q) : Calls Try.prog 25 #[Value.slice x0A x0n x0c, ofL x1, Value.func (.func 23) #[] #[]] w (fun e w' => ∃ v, e = .returned v ∧ Q v w') := vcFn_sound noCount mixed ((F25s.eq x0A x0n x0c x1 w Q).symm ▸ h)
/-! ### function 26: stillage/stillageref06.Less -/
def F26.b2c (Q : Value → World → Prop) (C2 : ((Nat × Nat) × (Nat × Nat) × Int × Unit) → World → Prop) (x2 : (Nat × Nat)) (x3 : (Nat × Nat)) (x5 : Int) (w : World) : Prop :=
  vIf (decide (x5 < 32))
  (gd (decide (0 ≤ x5)) <|
    gd (decide (x5 < 32)) <|
    ldI .u8 w.drew x2.1 (x2.2 + (x5).toNat * 1) fun i5 =>
    gd (decide (0 ≤ x5)) <|
    gd (decide (x5 < 32)) <|
    ldI .u8 w.drew x3.1 (x3.2 + (x5).toNat * 1) fun i6 =>
    vIf (i5 != i6)
    (gd (decide (0 ≤ x5)) <|
      gd (decide (x5 < 32)) <|
      ldI .u8 w.drew.drew x2.1 (x2.2 + (x5).toNat * 1) fun i7 =>
      gd (decide (0 ≤ x5)) <|
      gd (decide (x5 < 32)) <|
      ldI .u8 w.drew.drew x3.1 (x3.2 + (x5).toNat * 1) fun i8 =>
      Q (Value.bool (decide (i7 < i8))) w.drew.drew)
    (jnC C2 ((x2.1, x2.2), (x3.1, x3.2), ((IntKind.wrap .i64 (x5 + 1))), ()) w.drew))
  (Q (Value.bool false) w)
def F26.b2 (Q : Value → World → Prop) : ((Nat × Nat) × (Nat × Nat) × Int × Unit) → World → (((Nat × Nat) × (Nat × Nat) × Int × Unit) → World → Prop) → Prop := fun s w C2 => ∀ _ : Nat → Value, F26.b2c Q C2 s.1 s.2.1 s.2.2.1 w
def F26.l2 (Q : Value → World → Prop) : ((Nat × Nat) × (Nat × Nat) × Int × Unit) → World → Prop := fun s w => ∃ n, loopC (F26.b2 Q) n s w
def F26.vc (x0 : List Value) (x1 : List Value) (w : World) (Q : Value → World → Prop) : Prop :=
  nw w x0 27 fun b1 w2 =>
  nw w2 x1 27 fun b3 w4 =>
  jnC (F26.l2 Q) ((b1, 0), (b3, 0), (0), ()) w4
def F26.an : Ann := ⟨[(2, [(2, .kL), (3, .kL), (5, .kI .i64)])], []⟩
theorem F26.eq (x0 : List Value) (x1 : List Value) (w : World) (Q : Value → World → Prop) : vcFn Try.prog F26.an 26 [ofL x0, ofL x1] w Q = F26.vc x0 x1 w Q := by kernel_rfl
theorem F26.of (x0 : List Value) (x1 : List Value) (w : World) {Q : Value → World → Prop} (h : F26.vc x0 x1 w Q) : Calls Try.prog 26 #[ofL x0, ofL x1] w (fun e w' => ∃ v, e = .returned v ∧ Q v w') := vcFn_sound noCount mixed ((F26.eq x0 x1 w Q).symm ▸ h)
/-! ### function 27: slices.IndexFunc[[]stillage/api.Digest,stillage/api.Digest] -/
def F27s.b2c (Q : Value → World → Prop) (C2 : ((Option Addr × Nat × Nat) × (Nat × Nat) × Int × Int × Unit) → World → Prop) (x0 : (Option Addr × Nat × Nat)) (x1 : (Nat × Nat)) (x7 : Int) (x8 : Int) (w : World) : Prop :=
  vIf (decide (x8 < x7))
  (dr x0.1 fun b1 o2 =>
    gd (decide (0 ≤ x8)) <|
    gd (decide (x8 < ((x0.2.1 : Nat) : Int))) <|
    ldA 32 w b1 (o2 + (x8).toNat * 32) fun a3 =>
    Calls Try.prog 21 #[ofL a3, Value.pointer (some ⟨x1.1, x1.2, none⟩)] w fun e5 w4 =>
    ∃ t6 : Bool, e5 = .returned (Value.bool t6) ∧ (
      vIf t6
      (Q (Value.int .i64 x8) w4)
      (jnC C2 ((x0.1, x0.2.1, x0.2.2), (x1.1, x1.2), (x7), ((IntKind.wrap .i64 (x8 + 1))), ()) w4)))
  (Q (Value.int .i64 (-1)) w)
def F27s.b2 (Q : Value → World → Prop) : ((Option Addr × Nat × Nat) × (Nat × Nat) × Int × Int × Unit) → World → (((Option Addr × Nat × Nat) × (Nat × Nat) × Int × Int × Unit) → World → Prop) → Prop := fun s w C2 => ∀ _ : Nat → Value, F27s.b2c Q C2 s.1 s.2.1 s.2.2.1 s.2.2.2.1 w
def F27s.l2 (Q : Value → World → Prop) : ((Option Addr × Nat × Nat) × (Nat × Nat) × Int × Int × Unit) → World → Prop := fun s w => ∃ n, loopC (F27s.b2 Q) n s w
def F27s.vc (x0A : Option Addr) (x0n x0c : Nat) (x1 : Nat × Nat) (w : World) (Q : Value → World → Prop) : Prop :=
  jnC (F27s.l2 Q) ((x0A, x0n, x0c), (x1.1, x1.2), (((x0n : Nat) : Int)), (0), ()) w
def F27s.an : Ann := ⟨[(2, [(0, .kSl), (1, .kG 21), (7, .kI .i64), (8, .kI .i64)])], []⟩
theorem F27s.eq (x0A : Option Addr) (x0n x0c : Nat) (x1 : Nat × Nat) (w : World) (Q : Value → World → Prop) : vcFn Try.prog F27s.an 27 [Value.slice x0A x0n x0c, Value.func (.func 21) #[] #[Value.pointer (some ⟨x1.1, x1.2, none⟩)]] w Q = F27s.vc x0A x0n x0c x1 w Q := by kernel_rfl
theorem F27s.of (x0A : Option Addr) (x0n x0c : Nat) (x1 : Nat × Nat) (w : World) {Q : Value → World → Prop} (h : F27s.vc x0A x0n x0c x1 w Q) : Calls Try.prog 27 #[Value.slice x0A x0n x0c, Value.func (.func 21) #[] #[Value.pointer (some ⟨x1.1, x1.2, none⟩)]] w (fun e w' => ∃ v, e = .returned v ∧ Q v w') := vcFn_sound noCount mixed ((F27s.eq x0A x0n x0c x1 w Q).symm ▸ h)
/-! ### function 30: bytes.Compare -/
def F30.vc (x0A : Option Addr) (x0n x0c : Nat) (x1A : Option Addr) (x1n x1c : Nat) (w : World) (Q : Value → World → Prop) : Prop :=
  extC Try.prog 41 #[Value.slice x0A x0n x0c, Value.slice x1A x1n x1c] w fun v3 w1 =>
  ∃ i4 : Int, v3 = Value.int .i64 i4 ∧ (
    Q (Value.int .i64 i4) w1)
def F30.an : Ann := ⟨[], []⟩
theorem F30.eq (x0A : Option Addr) (x0n x0c : Nat) (x1A : Option Addr) (x1n x1c : Nat) (w : World) (Q : Value → World → Prop) : vcFn Try.prog F30.an 30 [Value.slice x0A x0n x0c, Value.slice x1A x1n x1c] w Q = F30.vc x0A x0n x0c x1A x1n x1c w Q := by kernel_rfl
theorem F30.of (x0A : Option Addr) (x0n x0c : Nat) (x1A : Option Addr) (x1n x1c : Nat) (w : World) {Q : Value → World → Prop} (h : F30.vc x0A x0n x0c x1A x1n x1c w Q) : Calls Try.prog 30 #[Value.slice x0A x0n x0c, Value.slice x1A x1n x1c] w (fun e w' => ∃ v, e = .returned v ∧ Q v w') := vcFn_sound noCount mixed ((F30.eq x0A x0n x0c x1A x1n x1c w Q).symm ▸ h)
end Go.Proofs.Ytbifohpdlknjiaa
