/- PRINTED BY MY OWN gen.py out of the translation: each function as a proposition. -/
import Derived.Test.YtihifmamdeafdaaProg
import Derived.Test.YtihifmamdeafdaaG7
namespace Go.Proofs.Ytihifmamdeafdaa
open Go.GV
set_option linter.unusedVariables false
set_option maxRecDepth 100000
theorem noCount : NoCount Try.prog := noCount_of (by kernel_rfl)
theorem mixed : Try.prog.follows .mixedOrders = true := by kernel_rfl
def Z40 : List Value := [Value.int .i64 0, Value.int .i64 0, Value.int .i64 0, Value.slice none 0 0, Value.int .i64 0]
/-! ### function 3: stillage/stillagelaw37.UploadsWhole -/
def F3.b5c (Q : Value → World → Prop) (C5 : ((Option Addr × Nat × Nat) × Option Addr × Int × Int × (Option Addr × Nat × Nat) × Int × Unit) → World → Prop) (x0 : (Option Addr × Nat × Nat)) (x3 : Option Addr) (x4 : Int) (x5 : Int) (x6 : (Option Addr × Nat × Nat)) (x7 : Int) (w : World) : Prop :=
  vIf (decide (x7 < ((x0.2.1 : Nat) : Int)))
  (dr x0.1 fun b8 o9 =>
    gd (decide (0 ≤ x7)) <|
    gd (decide (x7 < ((x0.2.1 : Nat) : Int))) <|
    ldSl w b8 (o9 + (x7).toNat * 1) fun A10 n11 c12 =>
    Calls Try.prog 8 #[Value.pointer x3, Value.int .i64 x4, Value.int .i64 ((x6.2.1 : Nat) : Int), Value.slice A10 n11 c12, Value.int .i64 1099511627776] w fun e14 w13 =>
    ∃ i15 : Int, e14 = .returned (Value.int .i64 i15) ∧ (
      vIf (i15 != 0)
      (Q (Value.bool false) w13)
      (dr x0.1 fun b16 o17 =>
        gd (decide (0 ≤ x7)) <|
        gd (decide (x7 < ((x0.2.1 : Nat) : Int))) <|
        ldSl w13 b16 (o17 + (x7).toNat * 1) fun A18 n19 c20 =>
        app w13 1 1 [Value.int .u8 0] 5 x6.1 x6.2.1 x6.2.2 (Value.slice A18 n19 c20) fun A21 n22 c23 w24 =>
        jnC C5 ((x0.1, x0.2.1, x0.2.2), x3, (x4), (x5), (A21, n22, c23), ((IntKind.wrap .i64 (x7 + 1))), ()) w24)))
  (Calls Try.prog 9 #[Value.pointer x3, Value.int .i64 x4] w fun e26 w25 =>
    ∃ (A27 : Option Addr) (n28 c29 : Nat), ∃ i30 : Int, e26 = .returned (Value.tuple #[Value.slice A27 n28 c29, Value.int .i64 i30]) ∧ (
      vIf (x5 == 0)
      (vIf (i30 == 0)
        (Calls Try.prog 10 #[Value.slice A27 n28 c29, Value.slice x6.1 x6.2.1 x6.2.2] w25 fun e32 w31 =>
          ∃ t33 : Bool, e32 = .returned (Value.bool t33) ∧ (
            vIf t33
            (Calls Try.prog 11 #[] w31 fun e35 w34 =>
              ∃ t36 : Bool, e35 = .returned (Value.bool t36) ∧ (
                Q (Value.bool t36) w34))
            (Q (Value.bool false) w31)))
        (Q (Value.bool false) w25))
      (Q (Value.bool false) w25)))
def F3.b5 (Q : Value → World → Prop) : ((Option Addr × Nat × Nat) × Option Addr × Int × Int × (Option Addr × Nat × Nat) × Int × Unit) → World → (((Option Addr × Nat × Nat) × Option Addr × Int × Int × (Option Addr × Nat × Nat) × Int × Unit) → World → Prop) → Prop := fun s w C5 => ∀ _ : Nat → Value, F3.b5c Q C5 s.1 s.2.1 s.2.2.1 s.2.2.2.1 s.2.2.2.2.1 s.2.2.2.2.2.1 w
def F3.l5 (Q : Value → World → Prop) : ((Option Addr × Nat × Nat) × Option Addr × Int × Int × (Option Addr × Nat × Nat) × Int × Unit) → World → Prop := fun s w => ∃ n, loopC (F3.b5 Q) n s w
def F3.vc (x0A : Option Addr) (x0n x0c : Nat) (w : World) (Q : Value → World → Prop) : Prop :=
  Calls Try.prog 6 #[] w fun e2 w1 =>
  ∃ p3 : Option Addr, e2 = .returned (Value.pointer p3) ∧ (
    Calls Try.prog 7 #[Value.pointer p3] w1 fun e5 w4 =>
    ∃ i6 : Int, ∃ i7 : Int, e5 = .returned (Value.tuple #[Value.int .i64 i6, Value.int .i64 i7]) ∧ (
      jnC (F3.l5 Q) ((x0A, x0n, x0c), p3, (i6), (i7), (none, 0, 0), (0), ()) w4))
def F3.an : Ann := ⟨[(5, [(0, .kSl), (3, .kP), (4, .kI .i64), (5, .kI .i64), (6, .kSl), (7, .kI .i64)])], []⟩
theorem F3.eq (x0A : Option Addr) (x0n x0c : Nat) (w : World) (Q : Value → World → Prop) : vcFn Try.prog F3.an 3 [Value.slice x0A x0n x0c] w Q = F3.vc x0A x0n x0c w Q := by kernel_rfl
theorem F3.of (x0A : Option Addr) (x0n x0c : Nat) (w : World) {Q : Value → World → Prop} (h : F3.vc x0A x0n x0c w Q) : Calls Try.prog 3 #[Value.slice x0A x0n x0c] w (fun e w' => ∃ v, e = .returned v ∧ Q v w') := vcFn_sound noCount mixed ((F3.eq x0A x0n x0c w Q).symm ▸ h)
/-! ### function 4: stillage/stillagelaw37.UploadsDo -/
def F4.b23c (Q : Value → World → Prop) (C4 : ((Option Addr × Nat × Nat) × Option Addr × (Nat × Nat) × Int × Unit) → World → Prop) (C23 : ((Option Addr × Nat × Nat) × Option Addr × (Nat × Nat) × Int × (Option Addr × Nat × Nat) × Int × Unit) → World → Prop) (x0 : (Option Addr × Nat × Nat)) (x3 : Option Addr) (x4 : (Nat × Nat)) (x5 : Int) (x15 : (Option Addr × Nat × Nat)) (x16 : Int) (w : World) : Prop :=
  vIf (decide (x16 < ((x15.2.1 : Nat) : Int)))
  (dr x15.1 fun b50 o51 =>
    gd (decide (0 ≤ x16)) <|
    gd (decide (x16 < ((x15.2.1 : Nat) : Int))) <|
    ldI .i64 w.drew b50 (o51 + (x16).toNat * 1) fun i52 =>
    ldSl w.drew x4.1 x4.2 fun A53 n54 c55 =>
    dr A53 fun b56 o57 =>
    gd (decide (0 ≤ x16)) <|
    gd (decide (x16 < ((n54 : Nat) : Int))) <|
    ldI .i64 w.drew b56 (o57 + (x16).toNat * 2) fun i58 =>
    vIf (i52 != i58)
    (Q (Value.bool false) w.drew)
    (jnC C23 ((x0.1, x0.2.1, x0.2.2), x3, (x4.1, x4.2), (x5), (x15.1, x15.2.1, x15.2.2), ((IntKind.wrap .i64 (x16 + 1))), ()) w.drew))
  (jnC C4 ((x0.1, x0.2.1, x0.2.2), x3, (x4.1, x4.2), ((IntKind.wrap .i64 (x5 + 1))), ()) w)
def F4.b23 (Q : Value → World → Prop) (C4 : ((Option Addr × Nat × Nat) × Option Addr × (Nat × Nat) × Int × Unit) → World → Prop) : ((Option Addr × Nat × Nat) × Option Addr × (Nat × Nat) × Int × (Option Addr × Nat × Nat) × Int × Unit) → World → (((Option Addr × Nat × Nat) × Option Addr × (Nat × Nat) × Int × (Option Addr × Nat × Nat) × Int × Unit) → World → Prop) → Prop := fun s w C23 => ∀ _ : Nat → Value, F4.b23c Q C4 C23 s.1 s.2.1 s.2.2.1 s.2.2.2.1 s.2.2.2.2.1 s.2.2.2.2.2.1 w
def F4.l23 (Q : Value → World → Prop) (C4 : ((Option Addr × Nat × Nat) × Option Addr × (Nat × Nat) × Int × Unit) → World → Prop) : ((Option Addr × Nat × Nat) × Option Addr × (Nat × Nat) × Int × (Option Addr × Nat × Nat) × Int × Unit) → World → Prop := fun s w => ∃ n, loopC (F4.b23 Q C4) n s w
def F4.k22c (Q : Value → World → Prop) (C4 : ((Option Addr × Nat × Nat) × Option Addr × (Nat × Nat) × Int × Unit) → World → Prop) (x0 : (Option Addr × Nat × Nat)) (x3 : Option Addr) (x4 : (Nat × Nat)) (x5 : Int) (x15 : (Option Addr × Nat × Nat)) (w : World) : Prop :=
  jnC (F4.l23 Q C4) ((x0.1, x0.2.1, x0.2.2), x3, (x4.1, x4.2), (x5), (x15.1, x15.2.1, x15.2.2), (0), ()) w
def F4.k22 (Q : Value → World → Prop) (C4 : ((Option Addr × Nat × Nat) × Option Addr × (Nat × Nat) × Int × Unit) → World → Prop) : ((Option Addr × Nat × Nat) × Option Addr × (Nat × Nat) × Int × (Option Addr × Nat × Nat) × Unit) → World → Prop := fun s w => ∀ _ : Nat → Value, F4.k22c Q C4 s.1 s.2.1 s.2.2.1 s.2.2.2.1 s.2.2.2.2.1 w
def F4.k17c (Q : Value → World → Prop) (C4 : ((Option Addr × Nat × Nat) × Option Addr × (Nat × Nat) × Int × Unit) → World → Prop) (x0 : (Option Addr × Nat × Nat)) (x3 : Option Addr) (x4 : (Nat × Nat)) (x5 : Int) (x6 : (Nat × Nat)) (x7 : Int) (x8 : Int) (x9 : Int) (x10 : Int) (w : World) : Prop :=
  ldI .i64 w x6.1 (x6.2 + 1) fun i24 =>
  Calls Try.prog 9 #[Value.pointer x3, Value.int .i64 i24] w fun e26 w25 =>
  ∃ (A27 : Option Addr) (n28 c29 : Nat), ∃ i30 : Int, e26 = .returned (Value.tuple #[Value.slice A27 n28 c29, Value.int .i64 i30]) ∧ (
    ldA 2 w25 x4.1 x4.2 fun a31 =>
    ldI .i64 w25 x6.1 (x6.2 + 1) fun i32 =>
    Calls Try.prog 16 #[ofL a31, Value.int .i64 i32] w25 fun e34 w33 =>
    ∃ (A35 : Option Addr) (n36 c37 : Nat), ∃ t38 : Bool, e34 = .returned (Value.tuple #[Value.slice A35 n36 c37, Value.bool t38]) ∧ (
      Calls Try.prog 17 #[Value.pointer x3] w33 fun e40 w39 =>
      ∃ (A41 : Option Addr) (n42 c43 : Nat), e40 = .returned (Value.slice A41 n42 c43) ∧ (
        vIf (x7 != x8)
        (Q (Value.bool false) w39)
        (vIf (x9 != x10)
          (Q (Value.bool false) w39)
          (Calls Try.prog 10 #[Value.slice A27 n28 c29, Value.slice A35 n36 c37] w39 fun e45 w44 =>
            ∃ t46 : Bool, e45 = .returned (Value.bool t46) ∧ (
              vIf (!t46)
              (Q (Value.bool false) w44)
              (vIf (!((i30 == 0) == t38))
                (Q (Value.bool false) w44)
                (vIf (!t38)
                  (vIf (i30 != 6)
                    (Q (Value.bool false) w44)
                    (ldSl w44 x4.1 x4.2 fun A47 n48 c49 =>
                      vIf (((n42 : Nat) : Int) != ((n48 : Nat) : Int))
                      (Q (Value.bool false) w44)
                      (jnC (F4.k22 Q C4) ((x0.1, x0.2.1, x0.2.2), x3, (x4.1, x4.2), (x5), (A41, n42, c43), ()) w44)))
                  (ldSl w44 x4.1 x4.2 fun A59 n60 c61 =>
                    vIf (((n42 : Nat) : Int) != ((n60 : Nat) : Int))
                    (Q (Value.bool false) w44)
                    (jnC (F4.k22 Q C4) ((x0.1, x0.2.1, x0.2.2), x3, (x4.1, x4.2), (x5), (A41, n42, c43), ()) w44))))))))))
def F4.k17 (Q : Value → World → Prop) (C4 : ((Option Addr × Nat × Nat) × Option Addr × (Nat × Nat) × Int × Unit) → World → Prop) : ((Option Addr × Nat × Nat) × Option Addr × (Nat × Nat) × Int × (Nat × Nat) × Int × Int × Int × Int × Unit) → World → Prop := fun s w => ∀ _ : Nat → Value, F4.k17c Q C4 s.1 s.2.1 s.2.2.1 s.2.2.2.1 s.2.2.2.2.1 s.2.2.2.2.2.1 s.2.2.2.2.2.2.1 s.2.2.2.2.2.2.2.1 s.2.2.2.2.2.2.2.2.1 w
def F4.b4c (Q : Value → World → Prop) (C4 : ((Option Addr × Nat × Nat) × Option Addr × (Nat × Nat) × Int × Unit) → World → Prop) (x0 : (Option Addr × Nat × Nat)) (x3 : Option Addr) (x4 : (Nat × Nat)) (x5 : Int) (w : World) : Prop :=
  vIf (decide (x5 < ((x0.2.1 : Nat) : Int)))
  (dr x0.1 fun b6 o7 =>
    gd (decide (0 ≤ x5)) <|
    gd (decide (x5 < ((x0.2.1 : Nat) : Int))) <|
    ldA 5 w b6 (o7 + (x5).toNat * 5) fun a8 =>
    nw w Z40 40 fun b9 w10 =>
    gd (a8.length == 5) <|
    st w10 b9 0 a8 fun w11 =>
    ldI .i64 w11 b9 0 fun i12 =>
    vIf (i12 == 0)
    (Calls Try.prog 7 #[Value.pointer x3] w11 fun e14 w13 =>
      ∃ i15 : Int, ∃ i16 : Int, e14 = .returned (Value.tuple #[Value.int .i64 i15, Value.int .i64 i16]) ∧ (
        ldA 2 w13 x4.1 x4.2 fun a17 =>
        Calls Try.prog 12 #[ofL a17] w13 fun e19 w18 =>
        ∃ a20 : List Value, ∃ i21 : Int, ∃ i22 : Int, e19 = .returned (Value.tuple #[ofL a20, Value.int .i64 i21, Value.int .i64 i22]) ∧ (
          gd (a20.length == 2) <|
          st w18 x4.1 x4.2 a20 fun w23 =>
          jnC (F4.k17 Q C4) ((x0.1, x0.2.1, x0.2.2), x3, (x4.1, x4.2), (x5), (b9, 0), (i15), (i21), (i16), (i22), ()) w23)))
    (vIf (i12 == 1)
      (ldI .i64 w11 b9 (0 + 1) fun i62 =>
        ldI .i64 w11 b9 (0 + 2) fun i63 =>
        ldSl w11 b9 (0 + 3) fun A64 n65 c66 =>
        ldI .i64 w11 b9 (0 + 4) fun i67 =>
        Calls Try.prog 8 #[Value.pointer x3, Value.int .i64 i62, Value.int .i64 i63, Value.slice A64 n65 c66, Value.int .i64 i67] w11 fun e69 w68 =>
        ∃ i70 : Int, e69 = .returned (Value.int .i64 i70) ∧ (
          ldA 2 w68 x4.1 x4.2 fun a71 =>
          ldI .i64 w68 b9 (0 + 1) fun i72 =>
          ldI .i64 w68 b9 (0 + 2) fun i73 =>
          ldSl w68 b9 (0 + 3) fun A74 n75 c76 =>
          ldI .i64 w68 b9 (0 + 4) fun i77 =>
          Calls Try.prog 13 #[ofL a71, Value.int .i64 i72, Value.int .i64 i73, Value.slice A74 n75 c76, Value.int .i64 i77] w68 fun e79 w78 =>
          ∃ a80 : List Value, ∃ i81 : Int, e79 = .returned (Value.tuple #[ofL a80, Value.int .i64 i81]) ∧ (
            gd (a80.length == 2) <|
            st w78 x4.1 x4.2 a80 fun w82 =>
            jnC (F4.k17 Q C4) ((x0.1, x0.2.1, x0.2.2), x3, (x4.1, x4.2), (x5), (b9, 0), (0), (0), (i70), (i81), ()) w82)))
      (ldI .i64 w11 b9 (0 + 1) fun i83 =>
        Calls Try.prog 14 #[Value.pointer x3, Value.int .i64 i83] w11 fun e85 w84 =>
        ∃ i86 : Int, e85 = .returned (Value.int .i64 i86) ∧ (
          ldA 2 w84 x4.1 x4.2 fun a87 =>
          ldI .i64 w84 b9 (0 + 1) fun i88 =>
          Calls Try.prog 15 #[ofL a87, Value.int .i64 i88] w84 fun e90 w89 =>
          ∃ a91 : List Value, ∃ i92 : Int, e90 = .returned (Value.tuple #[ofL a91, Value.int .i64 i92]) ∧ (
            gd (a91.length == 2) <|
            st w89 x4.1 x4.2 a91 fun w93 =>
            jnC (F4.k17 Q C4) ((x0.1, x0.2.1, x0.2.2), x3, (x4.1, x4.2), (x5), (b9, 0), (0), (0), (i86), (i92), ()) w93)))))
  (Calls Try.prog 11 #[] w fun e95 w94 =>
    ∃ t96 : Bool, e95 = .returned (Value.bool t96) ∧ (
      Q (Value.bool t96) w94))
def F4.b4 (Q : Value → World → Prop) : ((Option Addr × Nat × Nat) × Option Addr × (Nat × Nat) × Int × Unit) → World → (((Option Addr × Nat × Nat) × Option Addr × (Nat × Nat) × Int × Unit) → World → Prop) → Prop := fun s w C4 => ∀ _ : Nat → Value, F4.b4c Q C4 s.1 s.2.1 s.2.2.1 s.2.2.2.1 w
def F4.l4 (Q : Value → World → Prop) : ((Option Addr × Nat × Nat) × Option Addr × (Nat × Nat) × Int × Unit) → World → Prop := fun s w => ∃ n, loopC (F4.b4 Q) n s w
def F4.vc (x0A : Option Addr) (x0n x0c : Nat) (w : World) (Q : Value → World → Prop) : Prop :=
  Calls Try.prog 6 #[] w fun e2 w1 =>
  ∃ p3 : Option Addr, e2 = .returned (Value.pointer p3) ∧ (
    nw w1 [Value.slice none 0 0, Value.int .i64 0] 38 fun b4 w5 =>
    jnC (F4.l4 Q) ((x0A, x0n, x0c), p3, (b4, 0), (0), ()) w5)
def F4.an : Ann := ⟨[(4, [(0, .kSl), (3, .kP), (4, .kL), (5, .kI .i64)]), (23, [(0, .kSl), (3, .kP), (4, .kL), (5, .kI .i64), (15, .kSl), (16, .kI .i64)])], [(17, [(0, .kSl), (3, .kP), (4, .kL), (5, .kI .i64), (6, .kL), (7, .kI .i64), (8, .kI .i64), (9, .kI .i64), (10, .kI .i64)]), (22, [(0, .kSl), (3, .kP), (4, .kL), (5, .kI .i64), (15, .kSl)])]⟩
theorem F4.eq (x0A : Option Addr) (x0n x0c : Nat) (w : World) (Q : Value → World → Prop) : vcFn Try.prog F4.an 4 [Value.slice x0A x0n x0c] w Q = F4.vc x0A x0n x0c w Q := by kernel_rfl
theorem F4.of (x0A : Option Addr) (x0n x0c : Nat) (w : World) {Q : Value → World → Prop} (h : F4.vc x0A x0n x0c w Q) : Calls Try.prog 4 #[Value.slice x0A x0n x0c] w (fun e w' => ∃ v, e = .returned v ∧ Q v w') := vcFn_sound noCount mixed ((F4.eq x0A x0n x0c w Q).symm ▸ h)
/-! ### function 5: stillage/stillagelaw37.UploadsNone -/
def F5.vc (x0 : List Value) (w : World) (Q : Value → World → Prop) : Prop :=
  nw w x0 40 fun b1 w2 =>
  Calls Try.prog 7 #[Value.pointer none] w2 fun e4 w3 =>
  ∃ i5 : Int, ∃ i6 : Int, e4 = .returned (Value.tuple #[Value.int .i64 i5, Value.int .i64 i6]) ∧ (
    ldI .i64 w3 b1 (0 + 1) fun i7 =>
    Calls Try.prog 9 #[Value.pointer none, Value.int .i64 i7] w3 fun e9 w8 =>
    ∃ (A10 : Option Addr) (n11 c12 : Nat), ∃ i13 : Int, e9 = .returned (Value.tuple #[Value.slice A10 n11 c12, Value.int .i64 i13]) ∧ (
      vIf (i5 == 0)
      (vIf (i6 == 1)
        (vIf (((n11 : Nat) : Int) == 0)
          (vIf (i13 == 1)
            (ldI .i64 w8 b1 (0 + 1) fun i14 =>
              ldI .i64 w8 b1 (0 + 2) fun i15 =>
              ldSl w8 b1 (0 + 3) fun A16 n17 c18 =>
              ldI .i64 w8 b1 (0 + 4) fun i19 =>
              Calls Try.prog 8 #[Value.pointer none, Value.int .i64 i14, Value.int .i64 i15, Value.slice A16 n17 c18, Value.int .i64 i19] w8 fun e21 w20 =>
              ∃ i22 : Int, e21 = .returned (Value.int .i64 i22) ∧ (
                vIf (i22 == 1)
                (ldI .i64 w20 b1 (0 + 1) fun i23 =>
                  Calls Try.prog 14 #[Value.pointer none, Value.int .i64 i23] w20 fun e25 w24 =>
                  ∃ i26 : Int, e25 = .returned (Value.int .i64 i26) ∧ (
                    vIf (i26 == 1)
                    (Calls Try.prog 17 #[Value.pointer none] w24 fun e28 w27 =>
                      ∃ (A29 : Option Addr) (n30 c31 : Nat), e28 = .returned (Value.slice A29 n30 c31) ∧ (
                        vIf (((n30 : Nat) : Int) == 0)
                        (Calls Try.prog 11 #[] w27 fun e33 w32 =>
                          ∃ t34 : Bool, e33 = .returned (Value.bool t34) ∧ (
                            Q (Value.bool t34) w32))
                        (Q (Value.bool false) w27)))
                    (Q (Value.bool false) w24)))
                (Q (Value.bool false) w20)))
            (Q (Value.bool false) w8))
          (Q (Value.bool false) w8))
        (Q (Value.bool false) w8))
      (Q (Value.bool false) w8)))
def F5.an : Ann := ⟨[], []⟩
theorem F5.eq (x0 : List Value) (w : World) (Q : Value → World → Prop) : vcFn Try.prog F5.an 5 [ofL x0] w Q = F5.vc x0 w Q := by kernel_rfl
theorem F5.of (x0 : List Value) (w : World) {Q : Value → World → Prop} (h : F5.vc x0 w Q) : Calls Try.prog 5 #[ofL x0] w (fun e w' => ∃ v, e = .returned v ∧ Q v w') := vcFn_sound noCount mixed ((F5.eq x0 w Q).symm ▸ h)
/-! ### function 6: stillage/uploads.New -/
def F6.vc  (w : World) (Q : Value → World → Prop) : Prop :=
  nw w ([Value.int .i64 0, Value.slice none 0 0, Value.int .i64 0, Value.slice none 0 0, Value.int .i64 0, Value.slice none 0 0, Value.int .i64 0, Value.slice none 0 0, Value.int .i64 0, Value.slice none 0 0, Value.int .i64 0, Value.slice none 0 0, Value.int .i64 0, Value.slice none 0 0, Value.int .i64 0, Value.slice none 0 0] ++ ([Value.int .i64 0] ++ [])) 59 fun b1 w2 =>
  Q (Value.pointer (some ⟨b1, 0, none⟩)) w2
def F6.an : Ann := ⟨[], []⟩
theorem F6.eq  (w : World) (Q : Value → World → Prop) : vcFn Try.prog F6.an 6 [] w Q = F6.vc  w Q := by kernel_rfl
theorem F6.of  (w : World) {Q : Value → World → Prop} (h : F6.vc  w Q) : Calls Try.prog 6 #[] w (fun e w' => ∃ v, e = .returned v ∧ Q v w') := vcFn_sound noCount mixed ((F6.eq  w Q).symm ▸ h)
/-! ### function 7: (*stillage/uploads.Uploads).Begin -/
def F7.vc (x0 : Option Addr) (w : World) (Q : Value → World → Prop) : Prop :=
  vIf x0.isNone
  (Q (Value.tuple #[Value.int .i64 0, Value.int .i64 1]) w)
  (Calls Try.prog 18 #[Value.pointer x0, Value.int .i64 0] w fun e2 w1 =>
    ∃ i3 : Int, e2 = .returned (Value.int .i64 i3) ∧ (
      vIf (decide (i3 < 0))
      (Q (Value.tuple #[Value.int .i64 0, Value.int .i64 8]) w1)
      (dr x0 fun b4 o5 =>
        ldI .i64 w1 b4 (o5 + 16) fun i6 =>
        dr x0 fun b7 o8 =>
        st w1 b7 (o8 + 16) [Value.int .i64 (IntKind.wrap .i64 (i6 + 1))] fun w9 =>
        dr x0 fun b10 o11 =>
        ldI .i64 w9.drew b10 (o11 + 16) fun i12 =>
        dr x0 fun b13 o14 =>
        gd (decide (0 ≤ i3)) <|
        gd (decide (i3 < 8)) <|
        gd (([Value.int .i64 i12] ++ ([Value.slice none 0 0] ++ [])).length == 2) <|
        st w9.drew b13 (o14 + (i3).toNat * 2) ([Value.int .i64 i12] ++ ([Value.slice none 0 0] ++ [])) fun w15 =>
        dr x0 fun b16 o17 =>
        ldI .i64 w15 b16 (o17 + 16) fun i18 =>
        Q (Value.tuple #[Value.int .i64 i18, Value.int .i64 0]) w15)))
def F7.an : Ann := ⟨[], []⟩
theorem F7.eq (x0 : Option Addr) (w : World) (Q : Value → World → Prop) : vcFn Try.prog F7.an 7 [Value.pointer x0] w Q = F7.vc x0 w Q := by kernel_rfl
theorem F7.of (x0 : Option Addr) (w : World) {Q : Value → World → Prop} (h : F7.vc x0 w Q) : Calls Try.prog 7 #[Value.pointer x0] w (fun e w' => ∃ v, e = .returned v ∧ Q v w') := vcFn_sound noCount mixed ((F7.eq x0 w Q).symm ▸ h)
/-! ### function 8: (*stillage/uploads.Uploads).Chunk -/
def F8.vc (x0 : Option Addr) (x1 : Int) (x2 : Int) (x3A : Option Addr) (x3n x3c : Nat) (x4 : Int) (w : World) (Q : Value → World → Prop) : Prop :=
  Calls Try.prog 19 #[Value.pointer x0, Value.int .i64 x1] w fun e2 w1 =>
  ∃ i3 : Int, ∃ i4 : Int, e2 = .returned (Value.tuple #[Value.int .i64 i3, Value.int .i64 i4]) ∧ (
    vIf (i4 != 0)
    (Q (Value.int .i64 i4) w1)
    (dr x0 fun b5 o6 =>
      gd (decide (0 ≤ i3)) <|
      gd (decide (i3 < 8)) <|
      ldSl w1 b5 ((o6 + (i3).toNat * 2) + 1) fun A7 n8 c9 =>
      vIf (x2 != ((n8 : Nat) : Int))
      (Q (Value.int .i64 17) w1)
      (vIf (decide ((IntKind.wrap .i64 (((n8 : Nat) : Int) + ((x3n : Nat) : Int))) > x4))
        (Q (Value.int .i64 18) w1)
        (dr x0 fun b10 o11 =>
          gd (decide (0 ≤ i3)) <|
          gd (decide (i3 < 8)) <|
          ldSl w1.drew b10 ((o11 + (i3).toNat * 2) + 1) fun A12 n13 c14 =>
          dr x0 fun b15 o16 =>
          nw w1.drew ([Value.slice A12 n13 c14] ++ ([Value.slice x3A x3n x3c] ++ [])) 28 fun b17 w18 =>
          Calls Try.prog 20 #[Value.slice (some ⟨b17, 0, none⟩) 2 2] w18 fun e20 w19 =>
          ∃ (A21 : Option Addr) (n22 c23 : Nat), e20 = .returned (Value.slice A21 n22 c23) ∧ (
            gd (decide (0 ≤ i3)) <|
            gd (decide (i3 < 8)) <|
            st w19 b15 ((o16 + (i3).toNat * 2) + 1) [Value.slice A21 n22 c23] fun w24 =>
            Q (Value.int .i64 0) w24)))))
def F8.an : Ann := ⟨[], []⟩
theorem F8.eq (x0 : Option Addr) (x1 : Int) (x2 : Int) (x3A : Option Addr) (x3n x3c : Nat) (x4 : Int) (w : World) (Q : Value → World → Prop) : vcFn Try.prog F8.an 8 [Value.pointer x0, Value.int .i64 x1, Value.int .i64 x2, Value.slice x3A x3n x3c, Value.int .i64 x4] w Q = F8.vc x0 x1 x2 x3A x3n x3c x4 w Q := by kernel_rfl
theorem F8.of (x0 : Option Addr) (x1 : Int) (x2 : Int) (x3A : Option Addr) (x3n x3c : Nat) (x4 : Int) (w : World) {Q : Value → World → Prop} (h : F8.vc x0 x1 x2 x3A x3n x3c x4 w Q) : Calls Try.prog 8 #[Value.pointer x0, Value.int .i64 x1, Value.int .i64 x2, Value.slice x3A x3n x3c, Value.int .i64 x4] w (fun e w' => ∃ v, e = .returned v ∧ Q v w') := vcFn_sound noCount mixed ((F8.eq x0 x1 x2 x3A x3n x3c x4 w Q).symm ▸ h)
/-! ### function 9: (*stillage/uploads.Uploads).Data -/
def F9.vc (x0 : Option Addr) (x1 : Int) (w : World) (Q : Value → World → Prop) : Prop :=
  Calls Try.prog 19 #[Value.pointer x0, Value.int .i64 x1] w fun e2 w1 =>
  ∃ i3 : Int, ∃ i4 : Int, e2 = .returned (Value.tuple #[Value.int .i64 i3, Value.int .i64 i4]) ∧ (
    vIf (i4 != 0)
    (Q (Value.tuple #[Value.slice none 0 0, Value.int .i64 i4]) w1)
    (dr x0 fun b5 o6 =>
      gd (decide (0 ≤ i3)) <|
      gd (decide (i3 < 8)) <|
      ldSl w1 b5 ((o6 + (i3).toNat * 2) + 1) fun A7 n8 c9 =>
      Calls Try.prog 21 #[Value.slice A7 n8 c9] w1 fun e11 w10 =>
      ∃ (A12 : Option Addr) (n13 c14 : Nat), e11 = .returned (Value.slice A12 n13 c14) ∧ (
        Q (Value.tuple #[Value.slice A12 n13 c14, Value.int .i64 0]) w10)))
def F9.an : Ann := ⟨[], []⟩
theorem F9.eq (x0 : Option Addr) (x1 : Int) (w : World) (Q : Value → World → Prop) : vcFn Try.prog F9.an 9 [Value.pointer x0, Value.int .i64 x1] w Q = F9.vc x0 x1 w Q := by kernel_rfl
theorem F9.of (x0 : Option Addr) (x1 : Int) (w : World) {Q : Value → World → Prop} (h : F9.vc x0 x1 w Q) : Calls Try.prog 9 #[Value.pointer x0, Value.int .i64 x1] w (fun e w' => ∃ v, e = .returned v ∧ Q v w') := vcFn_sound noCount mixed ((F9.eq x0 x1 w Q).symm ▸ h)
/-! ### function 10: stillage/stillageref01.Same -/
def F10.b4c (Q : Value → World → Prop) (C4 : ((Option Addr × Nat × Nat) × (Option Addr × Nat × Nat) × Int × Unit) → World → Prop) (x0 : (Option Addr × Nat × Nat)) (x1 : (Option Addr × Nat × Nat)) (x5 : Int) (w : World) : Prop :=
  vIf (decide (x5 < ((x0.2.1 : Nat) : Int)))
  (dr x0.1 fun b1 o2 =>
    gd (decide (0 ≤ x5)) <|
    gd (decide (x5 < ((x0.2.1 : Nat) : Int))) <|
    ldI .u8 w.drew b1 (o2 + (x5).toNat * 1) fun i3 =>
    dr x1.1 fun b4 o5 =>
    gd (decide (0 ≤ x5)) <|
    gd (decide (x5 < ((x1.2.1 : Nat) : Int))) <|
    ldI .u8 w.drew b4 (o5 + (x5).toNat * 1) fun i6 =>
    vIf (i3 != i6)
    (Q (Value.bool false) w.drew)
    (jnC C4 ((x0.1, x0.2.1, x0.2.2), (x1.1, x1.2.1, x1.2.2), ((IntKind.wrap .i64 (x5 + 1))), ()) w.drew))
  (Q (Value.bool true) w)
def F10.b4 (Q : Value → World → Prop) : ((Option Addr × Nat × Nat) × (Option Addr × Nat × Nat) × Int × Unit) → World → (((Option Addr × Nat × Nat) × (Option Addr × Nat × Nat) × Int × Unit) → World → Prop) → Prop := fun s w C4 => ∀ _ : Nat → Value, F10.b4c Q C4 s.1 s.2.1 s.2.2.1 w
def F10.l4 (Q : Value → World → Prop) : ((Option Addr × Nat × Nat) × (Option Addr × Nat × Nat) × Int × Unit) → World → Prop := fun s w => ∃ n, loopC (F10.b4 Q) n s w
def F10.vc (x0A : Option Addr) (x0n x0c : Nat) (x1A : Option Addr) (x1n x1c : Nat) (w : World) (Q : Value → World → Prop) : Prop :=
  vIf (((x0n : Nat) : Int) != ((x1n : Nat) : Int))
  (Q (Value.bool false) w)
  (jnC (F10.l4 Q) ((x0A, x0n, x0c), (x1A, x1n, x1c), (0), ()) w)
def F10.an : Ann := ⟨[(4, [(0, .kSl), (1, .kSl), (5, .kI .i64)])], []⟩
theorem F10.eq (x0A : Option Addr) (x0n x0c : Nat) (x1A : Option Addr) (x1n x1c : Nat) (w : World) (Q : Value → World → Prop) : vcFn Try.prog F10.an 10 [Value.slice x0A x0n x0c, Value.slice x1A x1n x1c] w Q = F10.vc x0A x0n x0c x1A x1n x1c w Q := by kernel_rfl
theorem F10.of (x0A : Option Addr) (x0n x0c : Nat) (x1A : Option Addr) (x1n x1c : Nat) (w : World) {Q : Value → World → Prop} (h : F10.vc x0A x0n x0c x1A x1n x1c w Q) : Calls Try.prog 10 #[Value.slice x0A x0n x0c, Value.slice x1A x1n x1c] w (fun e w' => ∃ v, e = .returned v ∧ Q v w') := vcFn_sound noCount mixed ((F10.eq x0A x0n x0c x1A x1n x1c w Q).symm ▸ h)
/-! ### function 11: stillage/stillagelaw37.lives -/
def F11.vc  (w : World) (Q : Value → World → Prop) : Prop :=
  Calls Try.prog 6 #[] w fun e2 w1 =>
  ∃ p3 : Option Addr, e2 = .returned (Value.pointer p3) ∧ (
    Calls Try.prog 7 #[Value.pointer p3] w1 fun e5 w4 =>
    ∃ i6 : Int, ∃ i7 : Int, e5 = .returned (Value.tuple #[Value.int .i64 i6, Value.int .i64 i7]) ∧ (
      nw w4 ([Value.int .u8 97] ++ ([Value.int .u8 98] ++ ([Value.int .u8 99] ++ []))) 5 fun b8 w9 =>
      mkS w9 b8 fun w10 =>
      Calls Try.prog 8 #[Value.pointer p3, Value.int .i64 i6, Value.int .i64 0, Value.slice (some ⟨b8, 0, none⟩) 3 3, Value.int .i64 4] w10 fun e12 w11 =>
      ∃ i13 : Int, e12 = .returned (Value.int .i64 i13) ∧ (
        nw w11 ([Value.int .u8 100] ++ []) 5 fun b14 w15 =>
        mkS w15 b14 fun w16 =>
        Calls Try.prog 8 #[Value.pointer p3, Value.int .i64 i6, Value.int .i64 3, Value.slice (some ⟨b14, 0, none⟩) 1 1, Value.int .i64 4] w16 fun e18 w17 =>
        ∃ i19 : Int, e18 = .returned (Value.int .i64 i19) ∧ (
          Calls Try.prog 9 #[Value.pointer p3, Value.int .i64 i6] w17 fun e21 w20 =>
          ∃ (A22 : Option Addr) (n23 c24 : Nat), ∃ i25 : Int, e21 = .returned (Value.tuple #[Value.slice A22 n23 c24, Value.int .i64 i25]) ∧ (
            vIf (i6 == 1)
            (vIf (i7 == 0)
              (vIf (i13 == 0)
                (vIf (i19 == 0)
                  (vIf (i25 == 0)
                    (b2s w20 A22 n23 fun s26 =>
                      Q (Value.bool (s26.toList == (⟨#[97, 98, 99, 100]⟩ : ByteArray).toList)) w20)
                    (Q (Value.bool false) w20))
                  (Q (Value.bool false) w20))
                (Q (Value.bool false) w20))
              (Q (Value.bool false) w20))
            (Q (Value.bool false) w20))))))
def F11.an : Ann := ⟨[], []⟩
theorem F11.eq  (w : World) (Q : Value → World → Prop) : vcFn Try.prog F11.an 11 [] w Q = F11.vc  w Q := by kernel_rfl
theorem F11.of  (w : World) {Q : Value → World → Prop} (h : F11.vc  w Q) : Calls Try.prog 11 #[] w (fun e w' => ∃ v, e = .returned v ∧ Q v w') := vcFn_sound noCount mixed ((F11.eq  w Q).symm ▸ h)
/-! ### function 12: stillage/stillageref37.Begin -/
def F12.vc (x0 : List Value) (w : World) (Q : Value → World → Prop) : Prop :=
  nw w x0 38 fun b1 w2 =>
  nw w2 [Value.slice none 0 0, Value.int .i64 0] 38 fun b3 w4 =>
  ldSl w4 b1 0 fun A5 n6 c7 =>
  vIf (decide (((n6 : Nat) : Int) ≥ 8))
  (ldA 2 w4 b1 0 fun a8 =>
    gd (a8.length == 2) <|
    st w4 b3 0 a8 fun w9 =>
    ldA 2 w9 b3 0 fun a10 =>
    Q (Value.tuple #[ofL a10, Value.int .i64 0, Value.int .i64 8]) w9)
  (ldSl w4 b1 0 fun A11 n12 c13 =>
    app w4 2 32 [Value.int .i64 0, Value.slice none 0 0] 52 none 0 0 (Value.slice A11 n12 c13) fun A14 n15 c16 w17 =>
    ldI .i64 w17.drew b1 (0 + 1) fun i18 =>
    ldI .i64 w17.drew b1 (0 + 1) fun i19 =>
    ldI .i64 w17.drew b1 (0 + 1) fun i20 =>
    gd (([Value.int .i64 (IntKind.wrap .i64 (i18 + 1))] ++ ([Value.slice none 0 0] ++ [])).length == 2) <|
    nw w17.drew (([Value.int .i64 (IntKind.wrap .i64 (i18 + 1))] ++ ([Value.slice none 0 0] ++ [])) ++ []) 52 fun b21 w22 =>
    kp w17.drew b1 (0 + 1) 1 w22 <|
    kp w17.drew b1 (0 + 1) 1 w22 <|
    app w22 2 32 [Value.int .i64 0, Value.slice none 0 0] 52 A14 n15 c16 (Value.slice (some ⟨b21, 0, none⟩) 1 1) fun A23 n24 c25 w26 =>
    kp w17.drew b1 (0 + 1) 1 w26 <|
    kp w17.drew b1 (0 + 1) 1 w26 <|
    gd (([Value.slice A23 n24 c25] ++ ([Value.int .i64 (IntKind.wrap .i64 (i19 + 1))] ++ [])).length == 2) <|
    st w26 b3 0 ([Value.slice A23 n24 c25] ++ ([Value.int .i64 (IntKind.wrap .i64 (i19 + 1))] ++ [])) fun w27 =>
    kp w17.drew b1 (0 + 1) 1 w27 <|
    ldA 2 w27 b3 0 fun a28 =>
    Q (Value.tuple #[ofL a28, Value.int .i64 (IntKind.wrap .i64 (i20 + 1)), Value.int .i64 0]) w27)
def F12.an : Ann := ⟨[], []⟩
theorem F12.eq (x0 : List Value) (w : World) (Q : Value → World → Prop) : vcFn Try.prog F12.an 12 [ofL x0] w Q = F12.vc x0 w Q := by kernel_rfl
theorem F12.of (x0 : List Value) (w : World) {Q : Value → World → Prop} (h : F12.vc x0 w Q) : Calls Try.prog 12 #[ofL x0] w (fun e w' => ∃ v, e = .returned v ∧ Q v w') := vcFn_sound noCount mixed ((F12.eq x0 w Q).symm ▸ h)
/-! ### function 13: stillage/stillageref37.Chunk -/
def F13.k15c (Q : Value → World → Prop) (C10 : (Int × (Option Addr × Nat × Nat) × (Nat × Nat) × (Nat × Nat) × (Option Addr × Nat × Nat) × (Nat × Nat) × Int × Unit) → World → Prop) (x1 : Int) (x3 : (Option Addr × Nat × Nat)) (x5 : (Nat × Nat)) (x10 : (Nat × Nat)) (x12 : (Option Addr × Nat × Nat)) (x14 : (Nat × Nat)) (x15 : Int) (x16 : (Nat × Nat)) (w : World) : Prop :=
  ldSl w x14.1 x14.2 fun A47 n48 c49 =>
  ldA 2 w x16.1 x16.2 fun a50 =>
  gd (a50.length == 2) <|
  nw w (a50 ++ []) 52 fun b51 w52 =>
  app w52 2 32 [Value.int .i64 0, Value.slice none 0 0] 52 A47 n48 c49 (Value.slice (some ⟨b51, 0, none⟩) 1 1) fun A53 n54 c55 w56 =>
  st w56 x14.1 x14.2 [Value.slice A53 n54 c55] fun w57 =>
  jnC C10 ((x1), (x3.1, x3.2.1, x3.2.2), (x5.1, x5.2), (x10.1, x10.2), (x12.1, x12.2.1, x12.2.2), (x14.1, x14.2), ((IntKind.wrap .i64 (x15 + 1))), ()) w57
def F13.k15 (Q : Value → World → Prop) (C10 : (Int × (Option Addr × Nat × Nat) × (Nat × Nat) × (Nat × Nat) × (Option Addr × Nat × Nat) × (Nat × Nat) × Int × Unit) → World → Prop) : (Int × (Option Addr × Nat × Nat) × (Nat × Nat) × (Nat × Nat) × (Option Addr × Nat × Nat) × (Nat × Nat) × Int × (Nat × Nat) × Unit) → World → Prop := fun s w => ∀ _ : Nat → Value, F13.k15c Q C10 s.1 s.2.1 s.2.2.1 s.2.2.2.1 s.2.2.2.2.1 s.2.2.2.2.2.1 s.2.2.2.2.2.2.1 s.2.2.2.2.2.2.2.1 w
def F13.b10c (Q : Value → World → Prop) (C10 : (Int × (Option Addr × Nat × Nat) × (Nat × Nat) × (Nat × Nat) × (Option Addr × Nat × Nat) × (Nat × Nat) × Int × Unit) → World → Prop) (x1 : Int) (x3 : (Option Addr × Nat × Nat)) (x5 : (Nat × Nat)) (x10 : (Nat × Nat)) (x12 : (Option Addr × Nat × Nat)) (x14 : (Nat × Nat)) (x15 : Int) (w : World) : Prop :=
  ldSl w x5.1 x5.2 fun A25 n26 c27 =>
  vIf (decide (x15 < ((n26 : Nat) : Int)))
  (ldSl w x5.1 x5.2 fun A28 n29 c30 =>
    dr A28 fun b31 o32 =>
    gd (decide (0 ≤ x15)) <|
    gd (decide (x15 < ((n29 : Nat) : Int))) <|
    ldA 2 w b31 (o32 + (x15).toNat * 2) fun a33 =>
    nw w [Value.int .i64 0, Value.slice none 0 0] 52 fun b34 w35 =>
    gd (a33.length == 2) <|
    st w35 b34 0 a33 fun w36 =>
    ldI .i64 w36 b34 0 fun i37 =>
    vIf (i37 == x1)
    (app w36 1 1 [Value.int .u8 0] 5 none 0 0 (Value.slice x12.1 x12.2.1 x12.2.2) fun A38 n39 c40 w41 =>
      app w41 1 1 [Value.int .u8 0] 5 A38 n39 c40 (Value.slice x3.1 x3.2.1 x3.2.2) fun A42 n43 c44 w45 =>
      st w45 b34 (0 + 1) [Value.slice A42 n43 c44] fun w46 =>
      jnC (F13.k15 Q C10) ((x1), (x3.1, x3.2.1, x3.2.2), (x5.1, x5.2), (x10.1, x10.2), (x12.1, x12.2.1, x12.2.2), (x14.1, x14.2), (x15), (b34, 0), ()) w46)
    (jnC (F13.k15 Q C10) ((x1), (x3.1, x3.2.1, x3.2.2), (x5.1, x5.2), (x10.1, x10.2), (x12.1, x12.2.1, x12.2.2), (x14.1, x14.2), (x15), (b34, 0), ()) w36))
  (ldA 2 w x14.1 x14.2 fun a58 =>
    gd (a58.length == 2) <|
    st w x10.1 x10.2 a58 fun w59 =>
    ldA 2 w59 x10.1 x10.2 fun a60 =>
    Q (Value.tuple #[ofL a60, Value.int .i64 0]) w59)
def F13.b10 (Q : Value → World → Prop) : (Int × (Option Addr × Nat × Nat) × (Nat × Nat) × (Nat × Nat) × (Option Addr × Nat × Nat) × (Nat × Nat) × Int × Unit) → World → ((Int × (Option Addr × Nat × Nat) × (Nat × Nat) × (Nat × Nat) × (Option Addr × Nat × Nat) × (Nat × Nat) × Int × Unit) → World → Prop) → Prop := fun s w C10 => ∀ _ : Nat → Value, F13.b10c Q C10 s.1 s.2.1 s.2.2.1 s.2.2.2.1 s.2.2.2.2.1 s.2.2.2.2.2.1 s.2.2.2.2.2.2.1 w
def F13.l10 (Q : Value → World → Prop) : (Int × (Option Addr × Nat × Nat) × (Nat × Nat) × (Nat × Nat) × (Option Addr × Nat × Nat) × (Nat × Nat) × Int × Unit) → World → Prop := fun s w => ∃ n, loopC (F13.b10 Q) n s w
def F13.vc (x0 : List Value) (x1 : Int) (x2 : Int) (x3A : Option Addr) (x3n x3c : Nat) (x4 : Int) (w : World) (Q : Value → World → Prop) : Prop :=
  nw w x0 38 fun b1 w2 =>
  nw w2 [Value.slice none 0 0, Value.int .i64 0] 38 fun b3 w4 =>
  ldA 2 w4 b1 0 fun a5 =>
  Calls Try.prog 16 #[ofL a5, Value.int .i64 x1] w4 fun e7 w6 =>
  ∃ (A8 : Option Addr) (n9 c10 : Nat), ∃ t11 : Bool, e7 = .returned (Value.tuple #[Value.slice A8 n9 c10, Value.bool t11]) ∧ (
    vIf (!t11)
    (ldA 2 w6 b1 0 fun a12 =>
      gd (a12.length == 2) <|
      st w6 b3 0 a12 fun w13 =>
      ldA 2 w13 b3 0 fun a14 =>
      Q (Value.tuple #[ofL a14, Value.int .i64 6]) w13)
    (vIf (((n9 : Nat) : Int) != x2)
      (ldA 2 w6 b1 0 fun a15 =>
        gd (a15.length == 2) <|
        st w6 b3 0 a15 fun w16 =>
        ldA 2 w16 b3 0 fun a17 =>
        Q (Value.tuple #[ofL a17, Value.int .i64 17]) w16)
      (vIf (decide ((IntKind.wrap .i64 (((n9 : Nat) : Int) + ((x3n : Nat) : Int))) > x4))
        (ldA 2 w6 b1 0 fun a18 =>
          gd (a18.length == 2) <|
          st w6 b3 0 a18 fun w19 =>
          ldA 2 w19 b3 0 fun a20 =>
          Q (Value.tuple #[ofL a20, Value.int .i64 18]) w19)
        (ldI .i64 w6 b1 (0 + 1) fun i21 =>
          nw w6 [Value.slice none 0 0, Value.int .i64 0] 38 fun b22 w23 =>
          gd (([Value.slice none 0 0] ++ ([Value.int .i64 i21] ++ [])).length == 2) <|
          st w23 b22 0 ([Value.slice none 0 0] ++ ([Value.int .i64 i21] ++ [])) fun w24 =>
          jnC (F13.l10 Q) ((x1), (x3A, x3n, x3c), (b1, 0), (b3, 0), (A8, n9, c10), (b22, 0), (0), ()) w24))))
def F13.an : Ann := ⟨[(10, [(1, .kI .i64), (3, .kSl), (5, .kL), (10, .kL), (12, .kSl), (14, .kL), (15, .kI .i64)])], [(15, [(1, .kI .i64), (3, .kSl), (5, .kL), (10, .kL), (12, .kSl), (14, .kL), (15, .kI .i64), (16, .kL)])]⟩
theorem F13.eq (x0 : List Value) (x1 : Int) (x2 : Int) (x3A : Option Addr) (x3n x3c : Nat) (x4 : Int) (w : World) (Q : Value → World → Prop) : vcFn Try.prog F13.an 13 [ofL x0, Value.int .i64 x1, Value.int .i64 x2, Value.slice x3A x3n x3c, Value.int .i64 x4] w Q = F13.vc x0 x1 x2 x3A x3n x3c x4 w Q := by kernel_rfl
theorem F13.of (x0 : List Value) (x1 : Int) (x2 : Int) (x3A : Option Addr) (x3n x3c : Nat) (x4 : Int) (w : World) {Q : Value → World → Prop} (h : F13.vc x0 x1 x2 x3A x3n x3c x4 w Q) : Calls Try.prog 13 #[ofL x0, Value.int .i64 x1, Value.int .i64 x2, Value.slice x3A x3n x3c, Value.int .i64 x4] w (fun e w' => ∃ v, e = .returned v ∧ Q v w') := vcFn_sound noCount mixed ((F13.eq x0 x1 x2 x3A x3n x3c x4 w Q).symm ▸ h)
/-! ### function 14: (*stillage/uploads.Uploads).End -/
def F14.vc (x0 : Option Addr) (x1 : Int) (w : World) (Q : Value → World → Prop) : Prop :=
  Calls Try.prog 19 #[Value.pointer x0, Value.int .i64 x1] w fun e2 w1 =>
  ∃ i3 : Int, ∃ i4 : Int, e2 = .returned (Value.tuple #[Value.int .i64 i3, Value.int .i64 i4]) ∧ (
    vIf (i4 == 0)
    (dr x0 fun b5 o6 =>
      gd (decide (0 ≤ i3)) <|
      gd (decide (i3 < 8)) <|
      gd (([Value.int .i64 0] ++ ([Value.slice none 0 0] ++ [])).length == 2) <|
      st w1 b5 (o6 + (i3).toNat * 2) ([Value.int .i64 0] ++ ([Value.slice none 0 0] ++ [])) fun w7 =>
      Q (Value.int .i64 i4) w7)
    (Q (Value.int .i64 i4) w1))
def F14.an : Ann := ⟨[], []⟩
theorem F14.eq (x0 : Option Addr) (x1 : Int) (w : World) (Q : Value → World → Prop) : vcFn Try.prog F14.an 14 [Value.pointer x0, Value.int .i64 x1] w Q = F14.vc x0 x1 w Q := by kernel_rfl
theorem F14.of (x0 : Option Addr) (x1 : Int) (w : World) {Q : Value → World → Prop} (h : F14.vc x0 x1 w Q) : Calls Try.prog 14 #[Value.pointer x0, Value.int .i64 x1] w (fun e w' => ∃ v, e = .returned v ∧ Q v w') := vcFn_sound noCount mixed ((F14.eq x0 x1 w Q).symm ▸ h)
/-! ### function 15: stillage/stillageref37.End -/
def F15.b6c (Q : Value → World → Prop) (C6 : (Int × (Nat × Nat) × (Nat × Nat) × (Nat × Nat) × Int × Unit) → World → Prop) (x1 : Int) (x2 : (Nat × Nat)) (x4 : (Nat × Nat)) (x8 : (Nat × Nat)) (x9 : Int) (w : World) : Prop :=
  ldSl w x2.1 x2.2 fun A19 n20 c21 =>
  vIf (decide (x9 < ((n20 : Nat) : Int)))
  (ldSl w x2.1 x2.2 fun A22 n23 c24 =>
    dr A22 fun b25 o26 =>
    gd (decide (0 ≤ x9)) <|
    gd (decide (x9 < ((n23 : Nat) : Int))) <|
    ldI .i64 w b25 (o26 + (x9).toNat * 2) fun i27 =>
    vIf (i27 != x1)
    (ldSl w.drew x8.1 x8.2 fun A28 n29 c30 =>
      ldSl w.drew x2.1 x2.2 fun A31 n32 c33 =>
      dr A31 fun b34 o35 =>
      gd (decide (0 ≤ x9)) <|
      gd (decide (x9 < ((n32 : Nat) : Int))) <|
      ldA 2 w.drew b34 (o35 + (x9).toNat * 2) fun a36 =>
      gd (a36.length == 2) <|
      nw w.drew (a36 ++ []) 52 fun b37 w38 =>
      kp w.drew x8.1 x8.2 1 w38 <|
      app w38 2 32 [Value.int .i64 0, Value.slice none 0 0] 52 A28 n29 c30 (Value.slice (some ⟨b37, 0, none⟩) 1 1) fun A39 n40 c41 w42 =>
      st w42 x8.1 x8.2 [Value.slice A39 n40 c41] fun w43 =>
      jnC C6 ((x1), (x2.1, x2.2), (x4.1, x4.2), (x8.1, x8.2), ((IntKind.wrap .i64 (x9 + 1))), ()) w43)
    (jnC C6 ((x1), (x2.1, x2.2), (x4.1, x4.2), (x8.1, x8.2), ((IntKind.wrap .i64 (x9 + 1))), ()) w))
  (ldA 2 w x8.1 x8.2 fun a44 =>
    gd (a44.length == 2) <|
    st w x4.1 x4.2 a44 fun w45 =>
    ldA 2 w45 x4.1 x4.2 fun a46 =>
    Q (Value.tuple #[ofL a46, Value.int .i64 0]) w45)
def F15.b6 (Q : Value → World → Prop) : (Int × (Nat × Nat) × (Nat × Nat) × (Nat × Nat) × Int × Unit) → World → ((Int × (Nat × Nat) × (Nat × Nat) × (Nat × Nat) × Int × Unit) → World → Prop) → Prop := fun s w C6 => ∀ _ : Nat → Value, F15.b6c Q C6 s.1 s.2.1 s.2.2.1 s.2.2.2.1 s.2.2.2.2.1 w
def F15.l6 (Q : Value → World → Prop) : (Int × (Nat × Nat) × (Nat × Nat) × (Nat × Nat) × Int × Unit) → World → Prop := fun s w => ∃ n, loopC (F15.b6 Q) n s w
def F15.vc (x0 : List Value) (x1 : Int) (w : World) (Q : Value → World → Prop) : Prop :=
  nw w x0 38 fun b1 w2 =>
  nw w2 [Value.slice none 0 0, Value.int .i64 0] 38 fun b3 w4 =>
  ldA 2 w4 b1 0 fun a5 =>
  Calls Try.prog 16 #[ofL a5, Value.int .i64 x1] w4 fun e7 w6 =>
  ∃ (A8 : Option Addr) (n9 c10 : Nat), ∃ t11 : Bool, e7 = .returned (Value.tuple #[Value.slice A8 n9 c10, Value.bool t11]) ∧ (
    vIf (!t11)
    (ldA 2 w6 b1 0 fun a12 =>
      gd (a12.length == 2) <|
      st w6 b3 0 a12 fun w13 =>
      ldA 2 w13 b3 0 fun a14 =>
      Q (Value.tuple #[ofL a14, Value.int .i64 6]) w13)
    (ldI .i64 w6 b1 (0 + 1) fun i15 =>
      nw w6 [Value.slice none 0 0, Value.int .i64 0] 38 fun b16 w17 =>
      gd (([Value.slice none 0 0] ++ ([Value.int .i64 i15] ++ [])).length == 2) <|
      st w17 b16 0 ([Value.slice none 0 0] ++ ([Value.int .i64 i15] ++ [])) fun w18 =>
      jnC (F15.l6 Q) ((x1), (b1, 0), (b3, 0), (b16, 0), (0), ()) w18))
def F15.an : Ann := ⟨[(6, [(1, .kI .i64), (2, .kL), (4, .kL), (8, .kL), (9, .kI .i64)])], []⟩
theorem F15.eq (x0 : List Value) (x1 : Int) (w : World) (Q : Value → World → Prop) : vcFn Try.prog F15.an 15 [ofL x0, Value.int .i64 x1] w Q = F15.vc x0 x1 w Q := by kernel_rfl
theorem F15.of (x0 : List Value) (x1 : Int) (w : World) {Q : Value → World → Prop} (h : F15.vc x0 x1 w Q) : Calls Try.prog 15 #[ofL x0, Value.int .i64 x1] w (fun e w' => ∃ v, e = .returned v ∧ Q v w') := vcFn_sound noCount mixed ((F15.eq x0 x1 w Q).symm ▸ h)
/-! ### function 16: stillage/stillageref37.Find -/
def F16.b2c (Q : Value → World → Prop) (C2 : (Int × (Nat × Nat) × Int × Unit) → World → Prop) (x1 : Int) (x2 : (Nat × Nat)) (x6 : Int) (w : World) : Prop :=
  ldSl w x2.1 x2.2 fun A3 n4 c5 =>
  vIf (decide (x6 < ((n4 : Nat) : Int)))
  (ldSl w x2.1 x2.2 fun A6 n7 c8 =>
    dr A6 fun b9 o10 =>
    gd (decide (0 ≤ x6)) <|
    gd (decide (x6 < ((n7 : Nat) : Int))) <|
    ldI .i64 w b9 (o10 + (x6).toNat * 2) fun i11 =>
    vIf (i11 == x1)
    (ldSl w x2.1 x2.2 fun A12 n13 c14 =>
      dr A12 fun b15 o16 =>
      gd (decide (0 ≤ x6)) <|
      gd (decide (x6 < ((n13 : Nat) : Int))) <|
      ldSl w b15 ((o16 + (x6).toNat * 2) + 1) fun A17 n18 c19 =>
      Q (Value.tuple #[Value.slice A17 n18 c19, Value.bool true]) w)
    (jnC C2 ((x1), (x2.1, x2.2), ((IntKind.wrap .i64 (x6 + 1))), ()) w))
  (Q (Value.tuple #[Value.slice none 0 0, Value.bool false]) w)
def F16.b2 (Q : Value → World → Prop) : (Int × (Nat × Nat) × Int × Unit) → World → ((Int × (Nat × Nat) × Int × Unit) → World → Prop) → Prop := fun s w C2 => ∀ _ : Nat → Value, F16.b2c Q C2 s.1 s.2.1 s.2.2.1 w
def F16.l2 (Q : Value → World → Prop) : (Int × (Nat × Nat) × Int × Unit) → World → Prop := fun s w => ∃ n, loopC (F16.b2 Q) n s w
def F16.vc (x0 : List Value) (x1 : Int) (w : World) (Q : Value → World → Prop) : Prop :=
  nw w x0 38 fun b1 w2 =>
  jnC (F16.l2 Q) ((x1), (b1, 0), (0), ()) w2
def F16.an : Ann := ⟨[(2, [(1, .kI .i64), (2, .kL), (6, .kI .i64)])], []⟩
theorem F16.eq (x0 : List Value) (x1 : Int) (w : World) (Q : Value → World → Prop) : vcFn Try.prog F16.an 16 [ofL x0, Value.int .i64 x1] w Q = F16.vc x0 x1 w Q := by kernel_rfl
theorem F16.of (x0 : List Value) (x1 : Int) (w : World) {Q : Value → World → Prop} (h : F16.vc x0 x1 w Q) : Calls Try.prog 16 #[ofL x0, Value.int .i64 x1] w (fun e w' => ∃ v, e = .returned v ∧ Q v w') := vcFn_sound noCount mixed ((F16.eq x0 x1 w Q).symm ▸ h)
/-! ### function 17: (*stillage/uploads.Uploads).Open -/
def F17.b5c (Q : Value → World → Prop) (C5 : ((Option Addr × Nat × Nat) × List Value × Int × Unit) → World → Prop) (x3 : (Option Addr × Nat × Nat)) (x11 : List Value) (x12 : Int) (w : World) : Prop :=
  vIf (decide (x12 < 8))
  (gd (decide (0 ≤ x12)) <|
    gd (decide (x12 < 8)) <|
    nw w [Value.int .i64 0, Value.slice none 0 0] 56 fun b4 w5 =>
    gd (((x11.drop ((x12).toNat * 2)).take 2).length == 2) <|
    st w5 b4 0 ((x11.drop ((x12).toNat * 2)).take 2) fun w6 =>
    ldI .i64 w6 b4 0 fun i7 =>
    vIf (i7 != 0)
    (ldI .i64 w6 b4 0 fun i8 =>
      nw w6 ([Value.int .i64 i8] ++ []) 3 fun b9 w10 =>
      app w10 1 8 [Value.int .i64 0] 3 x3.1 x3.2.1 x3.2.2 (Value.slice (some ⟨b9, 0, none⟩) 1 1) fun A11 n12 c13 w14 =>
      jnC C5 ((A11, n12, c13), x11, ((IntKind.wrap .i64 (x12 + 1))), ()) w14)
    (jnC C5 ((x3.1, x3.2.1, x3.2.2), x11, ((IntKind.wrap .i64 (x12 + 1))), ()) w6))
  (Calls Try.prog 22 #[Value.slice x3.1 x3.2.1 x3.2.2] w fun e16 w15 =>
    e16 = .returned (Value.tuple #[]) ∧ (
      Q (Value.slice x3.1 x3.2.1 x3.2.2) w15))
def F17.b5 (Q : Value → World → Prop) : ((Option Addr × Nat × Nat) × List Value × Int × Unit) → World → (((Option Addr × Nat × Nat) × List Value × Int × Unit) → World → Prop) → Prop := fun s w C5 => ∀ _ : Nat → Value, F17.b5c Q C5 s.1 s.2.1 s.2.2.1 w
def F17.l5 (Q : Value → World → Prop) : ((Option Addr × Nat × Nat) × List Value × Int × Unit) → World → Prop := fun s w => ∃ n, loopC (F17.b5 Q) n s w
def F17.vc (x0 : Option Addr) (w : World) (Q : Value → World → Prop) : Prop :=
  vIf x0.isNone
  (Q (Value.slice none 0 0) w)
  (dr x0 fun b1 o2 =>
    ldA 16 w b1 o2 fun a3 =>
    jnC (F17.l5 Q) ((none, 0, 0), a3, (0), ()) w)
def F17.an : Ann := ⟨[(5, [(3, .kSl), (11, .kA), (12, .kI .i64)])], []⟩
theorem F17.eq (x0 : Option Addr) (w : World) (Q : Value → World → Prop) : vcFn Try.prog F17.an 17 [Value.pointer x0] w Q = F17.vc x0 w Q := by kernel_rfl
theorem F17.of (x0 : Option Addr) (w : World) {Q : Value → World → Prop} (h : F17.vc x0 w Q) : Calls Try.prog 17 #[Value.pointer x0] w (fun e w' => ∃ v, e = .returned v ∧ Q v w') := vcFn_sound noCount mixed ((F17.eq x0 w Q).symm ▸ h)
/-! ### function 18: (*stillage/uploads.Uploads).place -/
def F18.b2c (Q : Value → World → Prop) (C2 : (Option Addr × Int × Int × Unit) → World → Prop) (x0 : Option Addr) (x1 : Int) (x6 : Int) (w : World) : Prop :=
  vIf (decide (x6 < 8))
  (dr x0 fun b1 o2 =>
    gd (decide (0 ≤ x6)) <|
    gd (decide (x6 < 8)) <|
    ldI .i64 w b1 (o2 + (x6).toNat * 2) fun i3 =>
    vIf (i3 == x1)
    (Q (Value.int .i64 x6) w)
    (jnC C2 (x0, (x1), ((IntKind.wrap .i64 (x6 + 1))), ()) w))
  (Q (Value.int .i64 (-1)) w)
def F18.b2 (Q : Value → World → Prop) : (Option Addr × Int × Int × Unit) → World → ((Option Addr × Int × Int × Unit) → World → Prop) → Prop := fun s w C2 => ∀ _ : Nat → Value, F18.b2c Q C2 s.1 s.2.1 s.2.2.1 w
def F18.l2 (Q : Value → World → Prop) : (Option Addr × Int × Int × Unit) → World → Prop := fun s w => ∃ n, loopC (F18.b2 Q) n s w
def F18.vc (x0 : Option Addr) (x1 : Int) (w : World) (Q : Value → World → Prop) : Prop :=
  jnC (F18.l2 Q) (x0, (x1), (0), ()) w
def F18.an : Ann := ⟨[(2, [(0, .kP), (1, .kI .i64), (6, .kI .i64)])], []⟩
theorem F18.eq (x0 : Option Addr) (x1 : Int) (w : World) (Q : Value → World → Prop) : vcFn Try.prog F18.an 18 [Value.pointer x0, Value.int .i64 x1] w Q = F18.vc x0 x1 w Q := by kernel_rfl
theorem F18.of (x0 : Option Addr) (x1 : Int) (w : World) {Q : Value → World → Prop} (h : F18.vc x0 x1 w Q) : Calls Try.prog 18 #[Value.pointer x0, Value.int .i64 x1] w (fun e w' => ∃ v, e = .returned v ∧ Q v w') := vcFn_sound noCount mixed ((F18.eq x0 x1 w Q).symm ▸ h)
/-! ### function 19: (*stillage/uploads.Uploads).find -/
def F19.k6c (Q : Value → World → Prop) (x6 : Int) (w : World) : Prop :=
  Q (Value.tuple #[Value.int .i64 x6, Value.int .i64 0]) w
def F19.k6 (Q : Value → World → Prop) : (Int × Unit) → World → Prop := fun s w => ∀ _ : Nat → Value, F19.k6c Q s.1 w
def F19.vc (x0 : Option Addr) (x1 : Int) (w : World) (Q : Value → World → Prop) : Prop :=
  vIf x0.isNone
  (Q (Value.tuple #[Value.int .i64 0, Value.int .i64 1]) w)
  (Calls Try.prog 18 #[Value.pointer x0, Value.int .i64 x1] w fun e2 w1 =>
    ∃ i3 : Int, e2 = .returned (Value.int .i64 i3) ∧ (
      vIf (x1 == 0)
      (Q (Value.tuple #[Value.int .i64 0, Value.int .i64 6]) w1)
      (vIf (decide (i3 < 0))
        (Q (Value.tuple #[Value.int .i64 0, Value.int .i64 6]) w1)
        (jnC (F19.k6 Q) ((i3), ()) w1))))
def F19.an : Ann := ⟨[], [(6, [(6, .kI .i64)])]⟩
theorem F19.eq (x0 : Option Addr) (x1 : Int) (w : World) (Q : Value → World → Prop) : vcFn Try.prog F19.an 19 [Value.pointer x0, Value.int .i64 x1] w Q = F19.vc x0 x1 w Q := by kernel_rfl
theorem F19.of (x0 : Option Addr) (x1 : Int) (w : World) {Q : Value → World → Prop} (h : F19.vc x0 x1 w Q) : Calls Try.prog 19 #[Value.pointer x0, Value.int .i64 x1] w (fun e w' => ∃ v, e = .returned v ∧ Q v w') := vcFn_sound noCount mixed ((F19.eq x0 x1 w Q).symm ▸ h)
/-! ### function 20: slices.Concat[[]byte,byte] -/
def F20.b11c (Q : Value → World → Prop) (C11 : ((Option Addr × Nat × Nat) × (Option Addr × Nat × Nat) × Int × Int × Unit) → World → Prop) (x6 : (Option Addr × Nat × Nat)) (x25 : (Option Addr × Nat × Nat)) (x26 : Int) (x27 : Int) (w : World) : Prop :=
  vIf (decide (x27 < x26))
  (dr x25.1 fun b11 o12 =>
    gd (decide (0 ≤ x27)) <|
    gd (decide (x27 < ((x25.2.1 : Nat) : Int))) <|
    ldSl w b11 (o12 + (x27).toNat * 1) fun A13 n14 c15 =>
    app w 1 1 [Value.int .u8 0] 5 x6.1 x6.2.1 x6.2.2 (Value.slice A13 n14 c15) fun A16 n17 c18 w19 =>
    jnC C11 ((A16, n17, c18), (x25.1, x25.2.1, x25.2.2), (x26), ((IntKind.wrap .i64 (x27 + 1))), ()) w19)
  (Q (Value.slice x6.1 x6.2.1 x6.2.2) w)
def F20.b11 (Q : Value → World → Prop) : ((Option Addr × Nat × Nat) × (Option Addr × Nat × Nat) × Int × Int × Unit) → World → (((Option Addr × Nat × Nat) × (Option Addr × Nat × Nat) × Int × Int × Unit) → World → Prop) → Prop := fun s w C11 => ∀ _ : Nat → Value, F20.b11c Q C11 s.1 s.2.1 s.2.2.1 s.2.2.2.1 w
def F20.l11 (Q : Value → World → Prop) : ((Option Addr × Nat × Nat) × (Option Addr × Nat × Nat) × Int × Int × Unit) → World → Prop := fun s w => ∃ n, loopC (F20.b11 Q) n s w
def F20.b3c (Q : Value → World → Prop) (C3 : ((Option Addr × Nat × Nat) × Int × (Option Addr × Nat × Nat) × Int × Int × Unit) → World → Prop) (x0 : (Option Addr × Nat × Nat)) (x3 : Int) (x9 : (Option Addr × Nat × Nat)) (x10 : Int) (x11 : Int) (w : World) : Prop :=
  vIf (decide (x11 < x10))
  (dr x9.1 fun b1 o2 =>
    gd (decide (0 ≤ x11)) <|
    gd (decide (x11 < ((x9.2.1 : Nat) : Int))) <|
    ldSl w b1 (o2 + (x11).toNat * 1) fun A3 n4 c5 =>
    vIf (decide ((IntKind.wrap .i64 (x3 + ((n4 : Nat) : Int))) < 0))
    (False)
    (jnC C3 ((x0.1, x0.2.1, x0.2.2), ((IntKind.wrap .i64 (x3 + ((n4 : Nat) : Int)))), (x9.1, x9.2.1, x9.2.2), (x10), ((IntKind.wrap .i64 (x11 + 1))), ()) w))
  (Calls Try.prog 23 #[Value.slice none 0 0, Value.int .i64 x3] w fun e7 w6 =>
    ∃ (A8 : Option Addr) (n9 c10 : Nat), e7 = .returned (Value.slice A8 n9 c10) ∧ (
      jnC (F20.l11 Q) ((A8, n9, c10), (x0.1, x0.2.1, x0.2.2), (((x0.2.1 : Nat) : Int)), (0), ()) w6))
def F20.b3 (Q : Value → World → Prop) : ((Option Addr × Nat × Nat) × Int × (Option Addr × Nat × Nat) × Int × Int × Unit) → World → (((Option Addr × Nat × Nat) × Int × (Option Addr × Nat × Nat) × Int × Int × Unit) → World → Prop) → Prop := fun s w C3 => ∀ _ : Nat → Value, F20.b3c Q C3 s.1 s.2.1 s.2.2.1 s.2.2.2.1 s.2.2.2.2.1 w
def F20.l3 (Q : Value → World → Prop) : ((Option Addr × Nat × Nat) × Int × (Option Addr × Nat × Nat) × Int × Int × Unit) → World → Prop := fun s w => ∃ n, loopC (F20.b3 Q) n s w
def F20.vc (x0A : Option Addr) (x0n x0c : Nat) (w : World) (Q : Value → World → Prop) : Prop :=
  jnC (F20.l3 Q) ((x0A, x0n, x0c), (0), (x0A, x0n, x0c), (((x0n : Nat) : Int)), (0), ()) w
def F20.an : Ann := ⟨[(3, [(0, .kSl), (3, .kI .i64), (9, .kSl), (10, .kI .i64), (11, .kI .i64)]), (11, [(6, .kSl), (25, .kSl), (26, .kI .i64), (27, .kI .i64)])], []⟩
theorem F20.eq (x0A : Option Addr) (x0n x0c : Nat) (w : World) (Q : Value → World → Prop) : vcFn Try.prog F20.an 20 [Value.slice x0A x0n x0c] w Q = F20.vc x0A x0n x0c w Q := by kernel_rfl
theorem F20.of (x0A : Option Addr) (x0n x0c : Nat) (w : World) {Q : Value → World → Prop} (h : F20.vc x0A x0n x0c w Q) : Calls Try.prog 20 #[Value.slice x0A x0n x0c] w (fun e w' => ∃ v, e = .returned v ∧ Q v w') := vcFn_sound noCount mixed ((F20.eq x0A x0n x0c w Q).symm ▸ h)
/-! ### function 21: slices.Clone[[]byte,byte] -/
def F21.vc (x0A : Option Addr) (x0n x0c : Nat) (w : World) (Q : Value → World → Prop) : Prop :=
  vIf x0A.isNone
  (Q (Value.slice none 0 0) w)
  (nw w [] 5 fun b1 w2 =>
    app w2 1 1 [Value.int .u8 0] 5 (some ⟨b1, 0, none⟩) 0 0 (Value.slice x0A x0n x0c) fun A3 n4 c5 w6 =>
    Q (Value.slice A3 n4 c5) w6)
def F21.an : Ann := ⟨[], []⟩
theorem F21.eq (x0A : Option Addr) (x0n x0c : Nat) (w : World) (Q : Value → World → Prop) : vcFn Try.prog F21.an 21 [Value.slice x0A x0n x0c] w Q = F21.vc x0A x0n x0c w Q := by kernel_rfl
theorem F21.of (x0A : Option Addr) (x0n x0c : Nat) (w : World) {Q : Value → World → Prop} (h : F21.vc x0A x0n x0c w Q) : Calls Try.prog 21 #[Value.slice x0A x0n x0c] w (fun e w' => ∃ v, e = .returned v ∧ Q v w') := vcFn_sound noCount mixed ((F21.eq x0A x0n x0c w Q).symm ▸ h)
/-! ### function 23: slices.Grow[[]byte,byte] -/
def F23.k3c (Q : Value → World → Prop) (x0 : (Option Addr × Nat × Nat)) (x1 : Int) (w : World) : Prop :=
  vIf (decide ((IntKind.wrap .i64 (x1 - (IntKind.wrap .i64 (((x0.2.2 : Nat) : Int) - ((x0.2.1 : Nat) : Int))))) > 0))
  (gd (decide (0 ≤ ((x0.2.2 : Nat) : Int))) <|
    gd (decide (((x0.2.2 : Nat) : Int) ≤ ((x0.2.2 : Nat) : Int))) <|
    appZ w 1 1 [Value.int .u8 0] 5 (slA x0.1 x0.2.2 0 1) ((((x0.2.2 : Nat) : Int)).toNat) x0.2.2 (IntKind.wrap .i64 (x1 - (IntKind.wrap .i64 (((x0.2.2 : Nat) : Int) - ((x0.2.1 : Nat) : Int))))) fun A1 n2 c3 w4 =>
    gd (decide (0 ≤ ((x0.2.1 : Nat) : Int))) <|
    gd (decide (((x0.2.1 : Nat) : Int) ≤ ((c3 : Nat) : Int))) <|
    Q (Value.slice (slA A1 c3 0 1) (((x0.2.1 : Nat) : Int)).toNat c3) w4)
  (Q (Value.slice x0.1 x0.2.1 x0.2.2) w)
def F23.k3 (Q : Value → World → Prop) : ((Option Addr × Nat × Nat) × Int × Unit) → World → Prop := fun s w => ∀ _ : Nat → Value, F23.k3c Q s.1 s.2.1 w
def F23.vc (x0A : Option Addr) (x0n x0c : Nat) (x1 : Int) (w : World) (Q : Value → World → Prop) : Prop :=
  vIf (decide (x1 < 0))
  (False)
  (jnC (F23.k3 Q) ((x0A, x0n, x0c), (x1), ()) w)
def F23.an : Ann := ⟨[], [(3, [(0, .kSl), (1, .kI .i64)])]⟩
theorem F23.eq (x0A : Option Addr) (x0n x0c : Nat) (x1 : Int) (w : World) (Q : Value → World → Prop) : vcFn Try.prog F23.an 23 [Value.slice x0A x0n x0c, Value.int .i64 x1] w Q = F23.vc x0A x0n x0c x1 w Q := by kernel_rfl
theorem F23.of (x0A : Option Addr) (x0n x0c : Nat) (x1 : Int) (w : World) {Q : Value → World → Prop} (h : F23.vc x0A x0n x0c x1 w Q) : Calls Try.prog 23 #[Value.slice x0A x0n x0c, Value.int .i64 x1] w (fun e w' => ∃ v, e = .returned v ∧ Q v w') := vcFn_sound noCount mixed ((F23.eq x0A x0n x0c x1 w Q).symm ▸ h)
end Go.Proofs.Ytihifmamdeafdaa
