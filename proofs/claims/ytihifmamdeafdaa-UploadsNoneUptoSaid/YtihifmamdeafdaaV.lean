/- PRINTED BY MY OWN gen.py out of the translation: each function as a proposition. -/
import Derived.Test.YtihifmamdeafdaaProg
import Derived.Test.YtihifmamdeafdaaG7
namespace Go.Proofs.Ytihifmamdeafdaa
open Go.GV
set_option linter.unusedVariables false
set_option maxRecDepth 100000
theorem noCount : NoCount Try.prog := noCount_of (by kernel_rfl)
theorem mixed : Try.prog.follows .mixedOrders = true := by kernel_rfl
/-! ### function 3: stillage/stillagelaw37.UploadsWhole -/
def F3.b5c (Q : Value → World → Prop) (C5 : ((Option Addr × Nat × Nat) × Option Addr × Int × Int × (Option Addr × Nat × Nat) × Int × Unit) → World → Prop) (x0 : (Option Addr × Nat × Nat)) (x3 : Option Addr) (x4 : Int) (x5 : Int) (x6 : (Option Addr × Nat × Nat)) (x7 : Int) (w : World) : Prop :=
  vIf (decide (x7 < ((x0.2.1 : Nat) : Int)))
  (dr x0.1 fun b8 o9 =>
    gd (decide (0 ≤ x7)) <|
    gd (decide (x7 < ((x0.2.1 : Nat) : Int))) <|
    ldSl w b8 (o9 + (x7).toNat * 1) fun A10 n11 c12 =>
    Calls Try.prog 8 #[Value.pointer x3, Value.int .i64 x4, Value.int .i64 ((x6.2.1 : Nat) : Int), Value.slice A10 n11 c12, Value.int .i64 1099511627776] w fun e14 w13 =>
    ∃ i15 : Int, e14 = .returned (Value.int .i64 i15) ∧ (
      vIf (i15 != 0)
      (Q (Value.bool false) w13)
      (dr x0.1 fun b16 o17 =>
        gd (decide (0 ≤ x7)) <|
        gd (decide (x7 < ((x0.2.1 : Nat) : Int))) <|
        ldSl w13 b16 (o17 + (x7).toNat * 1) fun A18 n19 c20 =>
        app w13 1 1 [Value.int .u8 0] 5 x6.1 x6.2.1 x6.2.2 (Value.slice A18 n19 c20) fun A21 n22 c23 w24 =>
        jnC C5 ((x0.1, x0.2.1, x0.2.2), x3, (x4), (x5), (A21, n22, c23), ((IntKind.wrap .i64 (x7 + 1))), ()) w24)))
  (Calls Try.prog 9 #[Value.pointer x3, Value.int .i64 x4] w fun e26 w25 =>
    ∃ (A27 : Option Addr) (n28 c29 : Nat), ∃ i30 : Int, e26 = .returned (Value.tuple #[Value.slice A27 n28 c29, Value.int .i64 i30]) ∧ (
      vIf (x5 == 0)
      (vIf (i30 == 0)
        (Calls Try.prog 10 #[Value.slice A27 n28 c29, Value.slice x6.1 x6.2.1 x6.2.2] w25 fun e32 w31 =>
          ∃ t33 : Bool, e32 = .returned (Value.bool t33) ∧ (
            vIf t33
            (Calls Try.prog 11 #[] w31 fun e35 w34 =>
              ∃ t36 : Bool, e35 = .returned (Value.bool t36) ∧ (
                Q (Value.bool t36) w34))
            (Q (Value.bool false) w31)))
        (Q (Value.bool false) w25))
      (Q (Value.bool false) w25)))
def F3.b5 (Q : Value → World → Prop) : ((Option Addr × Nat × Nat) × Option Addr × Int × Int × (Option Addr × Nat × Nat) × Int × Unit) → World → (((Option Addr × Nat × Nat) × Option Addr × Int × Int × (Option Addr × Nat × Nat) × Int × Unit) → World → Prop) → Prop := fun s w C5 => ∀ _ : Nat → Value, F3.b5c Q C5 s.1 s.2.1 s.2.2.1 s.2.2.2.1 s.2.2.2.2.1 s.2.2.2.2.2.1 w
def F3.l5 (Q : Value → World → Prop) : ((Option Addr × Nat × Nat) × Option Addr × Int × Int × (Option Addr × Nat × Nat) × Int × Unit) → World → Prop := fun s w => ∃ n, loopC (F3.b5 Q) n s w
def F3.vc (x0A : Option Addr) (x0n x0c : Nat) (w : World) (Q : Value → World → Prop) : Prop :=
  Calls Try.prog 6 #[] w fun e2 w1 =>
  ∃ p3 : Option Addr, e2 = .returned (Value.pointer p3) ∧ (
    Calls Try.prog 7 #[Value.pointer p3] w1 fun e5 w4 =>
    ∃ i6 : Int, ∃ i7 : Int, e5 = .returned (Value.tuple #[Value.int .i64 i6, Value.int .i64 i7]) ∧ (
      jnC (F3.l5 Q) ((x0A, x0n, x0c), p3, (i6), (i7), (none, 0, 0), (0), ()) w4))
def F3.an : Ann := ⟨[(5, [(0, .kSl), (3, .kP), (4, .kI .i64), (5, .kI .i64), (6, .kSl), (7, .kI .i64)])], []⟩
theorem F3.eq (x0A : Option Addr) (x0n x0c : Nat) (w : World) (Q : Value → World → Prop) : vcFn Try.prog F3.an 3 [Value.slice x0A x0n x0c] w Q = F3.vc x0A x0n x0c w Q := by kernel_rfl
theorem F3.of (x0A : Option Addr) (x0n x0c : Nat) (w : World) {Q : Value → World → Prop} (h : F3.vc x0A x0n x0c w Q) : Calls Try.prog 3 #[Value.slice x0A x0n x0c] w (fun e w' => ∃ v, e = .returned v ∧ Q v w') := vcFn_sound noCount mixed ((F3.eq x0A x0n x0c w Q).symm ▸ h)
/-! ### function 5: stillage/stillagelaw37.UploadsNone -/
def F5.vc (x0 : List Value) (w : World) (Q : Value → World → Prop) : Prop :=
  nw w x0 40 fun b1 w2 =>
  Calls Try.prog 7 #[Value.pointer none] w2 fun e4 w3 =>
  ∃ i5 : Int, ∃ i6 : Int, e4 = .returned (Value.tuple #[Value.int .i64 i5, Value.int .i64 i6]) ∧ (
    ldI .i64 w3 b1 (0 + 1) fun i7 =>
    Calls Try.prog 9 #[Value.pointer none, Value.int .i64 i7] w3 fun e9 w8 =>
    ∃ (A10 : Option Addr) (n11 c12 : Nat), ∃ i13 : Int, e9 = .returned (Value.tuple #[Value.slice A10 n11 c12, Value.int .i64 i13]) ∧ (
      vIf (i5 == 0)
      (vIf (i6 == 1)
        (vIf (((n11 : Nat) : Int) == 0)
          (vIf (i13 == 1)
            (ldI .i64 w8 b1 (0 + 1) fun i14 =>
              ldI .i64 w8 b1 (0 + 2) fun i15 =>
              ldSl w8 b1 (0 + 3) fun A16 n17 c18 =>
              ldI .i64 w8 b1 (0 + 4) fun i19 =>
              Calls Try.prog 8 #[Value.pointer none, Value.int .i64 i14, Value.int .i64 i15, Value.slice A16 n17 c18, Value.int .i64 i19] w8 fun e21 w20 =>
              ∃ i22 : Int, e21 = .returned (Value.int .i64 i22) ∧ (
                vIf (i22 == 1)
                (ldI .i64 w20 b1 (0 + 1) fun i23 =>
                  Calls Try.prog 14 #[Value.pointer none, Value.int .i64 i23] w20 fun e25 w24 =>
                  ∃ i26 : Int, e25 = .returned (Value.int .i64 i26) ∧ (
                    vIf (i26 == 1)
                    (Calls Try.prog 17 #[Value.pointer none] w24 fun e28 w27 =>
                      ∃ (A29 : Option Addr) (n30 c31 : Nat), e28 = .returned (Value.slice A29 n30 c31) ∧ (
                        vIf (((n30 : Nat) : Int) == 0)
                        (Calls Try.prog 11 #[] w27 fun e33 w32 =>
                          ∃ t34 : Bool, e33 = .returned (Value.bool t34) ∧ (
                            Q (Value.bool t34) w32))
                        (Q (Value.bool false) w27)))
                    (Q (Value.bool false) w24)))
                (Q (Value.bool false) w20)))
            (Q (Value.bool false) w8))
          (Q (Value.bool false) w8))
        (Q (Value.bool false) w8))
      (Q (Value.bool false) w8)))
def F5.an : Ann := ⟨[], []⟩
theorem F5.eq (x0 : List Value) (w : World) (Q : Value → World → Prop) : vcFn Try.prog F5.an 5 [ofL x0] w Q = F5.vc x0 w Q := by kernel_rfl
theorem F5.of (x0 : List Value) (w : World) {Q : Value → World → Prop} (h : F5.vc x0 w Q) : Calls Try.prog 5 #[ofL x0] w (fun e w' => ∃ v, e = .returned v ∧ Q v w') := vcFn_sound noCount mixed ((F5.eq x0 w Q).symm ▸ h)
/-! ### function 6: stillage/uploads.New -/
def F6.vc  (w : World) (Q : Value → World → Prop) : Prop :=
  nw w ([Value.int .i64 0, Value.slice none 0 0, Value.int .i64 0, Value.slice none 0 0, Value.int .i64 0, Value.slice none 0 0, Value.int .i64 0, Value.slice none 0 0, Value.int .i64 0, Value.slice none 0 0, Value.int .i64 0, Value.slice none 0 0, Value.int .i64 0, Value.slice none 0 0, Value.int .i64 0, Value.slice none 0 0] ++ ([Value.int .i64 0] ++ [])) 59 fun b1 w2 =>
  Q (Value.pointer (some ⟨b1, 0, none⟩)) w2
def F6.an : Ann := ⟨[], []⟩
theorem F6.eq  (w : World) (Q : Value → World → Prop) : vcFn Try.prog F6.an 6 [] w Q = F6.vc  w Q := by kernel_rfl
theorem F6.of  (w : World) {Q : Value → World → Prop} (h : F6.vc  w Q) : Calls Try.prog 6 #[] w (fun e w' => ∃ v, e = .returned v ∧ Q v w') := vcFn_sound noCount mixed ((F6.eq  w Q).symm ▸ h)
/-! ### function 7: (*stillage/uploads.Uploads).Begin -/
def F7.vc (x0 : Option Addr) (w : World) (Q : Value → World → Prop) : Prop :=
  vIf x0.isNone
  (Q (Value.tuple #[Value.int .i64 0, Value.int .i64 1]) w)
  (Calls Try.prog 18 #[Value.pointer x0, Value.int .i64 0] w fun e2 w1 =>
    ∃ i3 : Int, e2 = .returned (Value.int .i64 i3) ∧ (
      vIf (decide (i3 < 0))
      (Q (Value.tuple #[Value.int .i64 0, Value.int .i64 8]) w1)
      (dr x0 fun b4 o5 =>
        ldI .i64 w1 b4 (o5 + 16) fun i6 =>
        dr x0 fun b7 o8 =>
        st w1 b7 (o8 + 16) [Value.int .i64 (IntKind.wrap .i64 (i6 + 1))] fun w9 =>
        dr x0 fun b10 o11 =>
        ldI .i64 w9.drew b10 (o11 + 16) fun i12 =>
        dr x0 fun b13 o14 =>
        gd (decide (0 ≤ i3)) <|
        gd (decide (i3 < 8)) <|
        gd (([Value.int .i64 i12] ++ ([Value.slice none 0 0] ++ [])).length == 2) <|
        st w9.drew b13 (o14 + (i3).toNat * 2) ([Value.int .i64 i12] ++ ([Value.slice none 0 0] ++ [])) fun w15 =>
        dr x0 fun b16 o17 =>
        ldI .i64 w15 b16 (o17 + 16) fun i18 =>
        Q (Value.tuple #[Value.int .i64 i18, Value.int .i64 0]) w15)))
def F7.an : Ann := ⟨[], []⟩
theorem F7.eq (x0 : Option Addr) (w : World) (Q : Value → World → Prop) : vcFn Try.prog F7.an 7 [Value.pointer x0] w Q = F7.vc x0 w Q := by kernel_rfl
theorem F7.of (x0 : Option Addr) (w : World) {Q : Value → World → Prop} (h : F7.vc x0 w Q) : Calls Try.prog 7 #[Value.pointer x0] w (fun e w' => ∃ v, e = .returned v ∧ Q v w') := vcFn_sound noCount mixed ((F7.eq x0 w Q).symm ▸ h)
/-! ### function 8: (*stillage/uploads.Uploads).Chunk -/
def F8.vc (x0 : Option Addr) (x1 : Int) (x2 : Int) (x3A : Option Addr) (x3n x3c : Nat) (x4 : Int) (w : World) (Q : Value → World → Prop) : Prop :=
  Calls Try.prog 19 #[Value.pointer x0, Value.int .i64 x1] w fun e2 w1 =>
  ∃ i3 : Int, ∃ i4 : Int, e2 = .returned (Value.tuple #[Value.int .i64 i3, Value.int .i64 i4]) ∧ (
    vIf (i4 != 0)
    (Q (Value.int .i64 i4) w1)
    (dr x0 fun b5 o6 =>
      gd (decide (0 ≤ i3)) <|
      gd (decide (i3 < 8)) <|
      ldSl w1 b5 ((o6 + (i3).toNat * 2) + 1) fun A7 n8 c9 =>
      vIf (x2 != ((n8 : Nat) : Int))
      (Q (Value.int .i64 17) w1)
      (vIf (decide ((IntKind.wrap .i64 (((n8 : Nat) : Int) + ((x3n : Nat) : Int))) > x4))
        (Q (Value.int .i64 18) w1)
        (dr x0 fun b10 o11 =>
          gd (decide (0 ≤ i3)) <|
          gd (decide (i3 < 8)) <|
          ldSl w1.drew b10 ((o11 + (i3).toNat * 2) + 1) fun A12 n13 c14 =>
          dr x0 fun b15 o16 =>
          nw w1.drew ([Value.slice A12 n13 c14] ++ ([Value.slice x3A x3n x3c] ++ [])) 28 fun b17 w18 =>
          Calls Try.prog 20 #[Value.slice (some ⟨b17, 0, none⟩) 2 2] w18 fun e20 w19 =>
          ∃ (A21 : Option Addr) (n22 c23 : Nat), e20 = .returned (Value.slice A21 n22 c23) ∧ (
            gd (decide (0 ≤ i3)) <|
            gd (decide (i3 < 8)) <|
            st w19 b15 ((o16 + (i3).toNat * 2) + 1) [Value.slice A21 n22 c23] fun w24 =>
            Q (Value.int .i64 0) w24)))))
def F8.an : Ann := ⟨[], []⟩
theorem F8.eq (x0 : Option Addr) (x1 : Int) (x2 : Int) (x3A : Option Addr) (x3n x3c : Nat) (x4 : Int) (w : World) (Q : Value → World → Prop) : vcFn Try.prog F8.an 8 [Value.pointer x0, Value.int .i64 x1, Value.int .i64 x2, Value.slice x3A x3n x3c, Value.int .i64 x4] w Q = F8.vc x0 x1 x2 x3A x3n x3c x4 w Q := by kernel_rfl
theorem F8.of (x0 : Option Addr) (x1 : Int) (x2 : Int) (x3A : Option Addr) (x3n x3c : Nat) (x4 : Int) (w : World) {Q : Value → World → Prop} (h : F8.vc x0 x1 x2 x3A x3n x3c x4 w Q) : Calls Try.prog 8 #[Value.pointer x0, Value.int .i64 x1, Value.int .i64 x2, Value.slice x3A x3n x3c, Value.int .i64 x4] w (fun e w' => ∃ v, e = .returned v ∧ Q v w') := vcFn_sound noCount mixed ((F8.eq x0 x1 x2 x3A x3n x3c x4 w Q).symm ▸ h)
/-! ### function 9: (*stillage/uploads.Uploads).Data -/
def F9.vc (x0 : Option Addr) (x1 : Int) (w : World) (Q : Value → World → Prop) : Prop :=
  Calls Try.prog 19 #[Value.pointer x0, Value.int .i64 x1] w fun e2 w1 =>
  ∃ i3 : Int, ∃ i4 : Int, e2 = .returned (Value.tuple #[Value.int .i64 i3, Value.int .i64 i4]) ∧ (
    vIf (i4 != 0)
    (Q (Value.tuple #[Value.slice none 0 0, Value.int .i64 i4]) w1)
    (dr x0 fun b5 o6 =>
      gd (decide (0 ≤ i3)) <|
      gd (decide (i3 < 8)) <|
      ldSl w1 b5 ((o6 + (i3).toNat * 2) + 1) fun A7 n8 c9 =>
      Calls Try.prog 21 #[Value.slice A7 n8 c9] w1 fun e11 w10 =>
      ∃ (A12 : Option Addr) (n13 c14 : Nat), e11 = .returned (Value.slice A12 n13 c14) ∧ (
        Q (Value.tuple #[Value.slice A12 n13 c14, Value.int .i64 0]) w10)))
def F9.an : Ann := ⟨[], []⟩
theorem F9.eq (x0 : Option Addr) (x1 : Int) (w : World) (Q : Value → World → Prop) : vcFn Try.prog F9.an 9 [Value.pointer x0, Value.int .i64 x1] w Q = F9.vc x0 x1 w Q := by kernel_rfl
theorem F9.of (x0 : Option Addr) (x1 : Int) (w : World) {Q : Value → World → Prop} (h : F9.vc x0 x1 w Q) : Calls Try.prog 9 #[Value.pointer x0, Value.int .i64 x1] w (fun e w' => ∃ v, e = .returned v ∧ Q v w') := vcFn_sound noCount mixed ((F9.eq x0 x1 w Q).symm ▸ h)
/-! ### function 10: stillage/stillageref01.Same -/
def F10.b4c (Q : Value → World → Prop) (C4 : ((Option Addr × Nat × Nat) × (Option Addr × Nat × Nat) × Int × Unit) → World → Prop) (x0 : (Option Addr × Nat × Nat)) (x1 : (Option Addr × Nat × Nat)) (x5 : Int) (w : World) : Prop :=
  vIf (decide (x5 < ((x0.2.1 : Nat) : Int)))
  (dr x0.1 fun b1 o2 =>
    gd (decide (0 ≤ x5)) <|
    gd (decide (x5 < ((x0.2.1 : Nat) : Int))) <|
    ldI .u8 w.drew b1 (o2 + (x5).toNat * 1) fun i3 =>
    dr x1.1 fun b4 o5 =>
    gd (decide (0 ≤ x5)) <|
    gd (decide (x5 < ((x1.2.1 : Nat) : Int))) <|
    ldI .u8 w.drew b4 (o5 + (x5).toNat * 1) fun i6 =>
    vIf (i3 != i6)
    (Q (Value.bool false) w.drew)
    (jnC C4 ((x0.1, x0.2.1, x0.2.2), (x1.1, x1.2.1, x1.2.2), ((IntKind.wrap .i64 (x5 + 1))), ()) w.drew))
  (Q (Value.bool true) w)
def F10.b4 (Q : Value → World → Prop) : ((Option Addr × Nat × Nat) × (Option Addr × Nat × Nat) × Int × Unit) → World → (((Option Addr × Nat × Nat) × (Option Addr × Nat × Nat) × Int × Unit) → World → Prop) → Prop := fun s w C4 => ∀ _ : Nat → Value, F10.b4c Q C4 s.1 s.2.1 s.2.2.1 w
def F10.l4 (Q : Value → World → Prop) : ((Option Addr × Nat × Nat) × (Option Addr × Nat × Nat) × Int × Unit) → World → Prop := fun s w => ∃ n, loopC (F10.b4 Q) n s w
def F10.vc (x0A : Option Addr) (x0n x0c : Nat) (x1A : Option Addr) (x1n x1c : Nat) (w : World) (Q : Value → World → Prop) : Prop :=
  vIf (((x0n : Nat) : Int) != ((x1n : Nat) : Int))
  (Q (Value.bool false) w)
  (jnC (F10.l4 Q) ((x0A, x0n, x0c), (x1A, x1n, x1c), (0), ()) w)
def F10.an : Ann := ⟨[(4, [(0, .kSl), (1, .kSl), (5, .kI .i64)])], []⟩
theorem F10.eq (x0A : Option Addr) (x0n x0c : Nat) (x1A : Option Addr) (x1n x1c : Nat) (w : World) (Q : Value → World → Prop) : vcFn Try.prog F10.an 10 [Value.slice x0A x0n x0c, Value.slice x1A x1n x1c] w Q = F10.vc x0A x0n x0c x1A x1n x1c w Q := by kernel_rfl
theorem F10.of (x0A : Option Addr) (x0n x0c : Nat) (x1A : Option Addr) (x1n x1c : Nat) (w : World) {Q : Value → World → Prop} (h : F10.vc x0A x0n x0c x1A x1n x1c w Q) : Calls Try.prog 10 #[Value.slice x0A x0n x0c, Value.slice x1A x1n x1c] w (fun e w' => ∃ v, e = .returned v ∧ Q v w') := vcFn_sound noCount mixed ((F10.eq x0A x0n x0c x1A x1n x1c w Q).symm ▸ h)
/-! ### function 11: stillage/stillagelaw37.lives -/
def F11.vc  (w : World) (Q : Value → World → Prop) : Prop :=
  Calls Try.prog 6 #[] w fun e2 w1 =>
  ∃ p3 : Option Addr, e2 = .returned (Value.pointer p3) ∧ (
    Calls Try.prog 7 #[Value.pointer p3] w1 fun e5 w4 =>
    ∃ i6 : Int, ∃ i7 : Int, e5 = .returned (Value.tuple #[Value.int .i64 i6, Value.int .i64 i7]) ∧ (
      nw w4 ([Value.int .u8 97] ++ ([Value.int .u8 98] ++ ([Value.int .u8 99] ++ []))) 5 fun b8 w9 =>
      mkS w9 b8 fun w10 =>
      Calls Try.prog 8 #[Value.pointer p3, Value.int .i64 i6, Value.int .i64 0, Value.slice (some ⟨b8, 0, none⟩) 3 3, Value.int .i64 4] w10 fun e12 w11 =>
      ∃ i13 : Int, e12 = .returned (Value.int .i64 i13) ∧ (
        nw w11 ([Value.int .u8 100] ++ []) 5 fun b14 w15 =>
        mkS w15 b14 fun w16 =>
        Calls Try.prog 8 #[Value.pointer p3, Value.int .i64 i6, Value.int .i64 3, Value.slice (some ⟨b14, 0, none⟩) 1 1, Value.int .i64 4] w16 fun e18 w17 =>
        ∃ i19 : Int, e18 = .returned (Value.int .i64 i19) ∧ (
          Calls Try.prog 9 #[Value.pointer p3, Value.int .i64 i6] w17 fun e21 w20 =>
          ∃ (A22 : Option Addr) (n23 c24 : Nat), ∃ i25 : Int, e21 = .returned (Value.tuple #[Value.slice A22 n23 c24, Value.int .i64 i25]) ∧ (
            vIf (i6 == 1)
            (vIf (i7 == 0)
              (vIf (i13 == 0)
                (vIf (i19 == 0)
                  (vIf (i25 == 0)
                    (b2s w20 A22 n23 fun s26 =>
                      Q (Value.bool (s26.toList == (⟨#[97, 98, 99, 100]⟩ : ByteArray).toList)) w20)
                    (Q (Value.bool false) w20))
                  (Q (Value.bool false) w20))
                (Q (Value.bool false) w20))
              (Q (Value.bool false) w20))
            (Q (Value.bool false) w20))))))
def F11.an : Ann := ⟨[], []⟩
theorem F11.eq  (w : World) (Q : Value → World → Prop) : vcFn Try.prog F11.an 11 [] w Q = F11.vc  w Q := by kernel_rfl
theorem F11.of  (w : World) {Q : Value → World → Prop} (h : F11.vc  w Q) : Calls Try.prog 11 #[] w (fun e w' => ∃ v, e = .returned v ∧ Q v w') := vcFn_sound noCount mixed ((F11.eq  w Q).symm ▸ h)
/-! ### function 14: (*stillage/uploads.Uploads).End -/
def F14.vc (x0 : Option Addr) (x1 : Int) (w : World) (Q : Value → World → Prop) : Prop :=
  Calls Try.prog 19 #[Value.pointer x0, Value.int .i64 x1] w fun e2 w1 =>
  ∃ i3 : Int, ∃ i4 : Int, e2 = .returned (Value.tuple #[Value.int .i64 i3, Value.int .i64 i4]) ∧ (
    vIf (i4 == 0)
    (dr x0 fun b5 o6 =>
      gd (decide (0 ≤ i3)) <|
      gd (decide (i3 < 8)) <|
      gd (([Value.int .i64 0] ++ ([Value.slice none 0 0] ++ [])).length == 2) <|
      st w1 b5 (o6 + (i3).toNat * 2) ([Value.int .i64 0] ++ ([Value.slice none 0 0] ++ [])) fun w7 =>
      Q (Value.int .i64 i4) w7)
    (Q (Value.int .i64 i4) w1))
def F14.an : Ann := ⟨[], []⟩
theorem F14.eq (x0 : Option Addr) (x1 : Int) (w : World) (Q : Value → World → Prop) : vcFn Try.prog F14.an 14 [Value.pointer x0, Value.int .i64 x1] w Q = F14.vc x0 x1 w Q := by kernel_rfl
theorem F14.of (x0 : Option Addr) (x1 : Int) (w : World) {Q : Value → World → Prop} (h : F14.vc x0 x1 w Q) : Calls Try.prog 14 #[Value.pointer x0, Value.int .i64 x1] w (fun e w' => ∃ v, e = .returned v ∧ Q v w') := vcFn_sound noCount mixed ((F14.eq x0 x1 w Q).symm ▸ h)
/-! ### function 17: (*stillage/uploads.Uploads).Open -/
def F17.b5c (Q : Value → World → Prop) (C5 : ((Option Addr × Nat × Nat) × List Value × Int × Unit) → World → Prop) (x3 : (Option Addr × Nat × Nat)) (x11 : List Value) (x12 : Int) (w : World) : Prop :=
  vIf (decide (x12 < 8))
  (gd (decide (0 ≤ x12)) <|
    gd (decide (x12 < 8)) <|
    nw w [Value.int .i64 0, Value.slice none 0 0] 56 fun b4 w5 =>
    gd (((x11.drop ((x12).toNat * 2)).take 2).length == 2) <|
    st w5 b4 0 ((x11.drop ((x12).toNat * 2)).take 2) fun w6 =>
    ldI .i64 w6 b4 0 fun i7 =>
    vIf (i7 != 0)
    (ldI .i64 w6 b4 0 fun i8 =>
      nw w6 ([Value.int .i64 i8] ++ []) 3 fun b9 w10 =>
      app w10 1 8 [Value.int .i64 0] 3 x3.1 x3.2.1 x3.2.2 (Value.slice (some ⟨b9, 0, none⟩) 1 1) fun A11 n12 c13 w14 =>
      jnC C5 ((A11, n12, c13), x11, ((IntKind.wrap .i64 (x12 + 1))), ()) w14)
    (jnC C5 ((x3.1, x3.2.1, x3.2.2), x11, ((IntKind.wrap .i64 (x12 + 1))), ()) w6))
  (Calls Try.prog 22 #[Value.slice x3.1 x3.2.1 x3.2.2] w fun e16 w15 =>
    e16 = .returned (Value.tuple #[]) ∧ (
      Q (Value.slice x3.1 x3.2.1 x3.2.2) w15))
def F17.b5 (Q : Value → World → Prop) : ((Option Addr × Nat × Nat) × List Value × Int × Unit) → World → (((Option Addr × Nat × Nat) × List Value × Int × Unit) → World → Prop) → Prop := fun s w C5 => ∀ _ : Nat → Value, F17.b5c Q C5 s.1 s.2.1 s.2.2.1 w
def F17.l5 (Q : Value → World → Prop) : ((Option Addr × Nat × Nat) × List Value × Int × Unit) → World → Prop := fun s w => ∃ n, loopC (F17.b5 Q) n s w
def F17.vc (x0 : Option Addr) (w : World) (Q : Value → World → Prop) : Prop :=
  vIf x0.isNone
  (Q (Value.slice none 0 0) w)
  (dr x0 fun b1 o2 =>
    ldA 16 w b1 o2 fun a3 =>
    jnC (F17.l5 Q) ((none, 0, 0), a3, (0), ()) w)
def F17.an : Ann := ⟨[(5, [(3, .kSl), (11, .kA), (12, .kI .i64)])], []⟩
theorem F17.eq (x0 : Option Addr) (w : World) (Q : Value → World → Prop) : vcFn Try.prog F17.an 17 [Value.pointer x0] w Q = F17.vc x0 w Q := by kernel_rfl
theorem F17.of (x0 : Option Addr) (w : World) {Q : Value → World → Prop} (h : F17.vc x0 w Q) : Calls Try.prog 17 #[Value.pointer x0] w (fun e w' => ∃ v, e = .returned v ∧ Q v w') := vcFn_sound noCount mixed ((F17.eq x0 w Q).symm ▸ h)
/-! ### function 18: (*stillage/uploads.Uploads).place -/
def F18.b2c (Q : Value → World → Prop) (C2 : (Option Addr × Int × Int × Unit) → World → Prop) (x0 : Option Addr) (x1 : Int) (x6 : Int) (w : World) : Prop :=
  vIf (decide (x6 < 8))
  (dr x0 fun b1 o2 =>
    gd (decide (0 ≤ x6)) <|
    gd (decide (x6 < 8)) <|
    ldI .i64 w b1 (o2 + (x6).toNat * 2) fun i3 =>
    vIf (i3 == x1)
    (Q (Value.int .i64 x6) w)
    (jnC C2 (x0, (x1), ((IntKind.wrap .i64 (x6 + 1))), ()) w))
  (Q (Value.int .i64 (-1)) w)
def F18.b2 (Q : Value → World → Prop) : (Option Addr × Int × Int × Unit) → World → ((Option Addr × Int × Int × Unit) → World → Prop) → Prop := fun s w C2 => ∀ _ : Nat → Value, F18.b2c Q C2 s.1 s.2.1 s.2.2.1 w
def F18.l2 (Q : Value → World → Prop) : (Option Addr × Int × Int × Unit) → World → Prop := fun s w => ∃ n, loopC (F18.b2 Q) n s w
def F18.vc (x0 : Option Addr) (x1 : Int) (w : World) (Q : Value → World → Prop) : Prop :=
  jnC (F18.l2 Q) (x0, (x1), (0), ()) w
def F18.an : Ann := ⟨[(2, [(0, .kP), (1, .kI .i64), (6, .kI .i64)])], []⟩
theorem F18.eq (x0 : Option Addr) (x1 : Int) (w : World) (Q : Value → World → Prop) : vcFn Try.prog F18.an 18 [Value.pointer x0, Value.int .i64 x1] w Q = F18.vc x0 x1 w Q := by kernel_rfl
theorem F18.of (x0 : Option Addr) (x1 : Int) (w : World) {Q : Value → World → Prop} (h : F18.vc x0 x1 w Q) : Calls Try.prog 18 #[Value.pointer x0, Value.int .i64 x1] w (fun e w' => ∃ v, e = .returned v ∧ Q v w') := vcFn_sound noCount mixed ((F18.eq x0 x1 w Q).symm ▸ h)
/-! ### function 19: (*stillage/uploads.Uploads).find -/
def F19.k6c (Q : Value → World → Prop) (x6 : Int) (w : World) : Prop :=
  Q (Value.tuple #[Value.int .i64 x6, Value.int .i64 0]) w
def F19.k6 (Q : Value → World → Prop) : (Int × Unit) → World → Prop := fun s w => ∀ _ : Nat → Value, F19.k6c Q s.1 w
def F19.vc (x0 : Option Addr) (x1 : Int) (w : World) (Q : Value → World → Prop) : Prop :=
  vIf x0.isNone
  (Q (Value.tuple #[Value.int .i64 0, Value.int .i64 1]) w)
  (Calls Try.prog 18 #[Value.pointer x0, Value.int .i64 x1] w fun e2 w1 =>
    ∃ i3 : Int, e2 = .returned (Value.int .i64 i3) ∧ (
      vIf (x1 == 0)
      (Q (Value.tuple #[Value.int .i64 0, Value.int .i64 6]) w1)
      (vIf (decide (i3 < 0))
        (Q (Value.tuple #[Value.int .i64 0, Value.int .i64 6]) w1)
        (jnC (F19.k6 Q) ((i3), ()) w1))))
def F19.an : Ann := ⟨[], [(6, [(6, .kI .i64)])]⟩
theorem F19.eq (x0 : Option Addr) (x1 : Int) (w : World) (Q : Value → World → Prop) : vcFn Try.prog F19.an 19 [Value.pointer x0, Value.int .i64 x1] w Q = F19.vc x0 x1 w Q := by kernel_rfl
theorem F19.of (x0 : Option Addr) (x1 : Int) (w : World) {Q : Value → World → Prop} (h : F19.vc x0 x1 w Q) : Calls Try.prog 19 #[Value.pointer x0, Value.int .i64 x1] w (fun e w' => ∃ v, e = .returned v ∧ Q v w') := vcFn_sound noCount mixed ((F19.eq x0 x1 w Q).symm ▸ h)
/-! ### function 20: slices.Concat[[]byte,byte] -/
def F20.b11c (Q : Value → World → Prop) (C11 : ((Option Addr × Nat × Nat) × (Option Addr × Nat × Nat) × Int × Int × Unit) → World → Prop) (x6 : (Option Addr × Nat × Nat)) (x25 : (Option Addr × Nat × Nat)) (x26 : Int) (x27 : Int) (w : World) : Prop :=
  vIf (decide (x27 < x26))
  (dr x25.1 fun b11 o12 =>
    gd (decide (0 ≤ x27)) <|
    gd (decide (x27 < ((x25.2.1 : Nat) : Int))) <|
    ldSl w b11 (o12 + (x27).toNat * 1) fun A13 n14 c15 =>
    app w 1 1 [Value.int .u8 0] 5 x6.1 x6.2.1 x6.2.2 (Value.slice A13 n14 c15) fun A16 n17 c18 w19 =>
    jnC C11 ((A16, n17, c18), (x25.1, x25.2.1, x25.2.2), (x26), ((IntKind.wrap .i64 (x27 + 1))), ()) w19)
  (Q (Value.slice x6.1 x6.2.1 x6.2.2) w)
def F20.b11 (Q : Value → World → Prop) : ((Option Addr × Nat × Nat) × (Option Addr × Nat × Nat) × Int × Int × Unit) → World → (((Option Addr × Nat × Nat) × (Option Addr × Nat × Nat) × Int × Int × Unit) → World → Prop) → Prop := fun s w C11 => ∀ _ : Nat → Value, F20.b11c Q C11 s.1 s.2.1 s.2.2.1 s.2.2.2.1 w
def F20.l11 (Q : Value → World → Prop) : ((Option Addr × Nat × Nat) × (Option Addr × Nat × Nat) × Int × Int × Unit) → World → Prop := fun s w => ∃ n, loopC (F20.b11 Q) n s w
def F20.b3c (Q : Value → World → Prop) (C3 : ((Option Addr × Nat × Nat) × Int × (Option Addr × Nat × Nat) × Int × Int × Unit) → World → Prop) (x0 : (Option Addr × Nat × Nat)) (x3 : Int) (x9 : (Option Addr × Nat × Nat)) (x10 : Int) (x11 : Int) (w : World) : Prop :=
  vIf (decide (x11 < x10))
  (dr x9.1 fun b1 o2 =>
    gd (decide (0 ≤ x11)) <|
    gd (decide (x11 < ((x9.2.1 : Nat) : Int))) <|
    ldSl w b1 (o2 + (x11).toNat * 1) fun A3 n4 c5 =>
    vIf (decide ((IntKind.wrap .i64 (x3 + ((n4 : Nat) : Int))) < 0))
    (False)
    (jnC C3 ((x0.1, x0.2.1, x0.2.2), ((IntKind.wrap .i64 (x3 + ((n4 : Nat) : Int)))), (x9.1, x9.2.1, x9.2.2), (x10), ((IntKind.wrap .i64 (x11 + 1))), ()) w))
  (Calls Try.prog 23 #[Value.slice none 0 0, Value.int .i64 x3] w fun e7 w6 =>
    ∃ (A8 : Option Addr) (n9 c10 : Nat), e7 = .returned (Value.slice A8 n9 c10) ∧ (
      jnC (F20.l11 Q) ((A8, n9, c10), (x0.1, x0.2.1, x0.2.2), (((x0.2.1 : Nat) : Int)), (0), ()) w6))
def F20.b3 (Q : Value → World → Prop) : ((Option Addr × Nat × Nat) × Int × (Option Addr × Nat × Nat) × Int × Int × Unit) → World → (((Option Addr × Nat × Nat) × Int × (Option Addr × Nat × Nat) × Int × Int × Unit) → World → Prop) → Prop := fun s w C3 => ∀ _ : Nat → Value, F20.b3c Q C3 s.1 s.2.1 s.2.2.1 s.2.2.2.1 s.2.2.2.2.1 w
def F20.l3 (Q : Value → World → Prop) : ((Option Addr × Nat × Nat) × Int × (Option Addr × Nat × Nat) × Int × Int × Unit) → World → Prop := fun s w => ∃ n, loopC (F20.b3 Q) n s w
def F20.vc (x0A : Option Addr) (x0n x0c : Nat) (w : World) (Q : Value → World → Prop) : Prop :=
  jnC (F20.l3 Q) ((x0A, x0n, x0c), (0), (x0A, x0n, x0c), (((x0n : Nat) : Int)), (0), ()) w
def F20.an : Ann := ⟨[(3, [(0, .kSl), (3, .kI .i64), (9, .kSl), (10, .kI .i64), (11, .kI .i64)]), (11, [(6, .kSl), (25, .kSl), (26, .kI .i64), (27, .kI .i64)])], []⟩
theorem F20.eq (x0A : Option Addr) (x0n x0c : Nat) (w : World) (Q : Value → World → Prop) : vcFn Try.prog F20.an 20 [Value.slice x0A x0n x0c] w Q = F20.vc x0A x0n x0c w Q := by kernel_rfl
theorem F20.of (x0A : Option Addr) (x0n x0c : Nat) (w : World) {Q : Value → World → Prop} (h : F20.vc x0A x0n x0c w Q) : Calls Try.prog 20 #[Value.slice x0A x0n x0c] w (fun e w' => ∃ v, e = .returned v ∧ Q v w') := vcFn_sound noCount mixed ((F20.eq x0A x0n x0c w Q).symm ▸ h)
/-! ### function 21: slices.Clone[[]byte,byte] -/
def F21.vc (x0A : Option Addr) (x0n x0c : Nat) (w : World) (Q : Value → World → Prop) : Prop :=
  vIf x0A.isNone
  (Q (Value.slice none 0 0) w)
  (nw w [] 5 fun b1 w2 =>
    app w2 1 1 [Value.int .u8 0] 5 (some ⟨b1, 0, none⟩) 0 0 (Value.slice x0A x0n x0c) fun A3 n4 c5 w6 =>
    Q (Value.slice A3 n4 c5) w6)
def F21.an : Ann := ⟨[], []⟩
theorem F21.eq (x0A : Option Addr) (x0n x0c : Nat) (w : World) (Q : Value → World → Prop) : vcFn Try.prog F21.an 21 [Value.slice x0A x0n x0c] w Q = F21.vc x0A x0n x0c w Q := by kernel_rfl
theorem F21.of (x0A : Option Addr) (x0n x0c : Nat) (w : World) {Q : Value → World → Prop} (h : F21.vc x0A x0n x0c w Q) : Calls Try.prog 21 #[Value.slice x0A x0n x0c] w (fun e w' => ∃ v, e = .returned v ∧ Q v w') := vcFn_sound noCount mixed ((F21.eq x0A x0n x0c w Q).symm ▸ h)
/-! ### function 23: slices.Grow[[]byte,byte] -/
def F23.k3c (Q : Value → World → Prop) (x0 : (Option Addr × Nat × Nat)) (x1 : Int) (w : World) : Prop :=
  vIf (decide ((IntKind.wrap .i64 (x1 - (IntKind.wrap .i64 (((x0.2.2 : Nat) : Int) - ((x0.2.1 : Nat) : Int))))) > 0))
  (gd (decide (0 ≤ ((x0.2.2 : Nat) : Int))) <|
    gd (decide (((x0.2.2 : Nat) : Int) ≤ ((x0.2.2 : Nat) : Int))) <|
    appZ w 1 1 [Value.int .u8 0] 5 (slA x0.1 x0.2.2 0 1) ((((x0.2.2 : Nat) : Int)).toNat) x0.2.2 (IntKind.wrap .i64 (x1 - (IntKind.wrap .i64 (((x0.2.2 : Nat) : Int) - ((x0.2.1 : Nat) : Int))))) fun A1 n2 c3 w4 =>
    gd (decide (0 ≤ ((x0.2.1 : Nat) : Int))) <|
    gd (decide (((x0.2.1 : Nat) : Int) ≤ ((c3 : Nat) : Int))) <|
    Q (Value.slice (slA A1 c3 0 1) (((x0.2.1 : Nat) : Int)).toNat c3) w4)
  (Q (Value.slice x0.1 x0.2.1 x0.2.2) w)
def F23.k3 (Q : Value → World → Prop) : ((Option Addr × Nat × Nat) × Int × Unit) → World → Prop := fun s w => ∀ _ : Nat → Value, F23.k3c Q s.1 s.2.1 w
def F23.vc (x0A : Option Addr) (x0n x0c : Nat) (x1 : Int) (w : World) (Q : Value → World → Prop) : Prop :=
  vIf (decide (x1 < 0))
  (False)
  (jnC (F23.k3 Q) ((x0A, x0n, x0c), (x1), ()) w)
def F23.an : Ann := ⟨[], [(3, [(0, .kSl), (1, .kI .i64)])]⟩
theorem F23.eq (x0A : Option Addr) (x0n x0c : Nat) (x1 : Int) (w : World) (Q : Value → World → Prop) : vcFn Try.prog F23.an 23 [Value.slice x0A x0n x0c, Value.int .i64 x1] w Q = F23.vc x0A x0n x0c x1 w Q := by kernel_rfl
theorem F23.of (x0A : Option Addr) (x0n x0c : Nat) (x1 : Int) (w : World) {Q : Value → World → Prop} (h : F23.vc x0A x0n x0c x1 w Q) : Calls Try.prog 23 #[Value.slice x0A x0n x0c, Value.int .i64 x1] w (fun e w' => ∃ v, e = .returned v ∧ Q v w') := vcFn_sound noCount mixed ((F23.eq x0A x0n x0c x1 w Q).symm ▸ h)
end Go.Proofs.Ytihifmamdeafdaa
