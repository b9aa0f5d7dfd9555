/- PRINTED BY MY OWN gen.py out of the translation: each function as a proposition. -/
import Derived.Test.YtmjdcgphahdhbaaDoorProg
import Derived.Test.YtmjdcgphahdhbaaDoorG7
namespace Go.Proofs.YtmjdcgphahdhbaaDoor
open Go.GV
set_option linter.unusedVariables false
set_option maxRecDepth 100000
theorem noCount : NoCount Tryd.prog := noCount_of (by kernel_rfl)
theorem mixed : Tryd.prog.follows .mixedOrders = true := by kernel_rfl
def Z23 : List Value := [Value.int .u8 0, Value.int .u8 0, Value.int .u8 0, Value.int .u8 0, Value.int .u8 0, Value.int .u8 0, Value.int .u8 0, Value.int .u8 0, Value.int .u8 0, Value.int .u8 0, Value.int .u8 0, Value.int .u8 0, Value.int .u8 0, Value.int .u8 0, Value.int .u8 0, Value.int .u8 0, Value.int .u8 0, Value.int .u8 0, Value.int .u8 0, Value.int .u8 0, Value.int .u8 0, Value.int .u8 0, Value.int .u8 0, Value.int .u8 0, Value.int .u8 0, Value.int .u8 0, Value.int .u8 0, Value.int .u8 0, Value.int .u8 0, Value.int .u8 0, Value.int .u8 0, Value.int .u8 0]
def Z80 : List Value := [Value.int .u32 0, Value.int .u32 0, Value.int .u32 0, Value.int .u32 0, Value.int .u32 0, Value.int .u32 0, Value.int .u32 0, Value.int .u32 0]
def Z97 : List Value := [Value.int .u32 0, Value.int .u32 0, Value.int .u32 0, Value.int .u32 0, Value.int .u32 0, Value.int .u32 0, Value.int .u32 0, Value.int .u32 0, Value.int .u32 0, Value.int .u32 0, Value.int .u32 0, Value.int .u32 0, Value.int .u32 0, Value.int .u32 0, Value.int .u32 0, Value.int .u32 0, Value.int .u32 0, Value.int .u32 0, Value.int .u32 0, Value.int .u32 0, Value.int .u32 0, Value.int .u32 0, Value.int .u32 0, Value.int .u32 0, Value.int .u32 0, Value.int .u32 0, Value.int .u32 0, Value.int .u32 0, Value.int .u32 0, Value.int .u32 0, Value.int .u32 0, Value.int .u32 0, Value.int .u32 0, Value.int .u32 0, Value.int .u32 0, Value.int .u32 0, Value.int .u32 0, Value.int .u32 0, Value.int .u32 0, Value.int .u32 0, Value.int .u32 0, Value.int .u32 0, Value.int .u32 0, Value.int .u32 0, Value.int .u32 0, Value.int .u32 0, Value.int .u32 0, Value.int .u32 0, Value.int .u32 0, Value.int .u32 0, Value.int .u32 0, Value.int .u32 0, Value.int .u32 0, Value.int .u32 0, Value.int .u32 0, Value.int .u32 0, Value.int .u32 0, Value.int .u32 0, Value.int .u32 0, Value.int .u32 0, Value.int .u32 0, Value.int .u32 0, Value.int .u32 0, Value.int .u32 0]
def S0 : ByteArray := ⟨(([115, 104, 97, 50, 53, 54, 58, 101, 51, 98, 48, 99, 52, 52, 50, 57, 56, 102, 99, 49, 99, 49, 52, 57, 97, 102, 98, 102, 52, 99, 56, 57, 57, 54, 102] : List UInt8).append [98, 57, 50, 52, 50, 55, 97, 101, 52, 49, 101, 52, 54, 52, 57, 98, 57, 51, 52, 99, 97, 52, 57, 53, 57, 57, 49, 98, 55, 56, 53, 50, 98, 56, 53, 53]).toArray⟩
/-! ### function 3: stillage/stillagelaw06.DigestOrder -/
def F3.k4c (Q : Value → World → Prop) (x3 : (Nat × Nat)) (x4 : (Nat × Nat)) (x5 : (Nat × Nat)) (x7 : Int) (w : World) : Prop :=
  vIf (decide (x7 > 0))
  (Calls Tryd.prog 9 #[] w fun e26 w25 =>
    ∃ t27 : Bool, e26 = .returned (Value.bool t27) ∧ (
      Q (Value.bool t27) w25))
  (ldA 32 w x4.1 x4.2 fun a28 =>
    ldA 32 w x5.1 x5.2 fun a29 =>
    Calls Tryd.prog 7 #[ofL a28, ofL a29] w fun e31 w30 =>
    ∃ i32 : Int, e31 = .returned (Value.int .i64 i32) ∧ (
      vIf (decide (i32 > 0))
      (Calls Tryd.prog 9 #[] w30 fun e34 w33 =>
        ∃ t35 : Bool, e34 = .returned (Value.bool t35) ∧ (
          Q (Value.bool t35) w33))
      (ldA 32 w30 x3.1 x3.2 fun a36 =>
        ldA 32 w30 x5.1 x5.2 fun a37 =>
        Calls Tryd.prog 7 #[ofL a36, ofL a37] w30 fun e39 w38 =>
        ∃ i40 : Int, e39 = .returned (Value.int .i64 i40) ∧ (
          vIf (decide (i40 ≤ 0))
          (Calls Tryd.prog 9 #[] w38 fun e42 w41 =>
            ∃ t43 : Bool, e42 = .returned (Value.bool t43) ∧ (
              Q (Value.bool t43) w41))
          (Q (Value.bool false) w38)))))
def F3.k4 (Q : Value → World → Prop) : ((Nat × Nat) × (Nat × Nat) × (Nat × Nat) × Int × Unit) → World → Prop := fun s w => ∀ _ : Nat → Value, F3.k4c Q s.1 s.2.1 s.2.2.1 s.2.2.2.1 w
def F3.vc (x0 : List Value) (x1 : List Value) (x2 : List Value) (w : World) (Q : Value → World → Prop) : Prop :=
  nw w x0 23 fun b1 w2 =>
  nw w2 x1 23 fun b3 w4 =>
  nw w4 x2 23 fun b5 w6 =>
  ldA 32 w6 b1 0 fun a7 =>
  ldA 32 w6 b3 0 fun a8 =>
  Calls Tryd.prog 7 #[ofL a7, ofL a8] w6 fun e10 w9 =>
  ∃ i11 : Int, e10 = .returned (Value.int .i64 i11) ∧ (
    ldA 32 w9 b3 0 fun a12 =>
    ldA 32 w9 b1 0 fun a13 =>
    Calls Tryd.prog 7 #[ofL a12, ofL a13] w9 fun e15 w14 =>
    ∃ i16 : Int, e15 = .returned (Value.int .i64 i16) ∧ (
      vIf (i11 != (IntKind.wrap .i64 (0 - i16)))
      (Q (Value.bool false) w14)
      (vIf (decide (i11 < (-1)))
        (Q (Value.bool false) w14)
        (vIf (decide (i11 > 1))
          (Q (Value.bool false) w14)
          (ldA 32 w14 b1 0 fun a17 =>
            ldA 32 w14 b3 0 fun a18 =>
            Calls Tryd.prog 8 #[ofL a17, ofL a18] w14 fun e20 w19 =>
            ∃ t21 : Bool, e20 = .returned (Value.bool t21) ∧ (
              vIf (!((decide (i11 < 0)) == t21))
              (Q (Value.bool false) w19)
              (ldA 32 w19 b1 0 fun a22 =>
                ldA 32 w19 b3 0 fun a23 =>
                eqAB 32 a22 a23 fun t24 =>
                vIf (!((i11 == 0) == t24))
                (Q (Value.bool false) w19)
                (jnC (F3.k4 Q) ((b1, 0), (b3, 0), (b5, 0), (i11), ()) w19))))))))
def F3.an : Ann := ⟨[], [(4, [(3, .kL), (4, .kL), (5, .kL), (7, .kI .i64)])]⟩
theorem F3.eq (x0 : List Value) (x1 : List Value) (x2 : List Value) (w : World) (Q : Value → World → Prop) : vcFn Tryd.prog F3.an 3 [ofL x0, ofL x1, ofL x2] w Q = F3.vc x0 x1 x2 w Q := by kernel_rfl
theorem F3.of (x0 : List Value) (x1 : List Value) (x2 : List Value) (w : World) {Q : Value → World → Prop} (h : F3.vc x0 x1 x2 w Q) : Calls Tryd.prog 3 #[ofL x0, ofL x1, ofL x2] w (fun e w' => ∃ v, e = .returned v ∧ Q v w') := vcFn_sound noCount mixed ((F3.eq x0 x1 x2 w Q).symm ▸ h)
/-! ### function 4: stillage/stillagelaw06.DigestTexts -/
def F4.vc (x0A : Option Addr) (x0n x0c : Nat) (x1 : List Value) (x2 : ByteArray) (w : World) (Q : Value → World → Prop) : Prop :=
  nw w x1 23 fun b1 w2 =>
  Calls Tryd.prog 10 #[Value.string x2] w2 fun e4 w3 =>
  ∃ a5 : List Value, ∃ i6 : Int, e4 = .returned (Value.tuple #[ofL a5, Value.int .i64 i6]) ∧ (
    nw w3 Z23 23 fun b7 w8 =>
    gd (a5.length == 32) <|
    st w8 b7 0 a5 fun w9 =>
    Calls Tryd.prog 11 #[Value.string x2] w9 fun e11 w10 =>
    ∃ a12 : List Value, ∃ i13 : Int, e11 = .returned (Value.tuple #[ofL a12, Value.int .i64 i13]) ∧ (
      nw w10 Z23 23 fun b14 w15 =>
      gd (a12.length == 32) <|
      st w15 b14 0 a12 fun w16 =>
      Calls Tryd.prog 12 #[Value.slice x0A x0n x0c] w16.drew fun e18 w17 =>
      ∃ a19 : List Value, e18 = .returned (ofL a19) ∧ (
        Calls Tryd.prog 13 #[Value.slice x0A x0n x0c] w17 fun e21 w20 =>
        ∃ a22 : List Value, e21 = .returned (ofL a22) ∧ (
          eqAB 32 a19 a22 fun t23 =>
          vIf t23
          (ldA 32 w20 b1 0 fun a24 =>
            ldA 32 w20 b1 0 fun a25 =>
            Calls Tryd.prog 14 #[ofL a24] w20 fun e27 w26 =>
            ∃ s28 : ByteArray, e27 = .returned (Value.string s28) ∧ (
              kp w20 b1 0 32 w26 <|
              Calls Tryd.prog 15 #[ofL a25] w26 fun e30 w29 =>
              ∃ s31 : ByteArray, e30 = .returned (Value.string s31) ∧ (
                vIf (s28.toList == s31.toList)
                (ldA 32 w29 b7 0 fun a32 =>
                  ldA 32 w29 b14 0 fun a33 =>
                  eqAB 32 a32 a33 fun t34 =>
                  vIf t34
                  (vIf (i6 == i13)
                    (Calls Tryd.prog 9 #[] w29 fun e36 w35 =>
                      ∃ t37 : Bool, e36 = .returned (Value.bool t37) ∧ (
                        Q (Value.bool t37) w35))
                    (Q (Value.bool false) w29))
                  (Q (Value.bool false) w29))
                (Q (Value.bool false) w29))))
          (Q (Value.bool false) w20)))))
def F4.an : Ann := ⟨[], []⟩
theorem F4.eq (x0A : Option Addr) (x0n x0c : Nat) (x1 : List Value) (x2 : ByteArray) (w : World) (Q : Value → World → Prop) : vcFn Tryd.prog F4.an 4 [Value.slice x0A x0n x0c, ofL x1, Value.string x2] w Q = F4.vc x0A x0n x0c x1 x2 w Q := by kernel_rfl
theorem F4.of (x0A : Option Addr) (x0n x0c : Nat) (x1 : List Value) (x2 : ByteArray) (w : World) {Q : Value → World → Prop} (h : F4.vc x0A x0n x0c x1 x2 w Q) : Calls Tryd.prog 4 #[Value.slice x0A x0n x0c, ofL x1, Value.string x2] w (fun e w' => ∃ v, e = .returned v ∧ Q v w') := vcFn_sound noCount mixed ((F4.eq x0A x0n x0c x1 x2 w Q).symm ▸ h)
/-! ### function 5: stillage/stillagelaw06.DigestBack -/
def F5.vc (x0 : List Value) (x1 : ByteArray) (w : World) (Q : Value → World → Prop) : Prop :=
  nw w x0 23 fun b1 w2 =>
  ldA 32 w2 b1 0 fun a3 =>
  Calls Tryd.prog 14 #[ofL a3] w2 fun e5 w4 =>
  ∃ s6 : ByteArray, e5 = .returned (Value.string s6) ∧ (
    Calls Tryd.prog 10 #[Value.string s6] w4 fun e8 w7 =>
    ∃ a9 : List Value, ∃ i10 : Int, e8 = .returned (Value.tuple #[ofL a9, Value.int .i64 i10]) ∧ (
      nw w7 Z23 23 fun b11 w12 =>
      gd (a9.length == 32) <|
      st w12 b11 0 a9 fun w13 =>
      Calls Tryd.prog 10 #[Value.string x1] w13 fun e15 w14 =>
      ∃ a16 : List Value, ∃ i17 : Int, e15 = .returned (Value.tuple #[ofL a16, Value.int .i64 i17]) ∧ (
        nw w14 Z23 23 fun b18 w19 =>
        gd (a16.length == 32) <|
        st w19 b18 0 a16 fun w20 =>
        vIf (i10 == 0)
        (ldA 32 w20 b11 0 fun a21 =>
          ldA 32 w20 b1 0 fun a22 =>
          eqAB 32 a21 a22 fun t23 =>
          vIf t23
          (vIf (i17 == 0)
            (ldA 32 w20 b18 0 fun a24 =>
              Calls Tryd.prog 14 #[ofL a24] w20 fun e26 w25 =>
              ∃ s27 : ByteArray, e26 = .returned (Value.string s27) ∧ (
                vIf (s27.toList == x1.toList)
                (Calls Tryd.prog 9 #[] w25 fun e29 w28 =>
                  ∃ t30 : Bool, e29 = .returned (Value.bool t30) ∧ (
                    Q (Value.bool t30) w28))
                (vIf (i17 != 0)
                  (ldA 32 w25 b18 0 fun a31 =>
                    eqAB 32 a31 ([Value.int .u8 0] ++ ([Value.int .u8 0] ++ ([Value.int .u8 0] ++ ([Value.int .u8 0] ++ ([Value.int .u8 0] ++ ([Value.int .u8 0] ++ ([Value.int .u8 0] ++ ([Value.int .u8 0] ++ ([Value.int .u8 0] ++ ([Value.int .u8 0] ++ ([Value.int .u8 0] ++ ([Value.int .u8 0] ++ ([Value.int .u8 0] ++ ([Value.int .u8 0] ++ ([Value.int .u8 0] ++ ([Value.int .u8 0] ++ ([Value.int .u8 0] ++ ([Value.int .u8 0] ++ ([Value.int .u8 0] ++ ([Value.int .u8 0] ++ ([Value.int .u8 0] ++ ([Value.int .u8 0] ++ ([Value.int .u8 0] ++ ([Value.int .u8 0] ++ ([Value.int .u8 0] ++ ([Value.int .u8 0] ++ ([Value.int .u8 0] ++ ([Value.int .u8 0] ++ ([Value.int .u8 0] ++ ([Value.int .u8 0] ++ ([Value.int .u8 0] ++ ([Value.int .u8 0] ++ [])))))))))))))))))))))))))))))))) fun t32 =>
                    vIf t32
                    (Calls Tryd.prog 9 #[] w25 fun e34 w33 =>
                      ∃ t35 : Bool, e34 = .returned (Value.bool t35) ∧ (
                        Q (Value.bool t35) w33))
                    (Q (Value.bool false) w25))
                  (Q (Value.bool false) w25))))
            (vIf (i17 != 0)
              (ldA 32 w20 b18 0 fun a36 =>
                eqAB 32 a36 ([Value.int .u8 0] ++ ([Value.int .u8 0] ++ ([Value.int .u8 0] ++ ([Value.int .u8 0] ++ ([Value.int .u8 0] ++ ([Value.int .u8 0] ++ ([Value.int .u8 0] ++ ([Value.int .u8 0] ++ ([Value.int .u8 0] ++ ([Value.int .u8 0] ++ ([Value.int .u8 0] ++ ([Value.int .u8 0] ++ ([Value.int .u8 0] ++ ([Value.int .u8 0] ++ ([Value.int .u8 0] ++ ([Value.int .u8 0] ++ ([Value.int .u8 0] ++ ([Value.int .u8 0] ++ ([Value.int .u8 0] ++ ([Value.int .u8 0] ++ ([Value.int .u8 0] ++ ([Value.int .u8 0] ++ ([Value.int .u8 0] ++ ([Value.int .u8 0] ++ ([Value.int .u8 0] ++ ([Value.int .u8 0] ++ ([Value.int .u8 0] ++ ([Value.int .u8 0] ++ ([Value.int .u8 0] ++ ([Value.int .u8 0] ++ ([Value.int .u8 0] ++ ([Value.int .u8 0] ++ [])))))))))))))))))))))))))))))))) fun t37 =>
                vIf t37
                (Calls Tryd.prog 9 #[] w20 fun e39 w38 =>
                  ∃ t40 : Bool, e39 = .returned (Value.bool t40) ∧ (
                    Q (Value.bool t40) w38))
                (Q (Value.bool false) w20))
              (Q (Value.bool false) w20)))
          (Q (Value.bool false) w20))
        (Q (Value.bool false) w20))))
def F5.an : Ann := ⟨[], []⟩
theorem F5.eq (x0 : List Value) (x1 : ByteArray) (w : World) (Q : Value → World → Prop) : vcFn Tryd.prog F5.an 5 [ofL x0, Value.string x1] w Q = F5.vc x0 x1 w Q := by kernel_rfl
theorem F5.of (x0 : List Value) (x1 : ByteArray) (w : World) {Q : Value → World → Prop} (h : F5.vc x0 x1 w Q) : Calls Tryd.prog 5 #[ofL x0, Value.string x1] w (fun e w' => ∃ v, e = .returned v ∧ Q v w') := vcFn_sound noCount mixed ((F5.eq x0 x1 w Q).symm ▸ h)
/-! ### function 6: stillage/stillagelaw06.DigestRows -/
def F6.vc (x0A : Option Addr) (x0n x0c : Nat) (x1 : List Value) (w : World) (Q : Value → World → Prop) : Prop :=
  nw w x1 23 fun b1 w2 =>
  Calls Tryd.prog 16 #[Value.slice x0A x0n x0c] w2 fun e4 w3 =>
  ∃ (A5 : Option Addr) (n6 c7 : Nat), e4 = .returned (Value.slice A5 n6 c7) ∧ (
    Calls Tryd.prog 18 #[Value.slice x0A x0n x0c] w3.drew fun e9 w8 =>
    ∃ (A10 : Option Addr) (n11 c12 : Nat), e9 = .returned (Value.slice A10 n11 c12) ∧ (
      Calls Tryd.prog 17 #[Value.slice A5 n6 c7, Value.slice A10 n11 c12] w8 fun e14 w13 =>
      ∃ t15 : Bool, e14 = .returned (Value.bool t15) ∧ (
        vIf t15
        (ldA 32 w13 b1 0 fun a16 =>
          ldA 32 w13 b1 0 fun a17 =>
          Calls Tryd.prog 19 #[Value.slice A5 n6 c7, ofL a16] w13 fun e19 w18 =>
          ∃ t20 : Bool, e19 = .returned (Value.bool t20) ∧ (
            kp w13 b1 0 32 w18 <|
            Calls Tryd.prog 20 #[Value.slice x0A x0n x0c, ofL a17] w18 fun e22 w21 =>
            ∃ t23 : Bool, e22 = .returned (Value.bool t23) ∧ (
              vIf (t20 == t23)
              (Calls Tryd.prog 9 #[] w21 fun e25 w24 =>
                ∃ t26 : Bool, e25 = .returned (Value.bool t26) ∧ (
                  Q (Value.bool t26) w24))
              (Q (Value.bool false) w21))))
        (Q (Value.bool false) w13))))
def F6.an : Ann := ⟨[], []⟩
theorem F6.eq (x0A : Option Addr) (x0n x0c : Nat) (x1 : List Value) (w : World) (Q : Value → World → Prop) : vcFn Tryd.prog F6.an 6 [Value.slice x0A x0n x0c, ofL x1] w Q = F6.vc x0A x0n x0c x1 w Q := by kernel_rfl
theorem F6.of (x0A : Option Addr) (x0n x0c : Nat) (x1 : List Value) (w : World) {Q : Value → World → Prop} (h : F6.vc x0A x0n x0c x1 w Q) : Calls Tryd.prog 6 #[Value.slice x0A x0n x0c, ofL x1] w (fun e w' => ∃ v, e = .returned v ∧ Q v w') := vcFn_sound noCount mixed ((F6.eq x0A x0n x0c x1 w Q).symm ▸ h)
/-! ### function 7: stillage/digest.Cmp -/
def F7.vc (x0 : List Value) (x1 : List Value) (w : World) (Q : Value → World → Prop) : Prop :=
  nw w x0 23 fun b1 w2 =>
  nw w2 x1 23 fun b3 w4 =>
  ldA 32 w4 b1 0 fun a5 =>
  ldA 32 w4 b3 0 fun a6 =>
  eqAB 32 a5 a6 fun t7 =>
  vIf t7
  (Q (Value.int .i64 0) w4)
  (Calls Tryd.prog 21 #[Value.slice (some ⟨b1, 0, none⟩) 32 32, Value.slice (some ⟨b3, 0, none⟩) 32 32] w4.drew fun e9 w8 =>
    ∃ i10 : Int, e9 = .returned (Value.int .i64 i10) ∧ (
      Q (Value.int .i64 i10) w8))
def F7.an : Ann := ⟨[], []⟩
theorem F7.eq (x0 : List Value) (x1 : List Value) (w : World) (Q : Value → World → Prop) : vcFn Tryd.prog F7.an 7 [ofL x0, ofL x1] w Q = F7.vc x0 x1 w Q := by kernel_rfl
theorem F7.of (x0 : List Value) (x1 : List Value) (w : World) {Q : Value → World → Prop} (h : F7.vc x0 x1 w Q) : Calls Tryd.prog 7 #[ofL x0, ofL x1] w (fun e w' => ∃ v, e = .returned v ∧ Q v w') := vcFn_sound noCount mixed ((F7.eq x0 x1 w Q).symm ▸ h)
/-! ### function 8: stillage/stillageref06.Less -/
def F8.b2c (Q : Value → World → Prop) (C2 : ((Nat × Nat) × (Nat × Nat) × Int × Unit) → World → Prop) (x2 : (Nat × Nat)) (x3 : (Nat × Nat)) (x5 : Int) (w : World) : Prop :=
  vIf (decide (x5 < 32))
  (gd (decide (0 ≤ x5)) <|
    gd (decide (x5 < 32)) <|
    ldI .u8 w.drew x2.1 (x2.2 + (x5).toNat * 1) fun i5 =>
    gd (decide (0 ≤ x5)) <|
    gd (decide (x5 < 32)) <|
    ldI .u8 w.drew x3.1 (x3.2 + (x5).toNat * 1) fun i6 =>
    vIf (i5 != i6)
    (gd (decide (0 ≤ x5)) <|
      gd (decide (x5 < 32)) <|
      ldI .u8 w.drew.drew x2.1 (x2.2 + (x5).toNat * 1) fun i7 =>
      gd (decide (0 ≤ x5)) <|
      gd (decide (x5 < 32)) <|
      ldI .u8 w.drew.drew x3.1 (x3.2 + (x5).toNat * 1) fun i8 =>
      Q (Value.bool (decide (i7 < i8))) w.drew.drew)
    (jnC C2 ((x2.1, x2.2), (x3.1, x3.2), ((IntKind.wrap .i64 (x5 + 1))), ()) w.drew))
  (Q (Value.bool false) w)
def F8.b2 (Q : Value → World → Prop) : ((Nat × Nat) × (Nat × Nat) × Int × Unit) → World → (((Nat × Nat) × (Nat × Nat) × Int × Unit) → World → Prop) → Prop := fun s w C2 => ∀ _ : Nat → Value, F8.b2c Q C2 s.1 s.2.1 s.2.2.1 w
def F8.l2 (Q : Value → World → Prop) : ((Nat × Nat) × (Nat × Nat) × Int × Unit) → World → Prop := fun s w => ∃ n, loopC (F8.b2 Q) n s w
def F8.vc (x0 : List Value) (x1 : List Value) (w : World) (Q : Value → World → Prop) : Prop :=
  nw w x0 23 fun b1 w2 =>
  nw w2 x1 23 fun b3 w4 =>
  jnC (F8.l2 Q) ((b1, 0), (b3, 0), (0), ()) w4
def F8.an : Ann := ⟨[(2, [(2, .kL), (3, .kL), (5, .kI .i64)])], []⟩
theorem F8.eq (x0 : List Value) (x1 : List Value) (w : World) (Q : Value → World → Prop) : vcFn Tryd.prog F8.an 8 [ofL x0, ofL x1] w Q = F8.vc x0 x1 w Q := by kernel_rfl
theorem F8.of (x0 : List Value) (x1 : List Value) (w : World) {Q : Value → World → Prop} (h : F8.vc x0 x1 w Q) : Calls Tryd.prog 8 #[ofL x0, ofL x1] w (fun e w' => ∃ v, e = .returned v ∧ Q v w') := vcFn_sound noCount mixed ((F8.eq x0 x1 w Q).symm ▸ h)
/-! ### function 9: stillage/stillagelaw06.lives -/
def F9.vc  (w : World) (Q : Value → World → Prop) : Prop :=
  Calls Tryd.prog 12 #[Value.slice none 0 0] w fun e2 w1 =>
  ∃ a3 : List Value, e2 = .returned (ofL a3) ∧ (
    Calls Tryd.prog 14 #[ofL a3] w1 fun e5 w4 =>
    ∃ s6 : ByteArray, e5 = .returned (Value.string s6) ∧ (
      Q (Value.bool (s6.toList == S0.toList)) w4))
def F9.an : Ann := ⟨[], []⟩
theorem F9.eq  (w : World) (Q : Value → World → Prop) : vcFn Tryd.prog F9.an 9 [] w Q = F9.vc  w Q := by kernel_rfl
theorem F9.of  (w : World) {Q : Value → World → Prop} (h : F9.vc  w Q) : Calls Tryd.prog 9 #[] w (fun e w' => ∃ v, e = .returned v ∧ Q v w') := vcFn_sound noCount mixed ((F9.eq  w Q).symm ▸ h)
/-! ### function 10: stillage/digest.Read -/
def F10.k5c (Q : Value → World → Prop) (x2 : (Nat × Nat)) (x6 : (Option Addr × Nat × Nat)) (w : World) : Prop :=
  nw w Z23 23 fun b15 w16 =>
  cpy w16 1 (some ⟨b15, 0, none⟩) 32 (Value.slice x6.1 x6.2.1 x6.2.2) fun n17 w18 =>
  ldA 32 w18 b15 0 fun a19 =>
  gd (a19.length == 32) <|
  st w18 x2.1 x2.2 a19 fun w20 =>
  ldA 32 w20 x2.1 x2.2 fun a21 =>
  Q (Value.tuple #[ofL a21, Value.int .i64 0]) w20
def F10.k5 (Q : Value → World → Prop) : ((Nat × Nat) × (Option Addr × Nat × Nat) × Unit) → World → Prop := fun s w => ∀ _ : Nat → Value, F10.k5c Q s.1 s.2.1 w
def F10.k4c (Q : Value → World → Prop) (x2 : (Nat × Nat)) (x6 : (Option Addr × Nat × Nat)) (x29 : Bool) (w : World) : Prop :=
  vIf x29
  (gd (([Value.int .u8 0] ++ ([Value.int .u8 0] ++ ([Value.int .u8 0] ++ ([Value.int .u8 0] ++ ([Value.int .u8 0] ++ ([Value.int .u8 0] ++ ([Value.int .u8 0] ++ ([Value.int .u8 0] ++ ([Value.int .u8 0] ++ ([Value.int .u8 0] ++ ([Value.int .u8 0] ++ ([Value.int .u8 0] ++ ([Value.int .u8 0] ++ ([Value.int .u8 0] ++ ([Value.int .u8 0] ++ ([Value.int .u8 0] ++ ([Value.int .u8 0] ++ ([Value.int .u8 0] ++ ([Value.int .u8 0] ++ ([Value.int .u8 0] ++ ([Value.int .u8 0] ++ ([Value.int .u8 0] ++ ([Value.int .u8 0] ++ ([Value.int .u8 0] ++ ([Value.int .u8 0] ++ ([Value.int .u8 0] ++ ([Value.int .u8 0] ++ ([Value.int .u8 0] ++ ([Value.int .u8 0] ++ ([Value.int .u8 0] ++ ([Value.int .u8 0] ++ ([Value.int .u8 0] ++ [])))))))))))))))))))))))))))))))).length == 32) <|
    st w x2.1 x2.2 ([Value.int .u8 0] ++ ([Value.int .u8 0] ++ ([Value.int .u8 0] ++ ([Value.int .u8 0] ++ ([Value.int .u8 0] ++ ([Value.int .u8 0] ++ ([Value.int .u8 0] ++ ([Value.int .u8 0] ++ ([Value.int .u8 0] ++ ([Value.int .u8 0] ++ ([Value.int .u8 0] ++ ([Value.int .u8 0] ++ ([Value.int .u8 0] ++ ([Value.int .u8 0] ++ ([Value.int .u8 0] ++ ([Value.int .u8 0] ++ ([Value.int .u8 0] ++ ([Value.int .u8 0] ++ ([Value.int .u8 0] ++ ([Value.int .u8 0] ++ ([Value.int .u8 0] ++ ([Value.int .u8 0] ++ ([Value.int .u8 0] ++ ([Value.int .u8 0] ++ ([Value.int .u8 0] ++ ([Value.int .u8 0] ++ ([Value.int .u8 0] ++ ([Value.int .u8 0] ++ ([Value.int .u8 0] ++ ([Value.int .u8 0] ++ ([Value.int .u8 0] ++ ([Value.int .u8 0] ++ [])))))))))))))))))))))))))))))))) fun w13 =>
    ldA 32 w13 x2.1 x2.2 fun a14 =>
    Q (Value.tuple #[ofL a14, Value.int .i64 3]) w13)
  (jnC (F10.k5 Q) ((x2.1, x2.2), (x6.1, x6.2.1, x6.2.2), ()) w)
def F10.k4 (Q : Value → World → Prop) : ((Nat × Nat) × (Option Addr × Nat × Nat) × Bool × Unit) → World → Prop := fun s w => ∀ _ : Nat → Value, F10.k4c Q s.1 s.2.1 s.2.2.1 w
def F10.vc (x0 : ByteArray) (w : World) (Q : Value → World → Prop) : Prop :=
  nw w Z23 23 fun b1 w2 =>
  Calls Tryd.prog 22 #[Value.string x0, Value.string (⟨#[115, 104, 97, 50, 53, 54, 58]⟩ : ByteArray)] w2 fun e4 w3 =>
  ∃ s5 : ByteArray, ∃ t6 : Bool, e4 = .returned (Value.tuple #[Value.string s5, Value.bool t6]) ∧ (
    Calls Tryd.prog 23 #[Value.string s5] w3 fun e8 w7 =>
    ∃ (A9 : Option Addr) (n10 c11 : Nat), ∃ i12 : Int, e8 = .returned (Value.tuple #[Value.slice A9 n10 c11, Value.int .i64 i12]) ∧ (
      vIf (!t6)
      (jnC (F10.k4 Q) ((b1, 0), (A9, n10, c11), true, ()) w7)
      (vIf (i12 != 0)
        (jnC (F10.k4 Q) ((b1, 0), (A9, n10, c11), true, ()) w7)
        (jnC (F10.k4 Q) ((b1, 0), (A9, n10, c11), (((n10 : Nat) : Int) != 32), ()) w7))))
def F10.an : Ann := ⟨[], [(4, [(2, .kL), (6, .kSl), (29, .kB)]), (5, [(2, .kL), (6, .kSl)])]⟩
theorem F10.eq (x0 : ByteArray) (w : World) (Q : Value → World → Prop) : vcFn Tryd.prog F10.an 10 [Value.string x0] w Q = F10.vc x0 w Q := by kernel_rfl
theorem F10.of (x0 : ByteArray) (w : World) {Q : Value → World → Prop} (h : F10.vc x0 w Q) : Calls Tryd.prog 10 #[Value.string x0] w (fun e w' => ∃ v, e = .returned v ∧ Q v w') := vcFn_sound noCount mixed ((F10.eq x0 w Q).symm ▸ h)
/-! ### function 11: stillage/stillageref06.Read -/
def F11.b8c (Q : Value → World → Prop) (C8 : ((Nat × Nat) × (Nat × Nat) × (Option Addr × Nat × Nat) × Int × Unit) → World → Prop) (x2 : (Nat × Nat)) (x4 : (Nat × Nat)) (x5 : (Option Addr × Nat × Nat)) (x7 : Int) (w : World) : Prop :=
  vIf (decide (x7 < 32))
  (dr x5.1 fun b17 o18 =>
    gd (decide (0 ≤ x7)) <|
    gd (decide (x7 < ((x5.2.1 : Nat) : Int))) <|
    ldI .u8 w b17 (o18 + (x7).toNat * 1) fun i19 =>
    gd (decide (0 ≤ x7)) <|
    gd (decide (x7 < 32)) <|
    st w x4.1 (x4.2 + (x7).toNat * 1) [Value.int .u8 i19] fun w20 =>
    jnC C8 ((x2.1, x2.2), (x4.1, x4.2), (x5.1, x5.2.1, x5.2.2), ((IntKind.wrap .i64 (x7 + 1))), ()) w20)
  (ldA 32 w x4.1 x4.2 fun a21 =>
    gd (a21.length == 32) <|
    st w x2.1 x2.2 a21 fun w22 =>
    ldA 32 w22 x2.1 x2.2 fun a23 =>
    Q (Value.tuple #[ofL a23, Value.int .i64 0]) w22)
def F11.b8 (Q : Value → World → Prop) : ((Nat × Nat) × (Nat × Nat) × (Option Addr × Nat × Nat) × Int × Unit) → World → (((Nat × Nat) × (Nat × Nat) × (Option Addr × Nat × Nat) × Int × Unit) → World → Prop) → Prop := fun s w C8 => ∀ _ : Nat → Value, F11.b8c Q C8 s.1 s.2.1 s.2.2.1 s.2.2.2.1 w
def F11.l8 (Q : Value → World → Prop) : ((Nat × Nat) × (Nat × Nat) × (Option Addr × Nat × Nat) × Int × Unit) → World → Prop := fun s w => ∃ n, loopC (F11.b8 Q) n s w
def F11.k4c (Q : Value → World → Prop) (x0 : ByteArray) (x2 : (Nat × Nat)) (x4 : (Nat × Nat)) (w : World) : Prop :=
  gd (decide ((7 : Int) ≤ ((x0.size : Nat) : Int))) <|
  Calls Tryd.prog 24 #[Value.string (x0.extract 7 x0.size)] w fun e9 w8 =>
  ∃ (A10 : Option Addr) (n11 c12 : Nat), ∃ i13 : Int, e9 = .returned (Value.tuple #[Value.slice A10 n11 c12, Value.int .i64 i13]) ∧ (
    vIf (i13 != 0)
    (ldA 32 w8 x4.1 x4.2 fun a14 =>
      gd (a14.length == 32) <|
      st w8 x2.1 x2.2 a14 fun w15 =>
      ldA 32 w15 x2.1 x2.2 fun a16 =>
      Q (Value.tuple #[ofL a16, Value.int .i64 3]) w15)
    (jnC (F11.l8 Q) ((x2.1, x2.2), (x4.1, x4.2), (A10, n11, c12), (0), ()) w8))
def F11.k4 (Q : Value → World → Prop) : (ByteArray × (Nat × Nat) × (Nat × Nat) × Unit) → World → Prop := fun s w => ∀ _ : Nat → Value, F11.k4c Q s.1 s.2.1 s.2.2.1 w
def F11.k3c (Q : Value → World → Prop) (x0 : ByteArray) (x2 : (Nat × Nat)) (x4 : (Nat × Nat)) (x15 : Bool) (w : World) : Prop :=
  vIf x15
  (ldA 32 w x4.1 x4.2 fun a5 =>
    gd (a5.length == 32) <|
    st w x2.1 x2.2 a5 fun w6 =>
    ldA 32 w6 x2.1 x2.2 fun a7 =>
    Q (Value.tuple #[ofL a7, Value.int .i64 3]) w6)
  (jnC (F11.k4 Q) (x0, (x2.1, x2.2), (x4.1, x4.2), ()) w)
def F11.k3 (Q : Value → World → Prop) : (ByteArray × (Nat × Nat) × (Nat × Nat) × Bool × Unit) → World → Prop := fun s w => ∀ _ : Nat → Value, F11.k3c Q s.1 s.2.1 s.2.2.1 s.2.2.2.1 w
def F11.vc (x0 : ByteArray) (w : World) (Q : Value → World → Prop) : Prop :=
  nw w Z23 23 fun b1 w2 =>
  nw w2 Z23 23 fun b3 w4 =>
  vIf ((x0.size : Int) != 71)
  (jnC (F11.k3 Q) (x0, (b1, 0), (b3, 0), true, ()) w4)
  (gd (decide ((7 : Int) ≤ ((x0.size : Nat) : Int))) <|
    jnC (F11.k3 Q) (x0, (b1, 0), (b3, 0), (!((x0.extract 0 7).toList == (⟨#[115, 104, 97, 50, 53, 54, 58]⟩ : ByteArray).toList)), ()) w4)
def F11.an : Ann := ⟨[(8, [(2, .kL), (4, .kL), (5, .kSl), (7, .kI .i64)])], [(3, [(0, .kS), (2, .kL), (4, .kL), (15, .kB)]), (4, [(0, .kS), (2, .kL), (4, .kL)])]⟩
theorem F11.eq (x0 : ByteArray) (w : World) (Q : Value → World → Prop) : vcFn Tryd.prog F11.an 11 [Value.string x0] w Q = F11.vc x0 w Q := by kernel_rfl
theorem F11.of (x0 : ByteArray) (w : World) {Q : Value → World → Prop} (h : F11.vc x0 w Q) : Calls Tryd.prog 11 #[Value.string x0] w (fun e w' => ∃ v, e = .returned v ∧ Q v w') := vcFn_sound noCount mixed ((F11.eq x0 w Q).symm ▸ h)
/-! ### function 12: stillage/digest.Of -/
def F12.vc (x0A : Option Addr) (x0n x0c : Nat) (w : World) (Q : Value → World → Prop) : Prop :=
  nw w Z23 23 fun b1 w2 =>
  Calls Tryd.prog 25 #[Value.slice x0A x0n x0c] w2 fun e4 w3 =>
  ∃ a5 : List Value, e4 = .returned (ofL a5) ∧ (
    gd (a5.length == 32) <|
    st w3 b1 0 a5 fun w6 =>
    ldA 32 w6 b1 0 fun a7 =>
    Q (ofL a7) w6)
def F12.an : Ann := ⟨[], []⟩
theorem F12.eq (x0A : Option Addr) (x0n x0c : Nat) (w : World) (Q : Value → World → Prop) : vcFn Tryd.prog F12.an 12 [Value.slice x0A x0n x0c] w Q = F12.vc x0A x0n x0c w Q := by kernel_rfl
theorem F12.of (x0A : Option Addr) (x0n x0c : Nat) (w : World) {Q : Value → World → Prop} (h : F12.vc x0A x0n x0c w Q) : Calls Tryd.prog 12 #[Value.slice x0A x0n x0c] w (fun e w' => ∃ v, e = .returned v ∧ Q v w') := vcFn_sound noCount mixed ((F12.eq x0A x0n x0c w Q).symm ▸ h)
/-! ### function 13: stillage/stillageref04.Sum -/
def F13.vc (x0A : Option Addr) (x0n x0c : Nat) (w : World) (Q : Value → World → Prop) : Prop :=
  nw w Z23 23 fun b1 w2 =>
  Calls Tryd.prog 26 #[] w2 fun e4 w3 =>
  ∃ (A5 : Option Addr) (n6 c7 : Nat), ∃ (A8 : Option Addr) (n9 c10 : Nat), e4 = .returned (Value.tuple #[Value.slice A5 n6 c7, Value.slice A8 n9 c10]) ∧ (
    Calls Tryd.prog 27 #[Value.slice x0A x0n x0c, Value.slice A5 n6 c7, Value.slice A8 n9 c10] w3 fun e12 w11 =>
    ∃ a13 : List Value, e12 = .returned (ofL a13) ∧ (
      gd (a13.length == 32) <|
      st w11 b1 0 a13 fun w14 =>
      ldA 32 w14 b1 0 fun a15 =>
      Q (ofL a15) w14))
def F13.an : Ann := ⟨[], []⟩
theorem F13.eq (x0A : Option Addr) (x0n x0c : Nat) (w : World) (Q : Value → World → Prop) : vcFn Tryd.prog F13.an 13 [Value.slice x0A x0n x0c] w Q = F13.vc x0A x0n x0c w Q := by kernel_rfl
theorem F13.of (x0A : Option Addr) (x0n x0c : Nat) (w : World) {Q : Value → World → Prop} (h : F13.vc x0A x0n x0c w Q) : Calls Tryd.prog 13 #[Value.slice x0A x0n x0c] w (fun e w' => ∃ v, e = .returned v ∧ Q v w') := vcFn_sound noCount mixed ((F13.eq x0A x0n x0c w Q).symm ▸ h)
/-! ### function 14: stillage/digest.Text -/
def F14.vc (x0 : List Value) (w : World) (Q : Value → World → Prop) : Prop :=
  nw w x0 23 fun b1 w2 =>
  Calls Tryd.prog 28 #[Value.slice (some ⟨b1, 0, none⟩) 32 32] w2 fun e4 w3 =>
  ∃ s5 : ByteArray, e4 = .returned (Value.string s5) ∧ (
    gd (decide ((⟨#[115, 104, 97, 50, 53, 54, 58]⟩ : ByteArray).size + s5.size ≤ 9223372036854775807)) <|
    Q (Value.string ((⟨#[115, 104, 97, 50, 53, 54, 58]⟩ : ByteArray) ++ s5)) w3)
def F14.an : Ann := ⟨[], []⟩
theorem F14.eq (x0 : List Value) (w : World) (Q : Value → World → Prop) : vcFn Tryd.prog F14.an 14 [ofL x0] w Q = F14.vc x0 w Q := by kernel_rfl
theorem F14.of (x0 : List Value) (w : World) {Q : Value → World → Prop} (h : F14.vc x0 w Q) : Calls Tryd.prog 14 #[ofL x0] w (fun e w' => ∃ v, e = .returned v ∧ Q v w') := vcFn_sound noCount mixed ((F14.eq x0 w Q).symm ▸ h)
/-! ### function 15: stillage/stillageref06.Text -/
def F15.vc (x0 : List Value) (w : World) (Q : Value → World → Prop) : Prop :=
  nw w x0 23 fun b1 w2 =>
  Calls Tryd.prog 29 #[Value.slice (some ⟨b1, 0, none⟩) 32 32] w2 fun e4 w3 =>
  ∃ s5 : ByteArray, e4 = .returned (Value.string s5) ∧ (
    gd (decide ((⟨#[115, 104, 97, 50, 53, 54, 58]⟩ : ByteArray).size + s5.size ≤ 9223372036854775807)) <|
    Q (Value.string ((⟨#[115, 104, 97, 50, 53, 54, 58]⟩ : ByteArray) ++ s5)) w3)
def F15.an : Ann := ⟨[], []⟩
theorem F15.eq (x0 : List Value) (w : World) (Q : Value → World → Prop) : vcFn Tryd.prog F15.an 15 [ofL x0] w Q = F15.vc x0 w Q := by kernel_rfl
theorem F15.of (x0 : List Value) (w : World) {Q : Value → World → Prop} (h : F15.vc x0 w Q) : Calls Tryd.prog 15 #[ofL x0] w (fun e w' => ∃ v, e = .returned v ∧ Q v w') := vcFn_sound noCount mixed ((F15.eq x0 w Q).symm ▸ h)
/-! ### function 16: stillage/digest.Row -/
def F16.vc (x0A : Option Addr) (x0n x0c : Nat) (w : World) (Q : Value → World → Prop) : Prop :=
  Calls Tryd.prog 30 #[Value.slice x0A x0n x0c] w fun e2 w1 =>
  ∃ (A3 : Option Addr) (n4 c5 : Nat), e2 = .returned (Value.slice A3 n4 c5) ∧ (
    Calls Tryd.prog 31 #[Value.slice A3 n4 c5, Value.func (.func 7) #[] #[]] w1 fun e7 w6 =>
    e7 = .returned (Value.tuple #[]) ∧ (
      Calls Tryd.prog 32 #[Value.slice A3 n4 c5] w6 fun e9 w8 =>
      ∃ (A10 : Option Addr) (n11 c12 : Nat), e9 = .returned (Value.slice A10 n11 c12) ∧ (
        Q (Value.slice A10 n11 c12) w8)))
def F16.an : Ann := ⟨[], []⟩
theorem F16.eq (x0A : Option Addr) (x0n x0c : Nat) (w : World) (Q : Value → World → Prop) : vcFn Tryd.prog F16.an 16 [Value.slice x0A x0n x0c] w Q = F16.vc x0A x0n x0c w Q := by kernel_rfl
theorem F16.of (x0A : Option Addr) (x0n x0c : Nat) (w : World) {Q : Value → World → Prop} (h : F16.vc x0A x0n x0c w Q) : Calls Tryd.prog 16 #[Value.slice x0A x0n x0c] w (fun e w' => ∃ v, e = .returned v ∧ Q v w') := vcFn_sound noCount mixed ((F16.eq x0A x0n x0c w Q).symm ▸ h)
/-! ### function 17: stillage/stillageref06.Same -/
def F17.b4c (Q : Value → World → Prop) (C4 : ((Option Addr × Nat × Nat) × (Option Addr × Nat × Nat) × Int × Unit) → World → Prop) (x0 : (Option Addr × Nat × Nat)) (x1 : (Option Addr × Nat × Nat)) (x5 : Int) (w : World) : Prop :=
  vIf (decide (x5 < ((x0.2.1 : Nat) : Int)))
  (dr x0.1 fun b1 o2 =>
    gd (decide (0 ≤ x5)) <|
    gd (decide (x5 < ((x0.2.1 : Nat) : Int))) <|
    ldA 32 w.drew b1 (o2 + (x5).toNat * 32) fun a3 =>
    dr x1.1 fun b4 o5 =>
    gd (decide (0 ≤ x5)) <|
    gd (decide (x5 < ((x1.2.1 : Nat) : Int))) <|
    ldA 32 w.drew b4 (o5 + (x5).toNat * 32) fun a6 =>
    eqAB 32 a3 a6 fun t7 =>
    vIf (!t7)
    (Q (Value.bool false) w.drew)
    (jnC C4 ((x0.1, x0.2.1, x0.2.2), (x1.1, x1.2.1, x1.2.2), ((IntKind.wrap .i64 (x5 + 1))), ()) w.drew))
  (Q (Value.bool true) w)
def F17.b4 (Q : Value → World → Prop) : ((Option Addr × Nat × Nat) × (Option Addr × Nat × Nat) × Int × Unit) → World → (((Option Addr × Nat × Nat) × (Option Addr × Nat × Nat) × Int × Unit) → World → Prop) → Prop := fun s w C4 => ∀ _ : Nat → Value, F17.b4c Q C4 s.1 s.2.1 s.2.2.1 w
def F17.l4 (Q : Value → World → Prop) : ((Option Addr × Nat × Nat) × (Option Addr × Nat × Nat) × Int × Unit) → World → Prop := fun s w => ∃ n, loopC (F17.b4 Q) n s w
def F17.vc (x0A : Option Addr) (x0n x0c : Nat) (x1A : Option Addr) (x1n x1c : Nat) (w : World) (Q : Value → World → Prop) : Prop :=
  vIf (((x0n : Nat) : Int) != ((x1n : Nat) : Int))
  (Q (Value.bool false) w)
  (jnC (F17.l4 Q) ((x0A, x0n, x0c), (x1A, x1n, x1c), (0), ()) w)
def F17.an : Ann := ⟨[(4, [(0, .kSl), (1, .kSl), (5, .kI .i64)])], []⟩
theorem F17.eq (x0A : Option Addr) (x0n x0c : Nat) (x1A : Option Addr) (x1n x1c : Nat) (w : World) (Q : Value → World → Prop) : vcFn Tryd.prog F17.an 17 [Value.slice x0A x0n x0c, Value.slice x1A x1n x1c] w Q = F17.vc x0A x0n x0c x1A x1n x1c w Q := by kernel_rfl
theorem F17.of (x0A : Option Addr) (x0n x0c : Nat) (x1A : Option Addr) (x1n x1c : Nat) (w : World) {Q : Value → World → Prop} (h : F17.vc x0A x0n x0c x1A x1n x1c w Q) : Calls Tryd.prog 17 #[Value.slice x0A x0n x0c, Value.slice x1A x1n x1c] w (fun e w' => ∃ v, e = .returned v ∧ Q v w') := vcFn_sound noCount mixed ((F17.eq x0A x0n x0c x1A x1n x1c w Q).symm ▸ h)
/-! ### function 18: stillage/stillageref06.Row -/
def F18.b3c (Q : Value → World → Prop) (C3 : ((Option Addr × Nat × Nat) × (Option Addr × Nat × Nat) × Int × Unit) → World → Prop) (x0 : (Option Addr × Nat × Nat)) (x3 : (Option Addr × Nat × Nat)) (x4 : Int) (w : World) : Prop :=
  vIf (decide (x4 < ((x0.2.1 : Nat) : Int)))
  (dr x0.1 fun b1 o2 =>
    gd (decide (0 ≤ x4)) <|
    gd (decide (x4 < ((x0.2.1 : Nat) : Int))) <|
    ldA 32 w b1 (o2 + (x4).toNat * 32) fun a3 =>
    Calls Tryd.prog 33 #[Value.slice x3.1 x3.2.1 x3.2.2, ofL a3] w fun e5 w4 =>
    ∃ (A6 : Option Addr) (n7 c8 : Nat), e5 = .returned (Value.slice A6 n7 c8) ∧ (
      jnC C3 ((x0.1, x0.2.1, x0.2.2), (A6, n7, c8), ((IntKind.wrap .i64 (x4 + 1))), ()) w4))
  (Q (Value.slice x3.1 x3.2.1 x3.2.2) w)
def F18.b3 (Q : Value → World → Prop) : ((Option Addr × Nat × Nat) × (Option Addr × Nat × Nat) × Int × Unit) → World → (((Option Addr × Nat × Nat) × (Option Addr × Nat × Nat) × Int × Unit) → World → Prop) → Prop := fun s w C3 => ∀ _ : Nat → Value, F18.b3c Q C3 s.1 s.2.1 s.2.2.1 w
def F18.l3 (Q : Value → World → Prop) : ((Option Addr × Nat × Nat) × (Option Addr × Nat × Nat) × Int × Unit) → World → Prop := fun s w => ∃ n, loopC (F18.b3 Q) n s w
def F18.vc (x0A : Option Addr) (x0n x0c : Nat) (w : World) (Q : Value → World → Prop) : Prop :=
  jnC (F18.l3 Q) ((x0A, x0n, x0c), (none, 0, 0), (0), ()) w
def F18.an : Ann := ⟨[(3, [(0, .kSl), (3, .kSl), (4, .kI .i64)])], []⟩
theorem F18.eq (x0A : Option Addr) (x0n x0c : Nat) (w : World) (Q : Value → World → Prop) : vcFn Tryd.prog F18.an 18 [Value.slice x0A x0n x0c] w Q = F18.vc x0A x0n x0c w Q := by kernel_rfl
theorem F18.of (x0A : Option Addr) (x0n x0c : Nat) (w : World) {Q : Value → World → Prop} (h : F18.vc x0A x0n x0c w Q) : Calls Tryd.prog 18 #[Value.slice x0A x0n x0c] w (fun e w' => ∃ v, e = .returned v ∧ Q v w') := vcFn_sound noCount mixed ((F18.eq x0A x0n x0c w Q).symm ▸ h)
/-! ### function 19: stillage/digest.Has -/
def F19.vc (x0A : Option Addr) (x0n x0c : Nat) (x1 : List Value) (w : World) (Q : Value → World → Prop) : Prop :=
  nw w x1 23 fun b1 w2 =>
  ldA 32 w2 b1 0 fun a3 =>
  Calls Tryd.prog 34 #[Value.slice x0A x0n x0c, ofL a3, Value.func (.func 7) #[] #[]] w2 fun e5 w4 =>
  ∃ i6 : Int, ∃ t7 : Bool, e5 = .returned (Value.tuple #[Value.int .i64 i6, Value.bool t7]) ∧ (
    Q (Value.bool t7) w4)
def F19.an : Ann := ⟨[], []⟩
theorem F19.eq (x0A : Option Addr) (x0n x0c : Nat) (x1 : List Value) (w : World) (Q : Value → World → Prop) : vcFn Tryd.prog F19.an 19 [Value.slice x0A x0n x0c, ofL x1] w Q = F19.vc x0A x0n x0c x1 w Q := by kernel_rfl
theorem F19.of (x0A : Option Addr) (x0n x0c : Nat) (x1 : List Value) (w : World) {Q : Value → World → Prop} (h : F19.vc x0A x0n x0c x1 w Q) : Calls Tryd.prog 19 #[Value.slice x0A x0n x0c, ofL x1] w (fun e w' => ∃ v, e = .returned v ∧ Q v w') := vcFn_sound noCount mixed ((F19.eq x0A x0n x0c x1 w Q).symm ▸ h)
/-! ### function 20: stillage/stillageref06.Has -/
def F20.b2c (Q : Value → World → Prop) (C2 : ((Option Addr × Nat × Nat) × (Nat × Nat) × Int × Unit) → World → Prop) (x0 : (Option Addr × Nat × Nat)) (x3 : (Nat × Nat)) (x5 : Int) (w : World) : Prop :=
  vIf (decide (x5 < ((x0.2.1 : Nat) : Int)))
  (dr x0.1 fun b3 o4 =>
    gd (decide (0 ≤ x5)) <|
    gd (decide (x5 < ((x0.2.1 : Nat) : Int))) <|
    ldA 32 w.drew b3 (o4 + (x5).toNat * 32) fun a5 =>
    ldA 32 w.drew x3.1 x3.2 fun a6 =>
    eqAB 32 a5 a6 fun t7 =>
    vIf t7
    (Q (Value.bool true) w.drew)
    (jnC C2 ((x0.1, x0.2.1, x0.2.2), (x3.1, x3.2), ((IntKind.wrap .i64 (x5 + 1))), ()) w.drew))
  (Q (Value.bool false) w)
def F20.b2 (Q : Value → World → Prop) : ((Option Addr × Nat × Nat) × (Nat × Nat) × Int × Unit) → World → (((Option Addr × Nat × Nat) × (Nat × Nat) × Int × Unit) → World → Prop) → Prop := fun s w C2 => ∀ _ : Nat → Value, F20.b2c Q C2 s.1 s.2.1 s.2.2.1 w
def F20.l2 (Q : Value → World → Prop) : ((Option Addr × Nat × Nat) × (Nat × Nat) × Int × Unit) → World → Prop := fun s w => ∃ n, loopC (F20.b2 Q) n s w
def F20.vc (x0A : Option Addr) (x0n x0c : Nat) (x1 : List Value) (w : World) (Q : Value → World → Prop) : Prop :=
  nw w x1 23 fun b1 w2 =>
  jnC (F20.l2 Q) ((x0A, x0n, x0c), (b1, 0), (0), ()) w2
def F20.an : Ann := ⟨[(2, [(0, .kSl), (3, .kL), (5, .kI .i64)])], []⟩
theorem F20.eq (x0A : Option Addr) (x0n x0c : Nat) (x1 : List Value) (w : World) (Q : Value → World → Prop) : vcFn Tryd.prog F20.an 20 [Value.slice x0A x0n x0c, ofL x1] w Q = F20.vc x0A x0n x0c x1 w Q := by kernel_rfl
theorem F20.of (x0A : Option Addr) (x0n x0c : Nat) (x1 : List Value) (w : World) {Q : Value → World → Prop} (h : F20.vc x0A x0n x0c x1 w Q) : Calls Tryd.prog 20 #[Value.slice x0A x0n x0c, ofL x1] w (fun e w' => ∃ v, e = .returned v ∧ Q v w') := vcFn_sound noCount mixed ((F20.eq x0A x0n x0c x1 w Q).symm ▸ h)
/-! ### function 21: bytes.Compare -/
def F21.vc (x0A : Option Addr) (x0n x0c : Nat) (x1A : Option Addr) (x1n x1c : Nat) (w : World) (Q : Value → World → Prop) : Prop :=
  extC Tryd.prog 35 #[Value.slice x0A x0n x0c, Value.slice x1A x1n x1c] w fun v3 w1 =>
  ∃ i4 : Int, v3 = Value.int .i64 i4 ∧ (
    Q (Value.int .i64 i4) w1)
def F21.an : Ann := ⟨[], []⟩
theorem F21.eq (x0A : Option Addr) (x0n x0c : Nat) (x1A : Option Addr) (x1n x1c : Nat) (w : World) (Q : Value → World → Prop) : vcFn Tryd.prog F21.an 21 [Value.slice x0A x0n x0c, Value.slice x1A x1n x1c] w Q = F21.vc x0A x0n x0c x1A x1n x1c w Q := by kernel_rfl
theorem F21.of (x0A : Option Addr) (x0n x0c : Nat) (x1A : Option Addr) (x1n x1c : Nat) (w : World) {Q : Value → World → Prop} (h : F21.vc x0A x0n x0c x1A x1n x1c w Q) : Calls Tryd.prog 21 #[Value.slice x0A x0n x0c, Value.slice x1A x1n x1c] w (fun e w' => ∃ v, e = .returned v ∧ Q v w') := vcFn_sound noCount mixed ((F21.eq x0A x0n x0c x1A x1n x1c w Q).symm ▸ h)
/-! ### function 22: strings.CutPrefix -/
def F22.vc (x0 : ByteArray) (x1 : ByteArray) (w : World) (Q : Value → World → Prop) : Prop :=
  Calls Tryd.prog 36 #[Value.string x0, Value.string x1] w fun e2 w1 =>
  ∃ s3 : ByteArray, ∃ t4 : Bool, e2 = .returned (Value.tuple #[Value.string s3, Value.bool t4]) ∧ (
    Q (Value.tuple #[Value.string s3, Value.bool t4]) w1)
def F22.an : Ann := ⟨[], []⟩
theorem F22.eq (x0 : ByteArray) (x1 : ByteArray) (w : World) (Q : Value → World → Prop) : vcFn Tryd.prog F22.an 22 [Value.string x0, Value.string x1] w Q = F22.vc x0 x1 w Q := by kernel_rfl
theorem F22.of (x0 : ByteArray) (x1 : ByteArray) (w : World) {Q : Value → World → Prop} (h : F22.vc x0 x1 w Q) : Calls Tryd.prog 22 #[Value.string x0, Value.string x1] w (fun e w' => ∃ v, e = .returned v ∧ Q v w') := vcFn_sound noCount mixed ((F22.eq x0 x1 w Q).symm ▸ h)
/-! ### function 23: stillage/hex.Read -/
def F23.k12c (Q : Value → World → Prop) (x4 : (Option Addr × Nat × Nat)) (x6 : Bool) (w : World) : Prop :=
  vIf x6
  (Q (Value.tuple #[Value.slice none 0 0, Value.int .i64 3]) w)
  (Q (Value.tuple #[Value.slice x4.1 x4.2.1 x4.2.2, Value.int .i64 0]) w)
def F23.k12 (Q : Value → World → Prop) : ((Option Addr × Nat × Nat) × Bool × Unit) → World → Prop := fun s w => ∀ _ : Nat → Value, F23.k12c Q s.1 s.2.1 w
def F23.b4c (Q : Value → World → Prop) (C4 : ((Option Addr × Nat × Nat) × Int × Bool × (Nat × Nat) × Unit) → World → Prop) (x4 : (Option Addr × Nat × Nat)) (x5 : Int) (x6 : Bool) (x16 : (Nat × Nat)) (w : World) : Prop :=
  gd (Nat.beq x16.2 0 && true) <|
  nxt w x16.1
  (fun i5 i6 w7 =>
    Calls Tryd.prog 37 #[Value.int .i32 i6] w7 fun e9 w8 =>
    ∃ i10 : Int, ∃ t11 : Bool, e9 = .returned (Value.tuple #[Value.int .u8 i10, Value.bool t11]) ∧ (
      vIf (!t11)
      (Q (Value.tuple #[Value.slice none 0 0, Value.int .i64 3]) w8)
      (vIf x6
        (nw w8 ([Value.int .u8 (iOr .u8 (IntKind.wrap .u8 (x5 * 2 ^ 4)) i10)] ++ []) 5 fun b12 w13 =>
          app w13 1 1 [Value.int .u8 0] 5 x4.1 x4.2.1 x4.2.2 (Value.slice (some ⟨b12, 0, none⟩) 1 1) fun A14 n15 c16 w17 =>
          jnC C4 ((A14, n15, c16), (i10), (!x6), (x16.1, x16.2), ()) w17)
        (jnC C4 ((x4.1, x4.2.1, x4.2.2), (i10), (!x6), (x16.1, x16.2), ()) w8))))
  (jnC (F23.k12 Q) ((x4.1, x4.2.1, x4.2.2), x6, ()) w)
def F23.b4 (Q : Value → World → Prop) : ((Option Addr × Nat × Nat) × Int × Bool × (Nat × Nat) × Unit) → World → (((Option Addr × Nat × Nat) × Int × Bool × (Nat × Nat) × Unit) → World → Prop) → Prop := fun s w C4 => ∀ _ : Nat → Value, F23.b4c Q C4 s.1 s.2.1 s.2.2.1 s.2.2.2.1 w
def F23.l4 (Q : Value → World → Prop) : ((Option Addr × Nat × Nat) × Int × Bool × (Nat × Nat) × Unit) → World → Prop := fun s w => ∃ n, loopC (F23.b4 Q) n s w
def F23.vc (x0 : ByteArray) (w : World) (Q : Value → World → Prop) : Prop :=
  gd (decide ((0 : Int) ≤ (IntKind.wrap .i64 (Int.tdiv (x0.size : Int) 2)))) <|
  gd (decide ((IntKind.wrap .i64 (Int.tdiv (x0.size : Int) 2)) * 1 ≤ 281474976710656 ∧ (IntKind.wrap .i64 (Int.tdiv (x0.size : Int) 2)) ≤ 9223372036854775807)) <|
  nw w (zeros ((IntKind.wrap .i64 (Int.tdiv (x0.size : Int) 2))).toNat [Value.int .u8 0]) 5 fun b1 w2 =>
  itr w2 x0 fun b3 w4 =>
  jnC (F23.l4 Q) (((some ⟨b1, 0, none⟩), 0, ((IntKind.wrap .i64 (Int.tdiv (x0.size : Int) 2))).toNat), (0), false, (b3, 0), ()) w4
def F23.an : Ann := ⟨[(4, [(4, .kSl), (5, .kI .u8), (6, .kB), (16, .kL)])], [(12, [(4, .kSl), (6, .kB)])]⟩
theorem F23.eq (x0 : ByteArray) (w : World) (Q : Value → World → Prop) : vcFn Tryd.prog F23.an 23 [Value.string x0] w Q = F23.vc x0 w Q := by kernel_rfl
theorem F23.of (x0 : ByteArray) (w : World) {Q : Value → World → Prop} (h : F23.vc x0 w Q) : Calls Tryd.prog 23 #[Value.string x0] w (fun e w' => ∃ v, e = .returned v ∧ Q v w') := vcFn_sound noCount mixed ((F23.eq x0 w Q).symm ▸ h)
/-! ### function 24: stillage/stillageref03.Read -/
def F24.k10c (Q : Value → World → Prop) (C5 : (ByteArray × (Option Addr × Nat × Nat) × Int × Unit) → World → Prop) (x0 : ByteArray) (x4 : (Option Addr × Nat × Nat)) (x5 : Int) (x6 : Int) (x7 : Int) (w : World) : Prop :=
  nw w ([Value.int .u8 (IntKind.wrap .u8 ((IntKind.wrap .u8 (x6 * 16)) + x7))] ++ []) 5 fun b7 w8 =>
  app w8 1 1 [Value.int .u8 0] 5 x4.1 x4.2.1 x4.2.2 (Value.slice (some ⟨b7, 0, none⟩) 1 1) fun A9 n10 c11 w12 =>
  jnC C5 (x0, (A9, n10, c11), ((IntKind.wrap .i64 (x5 + 2))), ()) w12
def F24.k10 (Q : Value → World → Prop) (C5 : (ByteArray × (Option Addr × Nat × Nat) × Int × Unit) → World → Prop) : (ByteArray × (Option Addr × Nat × Nat) × Int × Int × Int × Unit) → World → Prop := fun s w => ∀ _ : Nat → Value, F24.k10c Q C5 s.1 s.2.1 s.2.2.1 s.2.2.2.1 s.2.2.2.2.1 w
def F24.b5c (Q : Value → World → Prop) (C5 : (ByteArray × (Option Addr × Nat × Nat) × Int × Unit) → World → Prop) (x0 : ByteArray) (x4 : (Option Addr × Nat × Nat)) (x5 : Int) (w : World) : Prop :=
  vIf (decide ((IntKind.wrap .i64 (x5 + 1)) < (x0.size : Int)))
  (gd (decide (0 ≤ x5)) <|
    gd (decide (x5 < (x0.size : Int))) <|
    gd (decide (0 ≤ (IntKind.wrap .i64 (x5 + 1)))) <|
    gd (decide ((IntKind.wrap .i64 (x5 + 1)) < (x0.size : Int))) <|
    Calls Tryd.prog 38 #[Value.int .u8 (byteAt x0 (x5).toNat)] w.drew fun e2 w1 =>
    ∃ i3 : Int, e2 = .returned (Value.int .u8 i3) ∧ (
      Calls Tryd.prog 38 #[Value.int .u8 (byteAt x0 ((IntKind.wrap .i64 (x5 + 1))).toNat)] w1 fun e5 w4 =>
      ∃ i6 : Int, e5 = .returned (Value.int .u8 i6) ∧ (
        vIf (decide (i3 > 15))
        (Q (Value.tuple #[Value.slice none 0 0, Value.int .i64 3]) w4)
        (vIf (decide (i6 > 15))
          (Q (Value.tuple #[Value.slice none 0 0, Value.int .i64 3]) w4)
          (jnC (F24.k10 Q C5) (x0, (x4.1, x4.2.1, x4.2.2), (x5), (i3), (i6), ()) w4)))))
  (Q (Value.tuple #[Value.slice x4.1 x4.2.1 x4.2.2, Value.int .i64 0]) w)
def F24.b5 (Q : Value → World → Prop) : (ByteArray × (Option Addr × Nat × Nat) × Int × Unit) → World → ((ByteArray × (Option Addr × Nat × Nat) × Int × Unit) → World → Prop) → Prop := fun s w C5 => ∀ _ : Nat → Value, F24.b5c Q C5 s.1 s.2.1 s.2.2.1 w
def F24.l5 (Q : Value → World → Prop) : (ByteArray × (Option Addr × Nat × Nat) × Int × Unit) → World → Prop := fun s w => ∃ n, loopC (F24.b5 Q) n s w
def F24.vc (x0 : ByteArray) (w : World) (Q : Value → World → Prop) : Prop :=
  vIf ((Int.tmod (x0.size : Int) 2) == 1)
  (Q (Value.tuple #[Value.slice none 0 0, Value.int .i64 3]) w)
  (jnC (F24.l5 Q) (x0, (none, 0, 0), (0), ()) w)
def F24.an : Ann := ⟨[(5, [(0, .kS), (4, .kSl), (5, .kI .i64)])], [(10, [(0, .kS), (4, .kSl), (5, .kI .i64), (6, .kI .u8), (7, .kI .u8)])]⟩
theorem F24.eq (x0 : ByteArray) (w : World) (Q : Value → World → Prop) : vcFn Tryd.prog F24.an 24 [Value.string x0] w Q = F24.vc x0 w Q := by kernel_rfl
theorem F24.of (x0 : ByteArray) (w : World) {Q : Value → World → Prop} (h : F24.vc x0 w Q) : Calls Tryd.prog 24 #[Value.string x0] w (fun e w' => ∃ v, e = .returned v ∧ Q v w') := vcFn_sound noCount mixed ((F24.eq x0 w Q).symm ▸ h)
/-! ### function 25: stillage/sha.Sum -/
def F25.vc (x0A : Option Addr) (x0n x0c : Nat) (w : World) (Q : Value → World → Prop) : Prop :=
  nw w Z23 23 fun b1 w2 =>
  Calls Tryd.prog 39 #[] w2 fun e4 w3 =>
  ∃ p5 : Option Addr, e4 = .returned (Value.pointer p5) ∧ (
    Calls Tryd.prog 40 #[Value.pointer p5, Value.slice x0A x0n x0c] w3 fun e7 w6 =>
    e7 = .returned (Value.tuple #[]) ∧ (
      Calls Tryd.prog 41 #[Value.pointer p5] w6 fun e9 w8 =>
      ∃ a10 : List Value, e9 = .returned (ofL a10) ∧ (
        gd (a10.length == 32) <|
        st w8 b1 0 a10 fun w11 =>
        ldA 32 w11 b1 0 fun a12 =>
        Q (ofL a12) w11)))
def F25.an : Ann := ⟨[], []⟩
theorem F25.eq (x0A : Option Addr) (x0n x0c : Nat) (w : World) (Q : Value → World → Prop) : vcFn Tryd.prog F25.an 25 [Value.slice x0A x0n x0c] w Q = F25.vc x0A x0n x0c w Q := by kernel_rfl
theorem F25.of (x0A : Option Addr) (x0n x0c : Nat) (w : World) {Q : Value → World → Prop} (h : F25.vc x0A x0n x0c w Q) : Calls Tryd.prog 25 #[Value.slice x0A x0n x0c] w (fun e w' => ∃ v, e = .returned v ∧ Q v w') := vcFn_sound noCount mixed ((F25.eq x0A x0n x0c w Q).symm ▸ h)
/-! ### function 26: stillage/stillageref04.Constants -/
def F26.vc  (w : World) (Q : Value → World → Prop) : Prop :=
  nw w ([Value.int .u32 1116352408] ++ ([Value.int .u32 1899447441] ++ ([Value.int .u32 3049323471] ++ ([Value.int .u32 3921009573] ++ ([Value.int .u32 961987163] ++ ([Value.int .u32 1508970993] ++ ([Value.int .u32 2453635748] ++ ([Value.int .u32 2870763221] ++ ([Value.int .u32 3624381080] ++ ([Value.int .u32 310598401] ++ ([Value.int .u32 607225278] ++ ([Value.int .u32 1426881987] ++ ([Value.int .u32 1925078388] ++ ([Value.int .u32 2162078206] ++ ([Value.int .u32 2614888103] ++ ([Value.int .u32 3248222580] ++ ([Value.int .u32 3835390401] ++ ([Value.int .u32 4022224774] ++ ([Value.int .u32 264347078] ++ ([Value.int .u32 604807628] ++ ([Value.int .u32 770255983] ++ ([Value.int .u32 1249150122] ++ ([Value.int .u32 1555081692] ++ ([Value.int .u32 1996064986] ++ ([Value.int .u32 2554220882] ++ ([Value.int .u32 2821834349] ++ ([Value.int .u32 2952996808] ++ ([Value.int .u32 3210313671] ++ ([Value.int .u32 3336571891] ++ ([Value.int .u32 3584528711] ++ ([Value.int .u32 113926993] ++ ([Value.int .u32 338241895] ++ ([Value.int .u32 666307205] ++ ([Value.int .u32 773529912] ++ ([Value.int .u32 1294757372] ++ ([Value.int .u32 1396182291] ++ ([Value.int .u32 1695183700] ++ ([Value.int .u32 1986661051] ++ ([Value.int .u32 2177026350] ++ ([Value.int .u32 2456956037] ++ ([Value.int .u32 2730485921] ++ ([Value.int .u32 2820302411] ++ ([Value.int .u32 3259730800] ++ ([Value.int .u32 3345764771] ++ ([Value.int .u32 3516065817] ++ ([Value.int .u32 3600352804] ++ ([Value.int .u32 4094571909] ++ ([Value.int .u32 275423344] ++ ([Value.int .u32 430227734] ++ ([Value.int .u32 506948616] ++ ([Value.int .u32 659060556] ++ ([Value.int .u32 883997877] ++ ([Value.int .u32 958139571] ++ ([Value.int .u32 1322822218] ++ ([Value.int .u32 1537002063] ++ ([Value.int .u32 1747873779] ++ ([Value.int .u32 1955562222] ++ ([Value.int .u32 2024104815] ++ ([Value.int .u32 2227730452] ++ ([Value.int .u32 2361852424] ++ ([Value.int .u32 2428436474] ++ ([Value.int .u32 2756734187] ++ ([Value.int .u32 3204031479] ++ ([Value.int .u32 3329325298] ++ [])))))))))))))))))))))))))))))))))))))))))))))))))))))))))))))))) 66 fun b1 w2 =>
  nw w2 ([Value.int .u32 1779033703] ++ ([Value.int .u32 3144134277] ++ ([Value.int .u32 1013904242] ++ ([Value.int .u32 2773480762] ++ ([Value.int .u32 1359893119] ++ ([Value.int .u32 2600822924] ++ ([Value.int .u32 528734635] ++ ([Value.int .u32 1541459225] ++ [])))))))) 66 fun b3 w4 =>
  Q (Value.tuple #[Value.slice (some ⟨b1, 0, none⟩) 64 64, Value.slice (some ⟨b3, 0, none⟩) 8 8]) w4
def F26.an : Ann := ⟨[], []⟩
theorem F26.eq  (w : World) (Q : Value → World → Prop) : vcFn Tryd.prog F26.an 26 [] w Q = F26.vc  w Q := by kernel_rfl
theorem F26.of  (w : World) {Q : Value → World → Prop} (h : F26.vc  w Q) : Calls Tryd.prog 26 #[] w (fun e w' => ∃ v, e = .returned v ∧ Q v w') := vcFn_sound noCount mixed ((F26.eq  w Q).symm ▸ h)
/-! ### function 27: stillage/stillageref04.blocks -/
def F27.b31c (Q : Value → World → Prop) (C3 : ((Option Addr × Nat × Nat) × (Option Addr × Nat × Nat) × (Nat × Nat) × (Option Addr × Nat × Nat) × Int × Unit) → World → Prop) (C31 : ((Option Addr × Nat × Nat) × (Option Addr × Nat × Nat) × (Nat × Nat) × (Option Addr × Nat × Nat) × Int × (Option Addr × Nat × Nat) × Int × Unit) → World → Prop) (x1 : (Option Addr × Nat × Nat)) (x2 : (Option Addr × Nat × Nat)) (x6 : (Nat × Nat)) (x7 : (Option Addr × Nat × Nat)) (x8 : Int) (x15 : (Option Addr × Nat × Nat)) (x23 : Int) (w : World) : Prop :=
  vIf (decide (x23 < 8))
  (dr x2.1 fun b159 o160 =>
    gd (decide (0 ≤ x23)) <|
    gd (decide (x23 < ((x2.2.1 : Nat) : Int))) <|
    ldI .u32 w.drew b159 (o160 + (x23).toNat * 1) fun i161 =>
    dr x15.1 fun b162 o163 =>
    gd (decide (0 ≤ x23)) <|
    gd (decide (x23 < ((x15.2.1 : Nat) : Int))) <|
    ldI .u32 w.drew b162 (o163 + (x23).toNat * 1) fun i164 =>
    dr x2.1 fun b165 o166 =>
    gd (decide (0 ≤ x23)) <|
    gd (decide (x23 < ((x2.2.1 : Nat) : Int))) <|
    st w.drew b165 (o166 + (x23).toNat * 1) [Value.int .u32 (IntKind.wrap .u32 (i161 + i164))] fun w167 =>
    jnC C31 ((x1.1, x1.2.1, x1.2.2), (x2.1, x2.2.1, x2.2.2), (x6.1, x6.2), (x7.1, x7.2.1, x7.2.2), (x8), (x15.1, x15.2.1, x15.2.2), ((IntKind.wrap .i64 (x23 + 1))), ()) w167)
  (jnC C3 ((x1.1, x1.2.1, x1.2.2), (x2.1, x2.2.1, x2.2.2), (x6.1, x6.2), (x7.1, x7.2.1, x7.2.2), ((IntKind.wrap .i64 (x8 + 64))), ()) w)
def F27.b31 (Q : Value → World → Prop) (C3 : ((Option Addr × Nat × Nat) × (Option Addr × Nat × Nat) × (Nat × Nat) × (Option Addr × Nat × Nat) × Int × Unit) → World → Prop) : ((Option Addr × Nat × Nat) × (Option Addr × Nat × Nat) × (Nat × Nat) × (Option Addr × Nat × Nat) × Int × (Option Addr × Nat × Nat) × Int × Unit) → World → (((Option Addr × Nat × Nat) × (Option Addr × Nat × Nat) × (Nat × Nat) × (Option Addr × Nat × Nat) × Int × (Option Addr × Nat × Nat) × Int × Unit) → World → Prop) → Prop := fun s w C31 => ∀ _ : Nat → Value, F27.b31c Q C3 C31 s.1 s.2.1 s.2.2.1 s.2.2.2.1 s.2.2.2.2.1 s.2.2.2.2.2.1 s.2.2.2.2.2.2.1 w
def F27.l31 (Q : Value → World → Prop) (C3 : ((Option Addr × Nat × Nat) × (Option Addr × Nat × Nat) × (Nat × Nat) × (Option Addr × Nat × Nat) × Int × Unit) → World → Prop) : ((Option Addr × Nat × Nat) × (Option Addr × Nat × Nat) × (Nat × Nat) × (Option Addr × Nat × Nat) × Int × (Option Addr × Nat × Nat) × Int × Unit) → World → Prop := fun s w => ∃ n, loopC (F27.b31 Q C3) n s w
def F27.b19c (Q : Value → World → Prop) (C3 : ((Option Addr × Nat × Nat) × (Option Addr × Nat × Nat) × (Nat × Nat) × (Option Addr × Nat × Nat) × Int × Unit) → World → Prop) (C19 : ((Option Addr × Nat × Nat) × (Option Addr × Nat × Nat) × (Nat × Nat) × (Option Addr × Nat × Nat) × Int × (Option Addr × Nat × Nat) × (Option Addr × Nat × Nat) × Int × Unit) → World → Prop) (x1 : (Option Addr × Nat × Nat)) (x2 : (Option Addr × Nat × Nat)) (x6 : (Nat × Nat)) (x7 : (Option Addr × Nat × Nat)) (x8 : Int) (x9 : (Option Addr × Nat × Nat)) (x15 : (Option Addr × Nat × Nat)) (x16 : Int) (w : World) : Prop :=
  vIf (decide (x16 < 64))
  (dr x15.1 fun b72 o73 =>
    gd (decide ((4 : Int) < ((x15.2.1 : Nat) : Int))) <|
    ldI .u32 w.drew b72 (o73 + 4) fun i74 =>
    dr x15.1 fun b75 o76 =>
    gd (decide ((4 : Int) < ((x15.2.1 : Nat) : Int))) <|
    ldI .u32 w.drew b75 (o76 + 4) fun i77 =>
    dr x15.1 fun b78 o79 =>
    gd (decide ((4 : Int) < ((x15.2.1 : Nat) : Int))) <|
    ldI .u32 w.drew b78 (o79 + 4) fun i80 =>
    Calls Tryd.prog 43 #[Value.int .u32 i74, Value.int .u64 6] w.drew fun e82 w81 =>
    ∃ i83 : Int, e82 = .returned (Value.int .u32 i83) ∧ (
      kp w.drew b78 (o79 + 4) 1 w81 <|
      kp w.drew b75 (o76 + 4) 1 w81 <|
      Calls Tryd.prog 43 #[Value.int .u32 i77, Value.int .u64 11] w81 fun e85 w84 =>
      ∃ i86 : Int, e85 = .returned (Value.int .u32 i86) ∧ (
        kp w.drew b78 (o79 + 4) 1 w84 <|
        Calls Tryd.prog 43 #[Value.int .u32 i80, Value.int .u64 25] w84 fun e88 w87 =>
        ∃ i89 : Int, e88 = .returned (Value.int .u32 i89) ∧ (
          dr x15.1 fun b90 o91 =>
          gd (decide ((4 : Int) < ((x15.2.1 : Nat) : Int))) <|
          ldI .u32 w87.drew b90 (o91 + 4) fun i92 =>
          dr x15.1 fun b93 o94 =>
          gd (decide ((5 : Int) < ((x15.2.1 : Nat) : Int))) <|
          ldI .u32 w87.drew b93 (o94 + 5) fun i95 =>
          dr x15.1 fun b96 o97 =>
          gd (decide ((4 : Int) < ((x15.2.1 : Nat) : Int))) <|
          ldI .u32 w87.drew b96 (o97 + 4) fun i98 =>
          dr x15.1 fun b99 o100 =>
          gd (decide ((6 : Int) < ((x15.2.1 : Nat) : Int))) <|
          ldI .u32 w87.drew b99 (o100 + 6) fun i101 =>
          dr x15.1 fun b102 o103 =>
          gd (decide ((7 : Int) < ((x15.2.1 : Nat) : Int))) <|
          ldI .u32 w87.drew.drew b102 (o103 + 7) fun i104 =>
          dr x1.1 fun b105 o106 =>
          gd (decide (0 ≤ x16)) <|
          gd (decide (x16 < ((x1.2.1 : Nat) : Int))) <|
          ldI .u32 w87.drew.drew b105 (o106 + (x16).toNat * 1) fun i107 =>
          dr x9.1 fun b108 o109 =>
          gd (decide (0 ≤ x16)) <|
          gd (decide (x16 < ((x9.2.1 : Nat) : Int))) <|
          ldI .u32 w87.drew.drew b108 (o109 + (x16).toNat * 1) fun i110 =>
          dr x15.1 fun b111 o112 =>
          gd (decide ((0 : Int) < ((x15.2.1 : Nat) : Int))) <|
          ldI .u32 w87.drew.drew.drew b111 o112 fun i113 =>
          dr x15.1 fun b114 o115 =>
          gd (decide ((0 : Int) < ((x15.2.1 : Nat) : Int))) <|
          ldI .u32 w87.drew.drew.drew b114 o115 fun i116 =>
          dr x15.1 fun b117 o118 =>
          gd (decide ((0 : Int) < ((x15.2.1 : Nat) : Int))) <|
          ldI .u32 w87.drew.drew.drew b117 o118 fun i119 =>
          Calls Tryd.prog 43 #[Value.int .u32 i113, Value.int .u64 2] w87.drew.drew.drew fun e121 w120 =>
          ∃ i122 : Int, e121 = .returned (Value.int .u32 i122) ∧ (
            kp w87.drew.drew.drew b117 o118 1 w120 <|
            kp w87.drew.drew.drew b114 o115 1 w120 <|
            Calls Tryd.prog 43 #[Value.int .u32 i116, Value.int .u64 13] w120 fun e124 w123 =>
            ∃ i125 : Int, e124 = .returned (Value.int .u32 i125) ∧ (
              kp w87.drew.drew.drew b117 o118 1 w123 <|
              Calls Tryd.prog 43 #[Value.int .u32 i119, Value.int .u64 22] w123 fun e127 w126 =>
              ∃ i128 : Int, e127 = .returned (Value.int .u32 i128) ∧ (
                dr x15.1 fun b129 o130 =>
                gd (decide ((0 : Int) < ((x15.2.1 : Nat) : Int))) <|
                ldI .u32 w126.drew b129 o130 fun i131 =>
                dr x15.1 fun b132 o133 =>
                gd (decide ((1 : Int) < ((x15.2.1 : Nat) : Int))) <|
                ldI .u32 w126.drew b132 (o133 + 1) fun i134 =>
                dr x15.1 fun b135 o136 =>
                gd (decide ((0 : Int) < ((x15.2.1 : Nat) : Int))) <|
                ldI .u32 w126.drew b135 o136 fun i137 =>
                dr x15.1 fun b138 o139 =>
                gd (decide ((2 : Int) < ((x15.2.1 : Nat) : Int))) <|
                ldI .u32 w126.drew b138 (o139 + 2) fun i140 =>
                dr x15.1 fun b141 o142 =>
                gd (decide ((1 : Int) < ((x15.2.1 : Nat) : Int))) <|
                ldI .u32 w126.drew b141 (o142 + 1) fun i143 =>
                dr x15.1 fun b144 o145 =>
                gd (decide ((2 : Int) < ((x15.2.1 : Nat) : Int))) <|
                ldI .u32 w126.drew b144 (o145 + 2) fun i146 =>
                nw w126.drew ([Value.int .u32 (IntKind.wrap .u32 ((IntKind.wrap .u32 ((IntKind.wrap .u32 ((IntKind.wrap .u32 ((IntKind.wrap .u32 ((IntKind.wrap .u32 (i104 + (iXor .u32 (iXor .u32 i83 i86) i89))) + (iXor .u32 (iAnd .u32 i92 i95) (iAnd .u32 (iXor .u32 4294967295 i98) i101)))) + i107)) + i110)) + (iXor .u32 (iXor .u32 i122 i125) i128))) + (iXor .u32 (iXor .u32 (iAnd .u32 i131 i134) (iAnd .u32 i137 i140)) (iAnd .u32 i143 i146))))] ++ []) 66 fun b147 w148 =>
                gd (decide ((7 : Int) ≤ ((x15.2.2 : Nat) : Int))) <|
                app w148 1 4 [Value.int .u32 0] 66 (some ⟨b147, 0, none⟩) 1 1 (Value.slice (slA x15.1 x15.2.2 0 1) 7 x15.2.2) fun A149 n150 c151 w152 =>
                dr A149 fun b153 o154 =>
                gd (decide ((4 : Int) < ((n150 : Nat) : Int))) <|
                ldI .u32 w152 b153 (o154 + 4) fun i155 =>
                dr A149 fun b156 o157 =>
                gd (decide ((4 : Int) < ((n150 : Nat) : Int))) <|
                st w152 b156 (o157 + 4) [Value.int .u32 (IntKind.wrap .u32 (i155 + (IntKind.wrap .u32 ((IntKind.wrap .u32 ((IntKind.wrap .u32 ((IntKind.wrap .u32 (i104 + (iXor .u32 (iXor .u32 i83 i86) i89))) + (iXor .u32 (iAnd .u32 i92 i95) (iAnd .u32 (iXor .u32 4294967295 i98) i101)))) + i107)) + i110))))] fun w158 =>
                jnC C19 ((x1.1, x1.2.1, x1.2.2), (x2.1, x2.2.1, x2.2.2), (x6.1, x6.2), (x7.1, x7.2.1, x7.2.2), (x8), (x9.1, x9.2.1, x9.2.2), (A149, n150, c151), ((IntKind.wrap .i64 (x16 + 1))), ()) w158)))))))
  (jnC (F27.l31 Q C3) ((x1.1, x1.2.1, x1.2.2), (x2.1, x2.2.1, x2.2.2), (x6.1, x6.2), (x7.1, x7.2.1, x7.2.2), (x8), (x15.1, x15.2.1, x15.2.2), (0), ()) w)
def F27.b19 (Q : Value → World → Prop) (C3 : ((Option Addr × Nat × Nat) × (Option Addr × Nat × Nat) × (Nat × Nat) × (Option Addr × Nat × Nat) × Int × Unit) → World → Prop) : ((Option Addr × Nat × Nat) × (Option Addr × Nat × Nat) × (Nat × Nat) × (Option Addr × Nat × Nat) × Int × (Option Addr × Nat × Nat) × (Option Addr × Nat × Nat) × Int × Unit) → World → (((Option Addr × Nat × Nat) × (Option Addr × Nat × Nat) × (Nat × Nat) × (Option Addr × Nat × Nat) × Int × (Option Addr × Nat × Nat) × (Option Addr × Nat × Nat) × Int × Unit) → World → Prop) → Prop := fun s w C19 => ∀ _ : Nat → Value, F27.b19c Q C3 C19 s.1 s.2.1 s.2.2.1 s.2.2.2.1 s.2.2.2.2.1 s.2.2.2.2.2.1 s.2.2.2.2.2.2.1 s.2.2.2.2.2.2.2.1 w
def F27.l19 (Q : Value → World → Prop) (C3 : ((Option Addr × Nat × Nat) × (Option Addr × Nat × Nat) × (Nat × Nat) × (Option Addr × Nat × Nat) × Int × Unit) → World → Prop) : ((Option Addr × Nat × Nat) × (Option Addr × Nat × Nat) × (Nat × Nat) × (Option Addr × Nat × Nat) × Int × (Option Addr × Nat × Nat) × (Option Addr × Nat × Nat) × Int × Unit) → World → Prop := fun s w => ∃ n, loopC (F27.b19 Q C3) n s w
def F27.b12c (Q : Value → World → Prop) (C3 : ((Option Addr × Nat × Nat) × (Option Addr × Nat × Nat) × (Nat × Nat) × (Option Addr × Nat × Nat) × Int × Unit) → World → Prop) (C12 : ((Option Addr × Nat × Nat) × (Option Addr × Nat × Nat) × (Nat × Nat) × (Option Addr × Nat × Nat) × Int × (Option Addr × Nat × Nat) × Int × Unit) → World → Prop) (x1 : (Option Addr × Nat × Nat)) (x2 : (Option Addr × Nat × Nat)) (x6 : (Nat × Nat)) (x7 : (Option Addr × Nat × Nat)) (x8 : Int) (x9 : (Option Addr × Nat × Nat)) (x12 : Int) (w : World) : Prop :=
  vIf (decide (x12 < 64))
  (dr x9.1 fun b26 o27 =>
    gd (decide (0 ≤ (IntKind.wrap .i64 (x12 - 15)))) <|
    gd (decide ((IntKind.wrap .i64 (x12 - 15)) < ((x9.2.1 : Nat) : Int))) <|
    ldI .u32 w.drew b26 (o27 + ((IntKind.wrap .i64 (x12 - 15))).toNat * 1) fun i28 =>
    dr x9.1 fun b29 o30 =>
    gd (decide (0 ≤ (IntKind.wrap .i64 (x12 - 15)))) <|
    gd (decide ((IntKind.wrap .i64 (x12 - 15)) < ((x9.2.1 : Nat) : Int))) <|
    ldI .u32 w.drew b29 (o30 + ((IntKind.wrap .i64 (x12 - 15))).toNat * 1) fun i31 =>
    dr x9.1 fun b32 o33 =>
    gd (decide (0 ≤ (IntKind.wrap .i64 (x12 - 15)))) <|
    gd (decide ((IntKind.wrap .i64 (x12 - 15)) < ((x9.2.1 : Nat) : Int))) <|
    ldI .u32 w.drew b32 (o33 + ((IntKind.wrap .i64 (x12 - 15))).toNat * 1) fun i34 =>
    Calls Tryd.prog 43 #[Value.int .u32 i28, Value.int .u64 7] w.drew fun e36 w35 =>
    ∃ i37 : Int, e36 = .returned (Value.int .u32 i37) ∧ (
      kp w.drew b32 (o33 + ((IntKind.wrap .i64 (x12 - 15))).toNat * 1) 1 w35 <|
      kp w.drew b29 (o30 + ((IntKind.wrap .i64 (x12 - 15))).toNat * 1) 1 w35 <|
      Calls Tryd.prog 43 #[Value.int .u32 i31, Value.int .u64 18] w35 fun e39 w38 =>
      ∃ i40 : Int, e39 = .returned (Value.int .u32 i40) ∧ (
        kp w.drew b32 (o33 + ((IntKind.wrap .i64 (x12 - 15))).toNat * 1) 1 w38 <|
        dr x9.1 fun b41 o42 =>
        gd (decide (0 ≤ (IntKind.wrap .i64 (x12 - 2)))) <|
        gd (decide ((IntKind.wrap .i64 (x12 - 2)) < ((x9.2.1 : Nat) : Int))) <|
        ldI .u32 w38.drew b41 (o42 + ((IntKind.wrap .i64 (x12 - 2))).toNat * 1) fun i43 =>
        dr x9.1 fun b44 o45 =>
        gd (decide (0 ≤ (IntKind.wrap .i64 (x12 - 2)))) <|
        gd (decide ((IntKind.wrap .i64 (x12 - 2)) < ((x9.2.1 : Nat) : Int))) <|
        ldI .u32 w38.drew b44 (o45 + ((IntKind.wrap .i64 (x12 - 2))).toNat * 1) fun i46 =>
        dr x9.1 fun b47 o48 =>
        gd (decide (0 ≤ (IntKind.wrap .i64 (x12 - 2)))) <|
        gd (decide ((IntKind.wrap .i64 (x12 - 2)) < ((x9.2.1 : Nat) : Int))) <|
        ldI .u32 w38.drew b47 (o48 + ((IntKind.wrap .i64 (x12 - 2))).toNat * 1) fun i49 =>
        Calls Tryd.prog 43 #[Value.int .u32 i43, Value.int .u64 17] w38.drew fun e51 w50 =>
        ∃ i52 : Int, e51 = .returned (Value.int .u32 i52) ∧ (
          kp w38.drew b47 (o48 + ((IntKind.wrap .i64 (x12 - 2))).toNat * 1) 1 w50 <|
          kp w38.drew b44 (o45 + ((IntKind.wrap .i64 (x12 - 2))).toNat * 1) 1 w50 <|
          Calls Tryd.prog 43 #[Value.int .u32 i46, Value.int .u64 19] w50 fun e54 w53 =>
          ∃ i55 : Int, e54 = .returned (Value.int .u32 i55) ∧ (
            kp w38.drew b47 (o48 + ((IntKind.wrap .i64 (x12 - 2))).toNat * 1) 1 w53 <|
            dr x9.1 fun b56 o57 =>
            gd (decide (0 ≤ (IntKind.wrap .i64 (x12 - 16)))) <|
            gd (decide ((IntKind.wrap .i64 (x12 - 16)) < ((x9.2.1 : Nat) : Int))) <|
            ldI .u32 w53.drew b56 (o57 + ((IntKind.wrap .i64 (x12 - 16))).toNat * 1) fun i58 =>
            dr x9.1 fun b59 o60 =>
            gd (decide (0 ≤ (IntKind.wrap .i64 (x12 - 7)))) <|
            gd (decide ((IntKind.wrap .i64 (x12 - 7)) < ((x9.2.1 : Nat) : Int))) <|
            ldI .u32 w53.drew b59 (o60 + ((IntKind.wrap .i64 (x12 - 7))).toNat * 1) fun i61 =>
            nw w53.drew ([Value.int .u32 (IntKind.wrap .u32 ((IntKind.wrap .u32 ((IntKind.wrap .u32 (i58 + (iXor .u32 (iXor .u32 i37 i40) (Int.fdiv i34 (2 ^ 3))))) + i61)) + (iXor .u32 (iXor .u32 i52 i55) (Int.fdiv i49 (2 ^ 10)))))] ++ []) 66 fun b62 w63 =>
            app w63 1 4 [Value.int .u32 0] 66 x9.1 x9.2.1 x9.2.2 (Value.slice (some ⟨b62, 0, none⟩) 1 1) fun A64 n65 c66 w67 =>
            jnC C12 ((x1.1, x1.2.1, x1.2.2), (x2.1, x2.2.1, x2.2.2), (x6.1, x6.2), (x7.1, x7.2.1, x7.2.2), (x8), (A64, n65, c66), ((IntKind.wrap .i64 (x12 + 1))), ()) w67)))))
  (app w 1 4 [Value.int .u32 0] 66 none 0 0 (Value.slice x2.1 x2.2.1 x2.2.2) fun A68 n69 c70 w71 =>
    jnC (F27.l19 Q C3) ((x1.1, x1.2.1, x1.2.2), (x2.1, x2.2.1, x2.2.2), (x6.1, x6.2), (x7.1, x7.2.1, x7.2.2), (x8), (x9.1, x9.2.1, x9.2.2), (A68, n69, c70), (0), ()) w71)
def F27.b12 (Q : Value → World → Prop) (C3 : ((Option Addr × Nat × Nat) × (Option Addr × Nat × Nat) × (Nat × Nat) × (Option Addr × Nat × Nat) × Int × Unit) → World → Prop) : ((Option Addr × Nat × Nat) × (Option Addr × Nat × Nat) × (Nat × Nat) × (Option Addr × Nat × Nat) × Int × (Option Addr × Nat × Nat) × Int × Unit) → World → (((Option Addr × Nat × Nat) × (Option Addr × Nat × Nat) × (Nat × Nat) × (Option Addr × Nat × Nat) × Int × (Option Addr × Nat × Nat) × Int × Unit) → World → Prop) → Prop := fun s w C12 => ∀ _ : Nat → Value, F27.b12c Q C3 C12 s.1 s.2.1 s.2.2.1 s.2.2.2.1 s.2.2.2.2.1 s.2.2.2.2.2.1 s.2.2.2.2.2.2.1 w
def F27.l12 (Q : Value → World → Prop) (C3 : ((Option Addr × Nat × Nat) × (Option Addr × Nat × Nat) × (Nat × Nat) × (Option Addr × Nat × Nat) × Int × Unit) → World → Prop) : ((Option Addr × Nat × Nat) × (Option Addr × Nat × Nat) × (Nat × Nat) × (Option Addr × Nat × Nat) × Int × (Option Addr × Nat × Nat) × Int × Unit) → World → Prop := fun s w => ∃ n, loopC (F27.b12 Q C3) n s w
def F27.b7c (Q : Value → World → Prop) (C3 : ((Option Addr × Nat × Nat) × (Option Addr × Nat × Nat) × (Nat × Nat) × (Option Addr × Nat × Nat) × Int × Unit) → World → Prop) (C7 : ((Option Addr × Nat × Nat) × (Option Addr × Nat × Nat) × (Nat × Nat) × (Option Addr × Nat × Nat) × Int × (Option Addr × Nat × Nat) × Int × Unit) → World → Prop) (x1 : (Option Addr × Nat × Nat)) (x2 : (Option Addr × Nat × Nat)) (x6 : (Nat × Nat)) (x7 : (Option Addr × Nat × Nat)) (x8 : Int) (x9 : (Option Addr × Nat × Nat)) (x10 : Int) (w : World) : Prop :=
  vIf (decide (x10 < 16))
  (dr x7.1 fun b8 o9 =>
    gd (decide (0 ≤ (IntKind.wrap .i64 (x8 + (IntKind.wrap .i64 (4 * x10)))))) <|
    gd (decide ((IntKind.wrap .i64 (x8 + (IntKind.wrap .i64 (4 * x10)))) < ((x7.2.1 : Nat) : Int))) <|
    ldI .u8 w.drew b8 (o9 + ((IntKind.wrap .i64 (x8 + (IntKind.wrap .i64 (4 * x10))))).toNat * 1) fun i10 =>
    dr x7.1 fun b11 o12 =>
    gd (decide (0 ≤ (IntKind.wrap .i64 ((IntKind.wrap .i64 (x8 + (IntKind.wrap .i64 (4 * x10)))) + 1)))) <|
    gd (decide ((IntKind.wrap .i64 ((IntKind.wrap .i64 (x8 + (IntKind.wrap .i64 (4 * x10)))) + 1)) < ((x7.2.1 : Nat) : Int))) <|
    ldI .u8 w.drew b11 (o12 + ((IntKind.wrap .i64 ((IntKind.wrap .i64 (x8 + (IntKind.wrap .i64 (4 * x10)))) + 1))).toNat * 1) fun i13 =>
    dr x7.1 fun b14 o15 =>
    gd (decide (0 ≤ (IntKind.wrap .i64 ((IntKind.wrap .i64 (x8 + (IntKind.wrap .i64 (4 * x10)))) + 2)))) <|
    gd (decide ((IntKind.wrap .i64 ((IntKind.wrap .i64 (x8 + (IntKind.wrap .i64 (4 * x10)))) + 2)) < ((x7.2.1 : Nat) : Int))) <|
    ldI .u8 w.drew b14 (o15 + ((IntKind.wrap .i64 ((IntKind.wrap .i64 (x8 + (IntKind.wrap .i64 (4 * x10)))) + 2))).toNat * 1) fun i16 =>
    dr x7.1 fun b17 o18 =>
    gd (decide (0 ≤ (IntKind.wrap .i64 ((IntKind.wrap .i64 (x8 + (IntKind.wrap .i64 (4 * x10)))) + 3)))) <|
    gd (decide ((IntKind.wrap .i64 ((IntKind.wrap .i64 (x8 + (IntKind.wrap .i64 (4 * x10)))) + 3)) < ((x7.2.1 : Nat) : Int))) <|
    ldI .u8 w.drew b17 (o18 + ((IntKind.wrap .i64 ((IntKind.wrap .i64 (x8 + (IntKind.wrap .i64 (4 * x10)))) + 3))).toNat * 1) fun i19 =>
    nw w.drew ([Value.int .u32 (IntKind.wrap .u32 ((IntKind.wrap .u32 ((IntKind.wrap .u32 ((IntKind.wrap .u32 ((IntKind.wrap .u32 i10) * 16777216)) + (IntKind.wrap .u32 ((IntKind.wrap .u32 i13) * 65536)))) + (IntKind.wrap .u32 ((IntKind.wrap .u32 i16) * 256)))) + (IntKind.wrap .u32 i19)))] ++ []) 66 fun b20 w21 =>
    app w21 1 4 [Value.int .u32 0] 66 x9.1 x9.2.1 x9.2.2 (Value.slice (some ⟨b20, 0, none⟩) 1 1) fun A22 n23 c24 w25 =>
    jnC C7 ((x1.1, x1.2.1, x1.2.2), (x2.1, x2.2.1, x2.2.2), (x6.1, x6.2), (x7.1, x7.2.1, x7.2.2), (x8), (A22, n23, c24), ((IntKind.wrap .i64 (x10 + 1))), ()) w25)
  (jnC (F27.l12 Q C3) ((x1.1, x1.2.1, x1.2.2), (x2.1, x2.2.1, x2.2.2), (x6.1, x6.2), (x7.1, x7.2.1, x7.2.2), (x8), (x9.1, x9.2.1, x9.2.2), (16), ()) w)
def F27.b7 (Q : Value → World → Prop) (C3 : ((Option Addr × Nat × Nat) × (Option Addr × Nat × Nat) × (Nat × Nat) × (Option Addr × Nat × Nat) × Int × Unit) → World → Prop) : ((Option Addr × Nat × Nat) × (Option Addr × Nat × Nat) × (Nat × Nat) × (Option Addr × Nat × Nat) × Int × (Option Addr × Nat × Nat) × Int × Unit) → World → (((Option Addr × Nat × Nat) × (Option Addr × Nat × Nat) × (Nat × Nat) × (Option Addr × Nat × Nat) × Int × (Option Addr × Nat × Nat) × Int × Unit) → World → Prop) → Prop := fun s w C7 => ∀ _ : Nat → Value, F27.b7c Q C3 C7 s.1 s.2.1 s.2.2.1 s.2.2.2.1 s.2.2.2.2.1 s.2.2.2.2.2.1 s.2.2.2.2.2.2.1 w
def F27.l7 (Q : Value → World → Prop) (C3 : ((Option Addr × Nat × Nat) × (Option Addr × Nat × Nat) × (Nat × Nat) × (Option Addr × Nat × Nat) × Int × Unit) → World → Prop) : ((Option Addr × Nat × Nat) × (Option Addr × Nat × Nat) × (Nat × Nat) × (Option Addr × Nat × Nat) × Int × (Option Addr × Nat × Nat) × Int × Unit) → World → Prop := fun s w => ∃ n, loopC (F27.b7 Q C3) n s w
def F27.b36c (Q : Value → World → Prop) (C36 : ((Option Addr × Nat × Nat) × (Nat × Nat) × (Nat × Nat) × Int × Unit) → World → Prop) (x2 : (Option Addr × Nat × Nat)) (x6 : (Nat × Nat)) (x24 : (Nat × Nat)) (x25 : Int) (w : World) : Prop :=
  vIf (decide (x25 < 32))
  (dr x2.1 fun b170 o171 =>
    gd (decide (0 ≤ (IntKind.wrap .i64 (Int.tdiv x25 4)))) <|
    gd (decide ((IntKind.wrap .i64 (Int.tdiv x25 4)) < ((x2.2.1 : Nat) : Int))) <|
    ldI .u32 w b170 (o171 + ((IntKind.wrap .i64 (Int.tdiv x25 4))).toNat * 1) fun i172 =>
    gd (decide (0 ≤ (IntKind.wrap .u64 (IntKind.wrap .i64 (24 - (IntKind.wrap .i64 (8 * (Int.tmod x25 4)))))))) <|
    gd (decide (0 ≤ x25)) <|
    gd (decide (x25 < 32)) <|
    st w x24.1 (x24.2 + (x25).toNat * 1) [Value.int .u8 (IntKind.wrap .u8 (Int.fdiv i172 (2 ^ (min ((IntKind.wrap .u64 (IntKind.wrap .i64 (24 - (IntKind.wrap .i64 (8 * (Int.tmod x25 4))))))).toNat 32))))] fun w173 =>
    jnC C36 ((x2.1, x2.2.1, x2.2.2), (x6.1, x6.2), (x24.1, x24.2), ((IntKind.wrap .i64 (x25 + 1))), ()) w173)
  (ldA 32 w x24.1 x24.2 fun a174 =>
    gd (a174.length == 32) <|
    st w x6.1 x6.2 a174 fun w175 =>
    ldA 32 w175 x6.1 x6.2 fun a176 =>
    Q (ofL a176) w175)
def F27.b36 (Q : Value → World → Prop) : ((Option Addr × Nat × Nat) × (Nat × Nat) × (Nat × Nat) × Int × Unit) → World → (((Option Addr × Nat × Nat) × (Nat × Nat) × (Nat × Nat) × Int × Unit) → World → Prop) → Prop := fun s w C36 => ∀ _ : Nat → Value, F27.b36c Q C36 s.1 s.2.1 s.2.2.1 s.2.2.2.1 w
def F27.l36 (Q : Value → World → Prop) : ((Option Addr × Nat × Nat) × (Nat × Nat) × (Nat × Nat) × Int × Unit) → World → Prop := fun s w => ∃ n, loopC (F27.b36 Q) n s w
def F27.b3c (Q : Value → World → Prop) (C3 : ((Option Addr × Nat × Nat) × (Option Addr × Nat × Nat) × (Nat × Nat) × (Option Addr × Nat × Nat) × Int × Unit) → World → Prop) (x1 : (Option Addr × Nat × Nat)) (x2 : (Option Addr × Nat × Nat)) (x6 : (Nat × Nat)) (x7 : (Option Addr × Nat × Nat)) (x8 : Int) (w : World) : Prop :=
  vIf (decide (x8 < ((x7.2.1 : Nat) : Int)))
  (jnC (F27.l7 Q C3) ((x1.1, x1.2.1, x1.2.2), (x2.1, x2.2.1, x2.2.2), (x6.1, x6.2), (x7.1, x7.2.1, x7.2.2), (x8), (none, 0, 0), (0), ()) w)
  (nw w Z23 23 fun b168 w169 =>
    jnC (F27.l36 Q) ((x2.1, x2.2.1, x2.2.2), (x6.1, x6.2), (b168, 0), (0), ()) w169)
def F27.b3 (Q : Value → World → Prop) : ((Option Addr × Nat × Nat) × (Option Addr × Nat × Nat) × (Nat × Nat) × (Option Addr × Nat × Nat) × Int × Unit) → World → (((Option Addr × Nat × Nat) × (Option Addr × Nat × Nat) × (Nat × Nat) × (Option Addr × Nat × Nat) × Int × Unit) → World → Prop) → Prop := fun s w C3 => ∀ _ : Nat → Value, F27.b3c Q C3 s.1 s.2.1 s.2.2.1 s.2.2.2.1 s.2.2.2.2.1 w
def F27.l3 (Q : Value → World → Prop) : ((Option Addr × Nat × Nat) × (Option Addr × Nat × Nat) × (Nat × Nat) × (Option Addr × Nat × Nat) × Int × Unit) → World → Prop := fun s w => ∃ n, loopC (F27.b3 Q) n s w
def F27.vc (x0A : Option Addr) (x0n x0c : Nat) (x1A : Option Addr) (x1n x1c : Nat) (x2A : Option Addr) (x2n x2c : Nat) (w : World) (Q : Value → World → Prop) : Prop :=
  nw w Z23 23 fun b1 w2 =>
  Calls Tryd.prog 42 #[Value.slice x0A x0n x0c] w2 fun e4 w3 =>
  ∃ (A5 : Option Addr) (n6 c7 : Nat), e4 = .returned (Value.slice A5 n6 c7) ∧ (
    jnC (F27.l3 Q) ((x1A, x1n, x1c), (x2A, x2n, x2c), (b1, 0), (A5, n6, c7), (0), ()) w3)
def F27.an : Ann := ⟨[(3, [(1, .kSl), (2, .kSl), (6, .kL), (7, .kSl), (8, .kI .i64)]), (7, [(1, .kSl), (2, .kSl), (6, .kL), (7, .kSl), (8, .kI .i64), (9, .kSl), (10, .kI .i64)]), (12, [(1, .kSl), (2, .kSl), (6, .kL), (7, .kSl), (8, .kI .i64), (9, .kSl), (12, .kI .i64)]), (19, [(1, .kSl), (2, .kSl), (6, .kL), (7, .kSl), (8, .kI .i64), (9, .kSl), (15, .kSl), (16, .kI .i64)]), (31, [(1, .kSl), (2, .kSl), (6, .kL), (7, .kSl), (8, .kI .i64), (15, .kSl), (23, .kI .i64)]), (36, [(2, .kSl), (6, .kL), (24, .kL), (25, .kI .i64)])], []⟩
theorem F27.eq (x0A : Option Addr) (x0n x0c : Nat) (x1A : Option Addr) (x1n x1c : Nat) (x2A : Option Addr) (x2n x2c : Nat) (w : World) (Q : Value → World → Prop) : vcFn Tryd.prog F27.an 27 [Value.slice x0A x0n x0c, Value.slice x1A x1n x1c, Value.slice x2A x2n x2c] w Q = F27.vc x0A x0n x0c x1A x1n x1c x2A x2n x2c w Q := by kernel_rfl
theorem F27.of (x0A : Option Addr) (x0n x0c : Nat) (x1A : Option Addr) (x1n x1c : Nat) (x2A : Option Addr) (x2n x2c : Nat) (w : World) {Q : Value → World → Prop} (h : F27.vc x0A x0n x0c x1A x1n x1c x2A x2n x2c w Q) : Calls Tryd.prog 27 #[Value.slice x0A x0n x0c, Value.slice x1A x1n x1c, Value.slice x2A x2n x2c] w (fun e w' => ∃ v, e = .returned v ∧ Q v w') := vcFn_sound noCount mixed ((F27.eq x0A x0n x0c x1A x1n x1c x2A x2n x2c w Q).symm ▸ h)
/-! ### function 28: stillage/hex.Text -/
def F28.b3c (Q : Value → World → Prop) (C3 : ((Nat × Nat) × (Option Addr × Nat × Nat) × Int × Int × Unit) → World → Prop) (x3 : (Nat × Nat)) (x6 : (Option Addr × Nat × Nat)) (x7 : Int) (x8 : Int) (w : World) : Prop :=
  vIf (decide (x8 < x7))
  (dr x6.1 fun b3 o4 =>
    gd (decide (0 ≤ x8)) <|
    gd (decide (x8 < ((x6.2.1 : Nat) : Int))) <|
    ldI .u8 w b3 (o4 + (x8).toNat * 1) fun i5 =>
    gd (decide (0 ≤ (Int.fdiv i5 (2 ^ 4)))) <|
    gd (decide ((Int.fdiv i5 (2 ^ 4)) < ((⟨#[48, 49, 50, 51, 52, 53, 54, 55, 56, 57, 97, 98, 99, 100, 101, 102]⟩ : ByteArray).size : Int))) <|
    Calls Tryd.prog 44 #[Value.pointer (some ⟨x3.1, x3.2, none⟩), Value.int .u8 (byteAt (⟨#[48, 49, 50, 51, 52, 53, 54, 55, 56, 57, 97, 98, 99, 100, 101, 102]⟩ : ByteArray) ((Int.fdiv i5 (2 ^ 4))).toNat)] w fun e7 w6 =>
    ∃ v8 : Value, e7 = .returned (v8) ∧ (
      gd (decide (0 ≤ (iAnd .u8 i5 15))) <|
      gd (decide ((iAnd .u8 i5 15) < ((⟨#[48, 49, 50, 51, 52, 53, 54, 55, 56, 57, 97, 98, 99, 100, 101, 102]⟩ : ByteArray).size : Int))) <|
      Calls Tryd.prog 44 #[Value.pointer (some ⟨x3.1, x3.2, none⟩), Value.int .u8 (byteAt (⟨#[48, 49, 50, 51, 52, 53, 54, 55, 56, 57, 97, 98, 99, 100, 101, 102]⟩ : ByteArray) ((iAnd .u8 i5 15)).toNat)] w6 fun e10 w9 =>
      ∃ v11 : Value, e10 = .returned (v11) ∧ (
        jnC C3 ((x3.1, x3.2), (x6.1, x6.2.1, x6.2.2), (x7), ((IntKind.wrap .i64 (x8 + 1))), ()) w9)))
  (Calls Tryd.prog 45 #[Value.pointer (some ⟨x3.1, x3.2, none⟩)] w fun e13 w12 =>
    ∃ s14 : ByteArray, e13 = .returned (Value.string s14) ∧ (
      Q (Value.string s14) w12))
def F28.b3 (Q : Value → World → Prop) : ((Nat × Nat) × (Option Addr × Nat × Nat) × Int × Int × Unit) → World → (((Nat × Nat) × (Option Addr × Nat × Nat) × Int × Int × Unit) → World → Prop) → Prop := fun s w C3 => ∀ _ : Nat → Value, F28.b3c Q C3 s.1 s.2.1 s.2.2.1 s.2.2.2.1 w
def F28.l3 (Q : Value → World → Prop) : ((Nat × Nat) × (Option Addr × Nat × Nat) × Int × Int × Unit) → World → Prop := fun s w => ∃ n, loopC (F28.b3 Q) n s w
def F28.vc (x0A : Option Addr) (x0n x0c : Nat) (w : World) (Q : Value → World → Prop) : Prop :=
  nw w [Value.pointer none, Value.slice none 0 0] 71 fun b1 w2 =>
  jnC (F28.l3 Q) ((b1, 0), (x0A, x0n, x0c), (((x0n : Nat) : Int)), (0), ()) w2
def F28.an : Ann := ⟨[(3, [(3, .kL), (6, .kSl), (7, .kI .i64), (8, .kI .i64)])], []⟩
theorem F28.eq (x0A : Option Addr) (x0n x0c : Nat) (w : World) (Q : Value → World → Prop) : vcFn Tryd.prog F28.an 28 [Value.slice x0A x0n x0c] w Q = F28.vc x0A x0n x0c w Q := by kernel_rfl
theorem F28.of (x0A : Option Addr) (x0n x0c : Nat) (w : World) {Q : Value → World → Prop} (h : F28.vc x0A x0n x0c w Q) : Calls Tryd.prog 28 #[Value.slice x0A x0n x0c] w (fun e w' => ∃ v, e = .returned v ∧ Q v w') := vcFn_sound noCount mixed ((F28.eq x0A x0n x0c w Q).symm ▸ h)
/-! ### function 29: stillage/stillageref03.Text -/
def F29.b3c (Q : Value → World → Prop) (C3 : ((Option Addr × Nat × Nat) × (Option Addr × Nat × Nat) × Int × Unit) → World → Prop) (x0 : (Option Addr × Nat × Nat)) (x3 : (Option Addr × Nat × Nat)) (x4 : Int) (w : World) : Prop :=
  vIf (decide (x4 < ((x0.2.1 : Nat) : Int)))
  (dr x0.1 fun b1 o2 =>
    gd (decide (0 ≤ x4)) <|
    gd (decide (x4 < ((x0.2.1 : Nat) : Int))) <|
    ldI .u8 w.drew b1 (o2 + (x4).toNat * 1) fun i3 =>
    dr x0.1 fun b4 o5 =>
    gd (decide (0 ≤ x4)) <|
    gd (decide (x4 < ((x0.2.1 : Nat) : Int))) <|
    ldI .u8 w.drew b4 (o5 + (x4).toNat * 1) fun i6 =>
    Calls Tryd.prog 46 #[Value.int .u8 (IntKind.wrap .u8 (Int.tdiv i3 16))] w.drew fun e8 w7 =>
    ∃ i9 : Int, e8 = .returned (Value.int .u8 i9) ∧ (
      kp w.drew b4 (o5 + (x4).toNat * 1) 1 w7 <|
      Calls Tryd.prog 46 #[Value.int .u8 (Int.tmod i6 16)] w7 fun e11 w10 =>
      ∃ i12 : Int, e11 = .returned (Value.int .u8 i12) ∧ (
        nw w10 ([Value.int .u8 i9] ++ ([Value.int .u8 i12] ++ [])) 5 fun b13 w14 =>
        app w14 1 1 [Value.int .u8 0] 5 x3.1 x3.2.1 x3.2.2 (Value.slice (some ⟨b13, 0, none⟩) 2 2) fun A15 n16 c17 w18 =>
        jnC C3 ((x0.1, x0.2.1, x0.2.2), (A15, n16, c17), ((IntKind.wrap .i64 (x4 + 1))), ()) w18)))
  (b2s w x3.1 x3.2.1 fun s19 =>
    Q (Value.string s19) w)
def F29.b3 (Q : Value → World → Prop) : ((Option Addr × Nat × Nat) × (Option Addr × Nat × Nat) × Int × Unit) → World → (((Option Addr × Nat × Nat) × (Option Addr × Nat × Nat) × Int × Unit) → World → Prop) → Prop := fun s w C3 => ∀ _ : Nat → Value, F29.b3c Q C3 s.1 s.2.1 s.2.2.1 w
def F29.l3 (Q : Value → World → Prop) : ((Option Addr × Nat × Nat) × (Option Addr × Nat × Nat) × Int × Unit) → World → Prop := fun s w => ∃ n, loopC (F29.b3 Q) n s w
def F29.vc (x0A : Option Addr) (x0n x0c : Nat) (w : World) (Q : Value → World → Prop) : Prop :=
  jnC (F29.l3 Q) ((x0A, x0n, x0c), (none, 0, 0), (0), ()) w
def F29.an : Ann := ⟨[(3, [(0, .kSl), (3, .kSl), (4, .kI .i64)])], []⟩
theorem F29.eq (x0A : Option Addr) (x0n x0c : Nat) (w : World) (Q : Value → World → Prop) : vcFn Tryd.prog F29.an 29 [Value.slice x0A x0n x0c] w Q = F29.vc x0A x0n x0c w Q := by kernel_rfl
theorem F29.of (x0A : Option Addr) (x0n x0c : Nat) (w : World) {Q : Value → World → Prop} (h : F29.vc x0A x0n x0c w Q) : Calls Tryd.prog 29 #[Value.slice x0A x0n x0c] w (fun e w' => ∃ v, e = .returned v ∧ Q v w') := vcFn_sound noCount mixed ((F29.eq x0A x0n x0c w Q).symm ▸ h)
/-! ### function 30: slices.Clone[[]stillage/api.Digest,stillage/api.Digest] -/
def F30.vc (x0A : Option Addr) (x0n x0c : Nat) (w : World) (Q : Value → World → Prop) : Prop :=
  vIf x0A.isNone
  (Q (Value.slice none 0 0) w)
  (nw w [] 23 fun b1 w2 =>
    app w2 32 32 Z23 23 (some ⟨b1, 0, none⟩) 0 0 (Value.slice x0A x0n x0c) fun A3 n4 c5 w6 =>
    Q (Value.slice A3 n4 c5) w6)
def F30.an : Ann := ⟨[], []⟩
theorem F30.eq (x0A : Option Addr) (x0n x0c : Nat) (w : World) (Q : Value → World → Prop) : vcFn Tryd.prog F30.an 30 [Value.slice x0A x0n x0c] w Q = F30.vc x0A x0n x0c w Q := by kernel_rfl
theorem F30.of (x0A : Option Addr) (x0n x0c : Nat) (w : World) {Q : Value → World → Prop} (h : F30.vc x0A x0n x0c w Q) : Calls Tryd.prog 30 #[Value.slice x0A x0n x0c] w (fun e w' => ∃ v, e = .returned v ∧ Q v w') := vcFn_sound noCount mixed ((F30.eq x0A x0n x0c w Q).symm ▸ h)
/-! ### function 32: slices.Compact[[]stillage/api.Digest,stillage/api.Digest] -/
def F32.k15c (Q : Value → World → Prop) (C4 : ((Option Addr × Nat × Nat) × Int × Unit) → World → Prop) (x0 : (Option Addr × Nat × Nat)) (x3 : Int) (w : World) : Prop :=
  gd (decide (0 ≤ x3)) <|
  gd (decide (x3 ≤ ((x0.2.2 : Nat) : Int))) <|
  Q (Value.slice (slA x0.1 x0.2.2 0 32) (x3).toNat x0.2.2) w
def F32.k15 (Q : Value → World → Prop) (C4 : ((Option Addr × Nat × Nat) × Int × Unit) → World → Prop) : ((Option Addr × Nat × Nat) × Int × Unit) → World → Prop := fun s w => ∀ _ : Nat → Value, F32.k15c Q C4 s.1 s.2.1 w
def F32.b9c (Q : Value → World → Prop) (C4 : ((Option Addr × Nat × Nat) × Int × Unit) → World → Prop) (C9 : ((Option Addr × Nat × Nat) × Int × (Option Addr × Nat × Nat) × Int × Unit) → World → Prop) (x0 : (Option Addr × Nat × Nat)) (x3 : Int) (x4 : (Option Addr × Nat × Nat)) (x5 : Int) (w : World) : Prop :=
  vIf (decide (x5 < ((x4.2.1 : Nat) : Int)))
  (dr x4.1 fun b8 o9 =>
    gd (decide (0 ≤ x5)) <|
    gd (decide (x5 < ((x4.2.1 : Nat) : Int))) <|
    ldA 32 w.drew b8 (o9 + (x5).toNat * 32) fun a10 =>
    dr x4.1 fun b11 o12 =>
    gd (decide (0 ≤ (IntKind.wrap .i64 (x5 - 1)))) <|
    gd (decide ((IntKind.wrap .i64 (x5 - 1)) < ((x4.2.1 : Nat) : Int))) <|
    ldA 32 w.drew b11 (o12 + ((IntKind.wrap .i64 (x5 - 1))).toNat * 32) fun a13 =>
    eqAB 32 a10 a13 fun t14 =>
    vIf (!t14)
    (dr x4.1 fun b15 o16 =>
      gd (decide (0 ≤ x5)) <|
      gd (decide (x5 < ((x4.2.1 : Nat) : Int))) <|
      ldA 32 w.drew b15 (o16 + (x5).toNat * 32) fun a17 =>
      dr x0.1 fun b18 o19 =>
      gd (decide (0 ≤ x3)) <|
      gd (decide (x3 < ((x0.2.1 : Nat) : Int))) <|
      gd (a17.length == 32) <|
      st w.drew b18 (o19 + (x3).toNat * 32) a17 fun w20 =>
      jnC C9 ((x0.1, x0.2.1, x0.2.2), ((IntKind.wrap .i64 (x3 + 1))), (x4.1, x4.2.1, x4.2.2), ((IntKind.wrap .i64 (x5 + 1))), ()) w20)
    (jnC C9 ((x0.1, x0.2.1, x0.2.2), (x3), (x4.1, x4.2.1, x4.2.2), ((IntKind.wrap .i64 (x5 + 1))), ()) w.drew))
  (gd (decide (0 ≤ x3)) <|
    gd (decide (x3 ≤ ((x0.2.1 : Nat) : Int))) <|
    vIf ((x0.2.1 - (x3).toNat) == 0)
    (jnC (F32.k15 Q C4) ((x0.1, x0.2.1, x0.2.2), (x3), ()) w)
    (dr (slA x0.1 x0.2.2 (x3).toNat 32) fun b22 o23 =>
      st w b22 o23 (zeros (x0.2.1 - (x3).toNat) Z23) fun w21 =>
      jnC (F32.k15 Q C4) ((x0.1, x0.2.1, x0.2.2), (x3), ()) w21))
def F32.b9 (Q : Value → World → Prop) (C4 : ((Option Addr × Nat × Nat) × Int × Unit) → World → Prop) : ((Option Addr × Nat × Nat) × Int × (Option Addr × Nat × Nat) × Int × Unit) → World → (((Option Addr × Nat × Nat) × Int × (Option Addr × Nat × Nat) × Int × Unit) → World → Prop) → Prop := fun s w C9 => ∀ _ : Nat → Value, F32.b9c Q C4 C9 s.1 s.2.1 s.2.2.1 s.2.2.2.1 w
def F32.l9 (Q : Value → World → Prop) (C4 : ((Option Addr × Nat × Nat) × Int × Unit) → World → Prop) : ((Option Addr × Nat × Nat) × Int × (Option Addr × Nat × Nat) × Int × Unit) → World → Prop := fun s w => ∃ n, loopC (F32.b9 Q C4) n s w
def F32.b4c (Q : Value → World → Prop) (C4 : ((Option Addr × Nat × Nat) × Int × Unit) → World → Prop) (x0 : (Option Addr × Nat × Nat)) (x3 : Int) (w : World) : Prop :=
  vIf (decide (x3 < ((x0.2.1 : Nat) : Int)))
  (dr x0.1 fun b1 o2 =>
    gd (decide (0 ≤ x3)) <|
    gd (decide (x3 < ((x0.2.1 : Nat) : Int))) <|
    ldA 32 w.drew b1 (o2 + (x3).toNat * 32) fun a3 =>
    dr x0.1 fun b4 o5 =>
    gd (decide (0 ≤ (IntKind.wrap .i64 (x3 - 1)))) <|
    gd (decide ((IntKind.wrap .i64 (x3 - 1)) < ((x0.2.1 : Nat) : Int))) <|
    ldA 32 w.drew b4 (o5 + ((IntKind.wrap .i64 (x3 - 1))).toNat * 32) fun a6 =>
    eqAB 32 a3 a6 fun t7 =>
    vIf t7
    (gd (decide (0 ≤ x3)) <|
      gd (decide (x3 ≤ ((x0.2.1 : Nat) : Int))) <|
      jnC (F32.l9 Q C4) ((x0.1, x0.2.1, x0.2.2), (x3), ((slA x0.1 x0.2.2 (x3).toNat 32), (x0.2.1 - (x3).toNat), (x0.2.2 - (x3).toNat)), (1), ()) w.drew)
    (jnC C4 ((x0.1, x0.2.1, x0.2.2), ((IntKind.wrap .i64 (x3 + 1))), ()) w.drew))
  (Q (Value.slice x0.1 x0.2.1 x0.2.2) w)
def F32.b4 (Q : Value → World → Prop) : ((Option Addr × Nat × Nat) × Int × Unit) → World → (((Option Addr × Nat × Nat) × Int × Unit) → World → Prop) → Prop := fun s w C4 => ∀ _ : Nat → Value, F32.b4c Q C4 s.1 s.2.1 w
def F32.l4 (Q : Value → World → Prop) : ((Option Addr × Nat × Nat) × Int × Unit) → World → Prop := fun s w => ∃ n, loopC (F32.b4 Q) n s w
def F32.vc (x0A : Option Addr) (x0n x0c : Nat) (w : World) (Q : Value → World → Prop) : Prop :=
  vIf (decide (((x0n : Nat) : Int) < 2))
  (Q (Value.slice x0A x0n x0c) w)
  (jnC (F32.l4 Q) ((x0A, x0n, x0c), (1), ()) w)
def F32.an : Ann := ⟨[(4, [(0, .kSl), (3, .kI .i64)]), (9, [(0, .kSl), (3, .kI .i64), (4, .kSl), (5, .kI .i64)])], [(15, [(0, .kSl), (3, .kI .i64)])]⟩
theorem F32.eq (x0A : Option Addr) (x0n x0c : Nat) (w : World) (Q : Value → World → Prop) : vcFn Tryd.prog F32.an 32 [Value.slice x0A x0n x0c] w Q = F32.vc x0A x0n x0c w Q := by kernel_rfl
theorem F32.of (x0A : Option Addr) (x0n x0c : Nat) (w : World) {Q : Value → World → Prop} (h : F32.vc x0A x0n x0c w Q) : Calls Tryd.prog 32 #[Value.slice x0A x0n x0c] w (fun e w' => ∃ v, e = .returned v ∧ Q v w') := vcFn_sound noCount mixed ((F32.eq x0A x0n x0c w Q).symm ▸ h)
/-! ### function 33: stillage/stillageref06.Put -/
def F33.k10c (Q : Value → World → Prop) (C4 : ((Option Addr × Nat × Nat) × (Nat × Nat) × (Option Addr × Nat × Nat) × Bool × Int × Unit) → World → Prop) (x0 : (Option Addr × Nat × Nat)) (x3 : (Nat × Nat)) (x5 : (Option Addr × Nat × Nat)) (x6 : Bool) (x7 : Int) (w : World) : Prop :=
  dr x0.1 fun b22 o23 =>
  gd (decide (0 ≤ x7)) <|
  gd (decide (x7 < ((x0.2.1 : Nat) : Int))) <|
  ldA 32 w b22 (o23 + (x7).toNat * 32) fun a24 =>
  gd (a24.length == 32) <|
  nw w (a24 ++ []) 23 fun b25 w26 =>
  app w26 32 32 Z23 23 x5.1 x5.2.1 x5.2.2 (Value.slice (some ⟨b25, 0, none⟩) 1 1) fun A27 n28 c29 w30 =>
  jnC C4 ((x0.1, x0.2.1, x0.2.2), (x3.1, x3.2), (A27, n28, c29), x6, ((IntKind.wrap .i64 (x7 + 1))), ()) w30
def F33.k10 (Q : Value → World → Prop) (C4 : ((Option Addr × Nat × Nat) × (Nat × Nat) × (Option Addr × Nat × Nat) × Bool × Int × Unit) → World → Prop) : ((Option Addr × Nat × Nat) × (Nat × Nat) × (Option Addr × Nat × Nat) × Bool × Int × Unit) → World → Prop := fun s w => ∀ _ : Nat → Value, F33.k10c Q C4 s.1 s.2.1 s.2.2.1 s.2.2.2.1 s.2.2.2.2.1 w
def F33.k7c (Q : Value → World → Prop) (C4 : ((Option Addr × Nat × Nat) × (Nat × Nat) × (Option Addr × Nat × Nat) × Bool × Int × Unit) → World → Prop) (x0 : (Option Addr × Nat × Nat)) (x3 : (Nat × Nat)) (x5 : (Option Addr × Nat × Nat)) (x6 : Bool) (x7 : Int) (x24 : Bool) (w : World) : Prop :=
  vIf x24
  (dr x0.1 fun b10 o11 =>
    gd (decide (0 ≤ x7)) <|
    gd (decide (x7 < ((x0.2.1 : Nat) : Int))) <|
    ldA 32 w.drew b10 (o11 + (x7).toNat * 32) fun a12 =>
    ldA 32 w.drew x3.1 x3.2 fun a13 =>
    eqAB 32 a12 a13 fun t14 =>
    vIf (!t14)
    (ldA 32 w.drew x3.1 x3.2 fun a15 =>
      gd (a15.length == 32) <|
      nw w.drew (a15 ++ []) 23 fun b16 w17 =>
      app w17 32 32 Z23 23 x5.1 x5.2.1 x5.2.2 (Value.slice (some ⟨b16, 0, none⟩) 1 1) fun A18 n19 c20 w21 =>
      jnC (F33.k10 Q C4) ((x0.1, x0.2.1, x0.2.2), (x3.1, x3.2), (A18, n19, c20), true, (x7), ()) w21)
    (jnC (F33.k10 Q C4) ((x0.1, x0.2.1, x0.2.2), (x3.1, x3.2), (x5.1, x5.2.1, x5.2.2), true, (x7), ()) w.drew))
  (jnC (F33.k10 Q C4) ((x0.1, x0.2.1, x0.2.2), (x3.1, x3.2), (x5.1, x5.2.1, x5.2.2), x6, (x7), ()) w)
def F33.k7 (Q : Value → World → Prop) (C4 : ((Option Addr × Nat × Nat) × (Nat × Nat) × (Option Addr × Nat × Nat) × Bool × Int × Unit) → World → Prop) : ((Option Addr × Nat × Nat) × (Nat × Nat) × (Option Addr × Nat × Nat) × Bool × Int × Bool × Unit) → World → Prop := fun s w => ∀ _ : Nat → Value, F33.k7c Q C4 s.1 s.2.1 s.2.2.1 s.2.2.2.1 s.2.2.2.2.1 s.2.2.2.2.2.1 w
def F33.b4c (Q : Value → World → Prop) (C4 : ((Option Addr × Nat × Nat) × (Nat × Nat) × (Option Addr × Nat × Nat) × Bool × Int × Unit) → World → Prop) (x0 : (Option Addr × Nat × Nat)) (x3 : (Nat × Nat)) (x5 : (Option Addr × Nat × Nat)) (x6 : Bool) (x7 : Int) (w : World) : Prop :=
  vIf (decide (x7 < ((x0.2.1 : Nat) : Int)))
  (vIf (!x6)
    (dr x0.1 fun b3 o4 =>
      gd (decide (0 ≤ x7)) <|
      gd (decide (x7 < ((x0.2.1 : Nat) : Int))) <|
      ldA 32 w.drew b3 (o4 + (x7).toNat * 32) fun a5 =>
      ldA 32 w.drew x3.1 x3.2 fun a6 =>
      Calls Tryd.prog 8 #[ofL a5, ofL a6] w.drew fun e8 w7 =>
      ∃ t9 : Bool, e8 = .returned (Value.bool t9) ∧ (
        jnC (F33.k7 Q C4) ((x0.1, x0.2.1, x0.2.2), (x3.1, x3.2), (x5.1, x5.2.1, x5.2.2), x6, (x7), (!t9), ()) w7))
    (jnC (F33.k7 Q C4) ((x0.1, x0.2.1, x0.2.2), (x3.1, x3.2), (x5.1, x5.2.1, x5.2.2), x6, (x7), false, ()) w.drew))
  (vIf (!x6)
    (ldA 32 w x3.1 x3.2 fun a31 =>
      gd (a31.length == 32) <|
      nw w (a31 ++ []) 23 fun b32 w33 =>
      app w33 32 32 Z23 23 x5.1 x5.2.1 x5.2.2 (Value.slice (some ⟨b32, 0, none⟩) 1 1) fun A34 n35 c36 w37 =>
      Q (Value.slice A34 n35 c36) w37)
    (Q (Value.slice x5.1 x5.2.1 x5.2.2) w))
def F33.b4 (Q : Value → World → Prop) : ((Option Addr × Nat × Nat) × (Nat × Nat) × (Option Addr × Nat × Nat) × Bool × Int × Unit) → World → (((Option Addr × Nat × Nat) × (Nat × Nat) × (Option Addr × Nat × Nat) × Bool × Int × Unit) → World → Prop) → Prop := fun s w C4 => ∀ _ : Nat → Value, F33.b4c Q C4 s.1 s.2.1 s.2.2.1 s.2.2.2.1 s.2.2.2.2.1 w
def F33.l4 (Q : Value → World → Prop) : ((Option Addr × Nat × Nat) × (Nat × Nat) × (Option Addr × Nat × Nat) × Bool × Int × Unit) → World → Prop := fun s w => ∃ n, loopC (F33.b4 Q) n s w
def F33.vc (x0A : Option Addr) (x0n x0c : Nat) (x1 : List Value) (w : World) (Q : Value → World → Prop) : Prop :=
  nw w x1 23 fun b1 w2 =>
  jnC (F33.l4 Q) ((x0A, x0n, x0c), (b1, 0), (none, 0, 0), false, (0), ()) w2
def F33.an : Ann := ⟨[(4, [(0, .kSl), (3, .kL), (5, .kSl), (6, .kB), (7, .kI .i64)])], [(7, [(0, .kSl), (3, .kL), (5, .kSl), (6, .kB), (7, .kI .i64), (24, .kB)]), (10, [(0, .kSl), (3, .kL), (5, .kSl), (6, .kB), (7, .kI .i64)])]⟩
theorem F33.eq (x0A : Option Addr) (x0n x0c : Nat) (x1 : List Value) (w : World) (Q : Value → World → Prop) : vcFn Tryd.prog F33.an 33 [Value.slice x0A x0n x0c, ofL x1] w Q = F33.vc x0A x0n x0c x1 w Q := by kernel_rfl
theorem F33.of (x0A : Option Addr) (x0n x0c : Nat) (x1 : List Value) (w : World) {Q : Value → World → Prop} (h : F33.vc x0A x0n x0c x1 w Q) : Calls Tryd.prog 33 #[Value.slice x0A x0n x0c, ofL x1] w (fun e w' => ∃ v, e = .returned v ∧ Q v w') := vcFn_sound noCount mixed ((F33.eq x0A x0n x0c x1 w Q).symm ▸ h)
/-! ### function 34: slices.BinarySearchFunc[[]stillage/api.Digest,stillage/api.Digest,stillage/api.Digest] -/
def F34s.b3c (Q : Value → World → Prop) (C3 : ((Option Addr × Nat × Nat) × Unit × (Nat × Nat) × Int × Int × Int × Unit) → World → Prop) (x0 : (Option Addr × Nat × Nat)) (x2 : Unit) (x4 : (Nat × Nat)) (x8 : Int) (x9 : Int) (x10 : Int) (w : World) : Prop :=
  vIf (decide (x9 < x10))
  (dr x0.1 fun b3 o4 =>
    gd (decide (0 ≤ (IntKind.wrap .i64 (Int.fdiv (IntKind.wrap .u64 (IntKind.wrap .i64 (x9 + x10))) (2 ^ 1))))) <|
    gd (decide ((IntKind.wrap .i64 (Int.fdiv (IntKind.wrap .u64 (IntKind.wrap .i64 (x9 + x10))) (2 ^ 1))) < ((x0.2.1 : Nat) : Int))) <|
    ldA 32 w.drew b3 (o4 + ((IntKind.wrap .i64 (Int.fdiv (IntKind.wrap .u64 (IntKind.wrap .i64 (x9 + x10))) (2 ^ 1)))).toNat * 32) fun a5 =>
    ldA 32 w.drew x4.1 x4.2 fun a6 =>
    Calls Tryd.prog 7 #[ofL a5, ofL a6] w.drew fun e8 w7 =>
    ∃ i9 : Int, e8 = .returned (Value.int .i64 i9) ∧ (
      vIf (decide (i9 < 0))
      (jnC C3 ((x0.1, x0.2.1, x0.2.2), (), (x4.1, x4.2), (x8), ((IntKind.wrap .i64 ((IntKind.wrap .i64 (Int.fdiv (IntKind.wrap .u64 (IntKind.wrap .i64 (x9 + x10))) (2 ^ 1))) + 1))), (x10), ()) w7)
      (jnC C3 ((x0.1, x0.2.1, x0.2.2), (), (x4.1, x4.2), (x8), (x9), ((IntKind.wrap .i64 (Int.fdiv (IntKind.wrap .u64 (IntKind.wrap .i64 (x9 + x10))) (2 ^ 1)))), ()) w7)))
  (vIf (decide (x9 < x8))
    (dr x0.1 fun b10 o11 =>
      gd (decide (0 ≤ x9)) <|
      gd (decide (x9 < ((x0.2.1 : Nat) : Int))) <|
      ldA 32 w.drew b10 (o11 + (x9).toNat * 32) fun a12 =>
      ldA 32 w.drew x4.1 x4.2 fun a13 =>
      Calls Tryd.prog 7 #[ofL a12, ofL a13] w.drew fun e15 w14 =>
      ∃ i16 : Int, e15 = .returned (Value.int .i64 i16) ∧ (
        Q (Value.tuple #[Value.int .i64 x9, Value.bool (i16 == 0)]) w14))
    (Q (Value.tuple #[Value.int .i64 x9, Value.bool false]) w.drew))
def F34s.b3 (Q : Value → World → Prop) : ((Option Addr × Nat × Nat) × Unit × (Nat × Nat) × Int × Int × Int × Unit) → World → (((Option Addr × Nat × Nat) × Unit × (Nat × Nat) × Int × Int × Int × Unit) → World → Prop) → Prop := fun s w C3 => ∀ _ : Nat → Value, F34s.b3c Q C3 s.1 s.2.1 s.2.2.1 s.2.2.2.1 s.2.2.2.2.1 s.2.2.2.2.2.1 w
def F34s.l3 (Q : Value → World → Prop) : ((Option Addr × Nat × Nat) × Unit × (Nat × Nat) × Int × Int × Int × Unit) → World → Prop := fun s w => ∃ n, loopC (F34s.b3 Q) n s w
def F34s.vc (x0A : Option Addr) (x0n x0c : Nat) (x1 : List Value) (w : World) (Q : Value → World → Prop) : Prop :=
  nw w x1 23 fun b1 w2 =>
  jnC (F34s.l3 Q) ((x0A, x0n, x0c), (), (b1, 0), (((x0n : Nat) : Int)), (0), (((x0n : Nat) : Int)), ()) w2
def F34s.an : Ann := ⟨[(3, [(0, .kSl), (2, .kF 7), (4, .kL), (8, .kI .i64), (9, .kI .i64), (10, .kI .i64)])], []⟩
theorem F34s.eq (x0A : Option Addr) (x0n x0c : Nat) (x1 : List Value) (w : World) (Q : Value → World → Prop) : vcFn Tryd.prog F34s.an 34 [Value.slice x0A x0n x0c, ofL x1, Value.func (.func 7) #[] #[]] w Q = F34s.vc x0A x0n x0c x1 w Q := by kernel_rfl
theorem F34s.of (x0A : Option Addr) (x0n x0c : Nat) (x1 : List Value) (w : World) {Q : Value → World → Prop} (h : F34s.vc x0A x0n x0c x1 w Q) : Calls Tryd.prog 34 #[Value.slice x0A x0n x0c, ofL x1, Value.func (.func 7) #[] #[]] w (fun e w' => ∃ v, e = .returned v ∧ Q v w') := vcFn_sound noCount mixed ((F34s.eq x0A x0n x0c x1 w Q).symm ▸ h)
/-! ### function 36: internal/stringslite.CutPrefix -/
def F36.vc (x0 : ByteArray) (x1 : ByteArray) (w : World) (Q : Value → World → Prop) : Prop :=
  Calls Tryd.prog 49 #[Value.string x0, Value.string x1] w fun e2 w1 =>
  ∃ t3 : Bool, e2 = .returned (Value.bool t3) ∧ (
    vIf (!t3)
    (Q (Value.tuple #[Value.string x0, Value.bool false]) w1)
    (gd (decide (0 ≤ (x1.size : Int))) <|
      gd (decide ((x1.size : Int) ≤ ((x0.size : Nat) : Int))) <|
      Q (Value.tuple #[Value.string (x0.extract ((x1.size : Int)).toNat x0.size), Value.bool true]) w1))
def F36.an : Ann := ⟨[], []⟩
theorem F36.eq (x0 : ByteArray) (x1 : ByteArray) (w : World) (Q : Value → World → Prop) : vcFn Tryd.prog F36.an 36 [Value.string x0, Value.string x1] w Q = F36.vc x0 x1 w Q := by kernel_rfl
theorem F36.of (x0 : ByteArray) (x1 : ByteArray) (w : World) {Q : Value → World → Prop} (h : F36.vc x0 x1 w Q) : Calls Tryd.prog 36 #[Value.string x0, Value.string x1] w (fun e w' => ∃ v, e = .returned v ∧ Q v w') := vcFn_sound noCount mixed ((F36.eq x0 x1 w Q).symm ▸ h)
/-! ### function 37: stillage/hex.figure -/
def F37.b2c (Q : Value → World → Prop) (C2 : (Int × (Nat × Nat) × Unit) → World → Prop) (x0 : Int) (x6 : (Nat × Nat)) (w : World) : Prop :=
  gd (Nat.beq x6.2 0 && true) <|
  nxt w x6.1
  (fun i3 i4 w5 =>
    vIf (i4 == x0)
    (Q (Value.tuple #[Value.int .u8 (IntKind.wrap .u8 i3), Value.bool true]) w5)
    (jnC C2 ((x0), (x6.1, x6.2), ()) w5))
  (Q (Value.tuple #[Value.int .u8 0, Value.bool false]) w)
def F37.b2 (Q : Value → World → Prop) : (Int × (Nat × Nat) × Unit) → World → ((Int × (Nat × Nat) × Unit) → World → Prop) → Prop := fun s w C2 => ∀ _ : Nat → Value, F37.b2c Q C2 s.1 s.2.1 w
def F37.l2 (Q : Value → World → Prop) : (Int × (Nat × Nat) × Unit) → World → Prop := fun s w => ∃ n, loopC (F37.b2 Q) n s w
def F37.vc (x0 : Int) (w : World) (Q : Value → World → Prop) : Prop :=
  itr w (⟨#[48, 49, 50, 51, 52, 53, 54, 55, 56, 57, 97, 98, 99, 100, 101, 102]⟩ : ByteArray) fun b1 w2 =>
  jnC (F37.l2 Q) ((x0), (b1, 0), ()) w2
def F37.an : Ann := ⟨[(2, [(0, .kI .i32), (6, .kL)])], []⟩
theorem F37.eq (x0 : Int) (w : World) (Q : Value → World → Prop) : vcFn Tryd.prog F37.an 37 [Value.int .i32 x0] w Q = F37.vc x0 w Q := by kernel_rfl
theorem F37.of (x0 : Int) (w : World) {Q : Value → World → Prop} (h : F37.vc x0 w Q) : Calls Tryd.prog 37 #[Value.int .i32 x0] w (fun e w' => ∃ v, e = .returned v ∧ Q v w') := vcFn_sound noCount mixed ((F37.eq x0 w Q).symm ▸ h)
/-! ### function 38: stillage/stillageref03.worth -/
def F38.k4c (Q : Value → World → Prop) (x0 : Int) (x16 : Bool) (w : World) : Prop :=
  vIf x16
  (Q (Value.int .u8 (IntKind.wrap .u8 ((IntKind.wrap .u8 (x0 - 97)) + 10))) w)
  (Q (Value.int .u8 16) w)
def F38.k4 (Q : Value → World → Prop) : (Int × Bool × Unit) → World → Prop := fun s w => ∀ _ : Nat → Value, F38.k4c Q s.1 s.2.1 w
def F38.k3c (Q : Value → World → Prop) (x0 : Int) (w : World) : Prop :=
  vIf (decide (x0 ≥ 97))
  (jnC (F38.k4 Q) ((x0), (decide (x0 ≤ 102)), ()) w)
  (jnC (F38.k4 Q) ((x0), false, ()) w)
def F38.k3 (Q : Value → World → Prop) : (Int × Unit) → World → Prop := fun s w => ∀ _ : Nat → Value, F38.k3c Q s.1 w
def F38.k2c (Q : Value → World → Prop) (x0 : Int) (x8 : Bool) (w : World) : Prop :=
  vIf x8
  (Q (Value.int .u8 (IntKind.wrap .u8 (x0 - 48))) w)
  (jnC (F38.k3 Q) ((x0), ()) w)
def F38.k2 (Q : Value → World → Prop) : (Int × Bool × Unit) → World → Prop := fun s w => ∀ _ : Nat → Value, F38.k2c Q s.1 s.2.1 w
def F38.vc (x0 : Int) (w : World) (Q : Value → World → Prop) : Prop :=
  vIf (decide (x0 ≥ 48))
  (jnC (F38.k2 Q) ((x0), (decide (x0 ≤ 57)), ()) w)
  (jnC (F38.k2 Q) ((x0), false, ()) w)
def F38.an : Ann := ⟨[], [(2, [(0, .kI .u8), (8, .kB)]), (3, [(0, .kI .u8)]), (4, [(0, .kI .u8), (16, .kB)])]⟩
theorem F38.eq (x0 : Int) (w : World) (Q : Value → World → Prop) : vcFn Tryd.prog F38.an 38 [Value.int .u8 x0] w Q = F38.vc x0 w Q := by kernel_rfl
theorem F38.of (x0 : Int) (w : World) {Q : Value → World → Prop} (h : F38.vc x0 w Q) : Calls Tryd.prog 38 #[Value.int .u8 x0] w (fun e w' => ∃ v, e = .returned v ∧ Q v w') := vcFn_sound noCount mixed ((F38.eq x0 w Q).symm ▸ h)
/-! ### function 39: stillage/sha.New -/
def F39.vc  (w : World) (Q : Value → World → Prop) : Prop :=
  Calls Tryd.prog 50 #[] w fun e2 w1 =>
  ∃ a3 : List Value, e2 = .returned (ofL a3) ∧ (
    gd (a3.length == 8) <|
    nw w1 (a3 ++ ([Value.slice none 0 0] ++ ([Value.int .i64 0] ++ []))) 83 fun b4 w5 =>
    Q (Value.pointer (some ⟨b4, 0, none⟩)) w5)
def F39.an : Ann := ⟨[], []⟩
theorem F39.eq  (w : World) (Q : Value → World → Prop) : vcFn Tryd.prog F39.an 39 [] w Q = F39.vc  w Q := by kernel_rfl
theorem F39.of  (w : World) {Q : Value → World → Prop} (h : F39.vc  w Q) : Calls Tryd.prog 39 #[] w (fun e w' => ∃ v, e = .returned v ∧ Q v w') := vcFn_sound noCount mixed ((F39.eq  w Q).symm ▸ h)
/-! ### function 40: (*stillage/sha.Hash).Write -/
def F40.b3c (Q : Value → World → Prop) (C3 : (Option Addr × (Option Addr × Nat × Nat) × Unit) → World → Prop) (x0 : Option Addr) (x4 : (Option Addr × Nat × Nat)) (w : World) : Prop :=
  vIf (decide (((x4.2.1 : Nat) : Int) ≥ 64))
  (dr x0 fun b26 o27 =>
    ldA 8 w.drew b26 o27 fun a28 =>
    gd (decide ((64 : Int) ≤ ((x4.2.2 : Nat) : Int))) <|
    Calls Tryd.prog 51 #[ofL a28, Value.slice (slA x4.1 x4.2.2 0 1) 64 x4.2.2] w.drew fun e30 w29 =>
    ∃ a31 : List Value, e30 = .returned (ofL a31) ∧ (
      dr x0 fun b32 o33 =>
      gd (a31.length == 8) <|
      st w29 b32 o33 a31 fun w34 =>
      gd (decide ((64 : Int) ≤ ((x4.2.1 : Nat) : Int))) <|
      jnC C3 (x0, ((slA x4.1 x4.2.2 64 1), (x4.2.1 - 64), (x4.2.2 - 64)), ()) w34))
  (app w 1 1 [Value.int .u8 0] 5 none 0 0 (Value.slice x4.1 x4.2.1 x4.2.2) fun A35 n36 c37 w38 =>
    dr x0 fun b39 o40 =>
    st w38 b39 (o40 + 8) [Value.slice A35 n36 c37] fun w41 =>
    Q (Value.tuple #[]) w41)
def F40.b3 (Q : Value → World → Prop) : (Option Addr × (Option Addr × Nat × Nat) × Unit) → World → ((Option Addr × (Option Addr × Nat × Nat) × Unit) → World → Prop) → Prop := fun s w C3 => ∀ _ : Nat → Value, F40.b3c Q C3 s.1 s.2.1 w
def F40.l3 (Q : Value → World → Prop) : (Option Addr × (Option Addr × Nat × Nat) × Unit) → World → Prop := fun s w => ∃ n, loopC (F40.b3 Q) n s w
def F40.vc (x0 : Option Addr) (x1A : Option Addr) (x1n x1c : Nat) (w : World) (Q : Value → World → Prop) : Prop :=
  vIf x0.isNone
  (Q (Value.tuple #[]) w)
  (dr x0 fun b1 o2 =>
    ldI .i64 w b1 (o2 + 9) fun i3 =>
    dr x0 fun b4 o5 =>
    st w b4 (o5 + 9) [Value.int .i64 (IntKind.wrap .i64 (i3 + ((x1n : Nat) : Int)))] fun w6 =>
    dr x0 fun b7 o8 =>
    ldSl w6.drew b7 (o8 + 8) fun A9 n10 c11 =>
    dr x0 fun b12 o13 =>
    ldSl w6.drew b12 (o13 + 8) fun A14 n15 c16 =>
    dr x0 fun b17 o18 =>
    ldSl w6.drew b17 (o18 + 8) fun A19 n20 c21 =>
    gd (decide (0 ≤ ((n20 : Nat) : Int))) <|
    gd (decide (((n20 : Nat) : Int) ≤ ((c11 : Nat) : Int))) <|
    gd (decide (0 ≤ ((n15 : Nat) : Int))) <|
    gd (decide (((n15 : Nat) : Int) ≤ (((((n20 : Nat) : Int)).toNat : Nat) : Int))) <|
    app w6.drew 1 1 [Value.int .u8 0] 5 (slA A9 (((n20 : Nat) : Int)).toNat 0 1) ((((n15 : Nat) : Int)).toNat) ((((n20 : Nat) : Int)).toNat) (Value.slice x1A x1n x1c) fun A22 n23 c24 w25 =>
    jnC (F40.l3 Q) (x0, (A22, n23, c24), ()) w25)
def F40.an : Ann := ⟨[(3, [(0, .kP), (4, .kSl)])], []⟩
theorem F40.eq (x0 : Option Addr) (x1A : Option Addr) (x1n x1c : Nat) (w : World) (Q : Value → World → Prop) : vcFn Tryd.prog F40.an 40 [Value.pointer x0, Value.slice x1A x1n x1c] w Q = F40.vc x0 x1A x1n x1c w Q := by kernel_rfl
theorem F40.of (x0 : Option Addr) (x1A : Option Addr) (x1n x1c : Nat) (w : World) {Q : Value → World → Prop} (h : F40.vc x0 x1A x1n x1c w Q) : Calls Tryd.prog 40 #[Value.pointer x0, Value.slice x1A x1n x1c] w (fun e w' => ∃ v, e = .returned v ∧ Q v w') := vcFn_sound noCount mixed ((F40.eq x0 x1A x1n x1c w Q).symm ▸ h)
/-! ### function 41: (*stillage/sha.Hash).Sum -/
def F41.b10c (Q : Value → World → Prop) (C10 : ((Nat × Nat) × (Nat × Nat) × List Value × Int × Unit) → World → Prop) (x2 : (Nat × Nat)) (x3 : (Nat × Nat)) (x26 : List Value) (x27 : Int) (w : World) : Prop :=
  vIf (decide (x27 < 8))
  (gd (decide (0 ≤ x27)) <|
    gd (decide (x27 < 8)) <|
    gd (decide (((x27).toNat * 1) < x26.length)) <|
    ptI .u32 (nthV x26 ((x27).toNat * 1)) fun i25 =>
    gd (decide (0 ≤ (IntKind.wrap .i64 (4 * x27)))) <|
    gd (decide ((IntKind.wrap .i64 (4 * x27)) < 32)) <|
    st w x3.1 (x3.2 + ((IntKind.wrap .i64 (4 * x27))).toNat * 1) [Value.int .u8 (IntKind.wrap .u8 (Int.fdiv i25 (2 ^ 24)))] fun w26 =>
    gd (decide (0 ≤ (IntKind.wrap .i64 ((IntKind.wrap .i64 (4 * x27)) + 1)))) <|
    gd (decide ((IntKind.wrap .i64 ((IntKind.wrap .i64 (4 * x27)) + 1)) < 32)) <|
    st w26 x3.1 (x3.2 + ((IntKind.wrap .i64 ((IntKind.wrap .i64 (4 * x27)) + 1))).toNat * 1) [Value.int .u8 (IntKind.wrap .u8 (Int.fdiv i25 (2 ^ 16)))] fun w27 =>
    gd (decide (0 ≤ (IntKind.wrap .i64 ((IntKind.wrap .i64 (4 * x27)) + 2)))) <|
    gd (decide ((IntKind.wrap .i64 ((IntKind.wrap .i64 (4 * x27)) + 2)) < 32)) <|
    st w27 x3.1 (x3.2 + ((IntKind.wrap .i64 ((IntKind.wrap .i64 (4 * x27)) + 2))).toNat * 1) [Value.int .u8 (IntKind.wrap .u8 (Int.fdiv i25 (2 ^ 8)))] fun w28 =>
    gd (decide (0 ≤ (IntKind.wrap .i64 ((IntKind.wrap .i64 (4 * x27)) + 3)))) <|
    gd (decide ((IntKind.wrap .i64 ((IntKind.wrap .i64 (4 * x27)) + 3)) < 32)) <|
    st w28 x3.1 (x3.2 + ((IntKind.wrap .i64 ((IntKind.wrap .i64 (4 * x27)) + 3))).toNat * 1) [Value.int .u8 (IntKind.wrap .u8 i25)] fun w29 =>
    jnC C10 ((x2.1, x2.2), (x3.1, x3.2), x26, ((IntKind.wrap .i64 (x27 + 1))), ()) w29)
  (ldA 32 w x3.1 x3.2 fun a30 =>
    gd (a30.length == 32) <|
    st w x2.1 x2.2 a30 fun w31 =>
    ldA 32 w31 x2.1 x2.2 fun a32 =>
    Q (ofL a32) w31)
def F41.b10 (Q : Value → World → Prop) : ((Nat × Nat) × (Nat × Nat) × List Value × Int × Unit) → World → (((Nat × Nat) × (Nat × Nat) × List Value × Int × Unit) → World → Prop) → Prop := fun s w C10 => ∀ _ : Nat → Value, F41.b10c Q C10 s.1 s.2.1 s.2.2.1 s.2.2.2.1 w
def F41.l10 (Q : Value → World → Prop) : ((Nat × Nat) × (Nat × Nat) × List Value × Int × Unit) → World → Prop := fun s w => ∃ n, loopC (F41.b10 Q) n s w
def F41.b6c (Q : Value → World → Prop) (C6 : ((Nat × Nat) × (Nat × Nat) × (Nat × Nat) × (Option Addr × Nat × Nat) × Unit) → World → Prop) (x2 : (Nat × Nat)) (x3 : (Nat × Nat)) (x4 : (Nat × Nat)) (x5 : (Option Addr × Nat × Nat)) (w : World) : Prop :=
  vIf (decide (((x5.2.1 : Nat) : Int) > 0))
  (ldA 8 w.drew x4.1 x4.2 fun a19 =>
    gd (decide ((64 : Int) ≤ ((x5.2.2 : Nat) : Int))) <|
    Calls Tryd.prog 51 #[ofL a19, Value.slice (slA x5.1 x5.2.2 0 1) 64 x5.2.2] w.drew fun e21 w20 =>
    ∃ a22 : List Value, e21 = .returned (ofL a22) ∧ (
      gd (a22.length == 8) <|
      st w20 x4.1 x4.2 a22 fun w23 =>
      gd (decide ((64 : Int) ≤ ((x5.2.1 : Nat) : Int))) <|
      jnC C6 ((x2.1, x2.2), (x3.1, x3.2), (x4.1, x4.2), ((slA x5.1 x5.2.2 64 1), (x5.2.1 - 64), (x5.2.2 - 64)), ()) w23))
  (ldA 8 w x4.1 x4.2 fun a24 =>
    jnC (F41.l10 Q) ((x2.1, x2.2), (x3.1, x3.2), a24, (0), ()) w)
def F41.b6 (Q : Value → World → Prop) : ((Nat × Nat) × (Nat × Nat) × (Nat × Nat) × (Option Addr × Nat × Nat) × Unit) → World → (((Nat × Nat) × (Nat × Nat) × (Nat × Nat) × (Option Addr × Nat × Nat) × Unit) → World → Prop) → Prop := fun s w C6 => ∀ _ : Nat → Value, F41.b6c Q C6 s.1 s.2.1 s.2.2.1 s.2.2.2.1 w
def F41.l6 (Q : Value → World → Prop) : ((Nat × Nat) × (Nat × Nat) × (Nat × Nat) × (Option Addr × Nat × Nat) × Unit) → World → Prop := fun s w => ∃ n, loopC (F41.b6 Q) n s w
def F41.vc (x0 : Option Addr) (w : World) (Q : Value → World → Prop) : Prop :=
  nw w Z23 23 fun b1 w2 =>
  nw w2 Z23 23 fun b3 w4 =>
  vIf x0.isNone
  (ldA 32 w4 b3 0 fun a5 =>
    gd (a5.length == 32) <|
    st w4 b1 0 a5 fun w6 =>
    ldA 32 w6 b1 0 fun a7 =>
    Q (ofL a7) w6)
  (dr x0 fun b8 o9 =>
    ldA 8 w4 b8 o9 fun a10 =>
    nw w4 Z80 80 fun b11 w12 =>
    gd (a10.length == 8) <|
    st w12 b11 0 a10 fun w13 =>
    Calls Tryd.prog 52 #[Value.pointer x0] w13 fun e15 w14 =>
    ∃ (A16 : Option Addr) (n17 c18 : Nat), e15 = .returned (Value.slice A16 n17 c18) ∧ (
      jnC (F41.l6 Q) ((b1, 0), (b3, 0), (b11, 0), (A16, n17, c18), ()) w14))
def F41.an : Ann := ⟨[(6, [(2, .kL), (3, .kL), (4, .kL), (5, .kSl)]), (10, [(2, .kL), (3, .kL), (26, .kA), (27, .kI .i64)])], []⟩
theorem F41.eq (x0 : Option Addr) (w : World) (Q : Value → World → Prop) : vcFn Tryd.prog F41.an 41 [Value.pointer x0] w Q = F41.vc x0 w Q := by kernel_rfl
theorem F41.of (x0 : Option Addr) (w : World) {Q : Value → World → Prop} (h : F41.vc x0 w Q) : Calls Tryd.prog 41 #[Value.pointer x0] w (fun e w' => ∃ v, e = .returned v ∧ Q v w') := vcFn_sound noCount mixed ((F41.eq x0 w Q).symm ▸ h)
/-! ### function 42: stillage/stillageref04.message -/
def F42.b6c (Q : Value → World → Prop) (C6 : ((Option Addr × Nat × Nat) × Int × Int × Unit) → World → Prop) (x3 : (Option Addr × Nat × Nat)) (x4 : Int) (x5 : Int) (w : World) : Prop :=
  vIf (decide (x5 ≥ 0))
  (gd (decide (0 ≤ (IntKind.wrap .u64 (IntKind.wrap .i64 (8 * x5))))) <|
    nw w ([Value.int .u8 (IntKind.wrap .u8 (Int.fdiv x4 (2 ^ (min ((IntKind.wrap .u64 (IntKind.wrap .i64 (8 * x5)))).toNat 64))))] ++ []) 5 fun b17 w18 =>
    app w18 1 1 [Value.int .u8 0] 5 x3.1 x3.2.1 x3.2.2 (Value.slice (some ⟨b17, 0, none⟩) 1 1) fun A19 n20 c21 w22 =>
    jnC C6 ((A19, n20, c21), (x4), ((IntKind.wrap .i64 (x5 - 1))), ()) w22)
  (Q (Value.slice x3.1 x3.2.1 x3.2.2) w)
def F42.b6 (Q : Value → World → Prop) : ((Option Addr × Nat × Nat) × Int × Int × Unit) → World → (((Option Addr × Nat × Nat) × Int × Int × Unit) → World → Prop) → Prop := fun s w C6 => ∀ _ : Nat → Value, F42.b6c Q C6 s.1 s.2.1 s.2.2.1 w
def F42.l6 (Q : Value → World → Prop) : ((Option Addr × Nat × Nat) × Int × Int × Unit) → World → Prop := fun s w => ∃ n, loopC (F42.b6 Q) n s w
def F42.b2c (Q : Value → World → Prop) (C2 : ((Option Addr × Nat × Nat) × (Option Addr × Nat × Nat) × Unit) → World → Prop) (x0 : (Option Addr × Nat × Nat)) (x3 : (Option Addr × Nat × Nat)) (w : World) : Prop :=
  vIf ((Int.tmod ((x3.2.1 : Nat) : Int) 64) != 56)
  (nw w ([Value.int .u8 0] ++ []) 5 fun b11 w12 =>
    app w12 1 1 [Value.int .u8 0] 5 x3.1 x3.2.1 x3.2.2 (Value.slice (some ⟨b11, 0, none⟩) 1 1) fun A13 n14 c15 w16 =>
    jnC C2 ((x0.1, x0.2.1, x0.2.2), (A13, n14, c15), ()) w16)
  (jnC (F42.l6 Q) ((x3.1, x3.2.1, x3.2.2), ((IntKind.wrap .u64 ((IntKind.wrap .u64 ((x0.2.1 : Nat) : Int)) * 8))), (7), ()) w)
def F42.b2 (Q : Value → World → Prop) : ((Option Addr × Nat × Nat) × (Option Addr × Nat × Nat) × Unit) → World → (((Option Addr × Nat × Nat) × (Option Addr × Nat × Nat) × Unit) → World → Prop) → Prop := fun s w C2 => ∀ _ : Nat → Value, F42.b2c Q C2 s.1 s.2.1 w
def F42.l2 (Q : Value → World → Prop) : ((Option Addr × Nat × Nat) × (Option Addr × Nat × Nat) × Unit) → World → Prop := fun s w => ∃ n, loopC (F42.b2 Q) n s w
def F42.vc (x0A : Option Addr) (x0n x0c : Nat) (w : World) (Q : Value → World → Prop) : Prop :=
  app w 1 1 [Value.int .u8 0] 5 none 0 0 (Value.slice x0A x0n x0c) fun A1 n2 c3 w4 =>
  nw w4 ([Value.int .u8 128] ++ []) 5 fun b5 w6 =>
  app w6 1 1 [Value.int .u8 0] 5 A1 n2 c3 (Value.slice (some ⟨b5, 0, none⟩) 1 1) fun A7 n8 c9 w10 =>
  jnC (F42.l2 Q) ((x0A, x0n, x0c), (A7, n8, c9), ()) w10
def F42.an : Ann := ⟨[(2, [(0, .kSl), (3, .kSl)]), (6, [(3, .kSl), (4, .kI .u64), (5, .kI .i64)])], []⟩
theorem F42.eq (x0A : Option Addr) (x0n x0c : Nat) (w : World) (Q : Value → World → Prop) : vcFn Tryd.prog F42.an 42 [Value.slice x0A x0n x0c] w Q = F42.vc x0A x0n x0c w Q := by kernel_rfl
theorem F42.of (x0A : Option Addr) (x0n x0c : Nat) (w : World) {Q : Value → World → Prop} (h : F42.vc x0A x0n x0c w Q) : Calls Tryd.prog 42 #[Value.slice x0A x0n x0c] w (fun e w' => ∃ v, e = .returned v ∧ Q v w') := vcFn_sound noCount mixed ((F42.eq x0A x0n x0c w Q).symm ▸ h)
/-! ### function 43: stillage/stillageref04.right -/
def F43.vc (x0 : Int) (x1 : Int) (w : World) (Q : Value → World → Prop) : Prop :=
  gd (decide (0 ≤ x1)) <|
  gd (decide (0 ≤ (IntKind.wrap .u64 (32 - x1)))) <|
  Q (Value.int .u32 (iOr .u32 (Int.fdiv x0 (2 ^ (min (x1).toNat 32))) (IntKind.wrap .u32 (x0 * 2 ^ (min ((IntKind.wrap .u64 (32 - x1))).toNat 32))))) w
def F43.an : Ann := ⟨[], []⟩
theorem F43.eq (x0 : Int) (x1 : Int) (w : World) (Q : Value → World → Prop) : vcFn Tryd.prog F43.an 43 [Value.int .u32 x0, Value.int .u64 x1] w Q = F43.vc x0 x1 w Q := by kernel_rfl
theorem F43.of (x0 : Int) (x1 : Int) (w : World) {Q : Value → World → Prop} (h : F43.vc x0 x1 w Q) : Calls Tryd.prog 43 #[Value.int .u32 x0, Value.int .u64 x1] w (fun e w' => ∃ v, e = .returned v ∧ Q v w') := vcFn_sound noCount mixed ((F43.eq x0 x1 w Q).symm ▸ h)
/-! ### function 44: (*strings.Builder).WriteByte -/
def F44.vc (x0 : Option Addr) (x1 : Int) (w : World) (Q : Value → World → Prop) : Prop :=
  Calls Tryd.prog 53 #[Value.pointer x0] w fun e2 w1 =>
  e2 = .returned (Value.tuple #[]) ∧ (
    dr x0 fun b3 o4 =>
    ldSl w1 b3 (o4 + 1) fun A5 n6 c7 =>
    nw w1 ([Value.int .u8 x1] ++ []) 5 fun b8 w9 =>
    app w9 1 1 [Value.int .u8 0] 5 A5 n6 c7 (Value.slice (some ⟨b8, 0, none⟩) 1 1) fun A10 n11 c12 w13 =>
    dr x0 fun b14 o15 =>
    st w13 b14 (o15 + 1) [Value.slice A10 n11 c12] fun w16 =>
    Q (Value.nilIface) w16)
def F44.an : Ann := ⟨[], []⟩
theorem F44.eq (x0 : Option Addr) (x1 : Int) (w : World) (Q : Value → World → Prop) : vcFn Tryd.prog F44.an 44 [Value.pointer x0, Value.int .u8 x1] w Q = F44.vc x0 x1 w Q := by kernel_rfl
theorem F44.of (x0 : Option Addr) (x1 : Int) (w : World) {Q : Value → World → Prop} (h : F44.vc x0 x1 w Q) : Calls Tryd.prog 44 #[Value.pointer x0, Value.int .u8 x1] w (fun e w' => ∃ v, e = .returned v ∧ Q v w') := vcFn_sound noCount mixed ((F44.eq x0 x1 w Q).symm ▸ h)
/-! ### function 46: stillage/stillageref03.figure -/
def F46.vc (x0 : Int) (w : World) (Q : Value → World → Prop) : Prop :=
  vIf (decide (x0 < 10))
  (Q (Value.int .u8 (IntKind.wrap .u8 (48 + x0))) w)
  (Q (Value.int .u8 (IntKind.wrap .u8 ((IntKind.wrap .u8 (97 + x0)) - 10))) w)
def F46.an : Ann := ⟨[], []⟩
theorem F46.eq (x0 : Int) (w : World) (Q : Value → World → Prop) : vcFn Tryd.prog F46.an 46 [Value.int .u8 x0] w Q = F46.vc x0 w Q := by kernel_rfl
theorem F46.of (x0 : Int) (w : World) {Q : Value → World → Prop} (h : F46.vc x0 w Q) : Calls Tryd.prog 46 #[Value.int .u8 x0] w (fun e w' => ∃ v, e = .returned v ∧ Q v w') := vcFn_sound noCount mixed ((F46.eq x0 w Q).symm ▸ h)
/-! ### function 49: internal/stringslite.HasPrefix -/
def F49.vc (x0 : ByteArray) (x1 : ByteArray) (w : World) (Q : Value → World → Prop) : Prop :=
  vIf (decide ((x0.size : Int) ≥ (x1.size : Int)))
  (gd (decide (0 ≤ (x1.size : Int))) <|
    gd (decide ((x1.size : Int) ≤ ((x0.size : Nat) : Int))) <|
    Q (Value.bool ((x0.extract 0 ((x1.size : Int)).toNat).toList == x1.toList)) w)
  (Q (Value.bool false) w)
def F49.an : Ann := ⟨[], []⟩
theorem F49.eq (x0 : ByteArray) (x1 : ByteArray) (w : World) (Q : Value → World → Prop) : vcFn Tryd.prog F49.an 49 [Value.string x0, Value.string x1] w Q = F49.vc x0 x1 w Q := by kernel_rfl
theorem F49.of (x0 : ByteArray) (x1 : ByteArray) (w : World) {Q : Value → World → Prop} (h : F49.vc x0 x1 w Q) : Calls Tryd.prog 49 #[Value.string x0, Value.string x1] w (fun e w' => ∃ v, e = .returned v ∧ Q v w') := vcFn_sound noCount mixed ((F49.eq x0 x1 w Q).symm ▸ h)
/-! ### function 50: stillage/sha.first -/
def F50.vc  (w : World) (Q : Value → World → Prop) : Prop :=
  nw w Z80 80 fun b1 w2 =>
  gd (([Value.int .u32 1779033703] ++ ([Value.int .u32 3144134277] ++ ([Value.int .u32 1013904242] ++ ([Value.int .u32 2773480762] ++ ([Value.int .u32 1359893119] ++ ([Value.int .u32 2600822924] ++ ([Value.int .u32 528734635] ++ ([Value.int .u32 1541459225] ++ [])))))))).length == 8) <|
  st w2 b1 0 ([Value.int .u32 1779033703] ++ ([Value.int .u32 3144134277] ++ ([Value.int .u32 1013904242] ++ ([Value.int .u32 2773480762] ++ ([Value.int .u32 1359893119] ++ ([Value.int .u32 2600822924] ++ ([Value.int .u32 528734635] ++ ([Value.int .u32 1541459225] ++ [])))))))) fun w3 =>
  ldA 8 w3 b1 0 fun a4 =>
  Q (ofL a4) w3
def F50.an : Ann := ⟨[], []⟩
theorem F50.eq  (w : World) (Q : Value → World → Prop) : vcFn Tryd.prog F50.an 50 [] w Q = F50.vc  w Q := by kernel_rfl
theorem F50.of  (w : World) {Q : Value → World → Prop} (h : F50.vc  w Q) : Calls Tryd.prog 50 #[] w (fun e w' => ∃ v, e = .returned v ∧ Q v w') := vcFn_sound noCount mixed ((F50.eq  w Q).symm ▸ h)
/-! ### function 51: (stillage/sha.state).block -/
def F51.b11c (Q : Value → World → Prop) (C11 : ((Nat × Nat) × (Nat × Nat) × (Nat × Nat) × Int × Unit) → World → Prop) (x2 : (Nat × Nat)) (x4 : (Nat × Nat)) (x5 : (Nat × Nat)) (x97 : Int) (w : World) : Prop :=
  vIf (decide (x97 < 8))
  (gd (decide (0 ≤ x97)) <|
    gd (decide (x97 < 8)) <|
    ldI .u32 w.drew x2.1 (x2.2 + (x97).toNat * 1) fun i49 =>
    gd (decide (0 ≤ x97)) <|
    gd (decide (x97 < 8)) <|
    ldI .u32 w.drew x5.1 (x5.2 + (x97).toNat * 1) fun i50 =>
    gd (decide (0 ≤ x97)) <|
    gd (decide (x97 < 8)) <|
    st w.drew x2.1 (x2.2 + (x97).toNat * 1) [Value.int .u32 (IntKind.wrap .u32 (i49 + i50))] fun w51 =>
    jnC C11 ((x2.1, x2.2), (x4.1, x4.2), (x5.1, x5.2), ((IntKind.wrap .i64 (x97 + 1))), ()) w51)
  (ldA 8 w x2.1 x2.2 fun a52 =>
    gd (a52.length == 8) <|
    st w x4.1 x4.2 a52 fun w53 =>
    ldA 8 w53 x4.1 x4.2 fun a54 =>
    Q (ofL a54) w53)
def F51.b11 (Q : Value → World → Prop) : ((Nat × Nat) × (Nat × Nat) × (Nat × Nat) × Int × Unit) → World → (((Nat × Nat) × (Nat × Nat) × (Nat × Nat) × Int × Unit) → World → Prop) → Prop := fun s w C11 => ∀ _ : Nat → Value, F51.b11c Q C11 s.1 s.2.1 s.2.2.1 s.2.2.2.1 w
def F51.l11 (Q : Value → World → Prop) : ((Nat × Nat) × (Nat × Nat) × (Nat × Nat) × Int × Unit) → World → Prop := fun s w => ∃ n, loopC (F51.b11 Q) n s w
def F51.b3c (Q : Value → World → Prop) (C3 : ((Nat × Nat) × (Nat × Nat) × (Nat × Nat) × List Value × Int × Unit) → World → Prop) (x2 : (Nat × Nat)) (x4 : (Nat × Nat)) (x5 : (Nat × Nat)) (x15 : List Value) (x16 : Int) (w : World) : Prop :=
  vIf (decide (x16 < 64))
  (gd (decide (0 ≤ x16)) <|
    gd (decide (x16 < 64)) <|
    gd (decide (((x16).toNat * 1) < x15.length)) <|
    ptI .u32 (nthV x15 ((x16).toNat * 1)) fun i12 =>
    ldI .u32 w.drew x5.1 x5.2 fun i13 =>
    ldI .u32 w.drew x5.1 (x5.2 + 4) fun i14 =>
    ldI .u32 w.drew.drew x5.1 (x5.2 + 7) fun i15 =>
    ldI .u32 w.drew.drew x5.1 (x5.2 + 5) fun i16 =>
    ldI .u32 w.drew.drew x5.1 (x5.2 + 6) fun i17 =>
    gd (decide (0 ≤ x16)) <|
    gd (decide (x16 < 64)) <|
    ldI .u32 w.drew.drew 1 (0 + (x16).toNat * 1) fun i18 =>
    Calls Tryd.prog 65 #[Value.int .u32 i14, Value.int .i64 6] w.drew.drew fun e20 w19 =>
    ∃ i21 : Int, e20 = .returned (Value.int .u32 i21) ∧ (
      kp w.drew.drew 1 (0 + (x16).toNat * 1) 1 w19 <|
      kp w.drew.drew x5.1 (x5.2 + 6) 1 w19 <|
      kp w.drew.drew x5.1 (x5.2 + 5) 1 w19 <|
      kp w.drew.drew x5.1 (x5.2 + 7) 1 w19 <|
      Calls Tryd.prog 65 #[Value.int .u32 i14, Value.int .i64 11] w19 fun e23 w22 =>
      ∃ i24 : Int, e23 = .returned (Value.int .u32 i24) ∧ (
        kp w.drew.drew 1 (0 + (x16).toNat * 1) 1 w22 <|
        kp w.drew.drew x5.1 (x5.2 + 6) 1 w22 <|
        kp w.drew.drew x5.1 (x5.2 + 5) 1 w22 <|
        kp w.drew.drew x5.1 (x5.2 + 7) 1 w22 <|
        Calls Tryd.prog 65 #[Value.int .u32 i14, Value.int .i64 25] w22 fun e26 w25 =>
        ∃ i27 : Int, e26 = .returned (Value.int .u32 i27) ∧ (
          kp w.drew.drew 1 (0 + (x16).toNat * 1) 1 w25 <|
          kp w.drew.drew x5.1 (x5.2 + 6) 1 w25 <|
          kp w.drew.drew x5.1 (x5.2 + 5) 1 w25 <|
          kp w.drew.drew x5.1 (x5.2 + 7) 1 w25 <|
          ldI .u32 w25.drew x5.1 (x5.2 + 1) fun i28 =>
          ldI .u32 w25.drew x5.1 (x5.2 + 2) fun i29 =>
          ldI .u32 w25.drew x5.1 (x5.2 + 1) fun i30 =>
          ldI .u32 w25.drew x5.1 (x5.2 + 2) fun i31 =>
          Calls Tryd.prog 65 #[Value.int .u32 i13, Value.int .i64 2] w25.drew fun e33 w32 =>
          ∃ i34 : Int, e33 = .returned (Value.int .u32 i34) ∧ (
            kp w25.drew x5.1 (x5.2 + 2) 1 w32 <|
            kp w25.drew x5.1 (x5.2 + 1) 1 w32 <|
            kp w25.drew x5.1 (x5.2 + 2) 1 w32 <|
            kp w25.drew x5.1 (x5.2 + 1) 1 w32 <|
            Calls Tryd.prog 65 #[Value.int .u32 i13, Value.int .i64 13] w32 fun e36 w35 =>
            ∃ i37 : Int, e36 = .returned (Value.int .u32 i37) ∧ (
              kp w25.drew x5.1 (x5.2 + 2) 1 w35 <|
              kp w25.drew x5.1 (x5.2 + 1) 1 w35 <|
              kp w25.drew x5.1 (x5.2 + 2) 1 w35 <|
              kp w25.drew x5.1 (x5.2 + 1) 1 w35 <|
              Calls Tryd.prog 65 #[Value.int .u32 i13, Value.int .i64 22] w35 fun e39 w38 =>
              ∃ i40 : Int, e39 = .returned (Value.int .u32 i40) ∧ (
                kp w25.drew x5.1 (x5.2 + 2) 1 w38 <|
                kp w25.drew x5.1 (x5.2 + 1) 1 w38 <|
                kp w25.drew x5.1 (x5.2 + 2) 1 w38 <|
                kp w25.drew x5.1 (x5.2 + 1) 1 w38 <|
                ldI .u32 w38 x5.1 x5.2 fun i41 =>
                ldI .u32 w38 x5.1 (x5.2 + 1) fun i42 =>
                ldI .u32 w38 x5.1 (x5.2 + 2) fun i43 =>
                ldI .u32 w38 x5.1 (x5.2 + 3) fun i44 =>
                ldI .u32 w38 x5.1 (x5.2 + 4) fun i45 =>
                ldI .u32 w38 x5.1 (x5.2 + 5) fun i46 =>
                ldI .u32 w38 x5.1 (x5.2 + 6) fun i47 =>
                gd (([Value.int .u32 (IntKind.wrap .u32 ((IntKind.wrap .u32 ((IntKind.wrap .u32 ((IntKind.wrap .u32 ((IntKind.wrap .u32 (i15 + (iXor .u32 (iXor .u32 i21 i24) i27))) + (iXor .u32 (iAnd .u32 i14 i16) (iAnd .u32 (iXor .u32 4294967295 i14) i17)))) + i18)) + i12)) + (IntKind.wrap .u32 ((iXor .u32 (iXor .u32 i34 i37) i40) + (iXor .u32 (iXor .u32 (iAnd .u32 i13 i28) (iAnd .u32 i13 i29)) (iAnd .u32 i30 i31))))))] ++ ([Value.int .u32 i41] ++ ([Value.int .u32 i42] ++ ([Value.int .u32 i43] ++ ([Value.int .u32 (IntKind.wrap .u32 (i44 + (IntKind.wrap .u32 ((IntKind.wrap .u32 ((IntKind.wrap .u32 ((IntKind.wrap .u32 (i15 + (iXor .u32 (iXor .u32 i21 i24) i27))) + (iXor .u32 (iAnd .u32 i14 i16) (iAnd .u32 (iXor .u32 4294967295 i14) i17)))) + i18)) + i12))))] ++ ([Value.int .u32 i45] ++ ([Value.int .u32 i46] ++ ([Value.int .u32 i47] ++ [])))))))).length == 8) <|
                st w38 x5.1 x5.2 ([Value.int .u32 (IntKind.wrap .u32 ((IntKind.wrap .u32 ((IntKind.wrap .u32 ((IntKind.wrap .u32 ((IntKind.wrap .u32 (i15 + (iXor .u32 (iXor .u32 i21 i24) i27))) + (iXor .u32 (iAnd .u32 i14 i16) (iAnd .u32 (iXor .u32 4294967295 i14) i17)))) + i18)) + i12)) + (IntKind.wrap .u32 ((iXor .u32 (iXor .u32 i34 i37) i40) + (iXor .u32 (iXor .u32 (iAnd .u32 i13 i28) (iAnd .u32 i13 i29)) (iAnd .u32 i30 i31))))))] ++ ([Value.int .u32 i41] ++ ([Value.int .u32 i42] ++ ([Value.int .u32 i43] ++ ([Value.int .u32 (IntKind.wrap .u32 (i44 + (IntKind.wrap .u32 ((IntKind.wrap .u32 ((IntKind.wrap .u32 ((IntKind.wrap .u32 (i15 + (iXor .u32 (iXor .u32 i21 i24) i27))) + (iXor .u32 (iAnd .u32 i14 i16) (iAnd .u32 (iXor .u32 4294967295 i14) i17)))) + i18)) + i12))))] ++ ([Value.int .u32 i45] ++ ([Value.int .u32 i46] ++ ([Value.int .u32 i47] ++ [])))))))) fun w48 =>
                jnC C3 ((x2.1, x2.2), (x4.1, x4.2), (x5.1, x5.2), x15, ((IntKind.wrap .i64 (x16 + 1))), ()) w48)))))))
  (jnC (F51.l11 Q) ((x2.1, x2.2), (x4.1, x4.2), (x5.1, x5.2), (0), ()) w)
def F51.b3 (Q : Value → World → Prop) : ((Nat × Nat) × (Nat × Nat) × (Nat × Nat) × List Value × Int × Unit) → World → (((Nat × Nat) × (Nat × Nat) × (Nat × Nat) × List Value × Int × Unit) → World → Prop) → Prop := fun s w C3 => ∀ _ : Nat → Value, F51.b3c Q C3 s.1 s.2.1 s.2.2.1 s.2.2.2.1 s.2.2.2.2.1 w
def F51.l3 (Q : Value → World → Prop) : ((Nat × Nat) × (Nat × Nat) × (Nat × Nat) × List Value × Int × Unit) → World → Prop := fun s w => ∃ n, loopC (F51.b3 Q) n s w
def F51.vc (x0 : List Value) (x1A : Option Addr) (x1n x1c : Nat) (w : World) (Q : Value → World → Prop) : Prop :=
  nw w x0 80 fun b1 w2 =>
  nw w2 Z80 80 fun b3 w4 =>
  ldA 8 w4 b1 0 fun a5 =>
  nw w4 Z80 80 fun b6 w7 =>
  gd (a5.length == 8) <|
  st w7 b6 0 a5 fun w8 =>
  Calls Tryd.prog 64 #[Value.slice x1A x1n x1c] w8 fun e10 w9 =>
  ∃ a11 : List Value, e10 = .returned (ofL a11) ∧ (
    jnC (F51.l3 Q) ((b1, 0), (b3, 0), (b6, 0), a11, (0), ()) w9)
def F51.an : Ann := ⟨[(3, [(2, .kL), (4, .kL), (5, .kL), (15, .kA), (16, .kI .i64)]), (11, [(2, .kL), (4, .kL), (5, .kL), (97, .kI .i64)])], []⟩
theorem F51.eq (x0 : List Value) (x1A : Option Addr) (x1n x1c : Nat) (w : World) (Q : Value → World → Prop) : vcFn Tryd.prog F51.an 51 [ofL x0, Value.slice x1A x1n x1c] w Q = F51.vc x0 x1A x1n x1c w Q := by kernel_rfl
theorem F51.of (x0 : List Value) (x1A : Option Addr) (x1n x1c : Nat) (w : World) {Q : Value → World → Prop} (h : F51.vc x0 x1A x1n x1c w Q) : Calls Tryd.prog 51 #[ofL x0, Value.slice x1A x1n x1c] w (fun e w' => ∃ v, e = .returned v ∧ Q v w') := vcFn_sound noCount mixed ((F51.eq x0 x1A x1n x1c w Q).symm ▸ h)
/-! ### function 52: (*stillage/sha.Hash).end -/
def F52.b6c (Q : Value → World → Prop) (C6 : ((Option Addr × Nat × Nat) × Int × Int × Unit) → World → Prop) (x3 : (Option Addr × Nat × Nat)) (x4 : Int) (x5 : Int) (w : World) : Prop :=
  vIf (decide (x5 ≥ 0))
  (gd (decide (0 ≤ x5)) <|
    nw w ([Value.int .u8 (IntKind.wrap .u8 (Int.fdiv x4 (2 ^ (min (x5).toNat 64))))] ++ []) 5 fun b31 w32 =>
    app w32 1 1 [Value.int .u8 0] 5 x3.1 x3.2.1 x3.2.2 (Value.slice (some ⟨b31, 0, none⟩) 1 1) fun A33 n34 c35 w36 =>
    jnC C6 ((A33, n34, c35), (x4), ((IntKind.wrap .i64 (x5 - 8))), ()) w36)
  (Q (Value.slice x3.1 x3.2.1 x3.2.2) w)
def F52.b6 (Q : Value → World → Prop) : ((Option Addr × Nat × Nat) × Int × Int × Unit) → World → (((Option Addr × Nat × Nat) × Int × Int × Unit) → World → Prop) → Prop := fun s w C6 => ∀ _ : Nat → Value, F52.b6c Q C6 s.1 s.2.1 s.2.2.1 w
def F52.l6 (Q : Value → World → Prop) : ((Option Addr × Nat × Nat) × Int × Int × Unit) → World → Prop := fun s w => ∃ n, loopC (F52.b6 Q) n s w
def F52.b2c (Q : Value → World → Prop) (C2 : (Option Addr × (Option Addr × Nat × Nat) × Unit) → World → Prop) (x0 : Option Addr) (x3 : (Option Addr × Nat × Nat)) (w : World) : Prop :=
  vIf ((Int.tmod ((x3.2.1 : Nat) : Int) 64) != 56)
  (nw w ([Value.int .u8 0] ++ []) 5 fun b22 w23 =>
    app w23 1 1 [Value.int .u8 0] 5 x3.1 x3.2.1 x3.2.2 (Value.slice (some ⟨b22, 0, none⟩) 1 1) fun A24 n25 c26 w27 =>
    jnC C2 (x0, (A24, n25, c26), ()) w27)
  (dr x0 fun b28 o29 =>
    ldI .i64 w b28 (o29 + 9) fun i30 =>
    jnC (F52.l6 Q) ((x3.1, x3.2.1, x3.2.2), ((IntKind.wrap .u64 ((IntKind.wrap .u64 i30) * 8))), (56), ()) w)
def F52.b2 (Q : Value → World → Prop) : (Option Addr × (Option Addr × Nat × Nat) × Unit) → World → ((Option Addr × (Option Addr × Nat × Nat) × Unit) → World → Prop) → Prop := fun s w C2 => ∀ _ : Nat → Value, F52.b2c Q C2 s.1 s.2.1 w
def F52.l2 (Q : Value → World → Prop) : (Option Addr × (Option Addr × Nat × Nat) × Unit) → World → Prop := fun s w => ∃ n, loopC (F52.b2 Q) n s w
def F52.vc (x0 : Option Addr) (w : World) (Q : Value → World → Prop) : Prop :=
  dr x0 fun b1 o2 =>
  ldSl w.drew b1 (o2 + 8) fun A3 n4 c5 =>
  dr x0 fun b6 o7 =>
  ldSl w.drew b6 (o7 + 8) fun A8 n9 c10 =>
  dr x0 fun b11 o12 =>
  ldSl w.drew b11 (o12 + 8) fun A13 n14 c15 =>
  gd (decide (0 ≤ ((n14 : Nat) : Int))) <|
  gd (decide (((n14 : Nat) : Int) ≤ ((c5 : Nat) : Int))) <|
  gd (decide (0 ≤ ((n9 : Nat) : Int))) <|
  gd (decide (((n9 : Nat) : Int) ≤ (((((n14 : Nat) : Int)).toNat : Nat) : Int))) <|
  nw w.drew ([Value.int .u8 128] ++ []) 5 fun b16 w17 =>
  kp w.drew b11 (o12 + 8) 1 w17 <|
  kp w.drew b6 (o7 + 8) 1 w17 <|
  kp w.drew b1 (o2 + 8) 1 w17 <|
  app w17 1 1 [Value.int .u8 0] 5 (slA A3 (((n14 : Nat) : Int)).toNat 0 1) ((((n9 : Nat) : Int)).toNat) ((((n14 : Nat) : Int)).toNat) (Value.slice (some ⟨b16, 0, none⟩) 1 1) fun A18 n19 c20 w21 =>
  jnC (F52.l2 Q) (x0, (A18, n19, c20), ()) w21
def F52.an : Ann := ⟨[(2, [(0, .kP), (3, .kSl)]), (6, [(3, .kSl), (4, .kI .u64), (5, .kI .i64)])], []⟩
theorem F52.eq (x0 : Option Addr) (w : World) (Q : Value → World → Prop) : vcFn Tryd.prog F52.an 52 [Value.pointer x0] w Q = F52.vc x0 w Q := by kernel_rfl
theorem F52.of (x0 : Option Addr) (w : World) {Q : Value → World → Prop} (h : F52.vc x0 w Q) : Calls Tryd.prog 52 #[Value.pointer x0] w (fun e w' => ∃ v, e = .returned v ∧ Q v w') := vcFn_sound noCount mixed ((F52.eq x0 w Q).symm ▸ h)
/-! ### function 64: stillage/sha.words -/
def F64.b3c (Q : Value → World → Prop) (C3 : ((Option Addr × Nat × Nat) × (Nat × Nat) × (Nat × Nat) × Int × Unit) → World → Prop) (x0 : (Option Addr × Nat × Nat)) (x2 : (Nat × Nat)) (x3 : (Nat × Nat)) (x10 : Int) (w : World) : Prop :=
  vIf (decide (x10 < 64))
  (vIf (decide (x10 < 16))
    (gd (decide (0 ≤ (IntKind.wrap .i64 ((IntKind.wrap .i64 (4 * x10)) + 4)))) <|
      gd (decide ((IntKind.wrap .i64 ((IntKind.wrap .i64 (4 * x10)) + 4)) ≤ ((x0.2.2 : Nat) : Int))) <|
      gd (decide (0 ≤ (IntKind.wrap .i64 (4 * x10)))) <|
      gd (decide ((IntKind.wrap .i64 (4 * x10)) ≤ ((((IntKind.wrap .i64 ((IntKind.wrap .i64 (4 * x10)) + 4))).toNat : Nat) : Int))) <|
      dr (slA x0.1 x0.2.2 ((IntKind.wrap .i64 (4 * x10))).toNat 1) fun b5 o6 =>
      gd (decide ((0 : Int) < (((((IntKind.wrap .i64 ((IntKind.wrap .i64 (4 * x10)) + 4))).toNat - ((IntKind.wrap .i64 (4 * x10))).toNat) : Nat) : Int))) <|
      ldI .u8 w.drew b5 o6 fun i7 =>
      dr (slA x0.1 x0.2.2 ((IntKind.wrap .i64 (4 * x10))).toNat 1) fun b8 o9 =>
      gd (decide ((1 : Int) < (((((IntKind.wrap .i64 ((IntKind.wrap .i64 (4 * x10)) + 4))).toNat - ((IntKind.wrap .i64 (4 * x10))).toNat) : Nat) : Int))) <|
      ldI .u8 w.drew b8 (o9 + 1) fun i10 =>
      dr (slA x0.1 x0.2.2 ((IntKind.wrap .i64 (4 * x10))).toNat 1) fun b11 o12 =>
      gd (decide ((2 : Int) < (((((IntKind.wrap .i64 ((IntKind.wrap .i64 (4 * x10)) + 4))).toNat - ((IntKind.wrap .i64 (4 * x10))).toNat) : Nat) : Int))) <|
      ldI .u8 w.drew b11 (o12 + 2) fun i13 =>
      dr (slA x0.1 x0.2.2 ((IntKind.wrap .i64 (4 * x10))).toNat 1) fun b14 o15 =>
      gd (decide ((3 : Int) < (((((IntKind.wrap .i64 ((IntKind.wrap .i64 (4 * x10)) + 4))).toNat - ((IntKind.wrap .i64 (4 * x10))).toNat) : Nat) : Int))) <|
      ldI .u8 w.drew b14 (o15 + 3) fun i16 =>
      gd (decide (0 ≤ x10)) <|
      gd (decide (x10 < 64)) <|
      st w.drew x3.1 (x3.2 + (x10).toNat * 1) [Value.int .u32 (iOr .u32 (iOr .u32 (iOr .u32 (IntKind.wrap .u32 ((IntKind.wrap .u32 i7) * 2 ^ 24)) (IntKind.wrap .u32 ((IntKind.wrap .u32 i10) * 2 ^ 16))) (IntKind.wrap .u32 ((IntKind.wrap .u32 i13) * 2 ^ 8))) (IntKind.wrap .u32 i16))] fun w17 =>
      jnC C3 ((x0.1, x0.2.1, x0.2.2), (x2.1, x2.2), (x3.1, x3.2), ((IntKind.wrap .i64 (x10 + 1))), ()) w17)
    (gd (decide (0 ≤ (IntKind.wrap .i64 (x10 - 15)))) <|
      gd (decide ((IntKind.wrap .i64 (x10 - 15)) < 64)) <|
      ldI .u32 w.drew x3.1 (x3.2 + ((IntKind.wrap .i64 (x10 - 15))).toNat * 1) fun i18 =>
      gd (decide (0 ≤ (IntKind.wrap .i64 (x10 - 2)))) <|
      gd (decide ((IntKind.wrap .i64 (x10 - 2)) < 64)) <|
      ldI .u32 w.drew x3.1 (x3.2 + ((IntKind.wrap .i64 (x10 - 2))).toNat * 1) fun i19 =>
      Calls Tryd.prog 65 #[Value.int .u32 i18, Value.int .i64 7] w.drew fun e21 w20 =>
      ∃ i22 : Int, e21 = .returned (Value.int .u32 i22) ∧ (
        Calls Tryd.prog 65 #[Value.int .u32 i18, Value.int .i64 18] w20 fun e24 w23 =>
        ∃ i25 : Int, e24 = .returned (Value.int .u32 i25) ∧ (
          Calls Tryd.prog 65 #[Value.int .u32 i19, Value.int .i64 17] w23 fun e27 w26 =>
          ∃ i28 : Int, e27 = .returned (Value.int .u32 i28) ∧ (
            Calls Tryd.prog 65 #[Value.int .u32 i19, Value.int .i64 19] w26 fun e30 w29 =>
            ∃ i31 : Int, e30 = .returned (Value.int .u32 i31) ∧ (
              gd (decide (0 ≤ (IntKind.wrap .i64 (x10 - 7)))) <|
              gd (decide ((IntKind.wrap .i64 (x10 - 7)) < 64)) <|
              ldI .u32 w29.drew x3.1 (x3.2 + ((IntKind.wrap .i64 (x10 - 7))).toNat * 1) fun i32 =>
              gd (decide (0 ≤ (IntKind.wrap .i64 (x10 - 16)))) <|
              gd (decide ((IntKind.wrap .i64 (x10 - 16)) < 64)) <|
              ldI .u32 w29.drew x3.1 (x3.2 + ((IntKind.wrap .i64 (x10 - 16))).toNat * 1) fun i33 =>
              gd (decide (0 ≤ x10)) <|
              gd (decide (x10 < 64)) <|
              st w29.drew x3.1 (x3.2 + (x10).toNat * 1) [Value.int .u32 (IntKind.wrap .u32 ((IntKind.wrap .u32 ((IntKind.wrap .u32 ((iXor .u32 (iXor .u32 i28 i31) (Int.fdiv i19 (2 ^ 10))) + i32)) + (iXor .u32 (iXor .u32 i22 i25) (Int.fdiv i18 (2 ^ 3))))) + i33))] fun w34 =>
              jnC C3 ((x0.1, x0.2.1, x0.2.2), (x2.1, x2.2), (x3.1, x3.2), ((IntKind.wrap .i64 (x10 + 1))), ()) w34))))))
  (ldA 64 w x3.1 x3.2 fun a35 =>
    gd (a35.length == 64) <|
    st w x2.1 x2.2 a35 fun w36 =>
    ldA 64 w36 x2.1 x2.2 fun a37 =>
    Q (ofL a37) w36)
def F64.b3 (Q : Value → World → Prop) : ((Option Addr × Nat × Nat) × (Nat × Nat) × (Nat × Nat) × Int × Unit) → World → (((Option Addr × Nat × Nat) × (Nat × Nat) × (Nat × Nat) × Int × Unit) → World → Prop) → Prop := fun s w C3 => ∀ _ : Nat → Value, F64.b3c Q C3 s.1 s.2.1 s.2.2.1 s.2.2.2.1 w
def F64.l3 (Q : Value → World → Prop) : ((Option Addr × Nat × Nat) × (Nat × Nat) × (Nat × Nat) × Int × Unit) → World → Prop := fun s w => ∃ n, loopC (F64.b3 Q) n s w
def F64.vc (x0A : Option Addr) (x0n x0c : Nat) (w : World) (Q : Value → World → Prop) : Prop :=
  nw w Z97 97 fun b1 w2 =>
  nw w2 Z97 97 fun b3 w4 =>
  jnC (F64.l3 Q) ((x0A, x0n, x0c), (b1, 0), (b3, 0), (0), ()) w4
def F64.an : Ann := ⟨[(3, [(0, .kSl), (2, .kL), (3, .kL), (10, .kI .i64)])], []⟩
theorem F64.eq (x0A : Option Addr) (x0n x0c : Nat) (w : World) (Q : Value → World → Prop) : vcFn Tryd.prog F64.an 64 [Value.slice x0A x0n x0c] w Q = F64.vc x0A x0n x0c w Q := by kernel_rfl
theorem F64.of (x0A : Option Addr) (x0n x0c : Nat) (w : World) {Q : Value → World → Prop} (h : F64.vc x0A x0n x0c w Q) : Calls Tryd.prog 64 #[Value.slice x0A x0n x0c] w (fun e w' => ∃ v, e = .returned v ∧ Q v w') := vcFn_sound noCount mixed ((F64.eq x0A x0n x0c w Q).symm ▸ h)
/-! ### function 65: stillage/sha.turn -/
def F65.vc (x0 : Int) (x1 : Int) (w : World) (Q : Value → World → Prop) : Prop :=
  Calls Tryd.prog 72 #[Value.int .u32 x0, Value.int .i64 (IntKind.wrap .i64 (0 - x1))] w fun e2 w1 =>
  ∃ i3 : Int, e2 = .returned (Value.int .u32 i3) ∧ (
    Q (Value.int .u32 i3) w1)
def F65.an : Ann := ⟨[], []⟩
theorem F65.eq (x0 : Int) (x1 : Int) (w : World) (Q : Value → World → Prop) : vcFn Tryd.prog F65.an 65 [Value.int .u32 x0, Value.int .i64 x1] w Q = F65.vc x0 x1 w Q := by kernel_rfl
theorem F65.of (x0 : Int) (x1 : Int) (w : World) {Q : Value → World → Prop} (h : F65.vc x0 x1 w Q) : Calls Tryd.prog 65 #[Value.int .u32 x0, Value.int .i64 x1] w (fun e w' => ∃ v, e = .returned v ∧ Q v w') := vcFn_sound noCount mixed ((F65.eq x0 x1 w Q).symm ▸ h)
/-! ### function 72: math/bits.RotateLeft32 -/
def F72.vc (x0 : Int) (x1 : Int) (w : World) (Q : Value → World → Prop) : Prop :=
  gd (decide (0 ≤ (iAnd .u64 (IntKind.wrap .u64 x1) 31))) <|
  gd (decide (0 ≤ (IntKind.wrap .u64 (32 - (iAnd .u64 (IntKind.wrap .u64 x1) 31))))) <|
  Q (Value.int .u32 (iOr .u32 (IntKind.wrap .u32 (x0 * 2 ^ (min ((iAnd .u64 (IntKind.wrap .u64 x1) 31)).toNat 32))) (Int.fdiv x0 (2 ^ (min ((IntKind.wrap .u64 (32 - (iAnd .u64 (IntKind.wrap .u64 x1) 31)))).toNat 32))))) w
def F72.an : Ann := ⟨[], []⟩
theorem F72.eq (x0 : Int) (x1 : Int) (w : World) (Q : Value → World → Prop) : vcFn Tryd.prog F72.an 72 [Value.int .u32 x0, Value.int .i64 x1] w Q = F72.vc x0 x1 w Q := by kernel_rfl
theorem F72.of (x0 : Int) (x1 : Int) (w : World) {Q : Value → World → Prop} (h : F72.vc x0 x1 w Q) : Calls Tryd.prog 72 #[Value.int .u32 x0, Value.int .i64 x1] w (fun e w' => ∃ v, e = .returned v ∧ Q v w') := vcFn_sound noCount mixed ((F72.eq x0 x1 w Q).symm ▸ h)
end Go.Proofs.YtmjdcgphahdhbaaDoor
