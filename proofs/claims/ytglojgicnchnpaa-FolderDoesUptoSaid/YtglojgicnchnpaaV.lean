/- PRINTED BY MY OWN gen.py out of the translation: each function as a proposition. -/
import Derived.Test.YtglojgicnchnpaaProg
import Derived.Test.YtglojgicnchnpaaG7
namespace Go.Proofs.Ytglojgicnchnpaa
open Go.GV
set_option linter.unusedVariables false
set_option maxRecDepth 100000
theorem noCount : NoCount Try.prog := noCount_of (by kernel_rfl)
theorem mixed : Try.prog.follows .mixedOrders = true := by kernel_rfl
def Z27 : List Value := [Value.int .i64 0, Value.string (⟨#[]⟩ : ByteArray), Value.string (⟨#[]⟩ : ByteArray), Value.int .i64 0]
/-! ### function 3: stillage/stillagelaw11.FolderDoes -/
def F3.vc (x0 : List Value) (x1 : List Value) (x2 : ByteArray) (w : World) (Q : Value → World → Prop) : Prop :=
  nw w x0 25 fun b1 w2 =>
  nw w2 x1 27 fun b3 w4 =>
  ldA 2 w4 b1 0 fun a5 =>
  ldA 4 w4 b3 0 fun a6 =>
  Calls Try.prog 6 #[ofL a5, ofL a6] w4 fun e8 w7 =>
  ∃ a9 : List Value, ∃ i10 : Int, e8 = .returned (Value.tuple #[ofL a9, Value.int .i64 i10]) ∧ (
    nw w7 [Value.slice none 0 0, Value.slice none 0 0] 25 fun b11 w12 =>
    gd (a9.length == 2) <|
    st w12 b11 0 a9 fun w13 =>
    ldA 2 w13 b1 0 fun a14 =>
    ldA 4 w13 b3 0 fun a15 =>
    Calls Try.prog 7 #[ofL a14, ofL a15] w13 fun e17 w16 =>
    ∃ a18 : List Value, ∃ i19 : Int, e17 = .returned (Value.tuple #[ofL a18, Value.int .i64 i19]) ∧ (
      nw w16 [Value.slice none 0 0, Value.slice none 0 0] 25 fun b20 w21 =>
      gd (a18.length == 2) <|
      st w21 b20 0 a18 fun w22 =>
      ldA 2 w22 b1 0 fun a23 =>
      Calls Try.prog 8 #[ofL a23, Value.string x2] w22 fun e25 w24 =>
      ∃ i26 : Int, ∃ t27 : Bool, e25 = .returned (Value.tuple #[Value.int .i64 i26, Value.bool t27]) ∧ (
        ldA 2 w24 b1 0 fun a28 =>
        Calls Try.prog 9 #[ofL a28, Value.string x2] w24 fun e30 w29 =>
        ∃ i31 : Int, ∃ t32 : Bool, e30 = .returned (Value.tuple #[Value.int .i64 i31, Value.bool t32]) ∧ (
          ldA 2 w29.drew b11 0 fun a33 =>
          ldA 2 w29.drew b20 0 fun a34 =>
          Calls Try.prog 10 #[ofL a33, ofL a34] w29.drew fun e36 w35 =>
          ∃ t37 : Bool, e36 = .returned (Value.bool t37) ∧ (
            vIf t37
            (vIf (i10 == i19)
              (vIf (i26 == i31)
                (vIf (t27 == t32)
                  (ldA 2 w35 b1 0 fun a38 =>
                    ldA 2 w35 b1 0 fun a39 =>
                    Calls Try.prog 12 #[ofL a38] w35 fun e41 w40 =>
                    ∃ (A42 : Option Addr) (n43 c44 : Nat), e41 = .returned (Value.slice A42 n43 c44) ∧ (
                      kp w35 b1 0 2 w40 <|
                      Calls Try.prog 13 #[ofL a39] w40 fun e46 w45 =>
                      ∃ (A47 : Option Addr) (n48 c49 : Nat), e46 = .returned (Value.slice A47 n48 c49) ∧ (
                        Calls Try.prog 11 #[Value.slice A42 n43 c44, Value.slice A47 n48 c49] w45 fun e51 w50 =>
                        ∃ t52 : Bool, e51 = .returned (Value.bool t52) ∧ (
                          vIf t52
                          (Calls Try.prog 14 #[] w50 fun e54 w53 =>
                            ∃ t55 : Bool, e54 = .returned (Value.bool t55) ∧ (
                              Q (Value.bool t55) w53))
                          (Q (Value.bool false) w50)))))
                  (Q (Value.bool false) w35))
                (Q (Value.bool false) w35))
              (Q (Value.bool false) w35))
            (Q (Value.bool false) w35))))))
def F3.an : Ann := ⟨[], []⟩
theorem F3.eq (x0 : List Value) (x1 : List Value) (x2 : ByteArray) (w : World) (Q : Value → World → Prop) : vcFn Try.prog F3.an 3 [ofL x0, ofL x1, Value.string x2] w Q = F3.vc x0 x1 x2 w Q := by kernel_rfl
theorem F3.of (x0 : List Value) (x1 : List Value) (x2 : ByteArray) (w : World) {Q : Value → World → Prop} (h : F3.vc x0 x1 x2 w Q) : Calls Try.prog 3 #[ofL x0, ofL x1, Value.string x2] w (fun e w' => ∃ v, e = .returned v ∧ Q v w') := vcFn_sound noCount mixed ((F3.eq x0 x1 x2 w Q).symm ▸ h)
/-! ### function 4: stillage/stillagelaw11.FolderCrash -/
def F4.vc (x0 : List Value) (x1 : Int) (w : World) (Q : Value → World → Prop) : Prop :=
  nw w x0 25 fun b1 w2 =>
  ldA 2 w2 b1 0 fun a3 =>
  Calls Try.prog 15 #[ofL a3, Value.int .i64 x1] w2 fun e5 w4 =>
  ∃ a6 : List Value, e5 = .returned (ofL a6) ∧ (
    nw w4 [Value.slice none 0 0, Value.slice none 0 0] 25 fun b7 w8 =>
    gd (a6.length == 2) <|
    st w8 b7 0 a6 fun w9 =>
    ldA 2 w9.drew b7 0 fun a10 =>
    ldA 2 w9.drew b1 0 fun a11 =>
    Calls Try.prog 16 #[ofL a11, Value.int .i64 x1] w9.drew fun e13 w12 =>
    ∃ (A14 : Option Addr) (n15 c16 : Nat), e13 = .returned (Value.slice A14 n15 c16) ∧ (
      kp w9.drew b7 0 2 w12 <|
      Calls Try.prog 10 #[ofL a10, ofL ([Value.slice A14 n15 c16] ++ ([Value.slice none 0 0] ++ []))] w12 fun e18 w17 =>
      ∃ t19 : Bool, e18 = .returned (Value.bool t19) ∧ (
        vIf t19
        (ldA 2 w17 b1 0 fun a20 =>
          ldA 2 w17 b1 0 fun a21 =>
          Calls Try.prog 18 #[ofL a20] w17 fun e23 w22 =>
          ∃ (A24 : Option Addr) (n25 c26 : Nat), e23 = .returned (Value.slice A24 n25 c26) ∧ (
            kp w17 b1 0 2 w22 <|
            Calls Try.prog 19 #[ofL a21] w22 fun e28 w27 =>
            ∃ (A29 : Option Addr) (n30 c31 : Nat), e28 = .returned (Value.slice A29 n30 c31) ∧ (
              Calls Try.prog 17 #[Value.slice A24 n25 c26, Value.slice A29 n30 c31] w27 fun e33 w32 =>
              ∃ t34 : Bool, e33 = .returned (Value.bool t34) ∧ (
                vIf t34
                (ldA 2 w32 b1 0 fun a35 =>
                  ldA 2 w32 b1 0 fun a36 =>
                  Calls Try.prog 20 #[ofL a35] w32 fun e38 w37 =>
                  ∃ a39 : List Value, e38 = .returned (ofL a39) ∧ (
                    kp w32 b1 0 2 w37 <|
                    Calls Try.prog 13 #[ofL a36] w37 fun e41 w40 =>
                    ∃ (A42 : Option Addr) (n43 c44 : Nat), e41 = .returned (Value.slice A42 n43 c44) ∧ (
                      Calls Try.prog 10 #[ofL a39, ofL ([Value.slice A42 n43 c44] ++ ([Value.slice none 0 0] ++ []))] w40 fun e46 w45 =>
                      ∃ t47 : Bool, e46 = .returned (Value.bool t47) ∧ (
                        vIf t47
                        (Calls Try.prog 14 #[] w45 fun e49 w48 =>
                          ∃ t50 : Bool, e49 = .returned (Value.bool t50) ∧ (
                            Q (Value.bool t50) w48))
                        (Q (Value.bool false) w45)))))
                (Q (Value.bool false) w32)))))
        (Q (Value.bool false) w17))))
def F4.an : Ann := ⟨[], []⟩
theorem F4.eq (x0 : List Value) (x1 : Int) (w : World) (Q : Value → World → Prop) : vcFn Try.prog F4.an 4 [ofL x0, Value.int .i64 x1] w Q = F4.vc x0 x1 w Q := by kernel_rfl
theorem F4.of (x0 : List Value) (x1 : Int) (w : World) {Q : Value → World → Prop} (h : F4.vc x0 x1 w Q) : Calls Try.prog 4 #[ofL x0, Value.int .i64 x1] w (fun e w' => ∃ v, e = .returned v ∧ Q v w') := vcFn_sound noCount mixed ((F4.eq x0 x1 w Q).symm ▸ h)
/-! ### function 5: stillage/stillagelaw11.FolderLasts -/
def F5.b9c (Q : Value → World → Prop) (C5 : (Int × (Nat × Nat) × (Nat × Nat) × (Nat × Nat) × (Option Addr × Nat × Nat) × Int × Unit) → World → Prop) (C9 : (Int × (Nat × Nat) × (Nat × Nat) × (Nat × Nat) × (Option Addr × Nat × Nat) × Int × Bool × Int × Unit) → World → Prop) (x1 : Int) (x2 : (Nat × Nat)) (x5 : (Nat × Nat)) (x6 : (Nat × Nat)) (x7 : (Option Addr × Nat × Nat)) (x8 : Int) (x9 : Bool) (x10 : Int) (w : World) : Prop :=
  vIf (decide (x10 < ((x7.2.1 : Nat) : Int)))
  (vIf x9
    (jnC C9 ((x1), (x2.1, x2.2), (x5.1, x5.2), (x6.1, x6.2), (x7.1, x7.2.1, x7.2.2), (x8), true, ((IntKind.wrap .i64 (x10 + 1))), ()) w.drew)
    (dr x7.1 fun b26 o27 =>
      gd (decide (0 ≤ x10)) <|
      gd (decide (x10 < ((x7.2.1 : Nat) : Int))) <|
      ldI .i64 w.drew b26 (o27 + (x10).toNat * 1) fun i28 =>
      ldSl w.drew x6.1 x6.2 fun A29 n30 c31 =>
      dr A29 fun b32 o33 =>
      gd (decide (0 ≤ x8)) <|
      gd (decide (x8 < ((n30 : Nat) : Int))) <|
      ldI .i64 w.drew b32 ((o33 + (x8).toNat * 2) + 1) fun i34 =>
      jnC C9 ((x1), (x2.1, x2.2), (x5.1, x5.2), (x6.1, x6.2), (x7.1, x7.2.1, x7.2.2), (x8), (i28 == i34), ((IntKind.wrap .i64 (x10 + 1))), ()) w.drew))
  (vIf (!x9)
    (Q (Value.bool false) w)
    (jnC C5 ((x1), (x2.1, x2.2), (x5.1, x5.2), (x6.1, x6.2), (x7.1, x7.2.1, x7.2.2), ((IntKind.wrap .i64 (x8 + 1))), ()) w))
def F5.b9 (Q : Value → World → Prop) (C5 : (Int × (Nat × Nat) × (Nat × Nat) × (Nat × Nat) × (Option Addr × Nat × Nat) × Int × Unit) → World → Prop) : (Int × (Nat × Nat) × (Nat × Nat) × (Nat × Nat) × (Option Addr × Nat × Nat) × Int × Bool × Int × Unit) → World → ((Int × (Nat × Nat) × (Nat × Nat) × (Nat × Nat) × (Option Addr × Nat × Nat) × Int × Bool × Int × Unit) → World → Prop) → Prop := fun s w C9 => ∀ _ : Nat → Value, F5.b9c Q C5 C9 s.1 s.2.1 s.2.2.1 s.2.2.2.1 s.2.2.2.2.1 s.2.2.2.2.2.1 s.2.2.2.2.2.2.1 s.2.2.2.2.2.2.2.1 w
def F5.l9 (Q : Value → World → Prop) (C5 : (Int × (Nat × Nat) × (Nat × Nat) × (Nat × Nat) × (Option Addr × Nat × Nat) × Int × Unit) → World → Prop) : (Int × (Nat × Nat) × (Nat × Nat) × (Nat × Nat) × (Option Addr × Nat × Nat) × Int × Bool × Int × Unit) → World → Prop := fun s w => ∃ n, loopC (F5.b9 Q C5) n s w
def F5.b5c (Q : Value → World → Prop) (C5 : (Int × (Nat × Nat) × (Nat × Nat) × (Nat × Nat) × (Option Addr × Nat × Nat) × Int × Unit) → World → Prop) (x1 : Int) (x2 : (Nat × Nat)) (x5 : (Nat × Nat)) (x6 : (Nat × Nat)) (x7 : (Option Addr × Nat × Nat)) (x8 : Int) (w : World) : Prop :=
  ldSl w x6.1 x6.2 fun A23 n24 c25 =>
  vIf (decide (x8 < ((n24 : Nat) : Int)))
  (jnC (F5.l9 Q C5) ((x1), (x2.1, x2.2), (x5.1, x5.2), (x6.1, x6.2), (x7.1, x7.2.1, x7.2.2), (x8), false, (0), ()) w)
  (ldA 2 w.drew x5.1 x5.2 fun a35 =>
    ldA 2 w.drew x5.1 x5.2 fun a36 =>
    Calls Try.prog 15 #[ofL a35, Value.int .i64 x1] w.drew fun e38 w37 =>
    ∃ a39 : List Value, e38 = .returned (ofL a39) ∧ (
      kp w.drew x5.1 x5.2 2 w37 <|
      Calls Try.prog 10 #[ofL a39, ofL a36] w37 fun e41 w40 =>
      ∃ t42 : Bool, e41 = .returned (Value.bool t42) ∧ (
        vIf t42
        (ldA 2 w40 x2.1 x2.2 fun a43 =>
          ldSl w40 x2.1 (x2.2 + 1) fun A44 n45 c46 =>
          ldA 2 w40 x5.1 x5.2 fun a47 =>
          Calls Try.prog 15 #[ofL a43, Value.int .i64 ((n45 : Nat) : Int)] w40 fun e49 w48 =>
          ∃ a50 : List Value, e49 = .returned (ofL a50) ∧ (
            kp w40 x5.1 x5.2 2 w48 <|
            Calls Try.prog 10 #[ofL a50, ofL a47] w48 fun e52 w51 =>
            ∃ t53 : Bool, e52 = .returned (Value.bool t53) ∧ (
              vIf t53
              (Calls Try.prog 14 #[] w51 fun e55 w54 =>
                ∃ t56 : Bool, e55 = .returned (Value.bool t56) ∧ (
                  Q (Value.bool t56) w54))
              (Q (Value.bool false) w51))))
        (Q (Value.bool false) w40))))
def F5.b5 (Q : Value → World → Prop) : (Int × (Nat × Nat) × (Nat × Nat) × (Nat × Nat) × (Option Addr × Nat × Nat) × Int × Unit) → World → ((Int × (Nat × Nat) × (Nat × Nat) × (Nat × Nat) × (Option Addr × Nat × Nat) × Int × Unit) → World → Prop) → Prop := fun s w C5 => ∀ _ : Nat → Value, F5.b5c Q C5 s.1 s.2.1 s.2.2.1 s.2.2.2.1 s.2.2.2.2.1 s.2.2.2.2.2.1 w
def F5.l5 (Q : Value → World → Prop) : (Int × (Nat × Nat) × (Nat × Nat) × (Nat × Nat) × (Option Addr × Nat × Nat) × Int × Unit) → World → Prop := fun s w => ∃ n, loopC (F5.b5 Q) n s w
def F5.vc (x0 : List Value) (x1 : Int) (w : World) (Q : Value → World → Prop) : Prop :=
  nw w x0 25 fun b1 w2 =>
  ldA 2 w2 b1 0 fun a3 =>
  Calls Try.prog 20 #[ofL a3] w2 fun e5 w4 =>
  ∃ a6 : List Value, e5 = .returned (ofL a6) ∧ (
    nw w4 [Value.slice none 0 0, Value.slice none 0 0] 25 fun b7 w8 =>
    gd (a6.length == 2) <|
    st w8 b7 0 a6 fun w9 =>
    ldA 2 w9 b1 0 fun a10 =>
    Calls Try.prog 15 #[ofL a10, Value.int .i64 x1] w9 fun e12 w11 =>
    ∃ a13 : List Value, e12 = .returned (ofL a13) ∧ (
      nw w11 [Value.slice none 0 0, Value.slice none 0 0] 25 fun b14 w15 =>
      gd (a13.length == 2) <|
      st w15 b14 0 a13 fun w16 =>
      ldA 2 w16 b1 0 fun a17 =>
      Calls Try.prog 18 #[ofL a17] w16 fun e19 w18 =>
      ∃ (A20 : Option Addr) (n21 c22 : Nat), e19 = .returned (Value.slice A20 n21 c22) ∧ (
        jnC (F5.l5 Q) ((x1), (b1, 0), (b7, 0), (b14, 0), (A20, n21, c22), (0), ()) w18)))
def F5.an : Ann := ⟨[(5, [(1, .kI .i64), (2, .kL), (5, .kL), (6, .kL), (7, .kSl), (8, .kI .i64)]), (9, [(1, .kI .i64), (2, .kL), (5, .kL), (6, .kL), (7, .kSl), (8, .kI .i64), (9, .kB), (10, .kI .i64)])], []⟩
theorem F5.eq (x0 : List Value) (x1 : Int) (w : World) (Q : Value → World → Prop) : vcFn Try.prog F5.an 5 [ofL x0, Value.int .i64 x1] w Q = F5.vc x0 x1 w Q := by kernel_rfl
theorem F5.of (x0 : List Value) (x1 : Int) (w : World) {Q : Value → World → Prop} (h : F5.vc x0 x1 w Q) : Calls Try.prog 5 #[ofL x0, Value.int .i64 x1] w (fun e w' => ∃ v, e = .returned v ∧ Q v w') := vcFn_sound noCount mixed ((F5.eq x0 x1 w Q).symm ▸ h)
/-! ### function 6: stillage/folder.Do -/
def F6.vc (x0 : List Value) (x1 : List Value) (w : World) (Q : Value → World → Prop) : Prop :=
  nw w x0 25 fun b1 w2 =>
  nw w2 x1 27 fun b3 w4 =>
  nw w4 [Value.slice none 0 0, Value.slice none 0 0] 25 fun b5 w6 =>
  ldA 2 w6 b1 0 fun a7 =>
  ldA 4 w6 b3 0 fun a8 =>
  Calls Try.prog 21 #[ofL a7, ofL a8] w6 fun e10 w9 =>
  ∃ i11 : Int, e10 = .returned (Value.int .i64 i11) ∧ (
    vIf (i11 != 0)
    (ldA 2 w9 b1 0 fun a12 =>
      gd (a12.length == 2) <|
      st w9 b5 0 a12 fun w13 =>
      ldA 2 w13 b5 0 fun a14 =>
      Q (Value.tuple #[ofL a14, Value.int .i64 i11]) w13)
    (ldSl w9.drew b1 0 fun A15 n16 c17 =>
      ldSl w9.drew b1 (0 + 1) fun A18 n19 c20 =>
      ldA 4 w9.drew b3 0 fun a21 =>
      (Calls Try.prog 22 #[Value.slice A18 n19 c20] w9.drew fun e23 w22 =>
        ∃ (A24 : Option Addr) (n25 c26 : Nat), e23 = .returned (Value.slice A24 n25 c26) ∧ (
          kp w9.drew b3 0 4 w22 <|
          kp w9.drew b1 0 1 w22 <|
          gd (a21.length == 4) <|
          nw w22 (a21 ++ []) 27 fun b27 w28 =>
          kp w9.drew b1 (0 + 1) 1 w28 <|
          kp w9.drew b1 0 1 w28 <|
          app w28 4 48 Z27 27 A24 n25 c26 (Value.slice (some ⟨b27, 0, none⟩) 1 1) fun A29 n30 c31 w32 =>
          kp w9.drew b1 0 1 w32 <|
          gd (([Value.slice A15 n16 c17] ++ ([Value.slice A29 n30 c31] ++ [])).length == 2) <|
          st w32 b5 0 ([Value.slice A15 n16 c17] ++ ([Value.slice A29 n30 c31] ++ [])) fun w33 =>
          ldA 2 w33 b5 0 fun a34 =>
          Q (Value.tuple #[ofL a34, Value.int .i64 0]) w33)) ∧
      (gd (a21.length == 4) <|
        nw w9.drew (a21 ++ []) 27 fun b35 w36 =>
        kp w9.drew b1 (0 + 1) 1 w36 <|
        kp w9.drew b1 0 1 w36 <|
        Calls Try.prog 22 #[Value.slice A18 n19 c20] w36 fun e38 w37 =>
        ∃ (A39 : Option Addr) (n40 c41 : Nat), e38 = .returned (Value.slice A39 n40 c41) ∧ (
          kp w9.drew b3 0 4 w37 <|
          kp w9.drew b1 0 1 w37 <|
          app w37 4 48 Z27 27 A39 n40 c41 (Value.slice (some ⟨b35, 0, none⟩) 1 1) fun A42 n43 c44 w45 =>
          kp w9.drew b1 0 1 w45 <|
          gd (([Value.slice A15 n16 c17] ++ ([Value.slice A42 n43 c44] ++ [])).length == 2) <|
          st w45 b5 0 ([Value.slice A15 n16 c17] ++ ([Value.slice A42 n43 c44] ++ [])) fun w46 =>
          ldA 2 w46 b5 0 fun a47 =>
          Q (Value.tuple #[ofL a47, Value.int .i64 0]) w46))))
def F6.an : Ann := ⟨[], []⟩
theorem F6.eq (x0 : List Value) (x1 : List Value) (w : World) (Q : Value → World → Prop) : vcFn Try.prog F6.an 6 [ofL x0, ofL x1] w Q = F6.vc x0 x1 w Q := by kernel_rfl
theorem F6.of (x0 : List Value) (x1 : List Value) (w : World) {Q : Value → World → Prop} (h : F6.vc x0 x1 w Q) : Calls Try.prog 6 #[ofL x0, ofL x1] w (fun e w' => ∃ v, e = .returned v ∧ Q v w') := vcFn_sound noCount mixed ((F6.eq x0 x1 w Q).symm ▸ h)
/-! ### function 7: stillage/stillageref11.Do -/
def F7.k12c (Q : Value → World → Prop) (x2 : (Nat × Nat)) (x3 : (Nat × Nat)) (x4 : (Nat × Nat)) (w : World) : Prop :=
  ldSl w x2.1 (x2.2 + 1) fun A41 n42 c43 =>
  app w 4 48 Z27 27 none 0 0 (Value.slice A41 n42 c43) fun A44 n45 c46 w47 =>
  ldSl w47.drew x2.1 x2.2 fun A48 n49 c50 =>
  ldA 4 w47.drew x3.1 x3.2 fun a51 =>
  gd (a51.length == 4) <|
  nw w47.drew (a51 ++ []) 27 fun b52 w53 =>
  kp w47.drew x2.1 x2.2 1 w53 <|
  app w53 4 48 Z27 27 A44 n45 c46 (Value.slice (some ⟨b52, 0, none⟩) 1 1) fun A54 n55 c56 w57 =>
  kp w47.drew x2.1 x2.2 1 w57 <|
  gd (([Value.slice A48 n49 c50] ++ ([Value.slice A54 n55 c56] ++ [])).length == 2) <|
  st w57 x4.1 x4.2 ([Value.slice A48 n49 c50] ++ ([Value.slice A54 n55 c56] ++ [])) fun w58 =>
  ldA 2 w58 x4.1 x4.2 fun a59 =>
  Q (Value.tuple #[ofL a59, Value.int .i64 0]) w58
def F7.k12 (Q : Value → World → Prop) : ((Nat × Nat) × (Nat × Nat) × (Nat × Nat) × Unit) → World → Prop := fun s w => ∀ _ : Nat → Value, F7.k12c Q s.1 s.2.1 s.2.2.1 w
def F7.k11c (Q : Value → World → Prop) (x2 : (Nat × Nat)) (x3 : (Nat × Nat)) (x4 : (Nat × Nat)) (x58 : Bool) (w : World) : Prop :=
  vIf x58
  (ldA 2 w x2.1 x2.2 fun a38 =>
    gd (a38.length == 2) <|
    st w x4.1 x4.2 a38 fun w39 =>
    ldA 2 w39 x4.1 x4.2 fun a40 =>
    Q (Value.tuple #[ofL a40, Value.int .i64 12]) w39)
  (jnC (F7.k12 Q) ((x2.1, x2.2), (x3.1, x3.2), (x4.1, x4.2), ()) w)
def F7.k11 (Q : Value → World → Prop) : ((Nat × Nat) × (Nat × Nat) × (Nat × Nat) × Bool × Unit) → World → Prop := fun s w => ∀ _ : Nat → Value, F7.k11c Q s.1 s.2.1 s.2.2.1 s.2.2.2.1 w
def F7.k10c (Q : Value → World → Prop) (x2 : (Nat × Nat)) (x3 : (Nat × Nat)) (x4 : (Nat × Nat)) (w : World) : Prop :=
  ldI .i64 w x3.1 x3.2 fun i33 =>
  vIf (i33 == 2)
  (ldS w x3.1 (x3.2 + 2) fun s34 =>
    Calls Try.prog 23 #[Value.string s34] w fun e36 w35 =>
    ∃ t37 : Bool, e36 = .returned (Value.bool t37) ∧ (
      jnC (F7.k11 Q) ((x2.1, x2.2), (x3.1, x3.2), (x4.1, x4.2), (!t37), ()) w35))
  (jnC (F7.k11 Q) ((x2.1, x2.2), (x3.1, x3.2), (x4.1, x4.2), false, ()) w)
def F7.k10 (Q : Value → World → Prop) : ((Nat × Nat) × (Nat × Nat) × (Nat × Nat) × Unit) → World → Prop := fun s w => ∀ _ : Nat → Value, F7.k10c Q s.1 s.2.1 s.2.2.1 w
def F7.k9c (Q : Value → World → Prop) (x2 : (Nat × Nat)) (x3 : (Nat × Nat)) (x4 : (Nat × Nat)) (x48 : Bool) (w : World) : Prop :=
  vIf x48
  (ldA 2 w x2.1 x2.2 fun a30 =>
    gd (a30.length == 2) <|
    st w x4.1 x4.2 a30 fun w31 =>
    ldA 2 w31 x4.1 x4.2 fun a32 =>
    Q (Value.tuple #[ofL a32, Value.int .i64 6]) w31)
  (jnC (F7.k10 Q) ((x2.1, x2.2), (x3.1, x3.2), (x4.1, x4.2), ()) w)
def F7.k9 (Q : Value → World → Prop) : ((Nat × Nat) × (Nat × Nat) × (Nat × Nat) × Bool × Unit) → World → Prop := fun s w => ∀ _ : Nat → Value, F7.k9c Q s.1 s.2.1 s.2.2.1 s.2.2.2.1 w
def F7.k8c (Q : Value → World → Prop) (x2 : (Nat × Nat)) (x3 : (Nat × Nat)) (x4 : (Nat × Nat)) (x7 : Bool) (w : World) : Prop :=
  ldI .i64 w x3.1 x3.2 fun i29 =>
  vIf (decide (i29 > 1))
  (jnC (F7.k9 Q) ((x2.1, x2.2), (x3.1, x3.2), (x4.1, x4.2), (!x7), ()) w)
  (jnC (F7.k9 Q) ((x2.1, x2.2), (x3.1, x3.2), (x4.1, x4.2), false, ()) w)
def F7.k8 (Q : Value → World → Prop) : ((Nat × Nat) × (Nat × Nat) × (Nat × Nat) × Bool × Unit) → World → Prop := fun s w => ∀ _ : Nat → Value, F7.k8c Q s.1 s.2.1 s.2.2.1 s.2.2.2.1 w
def F7.k7c (Q : Value → World → Prop) (x2 : (Nat × Nat)) (x3 : (Nat × Nat)) (x4 : (Nat × Nat)) (x7 : Bool) (x40 : Bool) (w : World) : Prop :=
  vIf x40
  (ldA 2 w x2.1 x2.2 fun a26 =>
    gd (a26.length == 2) <|
    st w x4.1 x4.2 a26 fun w27 =>
    ldA 2 w27 x4.1 x4.2 fun a28 =>
    Q (Value.tuple #[ofL a28, Value.int .i64 7]) w27)
  (jnC (F7.k8 Q) ((x2.1, x2.2), (x3.1, x3.2), (x4.1, x4.2), x7, ()) w)
def F7.k7 (Q : Value → World → Prop) : ((Nat × Nat) × (Nat × Nat) × (Nat × Nat) × Bool × Bool × Unit) → World → Prop := fun s w => ∀ _ : Nat → Value, F7.k7c Q s.1 s.2.1 s.2.2.1 s.2.2.2.1 s.2.2.2.2.1 w
def F7.k6c (Q : Value → World → Prop) (x2 : (Nat × Nat)) (x3 : (Nat × Nat)) (x4 : (Nat × Nat)) (x7 : Bool) (w : World) : Prop :=
  ldI .i64 w x3.1 x3.2 fun i25 =>
  vIf (i25 == 1)
  (jnC (F7.k7 Q) ((x2.1, x2.2), (x3.1, x3.2), (x4.1, x4.2), x7, x7, ()) w)
  (jnC (F7.k7 Q) ((x2.1, x2.2), (x3.1, x3.2), (x4.1, x4.2), x7, false, ()) w)
def F7.k6 (Q : Value → World → Prop) : ((Nat × Nat) × (Nat × Nat) × (Nat × Nat) × Bool × Unit) → World → Prop := fun s w => ∀ _ : Nat → Value, F7.k6c Q s.1 s.2.1 s.2.2.1 s.2.2.2.1 w
def F7.k5c (Q : Value → World → Prop) (x2 : (Nat × Nat)) (x3 : (Nat × Nat)) (x4 : (Nat × Nat)) (x7 : Bool) (x33 : Bool) (w : World) : Prop :=
  vIf x33
  (ldA 2 w x2.1 x2.2 fun a22 =>
    gd (a22.length == 2) <|
    st w x4.1 x4.2 a22 fun w23 =>
    ldA 2 w23 x4.1 x4.2 fun a24 =>
    Q (Value.tuple #[ofL a24, Value.int .i64 12]) w23)
  (jnC (F7.k6 Q) ((x2.1, x2.2), (x3.1, x3.2), (x4.1, x4.2), x7, ()) w)
def F7.k5 (Q : Value → World → Prop) : ((Nat × Nat) × (Nat × Nat) × (Nat × Nat) × Bool × Bool × Unit) → World → Prop := fun s w => ∀ _ : Nat → Value, F7.k5c Q s.1 s.2.1 s.2.2.1 s.2.2.2.1 s.2.2.2.2.1 w
def F7.k4c (Q : Value → World → Prop) (x2 : (Nat × Nat)) (x3 : (Nat × Nat)) (x4 : (Nat × Nat)) (x7 : Bool) (w : World) : Prop :=
  ldI .i64 w x3.1 x3.2 fun i17 =>
  vIf (i17 == 1)
  (ldS w x3.1 (x3.2 + 1) fun s18 =>
    Calls Try.prog 23 #[Value.string s18] w fun e20 w19 =>
    ∃ t21 : Bool, e20 = .returned (Value.bool t21) ∧ (
      jnC (F7.k5 Q) ((x2.1, x2.2), (x3.1, x3.2), (x4.1, x4.2), x7, (!t21), ()) w19))
  (jnC (F7.k5 Q) ((x2.1, x2.2), (x3.1, x3.2), (x4.1, x4.2), x7, false, ()) w)
def F7.k4 (Q : Value → World → Prop) : ((Nat × Nat) × (Nat × Nat) × (Nat × Nat) × Bool × Unit) → World → Prop := fun s w => ∀ _ : Nat → Value, F7.k4c Q s.1 s.2.1 s.2.2.1 s.2.2.2.1 w
def F7.k3c (Q : Value → World → Prop) (x2 : (Nat × Nat)) (x3 : (Nat × Nat)) (x4 : (Nat × Nat)) (x7 : Bool) (x23 : Bool) (w : World) : Prop :=
  vIf x23
  (ldA 2 w x2.1 x2.2 fun a14 =>
    gd (a14.length == 2) <|
    st w x4.1 x4.2 a14 fun w15 =>
    ldA 2 w15 x4.1 x4.2 fun a16 =>
    Q (Value.tuple #[ofL a16, Value.int .i64 2]) w15)
  (jnC (F7.k4 Q) ((x2.1, x2.2), (x3.1, x3.2), (x4.1, x4.2), x7, ()) w)
def F7.k3 (Q : Value → World → Prop) : ((Nat × Nat) × (Nat × Nat) × (Nat × Nat) × Bool × Bool × Unit) → World → Prop := fun s w => ∀ _ : Nat → Value, F7.k3c Q s.1 s.2.1 s.2.2.1 s.2.2.2.1 s.2.2.2.2.1 w
def F7.vc (x0 : List Value) (x1 : List Value) (w : World) (Q : Value → World → Prop) : Prop :=
  nw w x0 25 fun b1 w2 =>
  nw w2 x1 27 fun b3 w4 =>
  nw w4 [Value.slice none 0 0, Value.slice none 0 0] 25 fun b5 w6 =>
  ldA 2 w6 b1 0 fun a7 =>
  ldS w6 b3 (0 + 1) fun s8 =>
  Calls Try.prog 9 #[ofL a7, Value.string s8] w6 fun e10 w9 =>
  ∃ i11 : Int, ∃ t12 : Bool, e10 = .returned (Value.tuple #[Value.int .i64 i11, Value.bool t12]) ∧ (
    ldI .i64 w9 b3 0 fun i13 =>
    vIf (decide (i13 < 1))
    (jnC (F7.k3 Q) ((b1, 0), (b3, 0), (b5, 0), t12, true, ()) w9)
    (ldI .i64 w9 b3 0 fun i60 =>
      jnC (F7.k3 Q) ((b1, 0), (b3, 0), (b5, 0), t12, (decide (i60 > 3)), ()) w9))
def F7.an : Ann := ⟨[], [(3, [(2, .kL), (3, .kL), (4, .kL), (7, .kB), (23, .kB)]), (4, [(2, .kL), (3, .kL), (4, .kL), (7, .kB)]), (5, [(2, .kL), (3, .kL), (4, .kL), (7, .kB), (33, .kB)]), (6, [(2, .kL), (3, .kL), (4, .kL), (7, .kB)]), (7, [(2, .kL), (3, .kL), (4, .kL), (7, .kB), (40, .kB)]), (8, [(2, .kL), (3, .kL), (4, .kL), (7, .kB)]), (9, [(2, .kL), (3, .kL), (4, .kL), (48, .kB)]), (10, [(2, .kL), (3, .kL), (4, .kL)]), (11, [(2, .kL), (3, .kL), (4, .kL), (58, .kB)]), (12, [(2, .kL), (3, .kL), (4, .kL)])]⟩
theorem F7.eq (x0 : List Value) (x1 : List Value) (w : World) (Q : Value → World → Prop) : vcFn Try.prog F7.an 7 [ofL x0, ofL x1] w Q = F7.vc x0 x1 w Q := by kernel_rfl
theorem F7.of (x0 : List Value) (x1 : List Value) (w : World) {Q : Value → World → Prop} (h : F7.vc x0 x1 w Q) : Calls Try.prog 7 #[ofL x0, ofL x1] w (fun e w' => ∃ v, e = .returned v ∧ Q v w') := vcFn_sound noCount mixed ((F7.eq x0 x1 w Q).symm ▸ h)
/-! ### function 8: stillage/folder.Find -/
def F8.vc (x0 : List Value) (x1 : ByteArray) (w : World) (Q : Value → World → Prop) : Prop :=
  nw w x0 25 fun b1 w2 =>
  ldA 2 w2 b1 0 fun a3 =>
  Calls Try.prog 12 #[ofL a3] w2 fun e5 w4 =>
  ∃ (A6 : Option Addr) (n7 c8 : Nat), e5 = .returned (Value.slice A6 n7 c8) ∧ (
    Calls Try.prog 24 #[Value.slice A6 n7 c8, Value.string x1, Value.func (.func 25) #[] #[]] w4 fun e10 w9 =>
    ∃ i11 : Int, ∃ t12 : Bool, e10 = .returned (Value.tuple #[Value.int .i64 i11, Value.bool t12]) ∧ (
      vIf (!t12)
      (Q (Value.tuple #[Value.int .i64 0, Value.bool false]) w9)
      (dr A6 fun b13 o14 =>
        gd (decide (0 ≤ i11)) <|
        gd (decide (i11 < ((n7 : Nat) : Int))) <|
        ldI .i64 w9 b13 ((o14 + (i11).toNat * 2) + 1) fun i15 =>
        Q (Value.tuple #[Value.int .i64 i15, Value.bool true]) w9)))
def F8.an : Ann := ⟨[], []⟩
theorem F8.eq (x0 : List Value) (x1 : ByteArray) (w : World) (Q : Value → World → Prop) : vcFn Try.prog F8.an 8 [ofL x0, Value.string x1] w Q = F8.vc x0 x1 w Q := by kernel_rfl
theorem F8.of (x0 : List Value) (x1 : ByteArray) (w : World) {Q : Value → World → Prop} (h : F8.vc x0 x1 w Q) : Calls Try.prog 8 #[ofL x0, Value.string x1] w (fun e w' => ∃ v, e = .returned v ∧ Q v w') := vcFn_sound noCount mixed ((F8.eq x0 x1 w Q).symm ▸ h)
/-! ### function 9: stillage/stillageref11.Find -/
def F9.vc (x0 : List Value) (x1 : ByteArray) (w : World) (Q : Value → World → Prop) : Prop :=
  nw w x0 25 fun b1 w2 =>
  ldA 2 w2 b1 0 fun a3 =>
  Calls Try.prog 13 #[ofL a3] w2 fun e5 w4 =>
  ∃ (A6 : Option Addr) (n7 c8 : Nat), e5 = .returned (Value.slice A6 n7 c8) ∧ (
    Calls Try.prog 26 #[Value.slice A6 n7 c8, Value.string x1] w4 fun e10 w9 =>
    ∃ i11 : Int, ∃ t12 : Bool, e10 = .returned (Value.tuple #[Value.int .i64 i11, Value.bool t12]) ∧ (
      Q (Value.tuple #[Value.int .i64 i11, Value.bool t12]) w9))
def F9.an : Ann := ⟨[], []⟩
theorem F9.eq (x0 : List Value) (x1 : ByteArray) (w : World) (Q : Value → World → Prop) : vcFn Try.prog F9.an 9 [ofL x0, Value.string x1] w Q = F9.vc x0 x1 w Q := by kernel_rfl
theorem F9.of (x0 : List Value) (x1 : ByteArray) (w : World) {Q : Value → World → Prop} (h : F9.vc x0 x1 w Q) : Calls Try.prog 9 #[ofL x0, Value.string x1] w (fun e w' => ∃ v, e = .returned v ∧ Q v w') := vcFn_sound noCount mixed ((F9.eq x0 x1 w Q).symm ▸ h)
/-! ### function 10: stillage/stillageref11.Same -/
def F10.b4c (Q : Value → World → Prop) (C4 : ((Nat × Nat) × (Nat × Nat) × Int × Unit) → World → Prop) (x2 : (Nat × Nat)) (x3 : (Nat × Nat)) (x5 : Int) (w : World) : Prop :=
  ldSl w x2.1 (x2.2 + 1) fun A20 n21 c22 =>
  vIf (decide (x5 < ((n21 : Nat) : Int)))
  (ldSl w.drew x2.1 (x2.2 + 1) fun A23 n24 c25 =>
    dr A23 fun b26 o27 =>
    gd (decide (0 ≤ x5)) <|
    gd (decide (x5 < ((n24 : Nat) : Int))) <|
    ldA 4 w.drew b26 (o27 + (x5).toNat * 4) fun a28 =>
    ldSl w.drew x3.1 (x3.2 + 1) fun A29 n30 c31 =>
    dr A29 fun b32 o33 =>
    gd (decide (0 ≤ x5)) <|
    gd (decide (x5 < ((n30 : Nat) : Int))) <|
    ldA 4 w.drew b32 (o33 + (x5).toNat * 4) fun a34 =>
    eqMx [false, true, true, false] a28 a34 fun t35 =>
    vIf (!t35)
    (Q (Value.bool false) w.drew)
    (jnC C4 ((x2.1, x2.2), (x3.1, x3.2), ((IntKind.wrap .i64 (x5 + 1))), ()) w.drew))
  (Q (Value.bool true) w)
def F10.b4 (Q : Value → World → Prop) : ((Nat × Nat) × (Nat × Nat) × Int × Unit) → World → (((Nat × Nat) × (Nat × Nat) × Int × Unit) → World → Prop) → Prop := fun s w C4 => ∀ _ : Nat → Value, F10.b4c Q C4 s.1 s.2.1 s.2.2.1 w
def F10.l4 (Q : Value → World → Prop) : ((Nat × Nat) × (Nat × Nat) × Int × Unit) → World → Prop := fun s w => ∃ n, loopC (F10.b4 Q) n s w
def F10.k3c (Q : Value → World → Prop) (x2 : (Nat × Nat)) (x3 : (Nat × Nat)) (w : World) : Prop :=
  jnC (F10.l4 Q) ((x2.1, x2.2), (x3.1, x3.2), (0), ()) w
def F10.k3 (Q : Value → World → Prop) : ((Nat × Nat) × (Nat × Nat) × Unit) → World → Prop := fun s w => ∀ _ : Nat → Value, F10.k3c Q s.1 s.2.1 w
def F10.vc (x0 : List Value) (x1 : List Value) (w : World) (Q : Value → World → Prop) : Prop :=
  nw w x0 25 fun b1 w2 =>
  nw w2 x1 25 fun b3 w4 =>
  ldSl w4 b1 0 fun A5 n6 c7 =>
  ldSl w4 b3 0 fun A8 n9 c10 =>
  Calls Try.prog 11 #[Value.slice A5 n6 c7, Value.slice A8 n9 c10] w4 fun e12 w11 =>
  ∃ t13 : Bool, e12 = .returned (Value.bool t13) ∧ (
    vIf (!t13)
    (Q (Value.bool false) w11)
    (ldSl w11 b1 (0 + 1) fun A14 n15 c16 =>
      ldSl w11 b3 (0 + 1) fun A17 n18 c19 =>
      vIf (((n15 : Nat) : Int) != ((n18 : Nat) : Int))
      (Q (Value.bool false) w11)
      (jnC (F10.k3 Q) ((b1, 0), (b3, 0), ()) w11)))
def F10.an : Ann := ⟨[(4, [(2, .kL), (3, .kL), (5, .kI .i64)])], [(3, [(2, .kL), (3, .kL)])]⟩
theorem F10.eq (x0 : List Value) (x1 : List Value) (w : World) (Q : Value → World → Prop) : vcFn Try.prog F10.an 10 [ofL x0, ofL x1] w Q = F10.vc x0 x1 w Q := by kernel_rfl
theorem F10.of (x0 : List Value) (x1 : List Value) (w : World) {Q : Value → World → Prop} (h : F10.vc x0 x1 w Q) : Calls Try.prog 10 #[ofL x0, ofL x1] w (fun e w' => ∃ v, e = .returned v ∧ Q v w') := vcFn_sound noCount mixed ((F10.eq x0 x1 w Q).symm ▸ h)
/-! ### function 11: stillage/stillageref11.Names -/
def F11.b4c (Q : Value → World → Prop) (C4 : ((Option Addr × Nat × Nat) × (Option Addr × Nat × Nat) × Int × Unit) → World → Prop) (x0 : (Option Addr × Nat × Nat)) (x1 : (Option Addr × Nat × Nat)) (x5 : Int) (w : World) : Prop :=
  vIf (decide (x5 < ((x0.2.1 : Nat) : Int)))
  (dr x0.1 fun b1 o2 =>
    gd (decide (0 ≤ x5)) <|
    gd (decide (x5 < ((x0.2.1 : Nat) : Int))) <|
    ldA 2 w.drew b1 (o2 + (x5).toNat * 2) fun a3 =>
    dr x1.1 fun b4 o5 =>
    gd (decide (0 ≤ x5)) <|
    gd (decide (x5 < ((x1.2.1 : Nat) : Int))) <|
    ldA 2 w.drew b4 (o5 + (x5).toNat * 2) fun a6 =>
    eqMx [true, false] a3 a6 fun t7 =>
    vIf (!t7)
    (Q (Value.bool false) w.drew)
    (jnC C4 ((x0.1, x0.2.1, x0.2.2), (x1.1, x1.2.1, x1.2.2), ((IntKind.wrap .i64 (x5 + 1))), ()) w.drew))
  (Q (Value.bool true) w)
def F11.b4 (Q : Value → World → Prop) : ((Option Addr × Nat × Nat) × (Option Addr × Nat × Nat) × Int × Unit) → World → (((Option Addr × Nat × Nat) × (Option Addr × Nat × Nat) × Int × Unit) → World → Prop) → Prop := fun s w C4 => ∀ _ : Nat → Value, F11.b4c Q C4 s.1 s.2.1 s.2.2.1 w
def F11.l4 (Q : Value → World → Prop) : ((Option Addr × Nat × Nat) × (Option Addr × Nat × Nat) × Int × Unit) → World → Prop := fun s w => ∃ n, loopC (F11.b4 Q) n s w
def F11.vc (x0A : Option Addr) (x0n x0c : Nat) (x1A : Option Addr) (x1n x1c : Nat) (w : World) (Q : Value → World → Prop) : Prop :=
  vIf (((x0n : Nat) : Int) != ((x1n : Nat) : Int))
  (Q (Value.bool false) w)
  (jnC (F11.l4 Q) ((x0A, x0n, x0c), (x1A, x1n, x1c), (0), ()) w)
def F11.an : Ann := ⟨[(4, [(0, .kSl), (1, .kSl), (5, .kI .i64)])], []⟩
theorem F11.eq (x0A : Option Addr) (x0n x0c : Nat) (x1A : Option Addr) (x1n x1c : Nat) (w : World) (Q : Value → World → Prop) : vcFn Try.prog F11.an 11 [Value.slice x0A x0n x0c, Value.slice x1A x1n x1c] w Q = F11.vc x0A x0n x0c x1A x1n x1c w Q := by kernel_rfl
theorem F11.of (x0A : Option Addr) (x0n x0c : Nat) (x1A : Option Addr) (x1n x1c : Nat) (w : World) {Q : Value → World → Prop} (h : F11.vc x0A x0n x0c x1A x1n x1c w Q) : Calls Try.prog 11 #[Value.slice x0A x0n x0c, Value.slice x1A x1n x1c] w (fun e w' => ∃ v, e = .returned v ∧ Q v w') := vcFn_sound noCount mixed ((F11.eq x0A x0n x0c x1A x1n x1c w Q).symm ▸ h)
/-! ### function 12: stillage/folder.Now -/
def F12.vc (x0 : List Value) (w : World) (Q : Value → World → Prop) : Prop :=
  nw w x0 25 fun b1 w2 =>
  ldA 2 w2 b1 0 fun a3 =>
  ldSl w2 b1 (0 + 1) fun A4 n5 c6 =>
  Calls Try.prog 27 #[ofL a3, Value.int .i64 ((n5 : Nat) : Int)] w2 fun e8 w7 =>
  ∃ (A9 : Option Addr) (n10 c11 : Nat), e8 = .returned (Value.slice A9 n10 c11) ∧ (
    Q (Value.slice A9 n10 c11) w7)
def F12.an : Ann := ⟨[], []⟩
theorem F12.eq (x0 : List Value) (w : World) (Q : Value → World → Prop) : vcFn Try.prog F12.an 12 [ofL x0] w Q = F12.vc x0 w Q := by kernel_rfl
theorem F12.of (x0 : List Value) (w : World) {Q : Value → World → Prop} (h : F12.vc x0 w Q) : Calls Try.prog 12 #[ofL x0] w (fun e w' => ∃ v, e = .returned v ∧ Q v w') := vcFn_sound noCount mixed ((F12.eq x0 w Q).symm ▸ h)
/-! ### function 13: stillage/stillageref11.Now -/
def F13.vc (x0 : List Value) (w : World) (Q : Value → World → Prop) : Prop :=
  nw w x0 25 fun b1 w2 =>
  ldA 2 w2 b1 0 fun a3 =>
  ldSl w2 b1 (0 + 1) fun A4 n5 c6 =>
  Calls Try.prog 16 #[ofL a3, Value.int .i64 ((n5 : Nat) : Int)] w2 fun e8 w7 =>
  ∃ (A9 : Option Addr) (n10 c11 : Nat), e8 = .returned (Value.slice A9 n10 c11) ∧ (
    Q (Value.slice A9 n10 c11) w7)
def F13.an : Ann := ⟨[], []⟩
theorem F13.eq (x0 : List Value) (w : World) (Q : Value → World → Prop) : vcFn Try.prog F13.an 13 [ofL x0] w Q = F13.vc x0 w Q := by kernel_rfl
theorem F13.of (x0 : List Value) (w : World) {Q : Value → World → Prop} (h : F13.vc x0 w Q) : Calls Try.prog 13 #[ofL x0] w (fun e w' => ∃ v, e = .returned v ∧ Q v w') := vcFn_sound noCount mixed ((F13.eq x0 w Q).symm ▸ h)
/-! ### function 14: stillage/stillagelaw11.lives -/
def F14.vc  (w : World) (Q : Value → World → Prop) : Prop :=
  Calls Try.prog 6 #[ofL ([Value.slice none 0 0] ++ ([Value.slice none 0 0] ++ [])), ofL ([Value.int .i64 1] ++ ([Value.string (⟨#[97]⟩ : ByteArray)] ++ ([Value.string (⟨#[]⟩ : ByteArray)] ++ ([Value.int .i64 7] ++ []))))] w fun e2 w1 =>
  ∃ a3 : List Value, ∃ i4 : Int, e2 = .returned (Value.tuple #[ofL a3, Value.int .i64 i4]) ∧ (
    nw w1 [Value.slice none 0 0, Value.slice none 0 0] 25 fun b5 w6 =>
    gd (a3.length == 2) <|
    st w6 b5 0 a3 fun w7 =>
    ldA 2 w7 b5 0 fun a8 =>
    Calls Try.prog 8 #[ofL a8, Value.string (⟨#[97]⟩ : ByteArray)] w7 fun e10 w9 =>
    ∃ i11 : Int, ∃ t12 : Bool, e10 = .returned (Value.tuple #[Value.int .i64 i11, Value.bool t12]) ∧ (
      vIf (i4 == 0)
      (vIf t12
        (vIf (i11 == 7)
          (ldA 2 w9 b5 0 fun a13 =>
            Calls Try.prog 15 #[ofL a13, Value.int .i64 0] w9 fun e15 w14 =>
            ∃ a16 : List Value, e15 = .returned (ofL a16) ∧ (
              gd (decide (0 < a16.length)) <|
              ptSl (nthV a16 0) fun A17 n18 c19 =>
              vIf (((n18 : Nat) : Int) == 0)
              (ldA 2 w14 b5 0 fun a20 =>
                Calls Try.prog 20 #[ofL a20] w14 fun e22 w21 =>
                ∃ a23 : List Value, e22 = .returned (ofL a23) ∧ (
                  gd (decide (0 < a23.length)) <|
                  ptSl (nthV a23 0) fun A24 n25 c26 =>
                  Q (Value.bool (((n25 : Nat) : Int) == 1)) w21))
              (Q (Value.bool false) w14)))
          (Q (Value.bool false) w9))
        (Q (Value.bool false) w9))
      (Q (Value.bool false) w9)))
def F14.an : Ann := ⟨[], []⟩
theorem F14.eq  (w : World) (Q : Value → World → Prop) : vcFn Try.prog F14.an 14 [] w Q = F14.vc  w Q := by kernel_rfl
theorem F14.of  (w : World) {Q : Value → World → Prop} (h : F14.vc  w Q) : Calls Try.prog 14 #[] w (fun e w' => ∃ v, e = .returned v ∧ Q v w') := vcFn_sound noCount mixed ((F14.eq  w Q).symm ▸ h)
/-! ### function 15: stillage/folder.Crash -/
def F15.vc (x0 : List Value) (x1 : Int) (w : World) (Q : Value → World → Prop) : Prop :=
  nw w x0 25 fun b1 w2 =>
  nw w2 [Value.slice none 0 0, Value.slice none 0 0] 25 fun b3 w4 =>
  ldA 2 w4 b1 0 fun a5 =>
  Calls Try.prog 27 #[ofL a5, Value.int .i64 x1] w4 fun e7 w6 =>
  ∃ (A8 : Option Addr) (n9 c10 : Nat), e7 = .returned (Value.slice A8 n9 c10) ∧ (
    gd (([Value.slice A8 n9 c10] ++ ([Value.slice none 0 0] ++ [])).length == 2) <|
    st w6 b3 0 ([Value.slice A8 n9 c10] ++ ([Value.slice none 0 0] ++ [])) fun w11 =>
    ldA 2 w11 b3 0 fun a12 =>
    Q (ofL a12) w11)
def F15.an : Ann := ⟨[], []⟩
theorem F15.eq (x0 : List Value) (x1 : Int) (w : World) (Q : Value → World → Prop) : vcFn Try.prog F15.an 15 [ofL x0, Value.int .i64 x1] w Q = F15.vc x0 x1 w Q := by kernel_rfl
theorem F15.of (x0 : List Value) (x1 : Int) (w : World) {Q : Value → World → Prop} (h : F15.vc x0 x1 w Q) : Calls Try.prog 15 #[ofL x0, Value.int .i64 x1] w (fun e w' => ∃ v, e = .returned v ∧ Q v w') := vcFn_sound noCount mixed ((F15.eq x0 x1 w Q).symm ▸ h)
/-! ### function 16: stillage/stillageref11.Behind -/
def F16.k15c (Q : Value → World → Prop) (C7 : (Int × (Nat × Nat) × (Option Addr × Nat × Nat) × Int × Unit) → World → Prop) (x1 : Int) (x2 : (Nat × Nat)) (x5 : (Option Addr × Nat × Nat)) (x7 : Int) (x8 : (Nat × Nat)) (w : World) : Prop :=
  ldI .i64 w x8.1 x8.2 fun i55 =>
  vIf (i55 == 3)
  (ldS w x8.1 (x8.2 + 1) fun s56 =>
    Calls Try.prog 29 #[Value.slice x5.1 x5.2.1 x5.2.2, Value.string s56] w fun e58 w57 =>
    ∃ (A59 : Option Addr) (n60 c61 : Nat), e58 = .returned (Value.slice A59 n60 c61) ∧ (
      jnC C7 ((x1), (x2.1, x2.2), (A59, n60, c61), ((IntKind.wrap .i64 (x7 + 1))), ()) w57))
  (jnC C7 ((x1), (x2.1, x2.2), (x5.1, x5.2.1, x5.2.2), ((IntKind.wrap .i64 (x7 + 1))), ()) w)
def F16.k15 (Q : Value → World → Prop) (C7 : (Int × (Nat × Nat) × (Option Addr × Nat × Nat) × Int × Unit) → World → Prop) : (Int × (Nat × Nat) × (Option Addr × Nat × Nat) × Int × (Nat × Nat) × Unit) → World → Prop := fun s w => ∀ _ : Nat → Value, F16.k15c Q C7 s.1 s.2.1 s.2.2.1 s.2.2.2.1 s.2.2.2.2.1 w
def F16.k14c (Q : Value → World → Prop) (C7 : (Int × (Nat × Nat) × (Option Addr × Nat × Nat) × Int × Unit) → World → Prop) (x1 : Int) (x2 : (Nat × Nat)) (x5 : (Option Addr × Nat × Nat)) (x7 : Int) (x8 : (Nat × Nat)) (x9 : Int) (x65 : Bool) (w : World) : Prop :=
  vIf x65
  (ldS w.drew x8.1 (x8.2 + 1) fun s43 =>
    ldS w.drew x8.1 (x8.2 + 2) fun s44 =>
    Calls Try.prog 29 #[Value.slice x5.1 x5.2.1 x5.2.2, Value.string s43] w.drew fun e46 w45 =>
    ∃ (A47 : Option Addr) (n48 c49 : Nat), e46 = .returned (Value.slice A47 n48 c49) ∧ (
      kp w.drew x8.1 (x8.2 + 2) 1 w45 <|
      Calls Try.prog 28 #[Value.slice A47 n48 c49, ofL ([Value.string s44] ++ ([Value.int .i64 x9] ++ []))] w45 fun e51 w50 =>
      ∃ (A52 : Option Addr) (n53 c54 : Nat), e51 = .returned (Value.slice A52 n53 c54) ∧ (
        jnC (F16.k15 Q C7) ((x1), (x2.1, x2.2), (A52, n53, c54), (x7), (x8.1, x8.2), ()) w50)))
  (jnC (F16.k15 Q C7) ((x1), (x2.1, x2.2), (x5.1, x5.2.1, x5.2.2), (x7), (x8.1, x8.2), ()) w)
def F16.k14 (Q : Value → World → Prop) (C7 : (Int × (Nat × Nat) × (Option Addr × Nat × Nat) × Int × Unit) → World → Prop) : (Int × (Nat × Nat) × (Option Addr × Nat × Nat) × Int × (Nat × Nat) × Int × Bool × Unit) → World → Prop := fun s w => ∀ _ : Nat → Value, F16.k14c Q C7 s.1 s.2.1 s.2.2.1 s.2.2.2.1 s.2.2.2.2.1 s.2.2.2.2.2.1 s.2.2.2.2.2.2.1 w
def F16.k13c (Q : Value → World → Prop) (C7 : (Int × (Nat × Nat) × (Option Addr × Nat × Nat) × Int × Unit) → World → Prop) (x1 : Int) (x2 : (Nat × Nat)) (x5 : (Option Addr × Nat × Nat)) (x7 : Int) (x8 : (Nat × Nat)) (x9 : Int) (x10 : Bool) (w : World) : Prop :=
  ldI .i64 w x8.1 x8.2 fun i42 =>
  vIf (i42 == 2)
  (jnC (F16.k14 Q C7) ((x1), (x2.1, x2.2), (x5.1, x5.2.1, x5.2.2), (x7), (x8.1, x8.2), (x9), x10, ()) w)
  (jnC (F16.k14 Q C7) ((x1), (x2.1, x2.2), (x5.1, x5.2.1, x5.2.2), (x7), (x8.1, x8.2), (x9), false, ()) w)
def F16.k13 (Q : Value → World → Prop) (C7 : (Int × (Nat × Nat) × (Option Addr × Nat × Nat) × Int × Unit) → World → Prop) : (Int × (Nat × Nat) × (Option Addr × Nat × Nat) × Int × (Nat × Nat) × Int × Bool × Unit) → World → Prop := fun s w => ∀ _ : Nat → Value, F16.k13c Q C7 s.1 s.2.1 s.2.2.1 s.2.2.2.1 s.2.2.2.2.1 s.2.2.2.2.2.1 s.2.2.2.2.2.2.1 w
def F16.k9c (Q : Value → World → Prop) (C7 : (Int × (Nat × Nat) × (Option Addr × Nat × Nat) × Int × Unit) → World → Prop) (x1 : Int) (x2 : (Nat × Nat)) (x5 : (Option Addr × Nat × Nat)) (x7 : Int) (w : World) : Prop :=
  ldSl w x2.1 (x2.2 + 1) fun A20 n21 c22 =>
  dr A20 fun b23 o24 =>
  gd (decide (0 ≤ x7)) <|
  gd (decide (x7 < ((n21 : Nat) : Int))) <|
  ldA 4 w b23 (o24 + (x7).toNat * 4) fun a25 =>
  nw w Z27 27 fun b26 w27 =>
  gd (a25.length == 4) <|
  st w27 b26 0 a25 fun w28 =>
  ldS w28 b26 (0 + 1) fun s29 =>
  Calls Try.prog 26 #[Value.slice x5.1 x5.2.1 x5.2.2, Value.string s29] w28 fun e31 w30 =>
  ∃ i32 : Int, ∃ t33 : Bool, e31 = .returned (Value.tuple #[Value.int .i64 i32, Value.bool t33]) ∧ (
    ldI .i64 w30 b26 0 fun i34 =>
    vIf (i34 == 1)
    (ldS w30 b26 (0 + 1) fun s35 =>
      ldI .i64 w30 b26 (0 + 3) fun i36 =>
      Calls Try.prog 28 #[Value.slice x5.1 x5.2.1 x5.2.2, ofL ([Value.string s35] ++ ([Value.int .i64 i36] ++ []))] w30 fun e38 w37 =>
      ∃ (A39 : Option Addr) (n40 c41 : Nat), e38 = .returned (Value.slice A39 n40 c41) ∧ (
        jnC (F16.k13 Q C7) ((x1), (x2.1, x2.2), (A39, n40, c41), (x7), (b26, 0), (i32), t33, ()) w37))
    (jnC (F16.k13 Q C7) ((x1), (x2.1, x2.2), (x5.1, x5.2.1, x5.2.2), (x7), (b26, 0), (i32), t33, ()) w30))
def F16.k9 (Q : Value → World → Prop) (C7 : (Int × (Nat × Nat) × (Option Addr × Nat × Nat) × Int × Unit) → World → Prop) : (Int × (Nat × Nat) × (Option Addr × Nat × Nat) × Int × Unit) → World → Prop := fun s w => ∀ _ : Nat → Value, F16.k9c Q C7 s.1 s.2.1 s.2.2.1 s.2.2.2.1 w
def F16.b7c (Q : Value → World → Prop) (C7 : (Int × (Nat × Nat) × (Option Addr × Nat × Nat) × Int × Unit) → World → Prop) (x1 : Int) (x2 : (Nat × Nat)) (x5 : (Option Addr × Nat × Nat)) (x7 : Int) (w : World) : Prop :=
  ldSl w x2.1 (x2.2 + 1) fun A17 n18 c19 =>
  vIf (decide (x7 < ((n18 : Nat) : Int)))
  (vIf (decide (x7 < x1))
    (jnC (F16.k9 Q C7) ((x1), (x2.1, x2.2), (x5.1, x5.2.1, x5.2.2), (x7), ()) w)
    (Q (Value.slice x5.1 x5.2.1 x5.2.2) w))
  (Q (Value.slice x5.1 x5.2.1 x5.2.2) w)
def F16.b7 (Q : Value → World → Prop) : (Int × (Nat × Nat) × (Option Addr × Nat × Nat) × Int × Unit) → World → ((Int × (Nat × Nat) × (Option Addr × Nat × Nat) × Int × Unit) → World → Prop) → Prop := fun s w C7 => ∀ _ : Nat → Value, F16.b7c Q C7 s.1 s.2.1 s.2.2.1 s.2.2.2.1 w
def F16.l7 (Q : Value → World → Prop) : (Int × (Nat × Nat) × (Option Addr × Nat × Nat) × Int × Unit) → World → Prop := fun s w => ∃ n, loopC (F16.b7 Q) n s w
def F16.b3c (Q : Value → World → Prop) (C3 : (Int × (Nat × Nat) × (Option Addr × Nat × Nat) × Int × Unit) → World → Prop) (x1 : Int) (x2 : (Nat × Nat)) (x5 : (Option Addr × Nat × Nat)) (x6 : Int) (w : World) : Prop :=
  vIf (decide (x6 ≥ 0))
  (ldSl w x2.1 x2.2 fun A6 n7 c8 =>
    dr A6 fun b9 o10 =>
    gd (decide (0 ≤ x6)) <|
    gd (decide (x6 < ((n7 : Nat) : Int))) <|
    ldA 2 w b9 (o10 + (x6).toNat * 2) fun a11 =>
    Calls Try.prog 28 #[Value.slice x5.1 x5.2.1 x5.2.2, ofL a11] w fun e13 w12 =>
    ∃ (A14 : Option Addr) (n15 c16 : Nat), e13 = .returned (Value.slice A14 n15 c16) ∧ (
      jnC C3 ((x1), (x2.1, x2.2), (A14, n15, c16), ((IntKind.wrap .i64 (x6 - 1))), ()) w12))
  (jnC (F16.l7 Q) ((x1), (x2.1, x2.2), (x5.1, x5.2.1, x5.2.2), (0), ()) w)
def F16.b3 (Q : Value → World → Prop) : (Int × (Nat × Nat) × (Option Addr × Nat × Nat) × Int × Unit) → World → ((Int × (Nat × Nat) × (Option Addr × Nat × Nat) × Int × Unit) → World → Prop) → Prop := fun s w C3 => ∀ _ : Nat → Value, F16.b3c Q C3 s.1 s.2.1 s.2.2.1 s.2.2.2.1 w
def F16.l3 (Q : Value → World → Prop) : (Int × (Nat × Nat) × (Option Addr × Nat × Nat) × Int × Unit) → World → Prop := fun s w => ∃ n, loopC (F16.b3 Q) n s w
def F16.vc (x0 : List Value) (x1 : Int) (w : World) (Q : Value → World → Prop) : Prop :=
  nw w x0 25 fun b1 w2 =>
  ldSl w2 b1 0 fun A3 n4 c5 =>
  jnC (F16.l3 Q) ((x1), (b1, 0), (none, 0, 0), ((IntKind.wrap .i64 (((n4 : Nat) : Int) - 1))), ()) w2
def F16.an : Ann := ⟨[(3, [(1, .kI .i64), (2, .kL), (5, .kSl), (6, .kI .i64)]), (7, [(1, .kI .i64), (2, .kL), (5, .kSl), (7, .kI .i64)])], [(9, [(1, .kI .i64), (2, .kL), (5, .kSl), (7, .kI .i64)]), (13, [(1, .kI .i64), (2, .kL), (5, .kSl), (7, .kI .i64), (8, .kL), (9, .kI .i64), (10, .kB)]), (14, [(1, .kI .i64), (2, .kL), (5, .kSl), (7, .kI .i64), (8, .kL), (9, .kI .i64), (65, .kB)]), (15, [(1, .kI .i64), (2, .kL), (5, .kSl), (7, .kI .i64), (8, .kL)])]⟩
theorem F16.eq (x0 : List Value) (x1 : Int) (w : World) (Q : Value → World → Prop) : vcFn Try.prog F16.an 16 [ofL x0, Value.int .i64 x1] w Q = F16.vc x0 x1 w Q := by kernel_rfl
theorem F16.of (x0 : List Value) (x1 : Int) (w : World) {Q : Value → World → Prop} (h : F16.vc x0 x1 w Q) : Calls Try.prog 16 #[ofL x0, Value.int .i64 x1] w (fun e w' => ∃ v, e = .returned v ∧ Q v w') := vcFn_sound noCount mixed ((F16.eq x0 x1 w Q).symm ▸ h)
/-! ### function 17: stillage/stillageref11.Ints -/
def F17.b4c (Q : Value → World → Prop) (C4 : ((Option Addr × Nat × Nat) × (Option Addr × Nat × Nat) × Int × Unit) → World → Prop) (x0 : (Option Addr × Nat × Nat)) (x1 : (Option Addr × Nat × Nat)) (x5 : Int) (w : World) : Prop :=
  vIf (decide (x5 < ((x0.2.1 : Nat) : Int)))
  (dr x0.1 fun b1 o2 =>
    gd (decide (0 ≤ x5)) <|
    gd (decide (x5 < ((x0.2.1 : Nat) : Int))) <|
    ldI .i64 w.drew b1 (o2 + (x5).toNat * 1) fun i3 =>
    dr x1.1 fun b4 o5 =>
    gd (decide (0 ≤ x5)) <|
    gd (decide (x5 < ((x1.2.1 : Nat) : Int))) <|
    ldI .i64 w.drew b4 (o5 + (x5).toNat * 1) fun i6 =>
    vIf (i3 != i6)
    (Q (Value.bool false) w.drew)
    (jnC C4 ((x0.1, x0.2.1, x0.2.2), (x1.1, x1.2.1, x1.2.2), ((IntKind.wrap .i64 (x5 + 1))), ()) w.drew))
  (Q (Value.bool true) w)
def F17.b4 (Q : Value → World → Prop) : ((Option Addr × Nat × Nat) × (Option Addr × Nat × Nat) × Int × Unit) → World → (((Option Addr × Nat × Nat) × (Option Addr × Nat × Nat) × Int × Unit) → World → Prop) → Prop := fun s w C4 => ∀ _ : Nat → Value, F17.b4c Q C4 s.1 s.2.1 s.2.2.1 w
def F17.l4 (Q : Value → World → Prop) : ((Option Addr × Nat × Nat) × (Option Addr × Nat × Nat) × Int × Unit) → World → Prop := fun s w => ∃ n, loopC (F17.b4 Q) n s w
def F17.vc (x0A : Option Addr) (x0n x0c : Nat) (x1A : Option Addr) (x1n x1c : Nat) (w : World) (Q : Value → World → Prop) : Prop :=
  vIf (((x0n : Nat) : Int) != ((x1n : Nat) : Int))
  (Q (Value.bool false) w)
  (jnC (F17.l4 Q) ((x0A, x0n, x0c), (x1A, x1n, x1c), (0), ()) w)
def F17.an : Ann := ⟨[(4, [(0, .kSl), (1, .kSl), (5, .kI .i64)])], []⟩
theorem F17.eq (x0A : Option Addr) (x0n x0c : Nat) (x1A : Option Addr) (x1n x1c : Nat) (w : World) (Q : Value → World → Prop) : vcFn Try.prog F17.an 17 [Value.slice x0A x0n x0c, Value.slice x1A x1n x1c] w Q = F17.vc x0A x0n x0c x1A x1n x1c w Q := by kernel_rfl
theorem F17.of (x0A : Option Addr) (x0n x0c : Nat) (x1A : Option Addr) (x1n x1c : Nat) (w : World) {Q : Value → World → Prop} (h : F17.vc x0A x0n x0c x1A x1n x1c w Q) : Calls Try.prog 17 #[Value.slice x0A x0n x0c, Value.slice x1A x1n x1c] w (fun e w' => ∃ v, e = .returned v ∧ Q v w') := vcFn_sound noCount mixed ((F17.eq x0A x0n x0c x1A x1n x1c w Q).symm ▸ h)
/-! ### function 18: stillage/folder.Ids -/
def F18.b6c (Q : Value → World → Prop) (C3 : ((Nat × Nat) × (Option Addr × Nat × Nat) × Int × Int × Unit) → World → Prop) (C6 : ((Nat × Nat) × (Option Addr × Nat × Nat) × Int × Int × (Option Addr × Nat × Nat) × Int × Int × Unit) → World → Prop) (x1 : (Nat × Nat)) (x3 : (Option Addr × Nat × Nat)) (x10 : Int) (x11 : Int) (x16 : (Option Addr × Nat × Nat)) (x17 : Int) (x18 : Int) (w : World) : Prop :=
  vIf (decide (x18 < x17))
  (dr x16.1 fun b12 o13 =>
    gd (decide (0 ≤ x18)) <|
    gd (decide (x18 < ((x16.2.1 : Nat) : Int))) <|
    ldA 2 w b12 (o13 + (x18).toNat * 2) fun a14 =>
    nw w [Value.string (⟨#[]⟩ : ByteArray), Value.int .i64 0] 48 fun b15 w16 =>
    gd (a14.length == 2) <|
    st w16 b15 0 a14 fun w17 =>
    ldI .i64 w17 b15 (0 + 1) fun i18 =>
    nw w17 ([Value.int .i64 i18] ++ []) 3 fun b19 w20 =>
    app w20 1 8 [Value.int .i64 0] 3 x3.1 x3.2.1 x3.2.2 (Value.slice (some ⟨b19, 0, none⟩) 1 1) fun A21 n22 c23 w24 =>
    jnC C6 ((x1.1, x1.2), (A21, n22, c23), (x10), (x11), (x16.1, x16.2.1, x16.2.2), (x17), ((IntKind.wrap .i64 (x18 + 1))), ()) w24)
  (jnC C3 ((x1.1, x1.2), (x3.1, x3.2.1, x3.2.2), (x10), ((IntKind.wrap .i64 (x11 + 1))), ()) w)
def F18.b6 (Q : Value → World → Prop) (C3 : ((Nat × Nat) × (Option Addr × Nat × Nat) × Int × Int × Unit) → World → Prop) : ((Nat × Nat) × (Option Addr × Nat × Nat) × Int × Int × (Option Addr × Nat × Nat) × Int × Int × Unit) → World → (((Nat × Nat) × (Option Addr × Nat × Nat) × Int × Int × (Option Addr × Nat × Nat) × Int × Int × Unit) → World → Prop) → Prop := fun s w C6 => ∀ _ : Nat → Value, F18.b6c Q C3 C6 s.1 s.2.1 s.2.2.1 s.2.2.2.1 s.2.2.2.2.1 s.2.2.2.2.2.1 s.2.2.2.2.2.2.1 w
def F18.l6 (Q : Value → World → Prop) (C3 : ((Nat × Nat) × (Option Addr × Nat × Nat) × Int × Int × Unit) → World → Prop) : ((Nat × Nat) × (Option Addr × Nat × Nat) × Int × Int × (Option Addr × Nat × Nat) × Int × Int × Unit) → World → Prop := fun s w => ∃ n, loopC (F18.b6 Q C3) n s w
def F18.b3c (Q : Value → World → Prop) (C3 : ((Nat × Nat) × (Option Addr × Nat × Nat) × Int × Int × Unit) → World → Prop) (x1 : (Nat × Nat)) (x3 : (Option Addr × Nat × Nat)) (x10 : Int) (x11 : Int) (w : World) : Prop :=
  vIf (decide (x11 < x10))
  (ldA 2 w x1.1 x1.2 fun a6 =>
    Calls Try.prog 27 #[ofL a6, Value.int .i64 x11] w fun e8 w7 =>
    ∃ (A9 : Option Addr) (n10 c11 : Nat), e8 = .returned (Value.slice A9 n10 c11) ∧ (
      jnC (F18.l6 Q C3) ((x1.1, x1.2), (x3.1, x3.2.1, x3.2.2), (x10), (x11), (A9, n10, c11), (((n10 : Nat) : Int)), (0), ()) w7))
  (Calls Try.prog 30 #[Value.slice x3.1 x3.2.1 x3.2.2] w fun e26 w25 =>
    e26 = .returned (Value.tuple #[]) ∧ (
      Calls Try.prog 31 #[Value.slice x3.1 x3.2.1 x3.2.2] w25 fun e28 w27 =>
      ∃ (A29 : Option Addr) (n30 c31 : Nat), e28 = .returned (Value.slice A29 n30 c31) ∧ (
        Q (Value.slice A29 n30 c31) w27)))
def F18.b3 (Q : Value → World → Prop) : ((Nat × Nat) × (Option Addr × Nat × Nat) × Int × Int × Unit) → World → (((Nat × Nat) × (Option Addr × Nat × Nat) × Int × Int × Unit) → World → Prop) → Prop := fun s w C3 => ∀ _ : Nat → Value, F18.b3c Q C3 s.1 s.2.1 s.2.2.1 s.2.2.2.1 w
def F18.l3 (Q : Value → World → Prop) : ((Nat × Nat) × (Option Addr × Nat × Nat) × Int × Int × Unit) → World → Prop := fun s w => ∃ n, loopC (F18.b3 Q) n s w
def F18.vc (x0 : List Value) (w : World) (Q : Value → World → Prop) : Prop :=
  nw w x0 25 fun b1 w2 =>
  ldSl w2 b1 (0 + 1) fun A3 n4 c5 =>
  jnC (F18.l3 Q) ((b1, 0), (none, 0, 0), ((IntKind.wrap .i64 (((n4 : Nat) : Int) + 1))), (0), ()) w2
def F18.an : Ann := ⟨[(3, [(1, .kL), (3, .kSl), (10, .kI .i64), (11, .kI .i64)]), (6, [(1, .kL), (3, .kSl), (10, .kI .i64), (11, .kI .i64), (16, .kSl), (17, .kI .i64), (18, .kI .i64)])], []⟩
theorem F18.eq (x0 : List Value) (w : World) (Q : Value → World → Prop) : vcFn Try.prog F18.an 18 [ofL x0] w Q = F18.vc x0 w Q := by kernel_rfl
theorem F18.of (x0 : List Value) (w : World) {Q : Value → World → Prop} (h : F18.vc x0 w Q) : Calls Try.prog 18 #[ofL x0] w (fun e w' => ∃ v, e = .returned v ∧ Q v w') := vcFn_sound noCount mixed ((F18.eq x0 w Q).symm ▸ h)
/-! ### function 19: stillage/stillageref11.Ids -/
def F19.b7c (Q : Value → World → Prop) (C3 : ((Nat × Nat) × (Option Addr × Nat × Nat) × Int × Unit) → World → Prop) (C7 : ((Nat × Nat) × (Option Addr × Nat × Nat) × Int × (Option Addr × Nat × Nat) × Int × Unit) → World → Prop) (x1 : (Nat × Nat)) (x3 : (Option Addr × Nat × Nat)) (x4 : Int) (x5 : (Option Addr × Nat × Nat)) (x6 : Int) (w : World) : Prop :=
  vIf (decide (x6 < ((x5.2.1 : Nat) : Int)))
  (dr x5.1 fun b12 o13 =>
    gd (decide (0 ≤ x6)) <|
    gd (decide (x6 < ((x5.2.1 : Nat) : Int))) <|
    ldI .i64 w b12 ((o13 + (x6).toNat * 2) + 1) fun i14 =>
    Calls Try.prog 32 #[Value.slice x3.1 x3.2.1 x3.2.2, Value.int .i64 i14] w fun e16 w15 =>
    ∃ (A17 : Option Addr) (n18 c19 : Nat), e16 = .returned (Value.slice A17 n18 c19) ∧ (
      jnC C7 ((x1.1, x1.2), (A17, n18, c19), (x4), (x5.1, x5.2.1, x5.2.2), ((IntKind.wrap .i64 (x6 + 1))), ()) w15))
  (jnC C3 ((x1.1, x1.2), (x3.1, x3.2.1, x3.2.2), ((IntKind.wrap .i64 (x4 + 1))), ()) w)
def F19.b7 (Q : Value → World → Prop) (C3 : ((Nat × Nat) × (Option Addr × Nat × Nat) × Int × Unit) → World → Prop) : ((Nat × Nat) × (Option Addr × Nat × Nat) × Int × (Option Addr × Nat × Nat) × Int × Unit) → World → (((Nat × Nat) × (Option Addr × Nat × Nat) × Int × (Option Addr × Nat × Nat) × Int × Unit) → World → Prop) → Prop := fun s w C7 => ∀ _ : Nat → Value, F19.b7c Q C3 C7 s.1 s.2.1 s.2.2.1 s.2.2.2.1 s.2.2.2.2.1 w
def F19.l7 (Q : Value → World → Prop) (C3 : ((Nat × Nat) × (Option Addr × Nat × Nat) × Int × Unit) → World → Prop) : ((Nat × Nat) × (Option Addr × Nat × Nat) × Int × (Option Addr × Nat × Nat) × Int × Unit) → World → Prop := fun s w => ∃ n, loopC (F19.b7 Q C3) n s w
def F19.b3c (Q : Value → World → Prop) (C3 : ((Nat × Nat) × (Option Addr × Nat × Nat) × Int × Unit) → World → Prop) (x1 : (Nat × Nat)) (x3 : (Option Addr × Nat × Nat)) (x4 : Int) (w : World) : Prop :=
  ldSl w x1.1 (x1.2 + 1) fun A3 n4 c5 =>
  vIf (decide (x4 ≤ ((n4 : Nat) : Int)))
  (ldA 2 w x1.1 x1.2 fun a6 =>
    Calls Try.prog 16 #[ofL a6, Value.int .i64 x4] w fun e8 w7 =>
    ∃ (A9 : Option Addr) (n10 c11 : Nat), e8 = .returned (Value.slice A9 n10 c11) ∧ (
      jnC (F19.l7 Q C3) ((x1.1, x1.2), (x3.1, x3.2.1, x3.2.2), (x4), (A9, n10, c11), (0), ()) w7))
  (Q (Value.slice x3.1 x3.2.1 x3.2.2) w)
def F19.b3 (Q : Value → World → Prop) : ((Nat × Nat) × (Option Addr × Nat × Nat) × Int × Unit) → World → (((Nat × Nat) × (Option Addr × Nat × Nat) × Int × Unit) → World → Prop) → Prop := fun s w C3 => ∀ _ : Nat → Value, F19.b3c Q C3 s.1 s.2.1 s.2.2.1 w
def F19.l3 (Q : Value → World → Prop) : ((Nat × Nat) × (Option Addr × Nat × Nat) × Int × Unit) → World → Prop := fun s w => ∃ n, loopC (F19.b3 Q) n s w
def F19.vc (x0 : List Value) (w : World) (Q : Value → World → Prop) : Prop :=
  nw w x0 25 fun b1 w2 =>
  jnC (F19.l3 Q) ((b1, 0), (none, 0, 0), (0), ()) w2
def F19.an : Ann := ⟨[(3, [(1, .kL), (3, .kSl), (4, .kI .i64)]), (7, [(1, .kL), (3, .kSl), (4, .kI .i64), (5, .kSl), (6, .kI .i64)])], []⟩
theorem F19.eq (x0 : List Value) (w : World) (Q : Value → World → Prop) : vcFn Try.prog F19.an 19 [ofL x0] w Q = F19.vc x0 w Q := by kernel_rfl
theorem F19.of (x0 : List Value) (w : World) {Q : Value → World → Prop} (h : F19.vc x0 w Q) : Calls Try.prog 19 #[ofL x0] w (fun e w' => ∃ v, e = .returned v ∧ Q v w') := vcFn_sound noCount mixed ((F19.eq x0 w Q).symm ▸ h)
/-! ### function 20: stillage/folder.Sync -/
def F20.vc (x0 : List Value) (w : World) (Q : Value → World → Prop) : Prop :=
  nw w x0 25 fun b1 w2 =>
  nw w2 [Value.slice none 0 0, Value.slice none 0 0] 25 fun b3 w4 =>
  ldA 2 w4 b1 0 fun a5 =>
  Calls Try.prog 12 #[ofL a5] w4 fun e7 w6 =>
  ∃ (A8 : Option Addr) (n9 c10 : Nat), e7 = .returned (Value.slice A8 n9 c10) ∧ (
    gd (([Value.slice A8 n9 c10] ++ ([Value.slice none 0 0] ++ [])).length == 2) <|
    st w6 b3 0 ([Value.slice A8 n9 c10] ++ ([Value.slice none 0 0] ++ [])) fun w11 =>
    ldA 2 w11 b3 0 fun a12 =>
    Q (ofL a12) w11)
def F20.an : Ann := ⟨[], []⟩
theorem F20.eq (x0 : List Value) (w : World) (Q : Value → World → Prop) : vcFn Try.prog F20.an 20 [ofL x0] w Q = F20.vc x0 w Q := by kernel_rfl
theorem F20.of (x0 : List Value) (w : World) {Q : Value → World → Prop} (h : F20.vc x0 w Q) : Calls Try.prog 20 #[ofL x0] w (fun e w' => ∃ v, e = .returned v ∧ Q v w') := vcFn_sound noCount mixed ((F20.eq x0 w Q).symm ▸ h)
/-! ### function 21: stillage/folder.wrong -/
def F21.k13c (Q : Value → World → Prop) (x6 : Bool) (w : World) : Prop :=
  vIf (!x6)
  (Q (Value.int .i64 6) w)
  (Q (Value.int .i64 0) w)
def F21.k13 (Q : Value → World → Prop) : (Bool × Unit) → World → Prop := fun s w => ∀ _ : Nat → Value, F21.k13c Q s.1 w
def F21.vc (x0 : List Value) (x1 : List Value) (w : World) (Q : Value → World → Prop) : Prop :=
  nw w x0 25 fun b1 w2 =>
  nw w2 x1 27 fun b3 w4 =>
  ldA 2 w4 b1 0 fun a5 =>
  ldS w4 b3 (0 + 1) fun s6 =>
  Calls Try.prog 8 #[ofL a5, Value.string s6] w4 fun e8 w7 =>
  ∃ i9 : Int, ∃ t10 : Bool, e8 = .returned (Value.tuple #[Value.int .i64 i9, Value.bool t10]) ∧ (
    ldI .i64 w7 b3 0 fun i11 =>
    vIf (i11 == 1)
    (ldS w7 b3 (0 + 1) fun s12 =>
      Calls Try.prog 33 #[Value.string s12] w7 fun e14 w13 =>
      ∃ t15 : Bool, e14 = .returned (Value.bool t15) ∧ (
        vIf (!t15)
        (Q (Value.int .i64 12) w13)
        (vIf t10
          (Q (Value.int .i64 7) w13)
          (Q (Value.int .i64 0) w13))))
    (vIf (i11 == 2)
      (vIf t10
        (ldS w7 b3 (0 + 2) fun s16 =>
          Calls Try.prog 33 #[Value.string s16] w7 fun e18 w17 =>
          ∃ t19 : Bool, e18 = .returned (Value.bool t19) ∧ (
            vIf (!t19)
            (Q (Value.int .i64 12) w17)
            (jnC (F21.k13 Q) (t10, ()) w17)))
        (jnC (F21.k13 Q) (t10, ()) w7))
      (vIf (i11 == 3)
        (jnC (F21.k13 Q) (t10, ()) w7)
        (Q (Value.int .i64 2) w7))))
def F21.an : Ann := ⟨[], [(13, [(6, .kB)])]⟩
theorem F21.eq (x0 : List Value) (x1 : List Value) (w : World) (Q : Value → World → Prop) : vcFn Try.prog F21.an 21 [ofL x0, ofL x1] w Q = F21.vc x0 x1 w Q := by kernel_rfl
theorem F21.of (x0 : List Value) (x1 : List Value) (w : World) {Q : Value → World → Prop} (h : F21.vc x0 x1 w Q) : Calls Try.prog 21 #[ofL x0, ofL x1] w (fun e w' => ∃ v, e = .returned v ∧ Q v w') := vcFn_sound noCount mixed ((F21.eq x0 x1 w Q).symm ▸ h)
/-! ### function 22: slices.Clone[[]stillage/api.Change,stillage/api.Change] -/
def F22.vc (x0A : Option Addr) (x0n x0c : Nat) (w : World) (Q : Value → World → Prop) : Prop :=
  vIf x0A.isNone
  (Q (Value.slice none 0 0) w)
  (nw w [] 27 fun b1 w2 =>
    app w2 4 48 Z27 27 (some ⟨b1, 0, none⟩) 0 0 (Value.slice x0A x0n x0c) fun A3 n4 c5 w6 =>
    Q (Value.slice A3 n4 c5) w6)
def F22.an : Ann := ⟨[], []⟩
theorem F22.eq (x0A : Option Addr) (x0n x0c : Nat) (w : World) (Q : Value → World → Prop) : vcFn Try.prog F22.an 22 [Value.slice x0A x0n x0c] w Q = F22.vc x0A x0n x0c w Q := by kernel_rfl
theorem F22.of (x0A : Option Addr) (x0n x0c : Nat) (w : World) {Q : Value → World → Prop} (h : F22.vc x0A x0n x0c w Q) : Calls Try.prog 22 #[Value.slice x0A x0n x0c] w (fun e w' => ∃ v, e = .returned v ∧ Q v w') := vcFn_sound noCount mixed ((F22.eq x0A x0n x0c w Q).symm ▸ h)
/-! ### function 23: stillage/stillageref08.Disk -/
def F23.b2c (Q : Value → World → Prop) (C2 : (ByteArray × Int × Unit) → World → Prop) (x0 : ByteArray) (x3 : Int) (w : World) : Prop :=
  vIf (decide (x3 < (x0.size : Int)))
  (gd (decide (0 ≤ x3)) <|
    gd (decide (x3 < (x0.size : Int))) <|
    vIf (decide ((byteAt x0 (x3).toNat) ≤ 32))
    (Q (Value.bool false) w)
    (gd (decide (0 ≤ x3)) <|
      gd (decide (x3 < (x0.size : Int))) <|
      vIf (decide ((byteAt x0 (x3).toNat) ≥ 127))
      (Q (Value.bool false) w)
      (gd (decide (0 ≤ x3)) <|
        gd (decide (x3 < (x0.size : Int))) <|
        vIf ((byteAt x0 (x3).toNat) == 47)
        (Q (Value.bool false) w)
        (jnC C2 (x0, ((IntKind.wrap .i64 (x3 + 1))), ()) w))))
  (vIf (decide ((x0.size : Int) ≥ 1))
    (Q (Value.bool (decide ((x0.size : Int) ≤ 32))) w)
    (Q (Value.bool false) w))
def F23.b2 (Q : Value → World → Prop) : (ByteArray × Int × Unit) → World → ((ByteArray × Int × Unit) → World → Prop) → Prop := fun s w C2 => ∀ _ : Nat → Value, F23.b2c Q C2 s.1 s.2.1 w
def F23.l2 (Q : Value → World → Prop) : (ByteArray × Int × Unit) → World → Prop := fun s w => ∃ n, loopC (F23.b2 Q) n s w
def F23.vc (x0 : ByteArray) (w : World) (Q : Value → World → Prop) : Prop :=
  jnC (F23.l2 Q) (x0, (0), ()) w
def F23.an : Ann := ⟨[(2, [(0, .kS), (3, .kI .i64)])], []⟩
theorem F23.eq (x0 : ByteArray) (w : World) (Q : Value → World → Prop) : vcFn Try.prog F23.an 23 [Value.string x0] w Q = F23.vc x0 w Q := by kernel_rfl
theorem F23.of (x0 : ByteArray) (w : World) {Q : Value → World → Prop} (h : F23.vc x0 w Q) : Calls Try.prog 23 #[Value.string x0] w (fun e w' => ∃ v, e = .returned v ∧ Q v w') := vcFn_sound noCount mixed ((F23.eq x0 w Q).symm ▸ h)
/-! ### function 24: slices.BinarySearchFunc[[]stillage/api.Named,stillage/api.Named,string] -/
def F24s.b3c (Q : Value → World → Prop) (C3 : ((Option Addr × Nat × Nat) × ByteArray × Unit × Int × Int × Int × Unit) → World → Prop) (x0 : (Option Addr × Nat × Nat)) (x1 : ByteArray) (x2 : Unit) (x8 : Int) (x9 : Int) (x10 : Int) (w : World) : Prop :=
  vIf (decide (x9 < x10))
  (dr x0.1 fun b1 o2 =>
    gd (decide (0 ≤ (IntKind.wrap .i64 (Int.fdiv (IntKind.wrap .u64 (IntKind.wrap .i64 (x9 + x10))) (2 ^ 1))))) <|
    gd (decide ((IntKind.wrap .i64 (Int.fdiv (IntKind.wrap .u64 (IntKind.wrap .i64 (x9 + x10))) (2 ^ 1))) < ((x0.2.1 : Nat) : Int))) <|
    ldA 2 w b1 (o2 + ((IntKind.wrap .i64 (Int.fdiv (IntKind.wrap .u64 (IntKind.wrap .i64 (x9 + x10))) (2 ^ 1)))).toNat * 2) fun a3 =>
    Calls Try.prog 25 #[ofL a3, Value.string x1] w fun e5 w4 =>
    ∃ i6 : Int, e5 = .returned (Value.int .i64 i6) ∧ (
      vIf (decide (i6 < 0))
      (jnC C3 ((x0.1, x0.2.1, x0.2.2), x1, (), (x8), ((IntKind.wrap .i64 ((IntKind.wrap .i64 (Int.fdiv (IntKind.wrap .u64 (IntKind.wrap .i64 (x9 + x10))) (2 ^ 1))) + 1))), (x10), ()) w4)
      (jnC C3 ((x0.1, x0.2.1, x0.2.2), x1, (), (x8), (x9), ((IntKind.wrap .i64 (Int.fdiv (IntKind.wrap .u64 (IntKind.wrap .i64 (x9 + x10))) (2 ^ 1)))), ()) w4)))
  (vIf (decide (x9 < x8))
    (dr x0.1 fun b7 o8 =>
      gd (decide (0 ≤ x9)) <|
      gd (decide (x9 < ((x0.2.1 : Nat) : Int))) <|
      ldA 2 w b7 (o8 + (x9).toNat * 2) fun a9 =>
      Calls Try.prog 25 #[ofL a9, Value.string x1] w fun e11 w10 =>
      ∃ i12 : Int, e11 = .returned (Value.int .i64 i12) ∧ (
        Q (Value.tuple #[Value.int .i64 x9, Value.bool (i12 == 0)]) w10))
    (Q (Value.tuple #[Value.int .i64 x9, Value.bool false]) w))
def F24s.b3 (Q : Value → World → Prop) : ((Option Addr × Nat × Nat) × ByteArray × Unit × Int × Int × Int × Unit) → World → (((Option Addr × Nat × Nat) × ByteArray × Unit × Int × Int × Int × Unit) → World → Prop) → Prop := fun s w C3 => ∀ _ : Nat → Value, F24s.b3c Q C3 s.1 s.2.1 s.2.2.1 s.2.2.2.1 s.2.2.2.2.1 s.2.2.2.2.2.1 w
def F24s.l3 (Q : Value → World → Prop) : ((Option Addr × Nat × Nat) × ByteArray × Unit × Int × Int × Int × Unit) → World → Prop := fun s w => ∃ n, loopC (F24s.b3 Q) n s w
def F24s.vc (x0A : Option Addr) (x0n x0c : Nat) (x1 : ByteArray) (w : World) (Q : Value → World → Prop) : Prop :=
  jnC (F24s.l3 Q) ((x0A, x0n, x0c), x1, (), (((x0n : Nat) : Int)), (0), (((x0n : Nat) : Int)), ()) w
def F24s.an : Ann := ⟨[(3, [(0, .kSl), (1, .kS), (2, .kF 25), (8, .kI .i64), (9, .kI .i64), (10, .kI .i64)])], []⟩
theorem F24s.eq (x0A : Option Addr) (x0n x0c : Nat) (x1 : ByteArray) (w : World) (Q : Value → World → Prop) : vcFn Try.prog F24s.an 24 [Value.slice x0A x0n x0c, Value.string x1, Value.func (.func 25) #[] #[]] w Q = F24s.vc x0A x0n x0c x1 w Q := by kernel_rfl
theorem F24s.of (x0A : Option Addr) (x0n x0c : Nat) (x1 : ByteArray) (w : World) {Q : Value → World → Prop} (h : F24s.vc x0A x0n x0c x1 w Q) : Calls Try.prog 24 #[Value.slice x0A x0n x0c, Value.string x1, Value.func (.func 25) #[] #[]] w (fun e w' => ∃ v, e = .returned v ∧ Q v w') := vcFn_sound noCount mixed ((F24s.eq x0A x0n x0c x1 w Q).symm ▸ h)
/-! ### function 25: stillage/folder.byName -/
def F25.vc (x0 : List Value) (x1 : ByteArray) (w : World) (Q : Value → World → Prop) : Prop :=
  nw w x0 48 fun b1 w2 =>
  ldS w2 b1 0 fun s3 =>
  Calls Try.prog 34 #[Value.string s3, Value.string x1] w2 fun e5 w4 =>
  ∃ i6 : Int, e5 = .returned (Value.int .i64 i6) ∧ (
    Q (Value.int .i64 i6) w4)
def F25.an : Ann := ⟨[], []⟩
theorem F25.eq (x0 : List Value) (x1 : ByteArray) (w : World) (Q : Value → World → Prop) : vcFn Try.prog F25.an 25 [ofL x0, Value.string x1] w Q = F25.vc x0 x1 w Q := by kernel_rfl
theorem F25.of (x0 : List Value) (x1 : ByteArray) (w : World) {Q : Value → World → Prop} (h : F25.vc x0 x1 w Q) : Calls Try.prog 25 #[ofL x0, Value.string x1] w (fun e w' => ∃ v, e = .returned v ∧ Q v w') := vcFn_sound noCount mixed ((F25.eq x0 x1 w Q).symm ▸ h)
/-! ### function 26: stillage/stillageref11.find -/
def F26.b2c (Q : Value → World → Prop) (C2 : ((Option Addr × Nat × Nat) × ByteArray × Int × Unit) → World → Prop) (x0 : (Option Addr × Nat × Nat)) (x1 : ByteArray) (x6 : Int) (w : World) : Prop :=
  vIf (decide (x6 < ((x0.2.1 : Nat) : Int)))
  (dr x0.1 fun b1 o2 =>
    gd (decide (0 ≤ x6)) <|
    gd (decide (x6 < ((x0.2.1 : Nat) : Int))) <|
    ldS w b1 (o2 + (x6).toNat * 2) fun s3 =>
    vIf (s3.toList == x1.toList)
    (dr x0.1 fun b4 o5 =>
      gd (decide (0 ≤ x6)) <|
      gd (decide (x6 < ((x0.2.1 : Nat) : Int))) <|
      ldI .i64 w b4 ((o5 + (x6).toNat * 2) + 1) fun i6 =>
      Q (Value.tuple #[Value.int .i64 i6, Value.bool true]) w)
    (jnC C2 ((x0.1, x0.2.1, x0.2.2), x1, ((IntKind.wrap .i64 (x6 + 1))), ()) w))
  (Q (Value.tuple #[Value.int .i64 0, Value.bool false]) w)
def F26.b2 (Q : Value → World → Prop) : ((Option Addr × Nat × Nat) × ByteArray × Int × Unit) → World → (((Option Addr × Nat × Nat) × ByteArray × Int × Unit) → World → Prop) → Prop := fun s w C2 => ∀ _ : Nat → Value, F26.b2c Q C2 s.1 s.2.1 s.2.2.1 w
def F26.l2 (Q : Value → World → Prop) : ((Option Addr × Nat × Nat) × ByteArray × Int × Unit) → World → Prop := fun s w => ∃ n, loopC (F26.b2 Q) n s w
def F26.vc (x0A : Option Addr) (x0n x0c : Nat) (x1 : ByteArray) (w : World) (Q : Value → World → Prop) : Prop :=
  jnC (F26.l2 Q) ((x0A, x0n, x0c), x1, (0), ()) w
def F26.an : Ann := ⟨[(2, [(0, .kSl), (1, .kS), (6, .kI .i64)])], []⟩
theorem F26.eq (x0A : Option Addr) (x0n x0c : Nat) (x1 : ByteArray) (w : World) (Q : Value → World → Prop) : vcFn Try.prog F26.an 26 [Value.slice x0A x0n x0c, Value.string x1] w Q = F26.vc x0A x0n x0c x1 w Q := by kernel_rfl
theorem F26.of (x0A : Option Addr) (x0n x0c : Nat) (x1 : ByteArray) (w : World) {Q : Value → World → Prop} (h : F26.vc x0A x0n x0c x1 w Q) : Calls Try.prog 26 #[Value.slice x0A x0n x0c, Value.string x1] w (fun e w' => ∃ v, e = .returned v ∧ Q v w') := vcFn_sound noCount mixed ((F26.eq x0A x0n x0c x1 w Q).symm ▸ h)
/-! ### function 27: stillage/folder.behind -/
def F27.b3c (Q : Value → World → Prop) (C3 : ((Option Addr × Nat × Nat) × (Option Addr × Nat × Nat) × Int × Int × Unit) → World → Prop) (x5 : (Option Addr × Nat × Nat)) (x18 : (Option Addr × Nat × Nat)) (x19 : Int) (x20 : Int) (w : World) : Prop :=
  vIf (decide (x20 < x19))
  (dr x18.1 fun b15 o16 =>
    gd (decide (0 ≤ x20)) <|
    gd (decide (x20 < ((x18.2.1 : Nat) : Int))) <|
    ldA 4 w b15 (o16 + (x20).toNat * 4) fun a17 =>
    nw w Z27 27 fun b18 w19 =>
    gd (a17.length == 4) <|
    st w19 b18 0 a17 fun w20 =>
    ldA 4 w20 b18 0 fun a21 =>
    Calls Try.prog 36 #[Value.slice x5.1 x5.2.1 x5.2.2, ofL a21] w20 fun e23 w22 =>
    ∃ (A24 : Option Addr) (n25 c26 : Nat), e23 = .returned (Value.slice A24 n25 c26) ∧ (
      jnC C3 ((A24, n25, c26), (x18.1, x18.2.1, x18.2.2), (x19), ((IntKind.wrap .i64 (x20 + 1))), ()) w22))
  (Q (Value.slice x5.1 x5.2.1 x5.2.2) w)
def F27.b3 (Q : Value → World → Prop) : ((Option Addr × Nat × Nat) × (Option Addr × Nat × Nat) × Int × Int × Unit) → World → (((Option Addr × Nat × Nat) × (Option Addr × Nat × Nat) × Int × Int × Unit) → World → Prop) → Prop := fun s w C3 => ∀ _ : Nat → Value, F27.b3c Q C3 s.1 s.2.1 s.2.2.1 s.2.2.2.1 w
def F27.l3 (Q : Value → World → Prop) : ((Option Addr × Nat × Nat) × (Option Addr × Nat × Nat) × Int × Int × Unit) → World → Prop := fun s w => ∃ n, loopC (F27.b3 Q) n s w
def F27.vc (x0 : List Value) (x1 : Int) (w : World) (Q : Value → World → Prop) : Prop :=
  nw w x0 25 fun b1 w2 =>
  ldA 2 w2 b1 0 fun a3 =>
  Calls Try.prog 35 #[ofL a3] w2 fun e5 w4 =>
  ∃ (A6 : Option Addr) (n7 c8 : Nat), e5 = .returned (Value.slice A6 n7 c8) ∧ (
    ldSl w4 b1 (0 + 1) fun A9 n10 c11 =>
    ldSl w4 b1 (0 + 1) fun A12 n13 c14 =>
    gd (decide (0 ≤ (if 0 < (if ((n13 : Nat) : Int) < x1 then ((n13 : Nat) : Int) else x1) then (if ((n13 : Nat) : Int) < x1 then ((n13 : Nat) : Int) else x1) else 0))) <|
    gd (decide ((if 0 < (if ((n13 : Nat) : Int) < x1 then ((n13 : Nat) : Int) else x1) then (if ((n13 : Nat) : Int) < x1 then ((n13 : Nat) : Int) else x1) else 0) ≤ ((c11 : Nat) : Int))) <|
    jnC (F27.l3 Q) ((A6, n7, c8), ((slA A9 c11 0 4), ((if 0 < (if ((n13 : Nat) : Int) < x1 then ((n13 : Nat) : Int) else x1) then (if ((n13 : Nat) : Int) < x1 then ((n13 : Nat) : Int) else x1) else 0)).toNat, c11), (((((if 0 < (if ((n13 : Nat) : Int) < x1 then ((n13 : Nat) : Int) else x1) then (if ((n13 : Nat) : Int) < x1 then ((n13 : Nat) : Int) else x1) else 0)).toNat : Nat) : Int)), (0), ()) w4)
def F27.an : Ann := ⟨[(3, [(5, .kSl), (18, .kSl), (19, .kI .i64), (20, .kI .i64)])], []⟩
theorem F27.eq (x0 : List Value) (x1 : Int) (w : World) (Q : Value → World → Prop) : vcFn Try.prog F27.an 27 [ofL x0, Value.int .i64 x1] w Q = F27.vc x0 x1 w Q := by kernel_rfl
theorem F27.of (x0 : List Value) (x1 : Int) (w : World) {Q : Value → World → Prop} (h : F27.vc x0 x1 w Q) : Calls Try.prog 27 #[ofL x0, Value.int .i64 x1] w (fun e w' => ∃ v, e = .returned v ∧ Q v w') := vcFn_sound noCount mixed ((F27.eq x0 x1 w Q).symm ▸ h)
/-! ### function 28: stillage/stillageref11.put -/
def F28.k9c (Q : Value → World → Prop) (C4 : ((Option Addr × Nat × Nat) × (Nat × Nat) × (Option Addr × Nat × Nat) × Bool × Int × Unit) → World → Prop) (x0 : (Option Addr × Nat × Nat)) (x3 : (Nat × Nat)) (x5 : (Option Addr × Nat × Nat)) (x6 : Bool) (x7 : Int) (w : World) : Prop :=
  dr x0.1 fun b14 o15 =>
  gd (decide (0 ≤ x7)) <|
  gd (decide (x7 < ((x0.2.1 : Nat) : Int))) <|
  ldS w.drew b14 (o15 + (x7).toNat * 2) fun s16 =>
  ldS w.drew x3.1 x3.2 fun s17 =>
  vIf (!(s16.toList == s17.toList))
  (dr x0.1 fun b18 o19 =>
    gd (decide (0 ≤ x7)) <|
    gd (decide (x7 < ((x0.2.1 : Nat) : Int))) <|
    ldA 2 w.drew b18 (o19 + (x7).toNat * 2) fun a20 =>
    gd (a20.length == 2) <|
    nw w.drew (a20 ++ []) 48 fun b21 w22 =>
    app w22 2 24 [Value.string (⟨#[]⟩ : ByteArray), Value.int .i64 0] 48 x5.1 x5.2.1 x5.2.2 (Value.slice (some ⟨b21, 0, none⟩) 1 1) fun A23 n24 c25 w26 =>
    jnC C4 ((x0.1, x0.2.1, x0.2.2), (x3.1, x3.2), (A23, n24, c25), x6, ((IntKind.wrap .i64 (x7 + 1))), ()) w26)
  (jnC C4 ((x0.1, x0.2.1, x0.2.2), (x3.1, x3.2), (x5.1, x5.2.1, x5.2.2), x6, ((IntKind.wrap .i64 (x7 + 1))), ()) w.drew)
def F28.k9 (Q : Value → World → Prop) (C4 : ((Option Addr × Nat × Nat) × (Nat × Nat) × (Option Addr × Nat × Nat) × Bool × Int × Unit) → World → Prop) : ((Option Addr × Nat × Nat) × (Nat × Nat) × (Option Addr × Nat × Nat) × Bool × Int × Unit) → World → Prop := fun s w => ∀ _ : Nat → Value, F28.k9c Q C4 s.1 s.2.1 s.2.2.1 s.2.2.2.1 s.2.2.2.2.1 w
def F28.k7c (Q : Value → World → Prop) (C4 : ((Option Addr × Nat × Nat) × (Nat × Nat) × (Option Addr × Nat × Nat) × Bool × Int × Unit) → World → Prop) (x0 : (Option Addr × Nat × Nat)) (x3 : (Nat × Nat)) (x5 : (Option Addr × Nat × Nat)) (x6 : Bool) (x7 : Int) (x25 : Bool) (w : World) : Prop :=
  vIf x25
  (ldA 2 w x3.1 x3.2 fun a7 =>
    gd (a7.length == 2) <|
    nw w (a7 ++ []) 48 fun b8 w9 =>
    app w9 2 24 [Value.string (⟨#[]⟩ : ByteArray), Value.int .i64 0] 48 x5.1 x5.2.1 x5.2.2 (Value.slice (some ⟨b8, 0, none⟩) 1 1) fun A10 n11 c12 w13 =>
    jnC (F28.k9 Q C4) ((x0.1, x0.2.1, x0.2.2), (x3.1, x3.2), (A10, n11, c12), true, (x7), ()) w13)
  (jnC (F28.k9 Q C4) ((x0.1, x0.2.1, x0.2.2), (x3.1, x3.2), (x5.1, x5.2.1, x5.2.2), x6, (x7), ()) w)
def F28.k7 (Q : Value → World → Prop) (C4 : ((Option Addr × Nat × Nat) × (Nat × Nat) × (Option Addr × Nat × Nat) × Bool × Int × Unit) → World → Prop) : ((Option Addr × Nat × Nat) × (Nat × Nat) × (Option Addr × Nat × Nat) × Bool × Int × Bool × Unit) → World → Prop := fun s w => ∀ _ : Nat → Value, F28.k7c Q C4 s.1 s.2.1 s.2.2.1 s.2.2.2.1 s.2.2.2.2.1 s.2.2.2.2.2.1 w
def F28.b4c (Q : Value → World → Prop) (C4 : ((Option Addr × Nat × Nat) × (Nat × Nat) × (Option Addr × Nat × Nat) × Bool × Int × Unit) → World → Prop) (x0 : (Option Addr × Nat × Nat)) (x3 : (Nat × Nat)) (x5 : (Option Addr × Nat × Nat)) (x6 : Bool) (x7 : Int) (w : World) : Prop :=
  vIf (decide (x7 < ((x0.2.1 : Nat) : Int)))
  (vIf (!x6)
    (dr x0.1 fun b3 o4 =>
      gd (decide (0 ≤ x7)) <|
      gd (decide (x7 < ((x0.2.1 : Nat) : Int))) <|
      ldS w.drew b3 (o4 + (x7).toNat * 2) fun s5 =>
      ldS w.drew x3.1 x3.2 fun s6 =>
      jnC (F28.k7 Q C4) ((x0.1, x0.2.1, x0.2.2), (x3.1, x3.2), (x5.1, x5.2.1, x5.2.2), x6, (x7), (!((Op.bytesLess s5.toList s6.toList) || (s5.toList == s6.toList))), ()) w.drew)
    (jnC (F28.k7 Q C4) ((x0.1, x0.2.1, x0.2.2), (x3.1, x3.2), (x5.1, x5.2.1, x5.2.2), x6, (x7), false, ()) w.drew))
  (vIf (!x6)
    (ldA 2 w x3.1 x3.2 fun a27 =>
      gd (a27.length == 2) <|
      nw w (a27 ++ []) 48 fun b28 w29 =>
      app w29 2 24 [Value.string (⟨#[]⟩ : ByteArray), Value.int .i64 0] 48 x5.1 x5.2.1 x5.2.2 (Value.slice (some ⟨b28, 0, none⟩) 1 1) fun A30 n31 c32 w33 =>
      Q (Value.slice A30 n31 c32) w33)
    (Q (Value.slice x5.1 x5.2.1 x5.2.2) w))
def F28.b4 (Q : Value → World → Prop) : ((Option Addr × Nat × Nat) × (Nat × Nat) × (Option Addr × Nat × Nat) × Bool × Int × Unit) → World → (((Option Addr × Nat × Nat) × (Nat × Nat) × (Option Addr × Nat × Nat) × Bool × Int × Unit) → World → Prop) → Prop := fun s w C4 => ∀ _ : Nat → Value, F28.b4c Q C4 s.1 s.2.1 s.2.2.1 s.2.2.2.1 s.2.2.2.2.1 w
def F28.l4 (Q : Value → World → Prop) : ((Option Addr × Nat × Nat) × (Nat × Nat) × (Option Addr × Nat × Nat) × Bool × Int × Unit) → World → Prop := fun s w => ∃ n, loopC (F28.b4 Q) n s w
def F28.vc (x0A : Option Addr) (x0n x0c : Nat) (x1 : List Value) (w : World) (Q : Value → World → Prop) : Prop :=
  nw w x1 48 fun b1 w2 =>
  jnC (F28.l4 Q) ((x0A, x0n, x0c), (b1, 0), (none, 0, 0), false, (0), ()) w2
def F28.an : Ann := ⟨[(4, [(0, .kSl), (3, .kL), (5, .kSl), (6, .kB), (7, .kI .i64)])], [(7, [(0, .kSl), (3, .kL), (5, .kSl), (6, .kB), (7, .kI .i64), (25, .kB)]), (9, [(0, .kSl), (3, .kL), (5, .kSl), (6, .kB), (7, .kI .i64)])]⟩
theorem F28.eq (x0A : Option Addr) (x0n x0c : Nat) (x1 : List Value) (w : World) (Q : Value → World → Prop) : vcFn Try.prog F28.an 28 [Value.slice x0A x0n x0c, ofL x1] w Q = F28.vc x0A x0n x0c x1 w Q := by kernel_rfl
theorem F28.of (x0A : Option Addr) (x0n x0c : Nat) (x1 : List Value) (w : World) {Q : Value → World → Prop} (h : F28.vc x0A x0n x0c x1 w Q) : Calls Try.prog 28 #[Value.slice x0A x0n x0c, ofL x1] w (fun e w' => ∃ v, e = .returned v ∧ Q v w') := vcFn_sound noCount mixed ((F28.eq x0A x0n x0c x1 w Q).symm ▸ h)
/-! ### function 29: stillage/stillageref11.without -/
def F29.b3c (Q : Value → World → Prop) (C3 : ((Option Addr × Nat × Nat) × ByteArray × (Option Addr × Nat × Nat) × Int × Unit) → World → Prop) (x0 : (Option Addr × Nat × Nat)) (x1 : ByteArray) (x5 : (Option Addr × Nat × Nat)) (x6 : Int) (w : World) : Prop :=
  vIf (decide (x6 < ((x0.2.1 : Nat) : Int)))
  (dr x0.1 fun b1 o2 =>
    gd (decide (0 ≤ x6)) <|
    gd (decide (x6 < ((x0.2.1 : Nat) : Int))) <|
    ldS w b1 (o2 + (x6).toNat * 2) fun s3 =>
    vIf (!(s3.toList == x1.toList))
    (dr x0.1 fun b4 o5 =>
      gd (decide (0 ≤ x6)) <|
      gd (decide (x6 < ((x0.2.1 : Nat) : Int))) <|
      ldA 2 w b4 (o5 + (x6).toNat * 2) fun a6 =>
      gd (a6.length == 2) <|
      nw w (a6 ++ []) 48 fun b7 w8 =>
      app w8 2 24 [Value.string (⟨#[]⟩ : ByteArray), Value.int .i64 0] 48 x5.1 x5.2.1 x5.2.2 (Value.slice (some ⟨b7, 0, none⟩) 1 1) fun A9 n10 c11 w12 =>
      jnC C3 ((x0.1, x0.2.1, x0.2.2), x1, (A9, n10, c11), ((IntKind.wrap .i64 (x6 + 1))), ()) w12)
    (jnC C3 ((x0.1, x0.2.1, x0.2.2), x1, (x5.1, x5.2.1, x5.2.2), ((IntKind.wrap .i64 (x6 + 1))), ()) w))
  (Q (Value.slice x5.1 x5.2.1 x5.2.2) w)
def F29.b3 (Q : Value → World → Prop) : ((Option Addr × Nat × Nat) × ByteArray × (Option Addr × Nat × Nat) × Int × Unit) → World → (((Option Addr × Nat × Nat) × ByteArray × (Option Addr × Nat × Nat) × Int × Unit) → World → Prop) → Prop := fun s w C3 => ∀ _ : Nat → Value, F29.b3c Q C3 s.1 s.2.1 s.2.2.1 s.2.2.2.1 w
def F29.l3 (Q : Value → World → Prop) : ((Option Addr × Nat × Nat) × ByteArray × (Option Addr × Nat × Nat) × Int × Unit) → World → Prop := fun s w => ∃ n, loopC (F29.b3 Q) n s w
def F29.vc (x0A : Option Addr) (x0n x0c : Nat) (x1 : ByteArray) (w : World) (Q : Value → World → Prop) : Prop :=
  jnC (F29.l3 Q) ((x0A, x0n, x0c), x1, (none, 0, 0), (0), ()) w
def F29.an : Ann := ⟨[(3, [(0, .kSl), (1, .kS), (5, .kSl), (6, .kI .i64)])], []⟩
theorem F29.eq (x0A : Option Addr) (x0n x0c : Nat) (x1 : ByteArray) (w : World) (Q : Value → World → Prop) : vcFn Try.prog F29.an 29 [Value.slice x0A x0n x0c, Value.string x1] w Q = F29.vc x0A x0n x0c x1 w Q := by kernel_rfl
theorem F29.of (x0A : Option Addr) (x0n x0c : Nat) (x1 : ByteArray) (w : World) {Q : Value → World → Prop} (h : F29.vc x0A x0n x0c x1 w Q) : Calls Try.prog 29 #[Value.slice x0A x0n x0c, Value.string x1] w (fun e w' => ∃ v, e = .returned v ∧ Q v w') := vcFn_sound noCount mixed ((F29.eq x0A x0n x0c x1 w Q).symm ▸ h)
/-! ### function 30: slices.Sort[[]int,int] -/
def F30.vc (x0A : Option Addr) (x0n x0c : Nat) (w : World) (Q : Value → World → Prop) : Prop :=
  Calls Try.prog 38 #[Value.int .u64 (IntKind.wrap .u64 ((x0n : Nat) : Int))] w fun e2 w1 =>
  ∃ i3 : Int, e2 = .returned (Value.int .i64 i3) ∧ (
    Calls Try.prog 37 #[Value.slice x0A x0n x0c, Value.int .i64 0, Value.int .i64 ((x0n : Nat) : Int), Value.int .i64 i3] w1 fun e5 w4 =>
    e5 = .returned (Value.tuple #[]) ∧ (
      Q (Value.tuple #[]) w4))
def F30.an : Ann := ⟨[], []⟩
theorem F30.eq (x0A : Option Addr) (x0n x0c : Nat) (w : World) (Q : Value → World → Prop) : vcFn Try.prog F30.an 30 [Value.slice x0A x0n x0c] w Q = F30.vc x0A x0n x0c w Q := by kernel_rfl
theorem F30.of (x0A : Option Addr) (x0n x0c : Nat) (w : World) {Q : Value → World → Prop} (h : F30.vc x0A x0n x0c w Q) : Calls Try.prog 30 #[Value.slice x0A x0n x0c] w (fun e w' => ∃ v, e = .returned v ∧ Q v w') := vcFn_sound noCount mixed ((F30.eq x0A x0n x0c w Q).symm ▸ h)
/-! ### function 31: slices.Compact[[]int,int] -/
def F31.k15c (Q : Value → World → Prop) (C4 : ((Option Addr × Nat × Nat) × Int × Unit) → World → Prop) (x0 : (Option Addr × Nat × Nat)) (x3 : Int) (w : World) : Prop :=
  gd (decide (0 ≤ x3)) <|
  gd (decide (x3 ≤ ((x0.2.2 : Nat) : Int))) <|
  Q (Value.slice (slA x0.1 x0.2.2 0 1) (x3).toNat x0.2.2) w
def F31.k15 (Q : Value → World → Prop) (C4 : ((Option Addr × Nat × Nat) × Int × Unit) → World → Prop) : ((Option Addr × Nat × Nat) × Int × Unit) → World → Prop := fun s w => ∀ _ : Nat → Value, F31.k15c Q C4 s.1 s.2.1 w
def F31.b9c (Q : Value → World → Prop) (C4 : ((Option Addr × Nat × Nat) × Int × Unit) → World → Prop) (C9 : ((Option Addr × Nat × Nat) × Int × (Option Addr × Nat × Nat) × Int × Unit) → World → Prop) (x0 : (Option Addr × Nat × Nat)) (x3 : Int) (x4 : (Option Addr × Nat × Nat)) (x5 : Int) (w : World) : Prop :=
  vIf (decide (x5 < ((x4.2.1 : Nat) : Int)))
  (dr x4.1 fun b7 o8 =>
    gd (decide (0 ≤ x5)) <|
    gd (decide (x5 < ((x4.2.1 : Nat) : Int))) <|
    ldI .i64 w.drew b7 (o8 + (x5).toNat * 1) fun i9 =>
    dr x4.1 fun b10 o11 =>
    gd (decide (0 ≤ (IntKind.wrap .i64 (x5 - 1)))) <|
    gd (decide ((IntKind.wrap .i64 (x5 - 1)) < ((x4.2.1 : Nat) : Int))) <|
    ldI .i64 w.drew b10 (o11 + ((IntKind.wrap .i64 (x5 - 1))).toNat * 1) fun i12 =>
    vIf (i9 != i12)
    (dr x4.1 fun b13 o14 =>
      gd (decide (0 ≤ x5)) <|
      gd (decide (x5 < ((x4.2.1 : Nat) : Int))) <|
      ldI .i64 w.drew b13 (o14 + (x5).toNat * 1) fun i15 =>
      dr x0.1 fun b16 o17 =>
      gd (decide (0 ≤ x3)) <|
      gd (decide (x3 < ((x0.2.1 : Nat) : Int))) <|
      st w.drew b16 (o17 + (x3).toNat * 1) [Value.int .i64 i15] fun w18 =>
      jnC C9 ((x0.1, x0.2.1, x0.2.2), ((IntKind.wrap .i64 (x3 + 1))), (x4.1, x4.2.1, x4.2.2), ((IntKind.wrap .i64 (x5 + 1))), ()) w18)
    (jnC C9 ((x0.1, x0.2.1, x0.2.2), (x3), (x4.1, x4.2.1, x4.2.2), ((IntKind.wrap .i64 (x5 + 1))), ()) w.drew))
  (gd (decide (0 ≤ x3)) <|
    gd (decide (x3 ≤ ((x0.2.1 : Nat) : Int))) <|
    vIf ((x0.2.1 - (x3).toNat) == 0)
    (jnC (F31.k15 Q C4) ((x0.1, x0.2.1, x0.2.2), (x3), ()) w)
    (dr (slA x0.1 x0.2.2 (x3).toNat 1) fun b20 o21 =>
      st w b20 o21 (zeros (x0.2.1 - (x3).toNat) [Value.int .i64 0]) fun w19 =>
      jnC (F31.k15 Q C4) ((x0.1, x0.2.1, x0.2.2), (x3), ()) w19))
def F31.b9 (Q : Value → World → Prop) (C4 : ((Option Addr × Nat × Nat) × Int × Unit) → World → Prop) : ((Option Addr × Nat × Nat) × Int × (Option Addr × Nat × Nat) × Int × Unit) → World → (((Option Addr × Nat × Nat) × Int × (Option Addr × Nat × Nat) × Int × Unit) → World → Prop) → Prop := fun s w C9 => ∀ _ : Nat → Value, F31.b9c Q C4 C9 s.1 s.2.1 s.2.2.1 s.2.2.2.1 w
def F31.l9 (Q : Value → World → Prop) (C4 : ((Option Addr × Nat × Nat) × Int × Unit) → World → Prop) : ((Option Addr × Nat × Nat) × Int × (Option Addr × Nat × Nat) × Int × Unit) → World → Prop := fun s w => ∃ n, loopC (F31.b9 Q C4) n s w
def F31.b4c (Q : Value → World → Prop) (C4 : ((Option Addr × Nat × Nat) × Int × Unit) → World → Prop) (x0 : (Option Addr × Nat × Nat)) (x3 : Int) (w : World) : Prop :=
  vIf (decide (x3 < ((x0.2.1 : Nat) : Int)))
  (dr x0.1 fun b1 o2 =>
    gd (decide (0 ≤ x3)) <|
    gd (decide (x3 < ((x0.2.1 : Nat) : Int))) <|
    ldI .i64 w.drew b1 (o2 + (x3).toNat * 1) fun i3 =>
    dr x0.1 fun b4 o5 =>
    gd (decide (0 ≤ (IntKind.wrap .i64 (x3 - 1)))) <|
    gd (decide ((IntKind.wrap .i64 (x3 - 1)) < ((x0.2.1 : Nat) : Int))) <|
    ldI .i64 w.drew b4 (o5 + ((IntKind.wrap .i64 (x3 - 1))).toNat * 1) fun i6 =>
    vIf (i3 == i6)
    (gd (decide (0 ≤ x3)) <|
      gd (decide (x3 ≤ ((x0.2.1 : Nat) : Int))) <|
      jnC (F31.l9 Q C4) ((x0.1, x0.2.1, x0.2.2), (x3), ((slA x0.1 x0.2.2 (x3).toNat 1), (x0.2.1 - (x3).toNat), (x0.2.2 - (x3).toNat)), (1), ()) w.drew)
    (jnC C4 ((x0.1, x0.2.1, x0.2.2), ((IntKind.wrap .i64 (x3 + 1))), ()) w.drew))
  (Q (Value.slice x0.1 x0.2.1 x0.2.2) w)
def F31.b4 (Q : Value → World → Prop) : ((Option Addr × Nat × Nat) × Int × Unit) → World → (((Option Addr × Nat × Nat) × Int × Unit) → World → Prop) → Prop := fun s w C4 => ∀ _ : Nat → Value, F31.b4c Q C4 s.1 s.2.1 w
def F31.l4 (Q : Value → World → Prop) : ((Option Addr × Nat × Nat) × Int × Unit) → World → Prop := fun s w => ∃ n, loopC (F31.b4 Q) n s w
def F31.vc (x0A : Option Addr) (x0n x0c : Nat) (w : World) (Q : Value → World → Prop) : Prop :=
  vIf (decide (((x0n : Nat) : Int) < 2))
  (Q (Value.slice x0A x0n x0c) w)
  (jnC (F31.l4 Q) ((x0A, x0n, x0c), (1), ()) w)
def F31.an : Ann := ⟨[(4, [(0, .kSl), (3, .kI .i64)]), (9, [(0, .kSl), (3, .kI .i64), (4, .kSl), (5, .kI .i64)])], [(15, [(0, .kSl), (3, .kI .i64)])]⟩
theorem F31.eq (x0A : Option Addr) (x0n x0c : Nat) (w : World) (Q : Value → World → Prop) : vcFn Try.prog F31.an 31 [Value.slice x0A x0n x0c] w Q = F31.vc x0A x0n x0c w Q := by kernel_rfl
theorem F31.of (x0A : Option Addr) (x0n x0c : Nat) (w : World) {Q : Value → World → Prop} (h : F31.vc x0A x0n x0c w Q) : Calls Try.prog 31 #[Value.slice x0A x0n x0c] w (fun e w' => ∃ v, e = .returned v ∧ Q v w') := vcFn_sound noCount mixed ((F31.eq x0A x0n x0c w Q).symm ▸ h)
/-! ### function 32: stillage/stillageref11.putInt -/
def F32.k10c (Q : Value → World → Prop) (C4 : ((Option Addr × Nat × Nat) × Int × (Option Addr × Nat × Nat) × Bool × Int × Unit) → World → Prop) (x0 : (Option Addr × Nat × Nat)) (x1 : Int) (x5 : (Option Addr × Nat × Nat)) (x6 : Bool) (x7 : Int) (w : World) : Prop :=
  dr x0.1 fun b13 o14 =>
  gd (decide (0 ≤ x7)) <|
  gd (decide (x7 < ((x0.2.1 : Nat) : Int))) <|
  ldI .i64 w b13 (o14 + (x7).toNat * 1) fun i15 =>
  nw w ([Value.int .i64 i15] ++ []) 3 fun b16 w17 =>
  app w17 1 8 [Value.int .i64 0] 3 x5.1 x5.2.1 x5.2.2 (Value.slice (some ⟨b16, 0, none⟩) 1 1) fun A18 n19 c20 w21 =>
  jnC C4 ((x0.1, x0.2.1, x0.2.2), (x1), (A18, n19, c20), x6, ((IntKind.wrap .i64 (x7 + 1))), ()) w21
def F32.k10 (Q : Value → World → Prop) (C4 : ((Option Addr × Nat × Nat) × Int × (Option Addr × Nat × Nat) × Bool × Int × Unit) → World → Prop) : ((Option Addr × Nat × Nat) × Int × (Option Addr × Nat × Nat) × Bool × Int × Unit) → World → Prop := fun s w => ∀ _ : Nat → Value, F32.k10c Q C4 s.1 s.2.1 s.2.2.1 s.2.2.2.1 s.2.2.2.2.1 w
def F32.k7c (Q : Value → World → Prop) (C4 : ((Option Addr × Nat × Nat) × Int × (Option Addr × Nat × Nat) × Bool × Int × Unit) → World → Prop) (x0 : (Option Addr × Nat × Nat)) (x1 : Int) (x5 : (Option Addr × Nat × Nat)) (x6 : Bool) (x7 : Int) (x23 : Bool) (w : World) : Prop :=
  vIf x23
  (dr x0.1 fun b4 o5 =>
    gd (decide (0 ≤ x7)) <|
    gd (decide (x7 < ((x0.2.1 : Nat) : Int))) <|
    ldI .i64 w b4 (o5 + (x7).toNat * 1) fun i6 =>
    vIf (decide (i6 > x1))
    (nw w ([Value.int .i64 x1] ++ []) 3 fun b7 w8 =>
      app w8 1 8 [Value.int .i64 0] 3 x5.1 x5.2.1 x5.2.2 (Value.slice (some ⟨b7, 0, none⟩) 1 1) fun A9 n10 c11 w12 =>
      jnC (F32.k10 Q C4) ((x0.1, x0.2.1, x0.2.2), (x1), (A9, n10, c11), true, (x7), ()) w12)
    (jnC (F32.k10 Q C4) ((x0.1, x0.2.1, x0.2.2), (x1), (x5.1, x5.2.1, x5.2.2), true, (x7), ()) w))
  (jnC (F32.k10 Q C4) ((x0.1, x0.2.1, x0.2.2), (x1), (x5.1, x5.2.1, x5.2.2), x6, (x7), ()) w)
def F32.k7 (Q : Value → World → Prop) (C4 : ((Option Addr × Nat × Nat) × Int × (Option Addr × Nat × Nat) × Bool × Int × Unit) → World → Prop) : ((Option Addr × Nat × Nat) × Int × (Option Addr × Nat × Nat) × Bool × Int × Bool × Unit) → World → Prop := fun s w => ∀ _ : Nat → Value, F32.k7c Q C4 s.1 s.2.1 s.2.2.1 s.2.2.2.1 s.2.2.2.2.1 s.2.2.2.2.2.1 w
def F32.b4c (Q : Value → World → Prop) (C4 : ((Option Addr × Nat × Nat) × Int × (Option Addr × Nat × Nat) × Bool × Int × Unit) → World → Prop) (x0 : (Option Addr × Nat × Nat)) (x1 : Int) (x5 : (Option Addr × Nat × Nat)) (x6 : Bool) (x7 : Int) (w : World) : Prop :=
  vIf (decide (x7 < ((x0.2.1 : Nat) : Int)))
  (vIf (!x6)
    (dr x0.1 fun b1 o2 =>
      gd (decide (0 ≤ x7)) <|
      gd (decide (x7 < ((x0.2.1 : Nat) : Int))) <|
      ldI .i64 w b1 (o2 + (x7).toNat * 1) fun i3 =>
      jnC (F32.k7 Q C4) ((x0.1, x0.2.1, x0.2.2), (x1), (x5.1, x5.2.1, x5.2.2), x6, (x7), (decide (i3 ≥ x1)), ()) w)
    (jnC (F32.k7 Q C4) ((x0.1, x0.2.1, x0.2.2), (x1), (x5.1, x5.2.1, x5.2.2), x6, (x7), false, ()) w))
  (vIf (!x6)
    (nw w ([Value.int .i64 x1] ++ []) 3 fun b22 w23 =>
      app w23 1 8 [Value.int .i64 0] 3 x5.1 x5.2.1 x5.2.2 (Value.slice (some ⟨b22, 0, none⟩) 1 1) fun A24 n25 c26 w27 =>
      Q (Value.slice A24 n25 c26) w27)
    (Q (Value.slice x5.1 x5.2.1 x5.2.2) w))
def F32.b4 (Q : Value → World → Prop) : ((Option Addr × Nat × Nat) × Int × (Option Addr × Nat × Nat) × Bool × Int × Unit) → World → (((Option Addr × Nat × Nat) × Int × (Option Addr × Nat × Nat) × Bool × Int × Unit) → World → Prop) → Prop := fun s w C4 => ∀ _ : Nat → Value, F32.b4c Q C4 s.1 s.2.1 s.2.2.1 s.2.2.2.1 s.2.2.2.2.1 w
def F32.l4 (Q : Value → World → Prop) : ((Option Addr × Nat × Nat) × Int × (Option Addr × Nat × Nat) × Bool × Int × Unit) → World → Prop := fun s w => ∃ n, loopC (F32.b4 Q) n s w
def F32.vc (x0A : Option Addr) (x0n x0c : Nat) (x1 : Int) (w : World) (Q : Value → World → Prop) : Prop :=
  jnC (F32.l4 Q) ((x0A, x0n, x0c), (x1), (none, 0, 0), false, (0), ()) w
def F32.an : Ann := ⟨[(4, [(0, .kSl), (1, .kI .i64), (5, .kSl), (6, .kB), (7, .kI .i64)])], [(7, [(0, .kSl), (1, .kI .i64), (5, .kSl), (6, .kB), (7, .kI .i64), (23, .kB)]), (10, [(0, .kSl), (1, .kI .i64), (5, .kSl), (6, .kB), (7, .kI .i64)])]⟩
theorem F32.eq (x0A : Option Addr) (x0n x0c : Nat) (x1 : Int) (w : World) (Q : Value → World → Prop) : vcFn Try.prog F32.an 32 [Value.slice x0A x0n x0c, Value.int .i64 x1] w Q = F32.vc x0A x0n x0c x1 w Q := by kernel_rfl
theorem F32.of (x0A : Option Addr) (x0n x0c : Nat) (x1 : Int) (w : World) {Q : Value → World → Prop} (h : F32.vc x0A x0n x0c x1 w Q) : Calls Try.prog 32 #[Value.slice x0A x0n x0c, Value.int .i64 x1] w (fun e w' => ∃ v, e = .returned v ∧ Q v w') := vcFn_sound noCount mixed ((F32.eq x0A x0n x0c x1 w Q).symm ▸ h)
/-! ### function 33: stillage/name.Disk -/
def F33.b4c (Q : Value → World → Prop) (C4 : (ByteArray × Int × Int × Unit) → World → Prop) (x0 : ByteArray) (x13 : Int) (x14 : Int) (w : World) : Prop :=
  vIf (decide (x14 < x13))
  (gd (decide (0 ≤ x14)) <|
    gd (decide (x14 < (x0.size : Int))) <|
    vIf (decide ((byteAt x0 (x14).toNat) < 33))
    (Q (Value.bool false) w)
    (vIf (decide ((byteAt x0 (x14).toNat) > 126))
      (Q (Value.bool false) w)
      (vIf ((byteAt x0 (x14).toNat) == 47)
        (Q (Value.bool false) w)
        (jnC C4 (x0, (x13), ((IntKind.wrap .i64 (x14 + 1))), ()) w))))
  (Q (Value.bool true) w)
def F33.b4 (Q : Value → World → Prop) : (ByteArray × Int × Int × Unit) → World → ((ByteArray × Int × Int × Unit) → World → Prop) → Prop := fun s w C4 => ∀ _ : Nat → Value, F33.b4c Q C4 s.1 s.2.1 s.2.2.1 w
def F33.l4 (Q : Value → World → Prop) : (ByteArray × Int × Int × Unit) → World → Prop := fun s w => ∃ n, loopC (F33.b4 Q) n s w
def F33.k3c (Q : Value → World → Prop) (x0 : ByteArray) (w : World) : Prop :=
  jnC (F33.l4 Q) (x0, ((x0.size : Int)), (0), ()) w
def F33.k3 (Q : Value → World → Prop) : (ByteArray × Unit) → World → Prop := fun s w => ∀ _ : Nat → Value, F33.k3c Q s.1 w
def F33.vc (x0 : ByteArray) (w : World) (Q : Value → World → Prop) : Prop :=
  vIf (x0.toList == (⟨#[]⟩ : ByteArray).toList)
  (Q (Value.bool false) w)
  (vIf (decide ((x0.size : Int) > 32))
    (Q (Value.bool false) w)
    (jnC (F33.k3 Q) (x0, ()) w))
def F33.an : Ann := ⟨[(4, [(0, .kS), (13, .kI .i64), (14, .kI .i64)])], [(3, [(0, .kS)])]⟩
theorem F33.eq (x0 : ByteArray) (w : World) (Q : Value → World → Prop) : vcFn Try.prog F33.an 33 [Value.string x0] w Q = F33.vc x0 w Q := by kernel_rfl
theorem F33.of (x0 : ByteArray) (w : World) {Q : Value → World → Prop} (h : F33.vc x0 w Q) : Calls Try.prog 33 #[Value.string x0] w (fun e w' => ∃ v, e = .returned v ∧ Q v w') := vcFn_sound noCount mixed ((F33.eq x0 w Q).symm ▸ h)
/-! ### function 34: strings.Compare -/
def F34.vc (x0 : ByteArray) (x1 : ByteArray) (w : World) (Q : Value → World → Prop) : Prop :=
  Calls Try.prog 39 #[Value.string x0, Value.string x1] w fun e2 w1 =>
  ∃ i3 : Int, e2 = .returned (Value.int .i64 i3) ∧ (
    Q (Value.int .i64 i3) w1)
def F34.an : Ann := ⟨[], []⟩
theorem F34.eq (x0 : ByteArray) (x1 : ByteArray) (w : World) (Q : Value → World → Prop) : vcFn Try.prog F34.an 34 [Value.string x0, Value.string x1] w Q = F34.vc x0 x1 w Q := by kernel_rfl
theorem F34.of (x0 : ByteArray) (x1 : ByteArray) (w : World) {Q : Value → World → Prop} (h : F34.vc x0 x1 w Q) : Calls Try.prog 34 #[Value.string x0, Value.string x1] w (fun e w' => ∃ v, e = .returned v ∧ Q v w') := vcFn_sound noCount mixed ((F34.eq x0 x1 w Q).symm ▸ h)
/-! ### function 35: stillage/folder.lasts -/
def F35.vc (x0 : List Value) (w : World) (Q : Value → World → Prop) : Prop :=
  nw w x0 25 fun b1 w2 =>
  ldSl w2 b1 0 fun A3 n4 c5 =>
  Calls Try.prog 40 #[Value.slice A3 n4 c5] w2 fun e7 w6 =>
  ∃ (A8 : Option Addr) (n9 c10 : Nat), e7 = .returned (Value.slice A8 n9 c10) ∧ (
    Calls Try.prog 41 #[Value.slice A8 n9 c10, Value.func (.func 42) #[] #[]] w6 fun e12 w11 =>
    e12 = .returned (Value.tuple #[]) ∧ (
      Calls Try.prog 43 #[Value.slice A8 n9 c10, Value.func (.func 44) #[] #[]] w11 fun e14 w13 =>
      ∃ (A15 : Option Addr) (n16 c17 : Nat), e14 = .returned (Value.slice A15 n16 c17) ∧ (
        Q (Value.slice A15 n16 c17) w13)))
def F35.an : Ann := ⟨[], []⟩
theorem F35.eq (x0 : List Value) (w : World) (Q : Value → World → Prop) : vcFn Try.prog F35.an 35 [ofL x0] w Q = F35.vc x0 w Q := by kernel_rfl
theorem F35.of (x0 : List Value) (w : World) {Q : Value → World → Prop} (h : F35.vc x0 w Q) : Calls Try.prog 35 #[ofL x0] w (fun e w' => ∃ v, e = .returned v ∧ Q v w') := vcFn_sound noCount mixed ((F35.eq x0 w Q).symm ▸ h)
/-! ### function 36: stillage/folder.step -/
def F36.vc (x0A : Option Addr) (x0n x0c : Nat) (x1 : List Value) (w : World) (Q : Value → World → Prop) : Prop :=
  nw w x1 27 fun b1 w2 =>
  ldI .i64 w2 b1 0 fun i3 =>
  vIf (i3 == 1)
  (ldS w2 b1 (0 + 1) fun s4 =>
    ldI .i64 w2 b1 (0 + 3) fun i5 =>
    Calls Try.prog 45 #[Value.slice x0A x0n x0c, Value.string s4, Value.int .i64 i5] w2 fun e7 w6 =>
    ∃ (A8 : Option Addr) (n9 c10 : Nat), e7 = .returned (Value.slice A8 n9 c10) ∧ (
      Q (Value.slice A8 n9 c10) w6))
  (vIf (i3 == 3)
    (ldS w2 b1 (0 + 1) fun s11 =>
      Calls Try.prog 46 #[Value.slice x0A x0n x0c, Value.string s11] w2 fun e13 w12 =>
      ∃ (A14 : Option Addr) (n15 c16 : Nat), ∃ i17 : Int, ∃ t18 : Bool, e13 = .returned (Value.tuple #[Value.slice A14 n15 c16, Value.int .i64 i17, Value.bool t18]) ∧ (
        Q (Value.slice A14 n15 c16) w12))
    (vIf (i3 == 2)
      (ldS w2 b1 (0 + 1) fun s19 =>
        Calls Try.prog 46 #[Value.slice x0A x0n x0c, Value.string s19] w2 fun e21 w20 =>
        ∃ (A22 : Option Addr) (n23 c24 : Nat), ∃ i25 : Int, ∃ t26 : Bool, e21 = .returned (Value.tuple #[Value.slice A22 n23 c24, Value.int .i64 i25, Value.bool t26]) ∧ (
          vIf t26
          (ldS w20 b1 (0 + 2) fun s27 =>
            Calls Try.prog 45 #[Value.slice A22 n23 c24, Value.string s27, Value.int .i64 i25] w20 fun e29 w28 =>
            ∃ (A30 : Option Addr) (n31 c32 : Nat), e29 = .returned (Value.slice A30 n31 c32) ∧ (
              Q (Value.slice A30 n31 c32) w28))
          (Q (Value.slice x0A x0n x0c) w20)))
      (Q (Value.slice x0A x0n x0c) w2)))
def F36.an : Ann := ⟨[], []⟩
theorem F36.eq (x0A : Option Addr) (x0n x0c : Nat) (x1 : List Value) (w : World) (Q : Value → World → Prop) : vcFn Try.prog F36.an 36 [Value.slice x0A x0n x0c, ofL x1] w Q = F36.vc x0A x0n x0c x1 w Q := by kernel_rfl
theorem F36.of (x0A : Option Addr) (x0n x0c : Nat) (x1 : List Value) (w : World) {Q : Value → World → Prop} (h : F36.vc x0A x0n x0c x1 w Q) : Calls Try.prog 36 #[Value.slice x0A x0n x0c, ofL x1] w (fun e w' => ∃ v, e = .returned v ∧ Q v w') := vcFn_sound noCount mixed ((F36.eq x0A x0n x0c x1 w Q).symm ▸ h)
/-! ### function 39: internal/bytealg.CompareString -/
def F39.vc (x0 : ByteArray) (x1 : ByteArray) (w : World) (Q : Value → World → Prop) : Prop :=
  extC Try.prog 58 #[Value.string x0, Value.string x1] w fun v3 w1 =>
  ∃ i4 : Int, v3 = Value.int .i64 i4 ∧ (
    Q (Value.int .i64 i4) w1)
def F39.an : Ann := ⟨[], []⟩
theorem F39.eq (x0 : ByteArray) (x1 : ByteArray) (w : World) (Q : Value → World → Prop) : vcFn Try.prog F39.an 39 [Value.string x0, Value.string x1] w Q = F39.vc x0 x1 w Q := by kernel_rfl
theorem F39.of (x0 : ByteArray) (x1 : ByteArray) (w : World) {Q : Value → World → Prop} (h : F39.vc x0 x1 w Q) : Calls Try.prog 39 #[Value.string x0, Value.string x1] w (fun e w' => ∃ v, e = .returned v ∧ Q v w') := vcFn_sound noCount mixed ((F39.eq x0 x1 w Q).symm ▸ h)
/-! ### function 40: slices.Clone[[]stillage/api.Named,stillage/api.Named] -/
def F40.vc (x0A : Option Addr) (x0n x0c : Nat) (w : World) (Q : Value → World → Prop) : Prop :=
  vIf x0A.isNone
  (Q (Value.slice none 0 0) w)
  (nw w [] 48 fun b1 w2 =>
    app w2 2 24 [Value.string (⟨#[]⟩ : ByteArray), Value.int .i64 0] 48 (some ⟨b1, 0, none⟩) 0 0 (Value.slice x0A x0n x0c) fun A3 n4 c5 w6 =>
    Q (Value.slice A3 n4 c5) w6)
def F40.an : Ann := ⟨[], []⟩
theorem F40.eq (x0A : Option Addr) (x0n x0c : Nat) (w : World) (Q : Value → World → Prop) : vcFn Try.prog F40.an 40 [Value.slice x0A x0n x0c] w Q = F40.vc x0A x0n x0c w Q := by kernel_rfl
theorem F40.of (x0A : Option Addr) (x0n x0c : Nat) (w : World) {Q : Value → World → Prop} (h : F40.vc x0A x0n x0c w Q) : Calls Try.prog 40 #[Value.slice x0A x0n x0c] w (fun e w' => ∃ v, e = .returned v ∧ Q v w') := vcFn_sound noCount mixed ((F40.eq x0A x0n x0c w Q).symm ▸ h)
/-! ### function 41: slices.SortStableFunc[[]stillage/api.Named,stillage/api.Named] -/
def F41s.vc (x0A : Option Addr) (x0n x0c : Nat) (w : World) (Q : Value → World → Prop) : Prop :=
  Calls Try.prog 59 #[Value.slice x0A x0n x0c, Value.int .i64 ((x0n : Nat) : Int), Value.func (.func 42) #[] #[]] w fun e2 w1 =>
  e2 = .returned (Value.tuple #[]) ∧ (
    Q (Value.tuple #[]) w1)
def F41s.an : Ann := ⟨[], []⟩
theorem F41s.eq (x0A : Option Addr) (x0n x0c : Nat) (w : World) (Q : Value → World → Prop) : vcFn Try.prog F41s.an 41 [Value.slice x0A x0n x0c, Value.func (.func 42) #[] #[]] w Q = F41s.vc x0A x0n x0c w Q := by kernel_rfl
theorem F41s.of (x0A : Option Addr) (x0n x0c : Nat) (w : World) {Q : Value → World → Prop} (h : F41s.vc x0A x0n x0c w Q) : Calls Try.prog 41 #[Value.slice x0A x0n x0c, Value.func (.func 42) #[] #[]] w (fun e w' => ∃ v, e = .returned v ∧ Q v w') := vcFn_sound noCount mixed ((F41s.eq x0A x0n x0c w Q).symm ▸ h)
/-! ### function 42: stillage/folder.lasts$1 -/
def F42.vc (x0 : List Value) (x1 : List Value) (w : World) (Q : Value → World → Prop) : Prop :=
  nw w x0 48 fun b1 w2 =>
  nw w2 x1 48 fun b3 w4 =>
  ldS w4 b1 0 fun s5 =>
  ldS w4 b3 0 fun s6 =>
  Calls Try.prog 34 #[Value.string s5, Value.string s6] w4 fun e8 w7 =>
  ∃ i9 : Int, e8 = .returned (Value.int .i64 i9) ∧ (
    Q (Value.int .i64 i9) w7)
def F42.an : Ann := ⟨[], []⟩
theorem F42.eq (x0 : List Value) (x1 : List Value) (w : World) (Q : Value → World → Prop) : vcFn Try.prog F42.an 42 [ofL x0, ofL x1] w Q = F42.vc x0 x1 w Q := by kernel_rfl
theorem F42.of (x0 : List Value) (x1 : List Value) (w : World) {Q : Value → World → Prop} (h : F42.vc x0 x1 w Q) : Calls Try.prog 42 #[ofL x0, ofL x1] w (fun e w' => ∃ v, e = .returned v ∧ Q v w') := vcFn_sound noCount mixed ((F42.eq x0 x1 w Q).symm ▸ h)
/-! ### function 43: slices.CompactFunc[[]stillage/api.Named,stillage/api.Named] -/
def F43s.k15c (Q : Value → World → Prop) (C4 : ((Option Addr × Nat × Nat) × Unit × Int × Unit) → World → Prop) (x0 : (Option Addr × Nat × Nat)) (x5 : Int) (w : World) : Prop :=
  gd (decide (0 ≤ x5)) <|
  gd (decide (x5 ≤ ((x0.2.2 : Nat) : Int))) <|
  Q (Value.slice (slA x0.1 x0.2.2 0 2) (x5).toNat x0.2.2) w
def F43s.k15 (Q : Value → World → Prop) (C4 : ((Option Addr × Nat × Nat) × Unit × Int × Unit) → World → Prop) : ((Option Addr × Nat × Nat) × Int × Unit) → World → Prop := fun s w => ∀ _ : Nat → Value, F43s.k15c Q C4 s.1 s.2.1 w
def F43s.b9c (Q : Value → World → Prop) (C4 : ((Option Addr × Nat × Nat) × Unit × Int × Unit) → World → Prop) (C9 : ((Option Addr × Nat × Nat) × Unit × Int × (Option Addr × Nat × Nat) × Int × Unit) → World → Prop) (x0 : (Option Addr × Nat × Nat)) (x1 : Unit) (x5 : Int) (x6 : (Option Addr × Nat × Nat)) (x7 : Int) (w : World) : Prop :=
  vIf (decide (x7 < ((x6.2.1 : Nat) : Int)))
  (dr x6.1 fun b10 o11 =>
    gd (decide (0 ≤ x7)) <|
    gd (decide (x7 < ((x6.2.1 : Nat) : Int))) <|
    ldA 2 w.drew b10 (o11 + (x7).toNat * 2) fun a12 =>
    dr x6.1 fun b13 o14 =>
    gd (decide (0 ≤ (IntKind.wrap .i64 (x7 - 1)))) <|
    gd (decide ((IntKind.wrap .i64 (x7 - 1)) < ((x6.2.1 : Nat) : Int))) <|
    ldA 2 w.drew b13 (o14 + ((IntKind.wrap .i64 (x7 - 1))).toNat * 2) fun a15 =>
    Calls Try.prog 44 #[ofL a12, ofL a15] w.drew fun e17 w16 =>
    ∃ t18 : Bool, e17 = .returned (Value.bool t18) ∧ (
      vIf (!t18)
      (dr x6.1 fun b19 o20 =>
        gd (decide (0 ≤ x7)) <|
        gd (decide (x7 < ((x6.2.1 : Nat) : Int))) <|
        ldA 2 w16 b19 (o20 + (x7).toNat * 2) fun a21 =>
        dr x0.1 fun b22 o23 =>
        gd (decide (0 ≤ x5)) <|
        gd (decide (x5 < ((x0.2.1 : Nat) : Int))) <|
        gd (a21.length == 2) <|
        st w16 b22 (o23 + (x5).toNat * 2) a21 fun w24 =>
        jnC C9 ((x0.1, x0.2.1, x0.2.2), (), ((IntKind.wrap .i64 (x5 + 1))), (x6.1, x6.2.1, x6.2.2), ((IntKind.wrap .i64 (x7 + 1))), ()) w24)
      (jnC C9 ((x0.1, x0.2.1, x0.2.2), (), (x5), (x6.1, x6.2.1, x6.2.2), ((IntKind.wrap .i64 (x7 + 1))), ()) w16)))
  (gd (decide (0 ≤ x5)) <|
    gd (decide (x5 ≤ ((x0.2.1 : Nat) : Int))) <|
    vIf ((x0.2.1 - (x5).toNat) == 0)
    (jnC (F43s.k15 Q C4) ((x0.1, x0.2.1, x0.2.2), (x5), ()) w)
    (dr (slA x0.1 x0.2.2 (x5).toNat 2) fun b26 o27 =>
      st w b26 o27 (zeros (x0.2.1 - (x5).toNat) [Value.string (⟨#[]⟩ : ByteArray), Value.int .i64 0]) fun w25 =>
      jnC (F43s.k15 Q C4) ((x0.1, x0.2.1, x0.2.2), (x5), ()) w25))
def F43s.b9 (Q : Value → World → Prop) (C4 : ((Option Addr × Nat × Nat) × Unit × Int × Unit) → World → Prop) : ((Option Addr × Nat × Nat) × Unit × Int × (Option Addr × Nat × Nat) × Int × Unit) → World → (((Option Addr × Nat × Nat) × Unit × Int × (Option Addr × Nat × Nat) × Int × Unit) → World → Prop) → Prop := fun s w C9 => ∀ _ : Nat → Value, F43s.b9c Q C4 C9 s.1 s.2.1 s.2.2.1 s.2.2.2.1 s.2.2.2.2.1 w
def F43s.l9 (Q : Value → World → Prop) (C4 : ((Option Addr × Nat × Nat) × Unit × Int × Unit) → World → Prop) : ((Option Addr × Nat × Nat) × Unit × Int × (Option Addr × Nat × Nat) × Int × Unit) → World → Prop := fun s w => ∃ n, loopC (F43s.b9 Q C4) n s w
def F43s.b4c (Q : Value → World → Prop) (C4 : ((Option Addr × Nat × Nat) × Unit × Int × Unit) → World → Prop) (x0 : (Option Addr × Nat × Nat)) (x1 : Unit) (x5 : Int) (w : World) : Prop :=
  vIf (decide (x5 < ((x0.2.1 : Nat) : Int)))
  (dr x0.1 fun b1 o2 =>
    gd (decide (0 ≤ x5)) <|
    gd (decide (x5 < ((x0.2.1 : Nat) : Int))) <|
    ldA 2 w.drew b1 (o2 + (x5).toNat * 2) fun a3 =>
    dr x0.1 fun b4 o5 =>
    gd (decide (0 ≤ (IntKind.wrap .i64 (x5 - 1)))) <|
    gd (decide ((IntKind.wrap .i64 (x5 - 1)) < ((x0.2.1 : Nat) : Int))) <|
    ldA 2 w.drew b4 (o5 + ((IntKind.wrap .i64 (x5 - 1))).toNat * 2) fun a6 =>
    Calls Try.prog 44 #[ofL a3, ofL a6] w.drew fun e8 w7 =>
    ∃ t9 : Bool, e8 = .returned (Value.bool t9) ∧ (
      vIf t9
      (gd (decide (0 ≤ x5)) <|
        gd (decide (x5 ≤ ((x0.2.1 : Nat) : Int))) <|
        jnC (F43s.l9 Q C4) ((x0.1, x0.2.1, x0.2.2), (), (x5), ((slA x0.1 x0.2.2 (x5).toNat 2), (x0.2.1 - (x5).toNat), (x0.2.2 - (x5).toNat)), (1), ()) w7)
      (jnC C4 ((x0.1, x0.2.1, x0.2.2), (), ((IntKind.wrap .i64 (x5 + 1))), ()) w7)))
  (Q (Value.slice x0.1 x0.2.1 x0.2.2) w)
def F43s.b4 (Q : Value → World → Prop) : ((Option Addr × Nat × Nat) × Unit × Int × Unit) → World → (((Option Addr × Nat × Nat) × Unit × Int × Unit) → World → Prop) → Prop := fun s w C4 => ∀ _ : Nat → Value, F43s.b4c Q C4 s.1 s.2.1 s.2.2.1 w
def F43s.l4 (Q : Value → World → Prop) : ((Option Addr × Nat × Nat) × Unit × Int × Unit) → World → Prop := fun s w => ∃ n, loopC (F43s.b4 Q) n s w
def F43s.vc (x0A : Option Addr) (x0n x0c : Nat) (w : World) (Q : Value → World → Prop) : Prop :=
  vIf (decide (((x0n : Nat) : Int) < 2))
  (Q (Value.slice x0A x0n x0c) w)
  (jnC (F43s.l4 Q) ((x0A, x0n, x0c), (), (1), ()) w)
def F43s.an : Ann := ⟨[(4, [(0, .kSl), (1, .kF 44), (5, .kI .i64)]), (9, [(0, .kSl), (1, .kF 44), (5, .kI .i64), (6, .kSl), (7, .kI .i64)])], [(15, [(0, .kSl), (5, .kI .i64)])]⟩
theorem F43s.eq (x0A : Option Addr) (x0n x0c : Nat) (w : World) (Q : Value → World → Prop) : vcFn Try.prog F43s.an 43 [Value.slice x0A x0n x0c, Value.func (.func 44) #[] #[]] w Q = F43s.vc x0A x0n x0c w Q := by kernel_rfl
theorem F43s.of (x0A : Option Addr) (x0n x0c : Nat) (w : World) {Q : Value → World → Prop} (h : F43s.vc x0A x0n x0c w Q) : Calls Try.prog 43 #[Value.slice x0A x0n x0c, Value.func (.func 44) #[] #[]] w (fun e w' => ∃ v, e = .returned v ∧ Q v w') := vcFn_sound noCount mixed ((F43s.eq x0A x0n x0c w Q).symm ▸ h)
/-! ### function 44: stillage/folder.lasts$2 -/
def F44.vc (x0 : List Value) (x1 : List Value) (w : World) (Q : Value → World → Prop) : Prop :=
  nw w x0 48 fun b1 w2 =>
  nw w2 x1 48 fun b3 w4 =>
  ldS w4 b1 0 fun s5 =>
  ldS w4 b3 0 fun s6 =>
  Q (Value.bool (s5.toList == s6.toList)) w4
def F44.an : Ann := ⟨[], []⟩
theorem F44.eq (x0 : List Value) (x1 : List Value) (w : World) (Q : Value → World → Prop) : vcFn Try.prog F44.an 44 [ofL x0, ofL x1] w Q = F44.vc x0 x1 w Q := by kernel_rfl
theorem F44.of (x0 : List Value) (x1 : List Value) (w : World) {Q : Value → World → Prop} (h : F44.vc x0 x1 w Q) : Calls Try.prog 44 #[ofL x0, ofL x1] w (fun e w' => ∃ v, e = .returned v ∧ Q v w') := vcFn_sound noCount mixed ((F44.eq x0 x1 w Q).symm ▸ h)
/-! ### function 45: stillage/folder.set -/
def F45.vc (x0A : Option Addr) (x0n x0c : Nat) (x1 : ByteArray) (x2 : Int) (w : World) (Q : Value → World → Prop) : Prop :=
  Calls Try.prog 24 #[Value.slice x0A x0n x0c, Value.string x1, Value.func (.func 25) #[] #[]] w fun e2 w1 =>
  ∃ i3 : Int, ∃ t4 : Bool, e2 = .returned (Value.tuple #[Value.int .i64 i3, Value.bool t4]) ∧ (
    vIf t4
    (dr x0A fun b5 o6 =>
      gd (decide (0 ≤ i3)) <|
      gd (decide (i3 < ((x0n : Nat) : Int))) <|
      st w1 b5 ((o6 + (i3).toNat * 2) + 1) [Value.int .i64 x2] fun w7 =>
      Q (Value.slice x0A x0n x0c) w7)
    (gd (([Value.string x1] ++ ([Value.int .i64 x2] ++ [])).length == 2) <|
      nw w1 (([Value.string x1] ++ ([Value.int .i64 x2] ++ [])) ++ []) 48 fun b8 w9 =>
      Calls Try.prog 60 #[Value.slice x0A x0n x0c, Value.int .i64 i3, Value.slice (some ⟨b8, 0, none⟩) 1 1] w9 fun e11 w10 =>
      ∃ (A12 : Option Addr) (n13 c14 : Nat), e11 = .returned (Value.slice A12 n13 c14) ∧ (
        Q (Value.slice A12 n13 c14) w10)))
def F45.an : Ann := ⟨[], []⟩
theorem F45.eq (x0A : Option Addr) (x0n x0c : Nat) (x1 : ByteArray) (x2 : Int) (w : World) (Q : Value → World → Prop) : vcFn Try.prog F45.an 45 [Value.slice x0A x0n x0c, Value.string x1, Value.int .i64 x2] w Q = F45.vc x0A x0n x0c x1 x2 w Q := by kernel_rfl
theorem F45.of (x0A : Option Addr) (x0n x0c : Nat) (x1 : ByteArray) (x2 : Int) (w : World) {Q : Value → World → Prop} (h : F45.vc x0A x0n x0c x1 x2 w Q) : Calls Try.prog 45 #[Value.slice x0A x0n x0c, Value.string x1, Value.int .i64 x2] w (fun e w' => ∃ v, e = .returned v ∧ Q v w') := vcFn_sound noCount mixed ((F45.eq x0A x0n x0c x1 x2 w Q).symm ▸ h)
/-! ### function 46: stillage/folder.cut -/
def F46.vc (x0A : Option Addr) (x0n x0c : Nat) (x1 : ByteArray) (w : World) (Q : Value → World → Prop) : Prop :=
  Calls Try.prog 24 #[Value.slice x0A x0n x0c, Value.string x1, Value.func (.func 25) #[] #[]] w fun e2 w1 =>
  ∃ i3 : Int, ∃ t4 : Bool, e2 = .returned (Value.tuple #[Value.int .i64 i3, Value.bool t4]) ∧ (
    vIf (!t4)
    (Q (Value.tuple #[Value.slice x0A x0n x0c, Value.int .i64 0, Value.bool false]) w1)
    (dr x0A fun b5 o6 =>
      gd (decide (0 ≤ i3)) <|
      gd (decide (i3 < ((x0n : Nat) : Int))) <|
      ldI .i64 w1 b5 ((o6 + (i3).toNat * 2) + 1) fun i7 =>
      Calls Try.prog 61 #[Value.slice x0A x0n x0c, Value.int .i64 i3, Value.int .i64 (IntKind.wrap .i64 (i3 + 1))] w1 fun e9 w8 =>
      ∃ (A10 : Option Addr) (n11 c12 : Nat), e9 = .returned (Value.slice A10 n11 c12) ∧ (
        Q (Value.tuple #[Value.slice A10 n11 c12, Value.int .i64 i7, Value.bool true]) w8)))
def F46.an : Ann := ⟨[], []⟩
theorem F46.eq (x0A : Option Addr) (x0n x0c : Nat) (x1 : ByteArray) (w : World) (Q : Value → World → Prop) : vcFn Try.prog F46.an 46 [Value.slice x0A x0n x0c, Value.string x1] w Q = F46.vc x0A x0n x0c x1 w Q := by kernel_rfl
theorem F46.of (x0A : Option Addr) (x0n x0c : Nat) (x1 : ByteArray) (w : World) {Q : Value → World → Prop} (h : F46.vc x0A x0n x0c x1 w Q) : Calls Try.prog 46 #[Value.slice x0A x0n x0c, Value.string x1] w (fun e w' => ∃ v, e = .returned v ∧ Q v w') := vcFn_sound noCount mixed ((F46.eq x0A x0n x0c x1 w Q).symm ▸ h)
/-! ### function 59: slices.stableCmpFunc[stillage/api.Named] -/
def F59s.b9c (Q : Value → World → Prop) (C7 : ((Option Addr × Nat × Nat) × Int × Unit × Int × Unit) → World → Prop) (C9 : ((Option Addr × Nat × Nat) × Int × Unit × Int × Int × Int × Unit) → World → Prop) (x0 : (Option Addr × Nat × Nat)) (x1 : Int) (x2 : Unit) (x6 : Int) (x7 : Int) (x8 : Int) (w : World) : Prop :=
  vIf (decide (x8 ≤ x1))
  (Calls Try.prog 69 #[Value.slice x0.1 x0.2.1 x0.2.2, Value.int .i64 x7, Value.int .i64 (IntKind.wrap .i64 (x7 + x6)), Value.int .i64 x8, Value.func (.func 42) #[] #[]] w fun e6 w5 =>
    e6 = .returned (Value.tuple #[]) ∧ (
      jnC C9 ((x0.1, x0.2.1, x0.2.2), (x1), (), (x6), (x8), ((IntKind.wrap .i64 (x8 + (IntKind.wrap .i64 (2 * x6))))), ()) w5))
  (vIf (decide ((IntKind.wrap .i64 (x7 + x6)) < x1))
    (Calls Try.prog 69 #[Value.slice x0.1 x0.2.1 x0.2.2, Value.int .i64 x7, Value.int .i64 (IntKind.wrap .i64 (x7 + x6)), Value.int .i64 x1, Value.func (.func 42) #[] #[]] w fun e8 w7 =>
      e8 = .returned (Value.tuple #[]) ∧ (
        jnC C7 ((x0.1, x0.2.1, x0.2.2), (x1), (), ((IntKind.wrap .i64 (x6 * 2))), ()) w7))
    (jnC C7 ((x0.1, x0.2.1, x0.2.2), (x1), (), ((IntKind.wrap .i64 (x6 * 2))), ()) w))
def F59s.b9 (Q : Value → World → Prop) (C7 : ((Option Addr × Nat × Nat) × Int × Unit × Int × Unit) → World → Prop) : ((Option Addr × Nat × Nat) × Int × Unit × Int × Int × Int × Unit) → World → (((Option Addr × Nat × Nat) × Int × Unit × Int × Int × Int × Unit) → World → Prop) → Prop := fun s w C9 => ∀ _ : Nat → Value, F59s.b9c Q C7 C9 s.1 s.2.1 s.2.2.1 s.2.2.2.1 s.2.2.2.2.1 s.2.2.2.2.2.1 w
def F59s.l9 (Q : Value → World → Prop) (C7 : ((Option Addr × Nat × Nat) × Int × Unit × Int × Unit) → World → Prop) : ((Option Addr × Nat × Nat) × Int × Unit × Int × Int × Int × Unit) → World → Prop := fun s w => ∃ n, loopC (F59s.b9 Q C7) n s w
def F59s.b7c (Q : Value → World → Prop) (C7 : ((Option Addr × Nat × Nat) × Int × Unit × Int × Unit) → World → Prop) (x0 : (Option Addr × Nat × Nat)) (x1 : Int) (x2 : Unit) (x6 : Int) (w : World) : Prop :=
  vIf (decide (x6 < x1))
  (jnC (F59s.l9 Q C7) ((x0.1, x0.2.1, x0.2.2), (x1), (), (x6), (0), ((IntKind.wrap .i64 (2 * x6))), ()) w)
  (Q (Value.tuple #[]) w)
def F59s.b7 (Q : Value → World → Prop) : ((Option Addr × Nat × Nat) × Int × Unit × Int × Unit) → World → (((Option Addr × Nat × Nat) × Int × Unit × Int × Unit) → World → Prop) → Prop := fun s w C7 => ∀ _ : Nat → Value, F59s.b7c Q C7 s.1 s.2.1 s.2.2.1 s.2.2.2.1 w
def F59s.l7 (Q : Value → World → Prop) : ((Option Addr × Nat × Nat) × Int × Unit × Int × Unit) → World → Prop := fun s w => ∃ n, loopC (F59s.b7 Q) n s w
def F59s.b2c (Q : Value → World → Prop) (C2 : ((Option Addr × Nat × Nat) × Int × Unit × Int × Int × Int × Unit) → World → Prop) (x0 : (Option Addr × Nat × Nat)) (x1 : Int) (x2 : Unit) (x6 : Int) (x7 : Int) (x8 : Int) (w : World) : Prop :=
  vIf (decide (x8 ≤ x1))
  (Calls Try.prog 68 #[Value.slice x0.1 x0.2.1 x0.2.2, Value.int .i64 x7, Value.int .i64 x8, Value.func (.func 42) #[] #[]] w fun e2 w1 =>
    e2 = .returned (Value.tuple #[]) ∧ (
      jnC C2 ((x0.1, x0.2.1, x0.2.2), (x1), (), (x6), (x8), ((IntKind.wrap .i64 (x8 + x6))), ()) w1))
  (Calls Try.prog 68 #[Value.slice x0.1 x0.2.1 x0.2.2, Value.int .i64 x7, Value.int .i64 x1, Value.func (.func 42) #[] #[]] w fun e4 w3 =>
    e4 = .returned (Value.tuple #[]) ∧ (
      jnC (F59s.l7 Q) ((x0.1, x0.2.1, x0.2.2), (x1), (), (x6), ()) w3))
def F59s.b2 (Q : Value → World → Prop) : ((Option Addr × Nat × Nat) × Int × Unit × Int × Int × Int × Unit) → World → (((Option Addr × Nat × Nat) × Int × Unit × Int × Int × Int × Unit) → World → Prop) → Prop := fun s w C2 => ∀ _ : Nat → Value, F59s.b2c Q C2 s.1 s.2.1 s.2.2.1 s.2.2.2.1 s.2.2.2.2.1 s.2.2.2.2.2.1 w
def F59s.l2 (Q : Value → World → Prop) : ((Option Addr × Nat × Nat) × Int × Unit × Int × Int × Int × Unit) → World → Prop := fun s w => ∃ n, loopC (F59s.b2 Q) n s w
def F59s.vc (x0A : Option Addr) (x0n x0c : Nat) (x1 : Int) (w : World) (Q : Value → World → Prop) : Prop :=
  jnC (F59s.l2 Q) ((x0A, x0n, x0c), (x1), (), (20), (0), (20), ()) w
def F59s.an : Ann := ⟨[(2, [(0, .kSl), (1, .kI .i64), (2, .kF 42), (6, .kI .i64), (7, .kI .i64), (8, .kI .i64)]), (7, [(0, .kSl), (1, .kI .i64), (2, .kF 42), (6, .kI .i64)]), (9, [(0, .kSl), (1, .kI .i64), (2, .kF 42), (6, .kI .i64), (7, .kI .i64), (8, .kI .i64)])], []⟩
theorem F59s.eq (x0A : Option Addr) (x0n x0c : Nat) (x1 : Int) (w : World) (Q : Value → World → Prop) : vcFn Try.prog F59s.an 59 [Value.slice x0A x0n x0c, Value.int .i64 x1, Value.func (.func 42) #[] #[]] w Q = F59s.vc x0A x0n x0c x1 w Q := by kernel_rfl
theorem F59s.of (x0A : Option Addr) (x0n x0c : Nat) (x1 : Int) (w : World) {Q : Value → World → Prop} (h : F59s.vc x0A x0n x0c x1 w Q) : Calls Try.prog 59 #[Value.slice x0A x0n x0c, Value.int .i64 x1, Value.func (.func 42) #[] #[]] w (fun e w' => ∃ v, e = .returned v ∧ Q v w') := vcFn_sound noCount mixed ((F59s.eq x0A x0n x0c x1 w Q).symm ▸ h)
/-! ### function 60: slices.Insert[[]stillage/api.Named,stillage/api.Named] -/
def F60.vc (x0A : Option Addr) (x0n x0c : Nat) (x1 : Int) (x2A : Option Addr) (x2n x2c : Nat) (w : World) (Q : Value → World → Prop) : Prop :=
  gd (decide (0 ≤ x1)) <|
  gd (decide (x1 ≤ ((x0n : Nat) : Int))) <|
  vIf (((x2n : Nat) : Int) == 0)
  (Q (Value.slice x0A x0n x0c) w)
  (vIf (x1 == ((x0n : Nat) : Int))
    (app w 2 24 [Value.string (⟨#[]⟩ : ByteArray), Value.int .i64 0] 48 x0A x0n x0c (Value.slice x2A x2n x2c) fun A1 n2 c3 w4 =>
      Q (Value.slice A1 n2 c3) w4)
    (vIf (decide ((IntKind.wrap .i64 (((x0n : Nat) : Int) + ((x2n : Nat) : Int))) > ((x0c : Nat) : Int)))
      (gd (decide (0 ≤ x1)) <|
        gd (decide (x1 ≤ ((x0c : Nat) : Int))) <|
        appZ w 2 24 [Value.string (⟨#[]⟩ : ByteArray), Value.int .i64 0] 48 (slA x0A x0c 0 2) ((x1).toNat) x0c (IntKind.wrap .i64 ((IntKind.wrap .i64 (((x0n : Nat) : Int) + ((x2n : Nat) : Int))) - x1)) fun A5 n6 c7 w8 =>
        gd (decide (0 ≤ x1)) <|
        gd (decide (x1 ≤ ((n6 : Nat) : Int))) <|
        cpy w8 2 (slA A5 c7 (x1).toNat 2) (n6 - (x1).toNat) (Value.slice x2A x2n x2c) fun n9 w10 =>
        gd (decide (0 ≤ (IntKind.wrap .i64 (x1 + ((x2n : Nat) : Int))))) <|
        gd (decide ((IntKind.wrap .i64 (x1 + ((x2n : Nat) : Int))) ≤ ((n6 : Nat) : Int))) <|
        gd (decide (0 ≤ x1)) <|
        gd (decide (x1 ≤ ((x0n : Nat) : Int))) <|
        cpy w10.drew 2 (slA A5 c7 ((IntKind.wrap .i64 (x1 + ((x2n : Nat) : Int)))).toNat 2) (n6 - ((IntKind.wrap .i64 (x1 + ((x2n : Nat) : Int)))).toNat) (Value.slice (slA x0A x0c (x1).toNat 2) (x0n - (x1).toNat) (x0c - (x1).toNat)) fun n11 w12 =>
        Q (Value.slice A5 n6 c7) w12)
      (gd (decide (0 ≤ (IntKind.wrap .i64 (((x0n : Nat) : Int) + ((x2n : Nat) : Int))))) <|
        gd (decide ((IntKind.wrap .i64 (((x0n : Nat) : Int) + ((x2n : Nat) : Int))) ≤ ((x0c : Nat) : Int))) <|
        gd (decide (0 ≤ (IntKind.wrap .i64 (x1 + ((x2n : Nat) : Int))))) <|
        gd (decide ((IntKind.wrap .i64 (x1 + ((x2n : Nat) : Int))) ≤ ((((IntKind.wrap .i64 (((x0n : Nat) : Int) + ((x2n : Nat) : Int)))).toNat : Nat) : Int))) <|
        extC Try.prog 70 #[Value.slice x2A x2n x2c, Value.slice (slA (slA x0A x0c 0 2) x0c ((IntKind.wrap .i64 (x1 + ((x2n : Nat) : Int)))).toNat 2) (((IntKind.wrap .i64 (((x0n : Nat) : Int) + ((x2n : Nat) : Int)))).toNat - ((IntKind.wrap .i64 (x1 + ((x2n : Nat) : Int)))).toNat) (x0c - ((IntKind.wrap .i64 (x1 + ((x2n : Nat) : Int)))).toNat)] w fun v15 w13 =>
        ∃ t16 : Bool, v15 = Value.bool t16 ∧ (
          vIf (!t16)
          (gd (decide (0 ≤ (IntKind.wrap .i64 (x1 + ((x2n : Nat) : Int))))) <|
            gd (decide ((IntKind.wrap .i64 (x1 + ((x2n : Nat) : Int))) ≤ ((((IntKind.wrap .i64 (((x0n : Nat) : Int) + ((x2n : Nat) : Int)))).toNat : Nat) : Int))) <|
            gd (decide (0 ≤ x1)) <|
            gd (decide (x1 ≤ ((((IntKind.wrap .i64 (((x0n : Nat) : Int) + ((x2n : Nat) : Int)))).toNat : Nat) : Int))) <|
            cpy w13.drew 2 (slA (slA x0A x0c 0 2) x0c ((IntKind.wrap .i64 (x1 + ((x2n : Nat) : Int)))).toNat 2) (((IntKind.wrap .i64 (((x0n : Nat) : Int) + ((x2n : Nat) : Int)))).toNat - ((IntKind.wrap .i64 (x1 + ((x2n : Nat) : Int)))).toNat) (Value.slice (slA (slA x0A x0c 0 2) x0c (x1).toNat 2) (((IntKind.wrap .i64 (((x0n : Nat) : Int) + ((x2n : Nat) : Int)))).toNat - (x1).toNat) (x0c - (x1).toNat)) fun n17 w18 =>
            gd (decide (0 ≤ x1)) <|
            gd (decide (x1 ≤ ((((IntKind.wrap .i64 (((x0n : Nat) : Int) + ((x2n : Nat) : Int)))).toNat : Nat) : Int))) <|
            cpy w18 2 (slA (slA x0A x0c 0 2) x0c (x1).toNat 2) (((IntKind.wrap .i64 (((x0n : Nat) : Int) + ((x2n : Nat) : Int)))).toNat - (x1).toNat) (Value.slice x2A x2n x2c) fun n19 w20 =>
            Q (Value.slice (slA x0A x0c 0 2) ((IntKind.wrap .i64 (((x0n : Nat) : Int) + ((x2n : Nat) : Int)))).toNat x0c) w20)
          (gd (decide (0 ≤ ((x0n : Nat) : Int))) <|
            gd (decide (((x0n : Nat) : Int) ≤ ((((IntKind.wrap .i64 (((x0n : Nat) : Int) + ((x2n : Nat) : Int)))).toNat : Nat) : Int))) <|
            cpy w13 2 (slA (slA x0A x0c 0 2) x0c (((x0n : Nat) : Int)).toNat 2) (((IntKind.wrap .i64 (((x0n : Nat) : Int) + ((x2n : Nat) : Int)))).toNat - (((x0n : Nat) : Int)).toNat) (Value.slice x2A x2n x2c) fun n21 w22 =>
            gd (decide (0 ≤ x1)) <|
            gd (decide (x1 ≤ ((((IntKind.wrap .i64 (((x0n : Nat) : Int) + ((x2n : Nat) : Int)))).toNat : Nat) : Int))) <|
            Calls Try.prog 71 #[Value.slice (slA (slA x0A x0c 0 2) x0c (x1).toNat 2) (((IntKind.wrap .i64 (((x0n : Nat) : Int) + ((x2n : Nat) : Int)))).toNat - (x1).toNat) (x0c - (x1).toNat), Value.int .i64 ((x2n : Nat) : Int)] w22 fun e24 w23 =>
            e24 = .returned (Value.tuple #[]) ∧ (
              Q (Value.slice (slA x0A x0c 0 2) ((IntKind.wrap .i64 (((x0n : Nat) : Int) + ((x2n : Nat) : Int)))).toNat x0c) w23))))))
def F60.an : Ann := ⟨[], []⟩
theorem F60.eq (x0A : Option Addr) (x0n x0c : Nat) (x1 : Int) (x2A : Option Addr) (x2n x2c : Nat) (w : World) (Q : Value → World → Prop) : vcFn Try.prog F60.an 60 [Value.slice x0A x0n x0c, Value.int .i64 x1, Value.slice x2A x2n x2c] w Q = F60.vc x0A x0n x0c x1 x2A x2n x2c w Q := by kernel_rfl
theorem F60.of (x0A : Option Addr) (x0n x0c : Nat) (x1 : Int) (x2A : Option Addr) (x2n x2c : Nat) (w : World) {Q : Value → World → Prop} (h : F60.vc x0A x0n x0c x1 x2A x2n x2c w Q) : Calls Try.prog 60 #[Value.slice x0A x0n x0c, Value.int .i64 x1, Value.slice x2A x2n x2c] w (fun e w' => ∃ v, e = .returned v ∧ Q v w') := vcFn_sound noCount mixed ((F60.eq x0A x0n x0c x1 x2A x2n x2c w Q).symm ▸ h)
/-! ### function 61: slices.Delete[[]stillage/api.Named,stillage/api.Named] -/
def F61.vc (x0A : Option Addr) (x0n x0c : Nat) (x1 : Int) (x2 : Int) (w : World) (Q : Value → World → Prop) : Prop :=
  gd (decide (0 ≤ ((x0n : Nat) : Int))) <|
  gd (decide (((x0n : Nat) : Int) ≤ ((x0c : Nat) : Int))) <|
  gd (decide (0 ≤ x2)) <|
  gd (decide (x2 ≤ (((((x0n : Nat) : Int)).toNat : Nat) : Int))) <|
  gd (decide (0 ≤ x1)) <|
  gd (decide (x1 ≤ (((x2).toNat : Nat) : Int))) <|
  vIf (x1 == x2)
  (Q (Value.slice x0A x0n x0c) w)
  (gd (decide (0 ≤ x1)) <|
    gd (decide (x1 ≤ ((x0c : Nat) : Int))) <|
    gd (decide (0 ≤ x2)) <|
    gd (decide (x2 ≤ ((x0n : Nat) : Int))) <|
    app w.drew 2 24 [Value.string (⟨#[]⟩ : ByteArray), Value.int .i64 0] 48 (slA x0A x0c 0 2) ((x1).toNat) x0c (Value.slice (slA x0A x0c (x2).toNat 2) (x0n - (x2).toNat) (x0c - (x2).toNat)) fun A1 n2 c3 w4 =>
    gd (decide (0 ≤ ((x0n : Nat) : Int))) <|
    gd (decide (((x0n : Nat) : Int) ≤ ((c3 : Nat) : Int))) <|
    gd (decide (0 ≤ ((n2 : Nat) : Int))) <|
    gd (decide (((n2 : Nat) : Int) ≤ (((((x0n : Nat) : Int)).toNat : Nat) : Int))) <|
    vIf (((((x0n : Nat) : Int)).toNat - (((n2 : Nat) : Int)).toNat) == 0)
    (Q (Value.slice A1 n2 c3) w4)
    (dr (slA A1 c3 (((n2 : Nat) : Int)).toNat 2) fun b6 o7 =>
      st w4 b6 o7 (zeros ((((x0n : Nat) : Int)).toNat - (((n2 : Nat) : Int)).toNat) [Value.string (⟨#[]⟩ : ByteArray), Value.int .i64 0]) fun w5 =>
      Q (Value.slice A1 n2 c3) w5))
def F61.an : Ann := ⟨[], []⟩
theorem F61.eq (x0A : Option Addr) (x0n x0c : Nat) (x1 : Int) (x2 : Int) (w : World) (Q : Value → World → Prop) : vcFn Try.prog F61.an 61 [Value.slice x0A x0n x0c, Value.int .i64 x1, Value.int .i64 x2] w Q = F61.vc x0A x0n x0c x1 x2 w Q := by kernel_rfl
theorem F61.of (x0A : Option Addr) (x0n x0c : Nat) (x1 : Int) (x2 : Int) (w : World) {Q : Value → World → Prop} (h : F61.vc x0A x0n x0c x1 x2 w Q) : Calls Try.prog 61 #[Value.slice x0A x0n x0c, Value.int .i64 x1, Value.int .i64 x2] w (fun e w' => ∃ v, e = .returned v ∧ Q v w') := vcFn_sound noCount mixed ((F61.eq x0A x0n x0c x1 x2 w Q).symm ▸ h)
/-! ### function 68: slices.insertionSortCmpFunc[stillage/api.Named] -/
def F68s.k6c (Q : Value → World → Prop) (C1 : ((Option Addr × Nat × Nat) × Int × Int × Unit × Int × Unit) → World → Prop) (C4 : ((Option Addr × Nat × Nat) × Int × Int × Unit × Int × Int × Unit) → World → Prop) (x0 : (Option Addr × Nat × Nat)) (x1 : Int) (x2 : Int) (x3 : Unit) (x8 : Int) (x9 : Int) (w : World) : Prop :=
  dr x0.1 fun b10 o11 =>
  gd (decide (0 ≤ (IntKind.wrap .i64 (x9 - 1)))) <|
  gd (decide ((IntKind.wrap .i64 (x9 - 1)) < ((x0.2.1 : Nat) : Int))) <|
  ldA 2 w.drew b10 (o11 + ((IntKind.wrap .i64 (x9 - 1))).toNat * 2) fun a12 =>
  dr x0.1 fun b13 o14 =>
  gd (decide (0 ≤ x9)) <|
  gd (decide (x9 < ((x0.2.1 : Nat) : Int))) <|
  ldA 2 w.drew b13 (o14 + (x9).toNat * 2) fun a15 =>
  dr x0.1 fun b16 o17 =>
  gd (decide (0 ≤ x9)) <|
  gd (decide (x9 < ((x0.2.1 : Nat) : Int))) <|
  gd (a12.length == 2) <|
  st w.drew b16 (o17 + (x9).toNat * 2) a12 fun w18 =>
  dr x0.1 fun b19 o20 =>
  gd (decide (0 ≤ (IntKind.wrap .i64 (x9 - 1)))) <|
  gd (decide ((IntKind.wrap .i64 (x9 - 1)) < ((x0.2.1 : Nat) : Int))) <|
  gd (a15.length == 2) <|
  st w18 b19 (o20 + ((IntKind.wrap .i64 (x9 - 1))).toNat * 2) a15 fun w21 =>
  jnC C4 ((x0.1, x0.2.1, x0.2.2), (x1), (x2), (), (x8), ((IntKind.wrap .i64 (x9 - 1))), ()) w21
def F68s.k6 (Q : Value → World → Prop) (C1 : ((Option Addr × Nat × Nat) × Int × Int × Unit × Int × Unit) → World → Prop) (C4 : ((Option Addr × Nat × Nat) × Int × Int × Unit × Int × Int × Unit) → World → Prop) : ((Option Addr × Nat × Nat) × Int × Int × Unit × Int × Int × Unit) → World → Prop := fun s w => ∀ _ : Nat → Value, F68s.k6c Q C1 C4 s.1 s.2.1 s.2.2.1 s.2.2.2.1 s.2.2.2.2.1 s.2.2.2.2.2.1 w
def F68s.b4c (Q : Value → World → Prop) (C1 : ((Option Addr × Nat × Nat) × Int × Int × Unit × Int × Unit) → World → Prop) (C4 : ((Option Addr × Nat × Nat) × Int × Int × Unit × Int × Int × Unit) → World → Prop) (x0 : (Option Addr × Nat × Nat)) (x1 : Int) (x2 : Int) (x3 : Unit) (x8 : Int) (x9 : Int) (w : World) : Prop :=
  vIf (decide (x9 > x1))
  (dr x0.1 fun b1 o2 =>
    gd (decide (0 ≤ x9)) <|
    gd (decide (x9 < ((x0.2.1 : Nat) : Int))) <|
    ldA 2 w.drew b1 (o2 + (x9).toNat * 2) fun a3 =>
    dr x0.1 fun b4 o5 =>
    gd (decide (0 ≤ (IntKind.wrap .i64 (x9 - 1)))) <|
    gd (decide ((IntKind.wrap .i64 (x9 - 1)) < ((x0.2.1 : Nat) : Int))) <|
    ldA 2 w.drew b4 (o5 + ((IntKind.wrap .i64 (x9 - 1))).toNat * 2) fun a6 =>
    Calls Try.prog 42 #[ofL a3, ofL a6] w.drew fun e8 w7 =>
    ∃ i9 : Int, e8 = .returned (Value.int .i64 i9) ∧ (
      vIf (decide (i9 < 0))
      (jnC (F68s.k6 Q C1 C4) ((x0.1, x0.2.1, x0.2.2), (x1), (x2), (), (x8), (x9), ()) w7)
      (jnC C1 ((x0.1, x0.2.1, x0.2.2), (x1), (x2), (), ((IntKind.wrap .i64 (x8 + 1))), ()) w7)))
  (jnC C1 ((x0.1, x0.2.1, x0.2.2), (x1), (x2), (), ((IntKind.wrap .i64 (x8 + 1))), ()) w.drew)
def F68s.b4 (Q : Value → World → Prop) (C1 : ((Option Addr × Nat × Nat) × Int × Int × Unit × Int × Unit) → World → Prop) : ((Option Addr × Nat × Nat) × Int × Int × Unit × Int × Int × Unit) → World → (((Option Addr × Nat × Nat) × Int × Int × Unit × Int × Int × Unit) → World → Prop) → Prop := fun s w C4 => ∀ _ : Nat → Value, F68s.b4c Q C1 C4 s.1 s.2.1 s.2.2.1 s.2.2.2.1 s.2.2.2.2.1 s.2.2.2.2.2.1 w
def F68s.l4 (Q : Value → World → Prop) (C1 : ((Option Addr × Nat × Nat) × Int × Int × Unit × Int × Unit) → World → Prop) : ((Option Addr × Nat × Nat) × Int × Int × Unit × Int × Int × Unit) → World → Prop := fun s w => ∃ n, loopC (F68s.b4 Q C1) n s w
def F68s.b1c (Q : Value → World → Prop) (C1 : ((Option Addr × Nat × Nat) × Int × Int × Unit × Int × Unit) → World → Prop) (x0 : (Option Addr × Nat × Nat)) (x1 : Int) (x2 : Int) (x3 : Unit) (x8 : Int) (w : World) : Prop :=
  vIf (decide (x8 < x2))
  (jnC (F68s.l4 Q C1) ((x0.1, x0.2.1, x0.2.2), (x1), (x2), (), (x8), (x8), ()) w)
  (Q (Value.tuple #[]) w)
def F68s.b1 (Q : Value → World → Prop) : ((Option Addr × Nat × Nat) × Int × Int × Unit × Int × Unit) → World → (((Option Addr × Nat × Nat) × Int × Int × Unit × Int × Unit) → World → Prop) → Prop := fun s w C1 => ∀ _ : Nat → Value, F68s.b1c Q C1 s.1 s.2.1 s.2.2.1 s.2.2.2.1 s.2.2.2.2.1 w
def F68s.l1 (Q : Value → World → Prop) : ((Option Addr × Nat × Nat) × Int × Int × Unit × Int × Unit) → World → Prop := fun s w => ∃ n, loopC (F68s.b1 Q) n s w
def F68s.vc (x0A : Option Addr) (x0n x0c : Nat) (x1 : Int) (x2 : Int) (w : World) (Q : Value → World → Prop) : Prop :=
  jnC (F68s.l1 Q) ((x0A, x0n, x0c), (x1), (x2), (), ((IntKind.wrap .i64 (x1 + 1))), ()) w
def F68s.an : Ann := ⟨[(1, [(0, .kSl), (1, .kI .i64), (2, .kI .i64), (3, .kF 42), (8, .kI .i64)]), (4, [(0, .kSl), (1, .kI .i64), (2, .kI .i64), (3, .kF 42), (8, .kI .i64), (9, .kI .i64)])], [(6, [(0, .kSl), (1, .kI .i64), (2, .kI .i64), (3, .kF 42), (8, .kI .i64), (9, .kI .i64)])]⟩
theorem F68s.eq (x0A : Option Addr) (x0n x0c : Nat) (x1 : Int) (x2 : Int) (w : World) (Q : Value → World → Prop) : vcFn Try.prog F68s.an 68 [Value.slice x0A x0n x0c, Value.int .i64 x1, Value.int .i64 x2, Value.func (.func 42) #[] #[]] w Q = F68s.vc x0A x0n x0c x1 x2 w Q := by kernel_rfl
theorem F68s.of (x0A : Option Addr) (x0n x0c : Nat) (x1 : Int) (x2 : Int) (w : World) {Q : Value → World → Prop} (h : F68s.vc x0A x0n x0c x1 x2 w Q) : Calls Try.prog 68 #[Value.slice x0A x0n x0c, Value.int .i64 x1, Value.int .i64 x2, Value.func (.func 42) #[] #[]] w (fun e w' => ∃ v, e = .returned v ∧ Q v w') := vcFn_sound noCount mixed ((F68s.eq x0A x0n x0c x1 x2 w Q).symm ▸ h)
/-! ### function 69: slices.symMergeCmpFunc[stillage/api.Named] -/
def F69s.b9c (Q : Value → World → Prop) (C9 : ((Option Addr × Nat × Nat) × Int × Int × Unit) → World → Prop) (x0 : (Option Addr × Nat × Nat)) (x10 : Int) (x13 : Int) (w : World) : Prop :=
  vIf (decide (x13 < (IntKind.wrap .i64 (x10 - 1))))
  (dr x0.1 fun b10 o11 =>
    gd (decide (0 ≤ (IntKind.wrap .i64 (x13 + 1)))) <|
    gd (decide ((IntKind.wrap .i64 (x13 + 1)) < ((x0.2.1 : Nat) : Int))) <|
    ldA 2 w.drew b10 (o11 + ((IntKind.wrap .i64 (x13 + 1))).toNat * 2) fun a12 =>
    dr x0.1 fun b13 o14 =>
    gd (decide (0 ≤ x13)) <|
    gd (decide (x13 < ((x0.2.1 : Nat) : Int))) <|
    ldA 2 w.drew b13 (o14 + (x13).toNat * 2) fun a15 =>
    dr x0.1 fun b16 o17 =>
    gd (decide (0 ≤ x13)) <|
    gd (decide (x13 < ((x0.2.1 : Nat) : Int))) <|
    gd (a12.length == 2) <|
    st w.drew b16 (o17 + (x13).toNat * 2) a12 fun w18 =>
    dr x0.1 fun b19 o20 =>
    gd (decide (0 ≤ (IntKind.wrap .i64 (x13 + 1)))) <|
    gd (decide ((IntKind.wrap .i64 (x13 + 1)) < ((x0.2.1 : Nat) : Int))) <|
    gd (a15.length == 2) <|
    st w18 b19 (o20 + ((IntKind.wrap .i64 (x13 + 1))).toNat * 2) a15 fun w21 =>
    jnC C9 ((x0.1, x0.2.1, x0.2.2), (x10), ((IntKind.wrap .i64 (x13 + 1))), ()) w21)
  (Q (Value.tuple #[]) w)
def F69s.b9 (Q : Value → World → Prop) : ((Option Addr × Nat × Nat) × Int × Int × Unit) → World → (((Option Addr × Nat × Nat) × Int × Int × Unit) → World → Prop) → Prop := fun s w C9 => ∀ _ : Nat → Value, F69s.b9c Q C9 s.1 s.2.1 s.2.2.1 w
def F69s.l9 (Q : Value → World → Prop) : ((Option Addr × Nat × Nat) × Int × Int × Unit) → World → Prop := fun s w => ∃ n, loopC (F69s.b9 Q) n s w
def F69s.b3c (Q : Value → World → Prop) (C3 : ((Option Addr × Nat × Nat) × Int × Unit × Int × Int × Unit) → World → Prop) (x0 : (Option Addr × Nat × Nat)) (x1 : Int) (x4 : Unit) (x10 : Int) (x11 : Int) (w : World) : Prop :=
  vIf (decide (x10 < x11))
  (dr x0.1 fun b1 o2 =>
    gd (decide (0 ≤ (IntKind.wrap .i64 (Int.fdiv (IntKind.wrap .u64 (IntKind.wrap .i64 (x10 + x11))) (2 ^ 1))))) <|
    gd (decide ((IntKind.wrap .i64 (Int.fdiv (IntKind.wrap .u64 (IntKind.wrap .i64 (x10 + x11))) (2 ^ 1))) < ((x0.2.1 : Nat) : Int))) <|
    ldA 2 w.drew b1 (o2 + ((IntKind.wrap .i64 (Int.fdiv (IntKind.wrap .u64 (IntKind.wrap .i64 (x10 + x11))) (2 ^ 1)))).toNat * 2) fun a3 =>
    dr x0.1 fun b4 o5 =>
    gd (decide (0 ≤ x1)) <|
    gd (decide (x1 < ((x0.2.1 : Nat) : Int))) <|
    ldA 2 w.drew b4 (o5 + (x1).toNat * 2) fun a6 =>
    Calls Try.prog 42 #[ofL a3, ofL a6] w.drew fun e8 w7 =>
    ∃ i9 : Int, e8 = .returned (Value.int .i64 i9) ∧ (
      vIf (decide (i9 < 0))
      (jnC C3 ((x0.1, x0.2.1, x0.2.2), (x1), (), ((IntKind.wrap .i64 ((IntKind.wrap .i64 (Int.fdiv (IntKind.wrap .u64 (IntKind.wrap .i64 (x10 + x11))) (2 ^ 1))) + 1))), (x11), ()) w7)
      (jnC C3 ((x0.1, x0.2.1, x0.2.2), (x1), (), (x10), ((IntKind.wrap .i64 (Int.fdiv (IntKind.wrap .u64 (IntKind.wrap .i64 (x10 + x11))) (2 ^ 1)))), ()) w7)))
  (jnC (F69s.l9 Q) ((x0.1, x0.2.1, x0.2.2), (x10), (x1), ()) w)
def F69s.b3 (Q : Value → World → Prop) : ((Option Addr × Nat × Nat) × Int × Unit × Int × Int × Unit) → World → (((Option Addr × Nat × Nat) × Int × Unit × Int × Int × Unit) → World → Prop) → Prop := fun s w C3 => ∀ _ : Nat → Value, F69s.b3c Q C3 s.1 s.2.1 s.2.2.1 s.2.2.2.1 s.2.2.2.2.1 w
def F69s.l3 (Q : Value → World → Prop) : ((Option Addr × Nat × Nat) × Int × Unit × Int × Int × Unit) → World → Prop := fun s w => ∃ n, loopC (F69s.b3 Q) n s w
def F69s.b21c (Q : Value → World → Prop) (C21 : ((Option Addr × Nat × Nat) × Int × Int × Unit) → World → Prop) (x0 : (Option Addr × Nat × Nat)) (x14 : Int) (x17 : Int) (w : World) : Prop :=
  vIf (decide (x17 > x14))
  (dr x0.1 fun b31 o32 =>
    gd (decide (0 ≤ (IntKind.wrap .i64 (x17 - 1)))) <|
    gd (decide ((IntKind.wrap .i64 (x17 - 1)) < ((x0.2.1 : Nat) : Int))) <|
    ldA 2 w.drew b31 (o32 + ((IntKind.wrap .i64 (x17 - 1))).toNat * 2) fun a33 =>
    dr x0.1 fun b34 o35 =>
    gd (decide (0 ≤ x17)) <|
    gd (decide (x17 < ((x0.2.1 : Nat) : Int))) <|
    ldA 2 w.drew b34 (o35 + (x17).toNat * 2) fun a36 =>
    dr x0.1 fun b37 o38 =>
    gd (decide (0 ≤ x17)) <|
    gd (decide (x17 < ((x0.2.1 : Nat) : Int))) <|
    gd (a33.length == 2) <|
    st w.drew b37 (o38 + (x17).toNat * 2) a33 fun w39 =>
    dr x0.1 fun b40 o41 =>
    gd (decide (0 ≤ (IntKind.wrap .i64 (x17 - 1)))) <|
    gd (decide ((IntKind.wrap .i64 (x17 - 1)) < ((x0.2.1 : Nat) : Int))) <|
    gd (a36.length == 2) <|
    st w39 b40 (o41 + ((IntKind.wrap .i64 (x17 - 1))).toNat * 2) a36 fun w42 =>
    jnC C21 ((x0.1, x0.2.1, x0.2.2), (x14), ((IntKind.wrap .i64 (x17 - 1))), ()) w42)
  (Q (Value.tuple #[]) w)
def F69s.b21 (Q : Value → World → Prop) : ((Option Addr × Nat × Nat) × Int × Int × Unit) → World → (((Option Addr × Nat × Nat) × Int × Int × Unit) → World → Prop) → Prop := fun s w C21 => ∀ _ : Nat → Value, F69s.b21c Q C21 s.1 s.2.1 s.2.2.1 w
def F69s.l21 (Q : Value → World → Prop) : ((Option Addr × Nat × Nat) × Int × Int × Unit) → World → Prop := fun s w => ∃ n, loopC (F69s.b21 Q) n s w
def F69s.b15c (Q : Value → World → Prop) (C15 : ((Option Addr × Nat × Nat) × Int × Unit × Int × Int × Unit) → World → Prop) (x0 : (Option Addr × Nat × Nat)) (x2 : Int) (x4 : Unit) (x14 : Int) (x15 : Int) (w : World) : Prop :=
  vIf (decide (x14 < x15))
  (dr x0.1 fun b22 o23 =>
    gd (decide (0 ≤ x2)) <|
    gd (decide (x2 < ((x0.2.1 : Nat) : Int))) <|
    ldA 2 w.drew b22 (o23 + (x2).toNat * 2) fun a24 =>
    dr x0.1 fun b25 o26 =>
    gd (decide (0 ≤ (IntKind.wrap .i64 (Int.fdiv (IntKind.wrap .u64 (IntKind.wrap .i64 (x14 + x15))) (2 ^ 1))))) <|
    gd (decide ((IntKind.wrap .i64 (Int.fdiv (IntKind.wrap .u64 (IntKind.wrap .i64 (x14 + x15))) (2 ^ 1))) < ((x0.2.1 : Nat) : Int))) <|
    ldA 2 w.drew b25 (o26 + ((IntKind.wrap .i64 (Int.fdiv (IntKind.wrap .u64 (IntKind.wrap .i64 (x14 + x15))) (2 ^ 1)))).toNat * 2) fun a27 =>
    Calls Try.prog 42 #[ofL a24, ofL a27] w.drew fun e29 w28 =>
    ∃ i30 : Int, e29 = .returned (Value.int .i64 i30) ∧ (
      vIf (!(decide (i30 < 0)))
      (jnC C15 ((x0.1, x0.2.1, x0.2.2), (x2), (), ((IntKind.wrap .i64 ((IntKind.wrap .i64 (Int.fdiv (IntKind.wrap .u64 (IntKind.wrap .i64 (x14 + x15))) (2 ^ 1))) + 1))), (x15), ()) w28)
      (jnC C15 ((x0.1, x0.2.1, x0.2.2), (x2), (), (x14), ((IntKind.wrap .i64 (Int.fdiv (IntKind.wrap .u64 (IntKind.wrap .i64 (x14 + x15))) (2 ^ 1)))), ()) w28)))
  (jnC (F69s.l21 Q) ((x0.1, x0.2.1, x0.2.2), (x14), (x2), ()) w)
def F69s.b15 (Q : Value → World → Prop) : ((Option Addr × Nat × Nat) × Int × Unit × Int × Int × Unit) → World → (((Option Addr × Nat × Nat) × Int × Unit × Int × Int × Unit) → World → Prop) → Prop := fun s w C15 => ∀ _ : Nat → Value, F69s.b15c Q C15 s.1 s.2.1 s.2.2.1 s.2.2.2.1 s.2.2.2.2.1 w
def F69s.l15 (Q : Value → World → Prop) : ((Option Addr × Nat × Nat) × Int × Unit × Int × Int × Unit) → World → Prop := fun s w => ∃ n, loopC (F69s.b15 Q) n s w
def F69s.k44c (Q : Value → World → Prop) (x0 : (Option Addr × Nat × Nat)) (x3 : Int) (x4 : Unit) (x18 : Int) (x24 : Int) (x213 : Bool) (w : World) : Prop :=
  vIf x213
  (Calls Try.prog 69 #[Value.slice x0.1 x0.2.1 x0.2.2, Value.int .i64 x18, Value.int .i64 x24, Value.int .i64 x3, Value.func (.func 42) #[] #[]] w fun e57 w56 =>
    e57 = .returned (Value.tuple #[]) ∧ (
      Q (Value.tuple #[]) w56))
  (Q (Value.tuple #[]) w)
def F69s.k44 (Q : Value → World → Prop) : ((Option Addr × Nat × Nat) × Int × Unit × Int × Int × Bool × Unit) → World → Prop := fun s w => ∀ _ : Nat → Value, F69s.k44c Q s.1 s.2.1 s.2.2.1 s.2.2.2.1 s.2.2.2.2.1 s.2.2.2.2.2.1 w
def F69s.k43c (Q : Value → World → Prop) (x0 : (Option Addr × Nat × Nat)) (x3 : Int) (x4 : Unit) (x18 : Int) (x24 : Int) (w : World) : Prop :=
  vIf (decide (x18 < x24))
  (jnC (F69s.k44 Q) ((x0.1, x0.2.1, x0.2.2), (x3), (), (x18), (x24), (decide (x24 < x3)), ()) w)
  (jnC (F69s.k44 Q) ((x0.1, x0.2.1, x0.2.2), (x3), (), (x18), (x24), false, ()) w)
def F69s.k43 (Q : Value → World → Prop) : ((Option Addr × Nat × Nat) × Int × Unit × Int × Int × Unit) → World → Prop := fun s w => ∀ _ : Nat → Value, F69s.k43c Q s.1 s.2.1 s.2.2.1 s.2.2.2.1 s.2.2.2.2.1 w
def F69s.k42c (Q : Value → World → Prop) (x0 : (Option Addr × Nat × Nat)) (x1 : Int) (x3 : Int) (x4 : Unit) (x18 : Int) (x20 : Int) (x24 : Int) (x199 : Bool) (w : World) : Prop :=
  vIf x199
  (Calls Try.prog 69 #[Value.slice x0.1 x0.2.1 x0.2.2, Value.int .i64 x1, Value.int .i64 x20, Value.int .i64 x18, Value.func (.func 42) #[] #[]] w fun e55 w54 =>
    e55 = .returned (Value.tuple #[]) ∧ (
      jnC (F69s.k43 Q) ((x0.1, x0.2.1, x0.2.2), (x3), (), (x18), (x24), ()) w54))
  (jnC (F69s.k43 Q) ((x0.1, x0.2.1, x0.2.2), (x3), (), (x18), (x24), ()) w)
def F69s.k42 (Q : Value → World → Prop) : ((Option Addr × Nat × Nat) × Int × Int × Unit × Int × Int × Int × Bool × Unit) → World → Prop := fun s w => ∀ _ : Nat → Value, F69s.k42c Q s.1 s.2.1 s.2.2.1 s.2.2.2.1 s.2.2.2.2.1 s.2.2.2.2.2.1 s.2.2.2.2.2.2.1 s.2.2.2.2.2.2.2.1 w
def F69s.k41c (Q : Value → World → Prop) (x0 : (Option Addr × Nat × Nat)) (x1 : Int) (x3 : Int) (x4 : Unit) (x18 : Int) (x20 : Int) (x24 : Int) (w : World) : Prop :=
  vIf (decide (x1 < x20))
  (jnC (F69s.k42 Q) ((x0.1, x0.2.1, x0.2.2), (x1), (x3), (), (x18), (x20), (x24), (decide (x20 < x18)), ()) w)
  (jnC (F69s.k42 Q) ((x0.1, x0.2.1, x0.2.2), (x1), (x3), (), (x18), (x20), (x24), false, ()) w)
def F69s.k41 (Q : Value → World → Prop) : ((Option Addr × Nat × Nat) × Int × Int × Unit × Int × Int × Int × Unit) → World → Prop := fun s w => ∀ _ : Nat → Value, F69s.k41c Q s.1 s.2.1 s.2.2.1 s.2.2.2.1 s.2.2.2.2.1 s.2.2.2.2.2.1 s.2.2.2.2.2.2.1 w
def F69s.k40c (Q : Value → World → Prop) (x0 : (Option Addr × Nat × Nat)) (x1 : Int) (x2 : Int) (x3 : Int) (x4 : Unit) (x18 : Int) (x20 : Int) (x24 : Int) (x185 : Bool) (w : World) : Prop :=
  vIf x185
  (Calls Try.prog 73 #[Value.slice x0.1 x0.2.1 x0.2.2, Value.int .i64 x20, Value.int .i64 x2, Value.int .i64 x24, Value.func (.func 42) #[] #[]] w fun e53 w52 =>
    e53 = .returned (Value.tuple #[]) ∧ (
      jnC (F69s.k41 Q) ((x0.1, x0.2.1, x0.2.2), (x1), (x3), (), (x18), (x20), (x24), ()) w52))
  (jnC (F69s.k41 Q) ((x0.1, x0.2.1, x0.2.2), (x1), (x3), (), (x18), (x20), (x24), ()) w)
def F69s.k40 (Q : Value → World → Prop) : ((Option Addr × Nat × Nat) × Int × Int × Int × Unit × Int × Int × Int × Bool × Unit) → World → Prop := fun s w => ∀ _ : Nat → Value, F69s.k40c Q s.1 s.2.1 s.2.2.1 s.2.2.2.1 s.2.2.2.2.1 s.2.2.2.2.2.1 s.2.2.2.2.2.2.1 s.2.2.2.2.2.2.2.1 s.2.2.2.2.2.2.2.2.1 w
def F69s.b33c (Q : Value → World → Prop) (C33 : ((Option Addr × Nat × Nat) × Int × Int × Int × Unit × Int × Int × Int × Int × Int × Unit) → World → Prop) (x0 : (Option Addr × Nat × Nat)) (x1 : Int) (x2 : Int) (x3 : Int) (x4 : Unit) (x18 : Int) (x19 : Int) (x20 : Int) (x21 : Int) (x22 : Int) (w : World) : Prop :=
  vIf (decide (x20 < x21))
  (dr x0.1 fun b43 o44 =>
    gd (decide (0 ≤ (IntKind.wrap .i64 (x22 - (IntKind.wrap .i64 (Int.fdiv (IntKind.wrap .u64 (IntKind.wrap .i64 (x20 + x21))) (2 ^ 1))))))) <|
    gd (decide ((IntKind.wrap .i64 (x22 - (IntKind.wrap .i64 (Int.fdiv (IntKind.wrap .u64 (IntKind.wrap .i64 (x20 + x21))) (2 ^ 1))))) < ((x0.2.1 : Nat) : Int))) <|
    ldA 2 w.drew b43 (o44 + ((IntKind.wrap .i64 (x22 - (IntKind.wrap .i64 (Int.fdiv (IntKind.wrap .u64 (IntKind.wrap .i64 (x20 + x21))) (2 ^ 1)))))).toNat * 2) fun a45 =>
    dr x0.1 fun b46 o47 =>
    gd (decide (0 ≤ (IntKind.wrap .i64 (Int.fdiv (IntKind.wrap .u64 (IntKind.wrap .i64 (x20 + x21))) (2 ^ 1))))) <|
    gd (decide ((IntKind.wrap .i64 (Int.fdiv (IntKind.wrap .u64 (IntKind.wrap .i64 (x20 + x21))) (2 ^ 1))) < ((x0.2.1 : Nat) : Int))) <|
    ldA 2 w.drew b46 (o47 + ((IntKind.wrap .i64 (Int.fdiv (IntKind.wrap .u64 (IntKind.wrap .i64 (x20 + x21))) (2 ^ 1)))).toNat * 2) fun a48 =>
    Calls Try.prog 42 #[ofL a45, ofL a48] w.drew fun e50 w49 =>
    ∃ i51 : Int, e50 = .returned (Value.int .i64 i51) ∧ (
      vIf (!(decide (i51 < 0)))
      (jnC C33 ((x0.1, x0.2.1, x0.2.2), (x1), (x2), (x3), (), (x18), (x19), ((IntKind.wrap .i64 ((IntKind.wrap .i64 (Int.fdiv (IntKind.wrap .u64 (IntKind.wrap .i64 (x20 + x21))) (2 ^ 1))) + 1))), (x21), (x22), ()) w49)
      (jnC C33 ((x0.1, x0.2.1, x0.2.2), (x1), (x2), (x3), (), (x18), (x19), (x20), ((IntKind.wrap .i64 (Int.fdiv (IntKind.wrap .u64 (IntKind.wrap .i64 (x20 + x21))) (2 ^ 1)))), (x22), ()) w49)))
  (vIf (decide (x20 < x2))
    (jnC (F69s.k40 Q) ((x0.1, x0.2.1, x0.2.2), (x1), (x2), (x3), (), (x18), (x20), ((IntKind.wrap .i64 (x19 - x20))), (decide (x2 < (IntKind.wrap .i64 (x19 - x20)))), ()) w)
    (jnC (F69s.k40 Q) ((x0.1, x0.2.1, x0.2.2), (x1), (x2), (x3), (), (x18), (x20), ((IntKind.wrap .i64 (x19 - x20))), false, ()) w))
def F69s.b33 (Q : Value → World → Prop) : ((Option Addr × Nat × Nat) × Int × Int × Int × Unit × Int × Int × Int × Int × Int × Unit) → World → (((Option Addr × Nat × Nat) × Int × Int × Int × Unit × Int × Int × Int × Int × Int × Unit) → World → Prop) → Prop := fun s w C33 => ∀ _ : Nat → Value, F69s.b33c Q C33 s.1 s.2.1 s.2.2.1 s.2.2.2.1 s.2.2.2.2.1 s.2.2.2.2.2.1 s.2.2.2.2.2.2.1 s.2.2.2.2.2.2.2.1 s.2.2.2.2.2.2.2.2.1 s.2.2.2.2.2.2.2.2.2.1 w
def F69s.l33 (Q : Value → World → Prop) : ((Option Addr × Nat × Nat) × Int × Int × Int × Unit × Int × Int × Int × Int × Int × Unit) → World → Prop := fun s w => ∃ n, loopC (F69s.b33 Q) n s w
def F69s.k32c (Q : Value → World → Prop) (x0 : (Option Addr × Nat × Nat)) (x1 : Int) (x2 : Int) (x3 : Int) (x4 : Unit) (x18 : Int) (x19 : Int) (x20 : Int) (x21 : Int) (w : World) : Prop :=
  jnC (F69s.l33 Q) ((x0.1, x0.2.1, x0.2.2), (x1), (x2), (x3), (), (x18), (x19), (x20), (x21), ((IntKind.wrap .i64 (x19 - 1))), ()) w
def F69s.k32 (Q : Value → World → Prop) : ((Option Addr × Nat × Nat) × Int × Int × Int × Unit × Int × Int × Int × Int × Unit) → World → Prop := fun s w => ∀ _ : Nat → Value, F69s.k32c Q s.1 s.2.1 s.2.2.1 s.2.2.2.1 s.2.2.2.2.1 s.2.2.2.2.2.1 s.2.2.2.2.2.2.1 s.2.2.2.2.2.2.2.1 s.2.2.2.2.2.2.2.2.1 w
def F69s.vc (x0A : Option Addr) (x0n x0c : Nat) (x1 : Int) (x2 : Int) (x3 : Int) (w : World) (Q : Value → World → Prop) : Prop :=
  vIf ((IntKind.wrap .i64 (x2 - x1)) == 1)
  (jnC (F69s.l3 Q) ((x0A, x0n, x0c), (x1), (), (x2), (x3), ()) w)
  (vIf ((IntKind.wrap .i64 (x3 - x2)) == 1)
    (jnC (F69s.l15 Q) ((x0A, x0n, x0c), (x2), (), (x1), (x2), ()) w)
    (vIf (decide (x2 > (IntKind.wrap .i64 (Int.fdiv (IntKind.wrap .u64 (IntKind.wrap .i64 (x1 + x3))) (2 ^ 1)))))
      (jnC (F69s.k32 Q) ((x0A, x0n, x0c), (x1), (x2), (x3), (), ((IntKind.wrap .i64 (Int.fdiv (IntKind.wrap .u64 (IntKind.wrap .i64 (x1 + x3))) (2 ^ 1)))), ((IntKind.wrap .i64 ((IntKind.wrap .i64 (Int.fdiv (IntKind.wrap .u64 (IntKind.wrap .i64 (x1 + x3))) (2 ^ 1))) + x2))), ((IntKind.wrap .i64 ((IntKind.wrap .i64 ((IntKind.wrap .i64 (Int.fdiv (IntKind.wrap .u64 (IntKind.wrap .i64 (x1 + x3))) (2 ^ 1))) + x2)) - x3))), ((IntKind.wrap .i64 (Int.fdiv (IntKind.wrap .u64 (IntKind.wrap .i64 (x1 + x3))) (2 ^ 1)))), ()) w)
      (jnC (F69s.k32 Q) ((x0A, x0n, x0c), (x1), (x2), (x3), (), ((IntKind.wrap .i64 (Int.fdiv (IntKind.wrap .u64 (IntKind.wrap .i64 (x1 + x3))) (2 ^ 1)))), ((IntKind.wrap .i64 ((IntKind.wrap .i64 (Int.fdiv (IntKind.wrap .u64 (IntKind.wrap .i64 (x1 + x3))) (2 ^ 1))) + x2))), (x1), (x2), ()) w)))
def F69s.an : Ann := ⟨[(3, [(0, .kSl), (1, .kI .i64), (4, .kF 42), (10, .kI .i64), (11, .kI .i64)]), (9, [(0, .kSl), (10, .kI .i64), (13, .kI .i64)]), (15, [(0, .kSl), (2, .kI .i64), (4, .kF 42), (14, .kI .i64), (15, .kI .i64)]), (21, [(0, .kSl), (14, .kI .i64), (17, .kI .i64)]), (33, [(0, .kSl), (1, .kI .i64), (2, .kI .i64), (3, .kI .i64), (4, .kF 42), (18, .kI .i64), (19, .kI .i64), (20, .kI .i64), (21, .kI .i64), (22, .kI .i64)])], [(32, [(0, .kSl), (1, .kI .i64), (2, .kI .i64), (3, .kI .i64), (4, .kF 42), (18, .kI .i64), (19, .kI .i64), (20, .kI .i64), (21, .kI .i64)]), (40, [(0, .kSl), (1, .kI .i64), (2, .kI .i64), (3, .kI .i64), (4, .kF 42), (18, .kI .i64), (20, .kI .i64), (24, .kI .i64), (185, .kB)]), (41, [(0, .kSl), (1, .kI .i64), (3, .kI .i64), (4, .kF 42), (18, .kI .i64), (20, .kI .i64), (24, .kI .i64)]), (42, [(0, .kSl), (1, .kI .i64), (3, .kI .i64), (4, .kF 42), (18, .kI .i64), (20, .kI .i64), (24, .kI .i64), (199, .kB)]), (43, [(0, .kSl), (3, .kI .i64), (4, .kF 42), (18, .kI .i64), (24, .kI .i64)]), (44, [(0, .kSl), (3, .kI .i64), (4, .kF 42), (18, .kI .i64), (24, .kI .i64), (213, .kB)])]⟩
theorem F69s.eq (x0A : Option Addr) (x0n x0c : Nat) (x1 : Int) (x2 : Int) (x3 : Int) (w : World) (Q : Value → World → Prop) : vcFn Try.prog F69s.an 69 [Value.slice x0A x0n x0c, Value.int .i64 x1, Value.int .i64 x2, Value.int .i64 x3, Value.func (.func 42) #[] #[]] w Q = F69s.vc x0A x0n x0c x1 x2 x3 w Q := by kernel_rfl
theorem F69s.of (x0A : Option Addr) (x0n x0c : Nat) (x1 : Int) (x2 : Int) (x3 : Int) (w : World) {Q : Value → World → Prop} (h : F69s.vc x0A x0n x0c x1 x2 x3 w Q) : Calls Try.prog 69 #[Value.slice x0A x0n x0c, Value.int .i64 x1, Value.int .i64 x2, Value.int .i64 x3, Value.func (.func 42) #[] #[]] w (fun e w' => ∃ v, e = .returned v ∧ Q v w') := vcFn_sound noCount mixed ((F69s.eq x0A x0n x0c x1 x2 x3 w Q).symm ▸ h)
/-! ### function 71: slices.rotateRight[stillage/api.Named] -/
def F71.vc (x0A : Option Addr) (x0n x0c : Nat) (x1 : Int) (w : World) (Q : Value → World → Prop) : Prop :=
  Calls Try.prog 74 #[Value.slice x0A x0n x0c, Value.int .i64 (IntKind.wrap .i64 (((x0n : Nat) : Int) - x1))] w fun e2 w1 =>
  e2 = .returned (Value.tuple #[]) ∧ (
    Q (Value.tuple #[]) w1)
def F71.an : Ann := ⟨[], []⟩
theorem F71.eq (x0A : Option Addr) (x0n x0c : Nat) (x1 : Int) (w : World) (Q : Value → World → Prop) : vcFn Try.prog F71.an 71 [Value.slice x0A x0n x0c, Value.int .i64 x1] w Q = F71.vc x0A x0n x0c x1 w Q := by kernel_rfl
theorem F71.of (x0A : Option Addr) (x0n x0c : Nat) (x1 : Int) (w : World) {Q : Value → World → Prop} (h : F71.vc x0A x0n x0c x1 w Q) : Calls Try.prog 71 #[Value.slice x0A x0n x0c, Value.int .i64 x1] w (fun e w' => ∃ v, e = .returned v ∧ Q v w') := vcFn_sound noCount mixed ((F71.eq x0A x0n x0c x1 w Q).symm ▸ h)
/-! ### function 73: slices.rotateCmpFunc[stillage/api.Named] -/
def F73s.b2c (Q : Value → World → Prop) (C2 : ((Option Addr × Nat × Nat) × Int × Unit × Int × Int × Unit) → World → Prop) (x0 : (Option Addr × Nat × Nat)) (x2 : Int) (x4 : Unit) (x10 : Int) (x11 : Int) (w : World) : Prop :=
  vIf (x10 != x11)
  (vIf (decide (x10 > x11))
    (Calls Try.prog 75 #[Value.slice x0.1 x0.2.1 x0.2.2, Value.int .i64 (IntKind.wrap .i64 (x2 - x10)), Value.int .i64 x2, Value.int .i64 x11, Value.func (.func 42) #[] #[]] w fun e2 w1 =>
      e2 = .returned (Value.tuple #[]) ∧ (
        jnC C2 ((x0.1, x0.2.1, x0.2.2), (x2), (), ((IntKind.wrap .i64 (x10 - x11))), (x11), ()) w1))
    (Calls Try.prog 75 #[Value.slice x0.1 x0.2.1 x0.2.2, Value.int .i64 (IntKind.wrap .i64 (x2 - x10)), Value.int .i64 (IntKind.wrap .i64 ((IntKind.wrap .i64 (x2 + x11)) - x10)), Value.int .i64 x10, Value.func (.func 42) #[] #[]] w fun e4 w3 =>
      e4 = .returned (Value.tuple #[]) ∧ (
        jnC C2 ((x0.1, x0.2.1, x0.2.2), (x2), (), (x10), ((IntKind.wrap .i64 (x11 - x10))), ()) w3)))
  (Calls Try.prog 75 #[Value.slice x0.1 x0.2.1 x0.2.2, Value.int .i64 (IntKind.wrap .i64 (x2 - x10)), Value.int .i64 x2, Value.int .i64 x10, Value.func (.func 42) #[] #[]] w fun e6 w5 =>
    e6 = .returned (Value.tuple #[]) ∧ (
      Q (Value.tuple #[]) w5))
def F73s.b2 (Q : Value → World → Prop) : ((Option Addr × Nat × Nat) × Int × Unit × Int × Int × Unit) → World → (((Option Addr × Nat × Nat) × Int × Unit × Int × Int × Unit) → World → Prop) → Prop := fun s w C2 => ∀ _ : Nat → Value, F73s.b2c Q C2 s.1 s.2.1 s.2.2.1 s.2.2.2.1 s.2.2.2.2.1 w
def F73s.l2 (Q : Value → World → Prop) : ((Option Addr × Nat × Nat) × Int × Unit × Int × Int × Unit) → World → Prop := fun s w => ∃ n, loopC (F73s.b2 Q) n s w
def F73s.vc (x0A : Option Addr) (x0n x0c : Nat) (x1 : Int) (x2 : Int) (x3 : Int) (w : World) (Q : Value → World → Prop) : Prop :=
  jnC (F73s.l2 Q) ((x0A, x0n, x0c), (x2), (), ((IntKind.wrap .i64 (x2 - x1))), ((IntKind.wrap .i64 (x3 - x2))), ()) w
def F73s.an : Ann := ⟨[(2, [(0, .kSl), (2, .kI .i64), (4, .kF 42), (10, .kI .i64), (11, .kI .i64)])], []⟩
theorem F73s.eq (x0A : Option Addr) (x0n x0c : Nat) (x1 : Int) (x2 : Int) (x3 : Int) (w : World) (Q : Value → World → Prop) : vcFn Try.prog F73s.an 73 [Value.slice x0A x0n x0c, Value.int .i64 x1, Value.int .i64 x2, Value.int .i64 x3, Value.func (.func 42) #[] #[]] w Q = F73s.vc x0A x0n x0c x1 x2 x3 w Q := by kernel_rfl
theorem F73s.of (x0A : Option Addr) (x0n x0c : Nat) (x1 : Int) (x2 : Int) (x3 : Int) (w : World) {Q : Value → World → Prop} (h : F73s.vc x0A x0n x0c x1 x2 x3 w Q) : Calls Try.prog 73 #[Value.slice x0A x0n x0c, Value.int .i64 x1, Value.int .i64 x2, Value.int .i64 x3, Value.func (.func 42) #[] #[]] w (fun e w' => ∃ v, e = .returned v ∧ Q v w') := vcFn_sound noCount mixed ((F73s.eq x0A x0n x0c x1 x2 x3 w Q).symm ▸ h)
/-! ### function 74: slices.rotateLeft[stillage/api.Named] -/
def F74.vc (x0A : Option Addr) (x0n x0c : Nat) (x1 : Int) (w : World) (Q : Value → World → Prop) : Prop :=
  gd (decide (0 ≤ x1)) <|
  gd (decide (x1 ≤ ((x0c : Nat) : Int))) <|
  Calls Try.prog 76 #[Value.slice (slA x0A x0c 0 2) (x1).toNat x0c] w fun e2 w1 =>
  e2 = .returned (Value.tuple #[]) ∧ (
    gd (decide (0 ≤ x1)) <|
    gd (decide (x1 ≤ ((x0n : Nat) : Int))) <|
    Calls Try.prog 76 #[Value.slice (slA x0A x0c (x1).toNat 2) (x0n - (x1).toNat) (x0c - (x1).toNat)] w1 fun e4 w3 =>
    e4 = .returned (Value.tuple #[]) ∧ (
      Calls Try.prog 76 #[Value.slice x0A x0n x0c] w3 fun e6 w5 =>
      e6 = .returned (Value.tuple #[]) ∧ (
        Q (Value.tuple #[]) w5)))
def F74.an : Ann := ⟨[], []⟩
theorem F74.eq (x0A : Option Addr) (x0n x0c : Nat) (x1 : Int) (w : World) (Q : Value → World → Prop) : vcFn Try.prog F74.an 74 [Value.slice x0A x0n x0c, Value.int .i64 x1] w Q = F74.vc x0A x0n x0c x1 w Q := by kernel_rfl
theorem F74.of (x0A : Option Addr) (x0n x0c : Nat) (x1 : Int) (w : World) {Q : Value → World → Prop} (h : F74.vc x0A x0n x0c x1 w Q) : Calls Try.prog 74 #[Value.slice x0A x0n x0c, Value.int .i64 x1] w (fun e w' => ∃ v, e = .returned v ∧ Q v w') := vcFn_sound noCount mixed ((F74.eq x0A x0n x0c x1 w Q).symm ▸ h)
/-! ### function 75: slices.swapRangeCmpFunc[stillage/api.Named] -/
def F75s.b1c (Q : Value → World → Prop) (C1 : ((Option Addr × Nat × Nat) × Int × Int × Int × Int × Unit) → World → Prop) (x0 : (Option Addr × Nat × Nat)) (x1 : Int) (x2 : Int) (x3 : Int) (x10 : Int) (w : World) : Prop :=
  vIf (decide (x10 < x3))
  (dr x0.1 fun b1 o2 =>
    gd (decide (0 ≤ (IntKind.wrap .i64 (x2 + x10)))) <|
    gd (decide ((IntKind.wrap .i64 (x2 + x10)) < ((x0.2.1 : Nat) : Int))) <|
    ldA 2 w.drew b1 (o2 + ((IntKind.wrap .i64 (x2 + x10))).toNat * 2) fun a3 =>
    dr x0.1 fun b4 o5 =>
    gd (decide (0 ≤ (IntKind.wrap .i64 (x1 + x10)))) <|
    gd (decide ((IntKind.wrap .i64 (x1 + x10)) < ((x0.2.1 : Nat) : Int))) <|
    ldA 2 w.drew b4 (o5 + ((IntKind.wrap .i64 (x1 + x10))).toNat * 2) fun a6 =>
    dr x0.1 fun b7 o8 =>
    gd (decide (0 ≤ (IntKind.wrap .i64 (x1 + x10)))) <|
    gd (decide ((IntKind.wrap .i64 (x1 + x10)) < ((x0.2.1 : Nat) : Int))) <|
    gd (a3.length == 2) <|
    st w.drew b7 (o8 + ((IntKind.wrap .i64 (x1 + x10))).toNat * 2) a3 fun w9 =>
    dr x0.1 fun b10 o11 =>
    gd (decide (0 ≤ (IntKind.wrap .i64 (x2 + x10)))) <|
    gd (decide ((IntKind.wrap .i64 (x2 + x10)) < ((x0.2.1 : Nat) : Int))) <|
    gd (a6.length == 2) <|
    st w9 b10 (o11 + ((IntKind.wrap .i64 (x2 + x10))).toNat * 2) a6 fun w12 =>
    jnC C1 ((x0.1, x0.2.1, x0.2.2), (x1), (x2), (x3), ((IntKind.wrap .i64 (x10 + 1))), ()) w12)
  (Q (Value.tuple #[]) w)
def F75s.b1 (Q : Value → World → Prop) : ((Option Addr × Nat × Nat) × Int × Int × Int × Int × Unit) → World → (((Option Addr × Nat × Nat) × Int × Int × Int × Int × Unit) → World → Prop) → Prop := fun s w C1 => ∀ _ : Nat → Value, F75s.b1c Q C1 s.1 s.2.1 s.2.2.1 s.2.2.2.1 s.2.2.2.2.1 w
def F75s.l1 (Q : Value → World → Prop) : ((Option Addr × Nat × Nat) × Int × Int × Int × Int × Unit) → World → Prop := fun s w => ∃ n, loopC (F75s.b1 Q) n s w
def F75s.vc (x0A : Option Addr) (x0n x0c : Nat) (x1 : Int) (x2 : Int) (x3 : Int) (w : World) (Q : Value → World → Prop) : Prop :=
  jnC (F75s.l1 Q) ((x0A, x0n, x0c), (x1), (x2), (x3), (0), ()) w
def F75s.an : Ann := ⟨[(1, [(0, .kSl), (1, .kI .i64), (2, .kI .i64), (3, .kI .i64), (10, .kI .i64)])], []⟩
theorem F75s.eq (x0A : Option Addr) (x0n x0c : Nat) (x1 : Int) (x2 : Int) (x3 : Int) (w : World) (Q : Value → World → Prop) : vcFn Try.prog F75s.an 75 [Value.slice x0A x0n x0c, Value.int .i64 x1, Value.int .i64 x2, Value.int .i64 x3, Value.func (.func 42) #[] #[]] w Q = F75s.vc x0A x0n x0c x1 x2 x3 w Q := by kernel_rfl
theorem F75s.of (x0A : Option Addr) (x0n x0c : Nat) (x1 : Int) (x2 : Int) (x3 : Int) (w : World) {Q : Value → World → Prop} (h : F75s.vc x0A x0n x0c x1 x2 x3 w Q) : Calls Try.prog 75 #[Value.slice x0A x0n x0c, Value.int .i64 x1, Value.int .i64 x2, Value.int .i64 x3, Value.func (.func 42) #[] #[]] w (fun e w' => ∃ v, e = .returned v ∧ Q v w') := vcFn_sound noCount mixed ((F75s.eq x0A x0n x0c x1 x2 x3 w Q).symm ▸ h)
/-! ### function 76: slices.Reverse[[]stillage/api.Named,stillage/api.Named] -/
def F76.b1c (Q : Value → World → Prop) (C1 : ((Option Addr × Nat × Nat) × Int × Int × Unit) → World → Prop) (x0 : (Option Addr × Nat × Nat)) (x2 : Int) (x3 : Int) (w : World) : Prop :=
  vIf (decide (x2 < x3))
  (dr x0.1 fun b1 o2 =>
    gd (decide (0 ≤ x3)) <|
    gd (decide (x3 < ((x0.2.1 : Nat) : Int))) <|
    ldA 2 w.drew b1 (o2 + (x3).toNat * 2) fun a3 =>
    dr x0.1 fun b4 o5 =>
    gd (decide (0 ≤ x2)) <|
    gd (decide (x2 < ((x0.2.1 : Nat) : Int))) <|
    ldA 2 w.drew b4 (o5 + (x2).toNat * 2) fun a6 =>
    dr x0.1 fun b7 o8 =>
    gd (decide (0 ≤ x2)) <|
    gd (decide (x2 < ((x0.2.1 : Nat) : Int))) <|
    gd (a3.length == 2) <|
    st w.drew b7 (o8 + (x2).toNat * 2) a3 fun w9 =>
    dr x0.1 fun b10 o11 =>
    gd (decide (0 ≤ x3)) <|
    gd (decide (x3 < ((x0.2.1 : Nat) : Int))) <|
    gd (a6.length == 2) <|
    st w9 b10 (o11 + (x3).toNat * 2) a6 fun w12 =>
    jnC C1 ((x0.1, x0.2.1, x0.2.2), ((IntKind.wrap .i64 (x2 + 1))), ((IntKind.wrap .i64 (x3 - 1))), ()) w12)
  (Q (Value.tuple #[]) w)
def F76.b1 (Q : Value → World → Prop) : ((Option Addr × Nat × Nat) × Int × Int × Unit) → World → (((Option Addr × Nat × Nat) × Int × Int × Unit) → World → Prop) → Prop := fun s w C1 => ∀ _ : Nat → Value, F76.b1c Q C1 s.1 s.2.1 s.2.2.1 w
def F76.l1 (Q : Value → World → Prop) : ((Option Addr × Nat × Nat) × Int × Int × Unit) → World → Prop := fun s w => ∃ n, loopC (F76.b1 Q) n s w
def F76.vc (x0A : Option Addr) (x0n x0c : Nat) (w : World) (Q : Value → World → Prop) : Prop :=
  jnC (F76.l1 Q) ((x0A, x0n, x0c), (0), ((IntKind.wrap .i64 (((x0n : Nat) : Int) - 1))), ()) w
def F76.an : Ann := ⟨[(1, [(0, .kSl), (2, .kI .i64), (3, .kI .i64)])], []⟩
theorem F76.eq (x0A : Option Addr) (x0n x0c : Nat) (w : World) (Q : Value → World → Prop) : vcFn Try.prog F76.an 76 [Value.slice x0A x0n x0c] w Q = F76.vc x0A x0n x0c w Q := by kernel_rfl
theorem F76.of (x0A : Option Addr) (x0n x0c : Nat) (w : World) {Q : Value → World → Prop} (h : F76.vc x0A x0n x0c w Q) : Calls Try.prog 76 #[Value.slice x0A x0n x0c] w (fun e w' => ∃ v, e = .returned v ∧ Q v w') := vcFn_sound noCount mixed ((F76.eq x0A x0n x0c w Q).symm ▸ h)
end Go.Proofs.Ytglojgicnchnpaa
