/- PRINTED BY MY OWN gen.py out of the translation: each function as a proposition. -/
import Derived.Test.YtiiabhgcmgfgfaaProg
import Derived.Test.YtiiabhgcmgfgfaaG7
namespace Go.Proofs.Ytiiabhgcmgfgfaa
open Go.GV
set_option linter.unusedVariables false
set_option maxRecDepth 100000
theorem noCount : NoCount Try.prog := noCount_of (by kernel_rfl)
theorem mixed : Try.prog.follows .mixedOrders = true := by kernel_rfl
def Z28 : List Value := [Value.int .u8 0, Value.int .u8 0, Value.int .u8 0, Value.int .u8 0, Value.int .u8 0, Value.int .u8 0, Value.int .u8 0, Value.int .u8 0, Value.int .u8 0, Value.int .u8 0, Value.int .u8 0, Value.int .u8 0, Value.int .u8 0, Value.int .u8 0, Value.int .u8 0, Value.int .u8 0, Value.int .u8 0, Value.int .u8 0, Value.int .u8 0, Value.int .u8 0, Value.int .u8 0, Value.int .u8 0, Value.int .u8 0, Value.int .u8 0, Value.int .u8 0, Value.int .u8 0, Value.int .u8 0, Value.int .u8 0, Value.int .u8 0, Value.int .u8 0, Value.int .u8 0, Value.int .u8 0, Value.int .i64 0, Value.int .i64 0, Value.int .i64 0, Value.int .i64 0, Value.int .i64 0, Value.slice none 0 0]
def Z35 : List Value := [Value.string (⟨#[]⟩ : ByteArray), Value.int .u8 0, Value.int .u8 0, Value.int .u8 0, Value.int .u8 0, Value.int .u8 0, Value.int .u8 0, Value.int .u8 0, Value.int .u8 0, Value.int .u8 0, Value.int .u8 0, Value.int .u8 0, Value.int .u8 0, Value.int .u8 0, Value.int .u8 0, Value.int .u8 0, Value.int .u8 0, Value.int .u8 0, Value.int .u8 0, Value.int .u8 0, Value.int .u8 0, Value.int .u8 0, Value.int .u8 0, Value.int .u8 0, Value.int .u8 0, Value.int .u8 0, Value.int .u8 0, Value.int .u8 0, Value.int .u8 0, Value.int .u8 0, Value.int .u8 0, Value.int .u8 0, Value.int .u8 0, Value.bool false, Value.int .i64 0, Value.int .i64 0, Value.int .i64 0, Value.slice none 0 0]
/-! ### function 3: stillage/stillagelaw19.EntryFewer -/
def F3.vc (x0 : List Value) (x1A : Option Addr) (x1n x1c : Nat) (x2A : Option Addr) (x2n x2c : Nat) (w : World) (Q : Value → World → Prop) : Prop :=
  nw w x0 28 fun b1 w2 =>
  nw w2 [] 3 fun b3 w4 =>
  app w4 1 8 [Value.int .i64 0] 3 (some ⟨b3, 0, none⟩) 0 0 (Value.slice x1A x1n x1c) fun A5 n6 c7 w8 =>
  app w8 1 8 [Value.int .i64 0] 3 A5 n6 c7 (Value.slice x2A x2n x2c) fun A9 n10 c11 w12 =>
  ldA 38 w12 b1 0 fun a13 =>
  Calls Try.prog 6 #[ofL a13, Value.slice A9 n10 c11] w12 fun e15 w14 =>
  ∃ a16 : List Value, ∃ t17 : Bool, e15 = .returned (Value.tuple #[ofL a16, Value.bool t17]) ∧ (
    nw w14 Z28 28 fun b18 w19 =>
    gd (a16.length == 38) <|
    st w19 b18 0 a16 fun w20 =>
    ldA 38 w20 b1 0 fun a21 =>
    Calls Try.prog 6 #[ofL a21, Value.slice x1A x1n x1c] w20 fun e23 w22 =>
    ∃ a24 : List Value, ∃ t25 : Bool, e23 = .returned (Value.tuple #[ofL a24, Value.bool t25]) ∧ (
      nw w22 Z28 28 fun b26 w27 =>
      gd (a24.length == 38) <|
      st w27 b26 0 a24 fun w28 =>
      ldA 38 w28 b18 0 fun a29 =>
      Calls Try.prog 6 #[ofL a29, Value.slice x1A x1n x1c] w28 fun e31 w30 =>
      ∃ a32 : List Value, ∃ t33 : Bool, e31 = .returned (Value.tuple #[ofL a32, Value.bool t33]) ∧ (
        nw w30 Z28 28 fun b34 w35 =>
        gd (a32.length == 38) <|
        st w35 b34 0 a32 fun w36 =>
        vIf (!t17)
        (vIf (!t25)
          (Calls Try.prog 8 #[] w36 fun e38 w37 =>
            ∃ t39 : Bool, e38 = .returned (Value.bool t39) ∧ (
              Q (Value.bool t39) w37))
          (vIf t17
            (vIf (t25 == t33)
              (ldA 38 w36 b26 0 fun a40 =>
                ldA 38 w36 b34 0 fun a41 =>
                Calls Try.prog 7 #[ofL a40, ofL a41] w36 fun e43 w42 =>
                ∃ t44 : Bool, e43 = .returned (Value.bool t44) ∧ (
                  vIf t44
                  (Calls Try.prog 8 #[] w42 fun e46 w45 =>
                    ∃ t47 : Bool, e46 = .returned (Value.bool t47) ∧ (
                      Q (Value.bool t47) w45))
                  (Q (Value.bool false) w42)))
              (Q (Value.bool false) w36))
            (Q (Value.bool false) w36)))
        (vIf t17
          (vIf (t25 == t33)
            (ldA 38 w36 b26 0 fun a48 =>
              ldA 38 w36 b34 0 fun a49 =>
              Calls Try.prog 7 #[ofL a48, ofL a49] w36 fun e51 w50 =>
              ∃ t52 : Bool, e51 = .returned (Value.bool t52) ∧ (
                vIf t52
                (Calls Try.prog 8 #[] w50 fun e54 w53 =>
                  ∃ t55 : Bool, e54 = .returned (Value.bool t55) ∧ (
                    Q (Value.bool t55) w53))
                (Q (Value.bool false) w50)))
            (Q (Value.bool false) w36))
          (Q (Value.bool false) w36)))))
def F3.an : Ann := ⟨[], []⟩
theorem F3.eq (x0 : List Value) (x1A : Option Addr) (x1n x1c : Nat) (x2A : Option Addr) (x2n x2c : Nat) (w : World) (Q : Value → World → Prop) : vcFn Try.prog F3.an 3 [ofL x0, Value.slice x1A x1n x1c, Value.slice x2A x2n x2c] w Q = F3.vc x0 x1A x1n x1c x2A x2n x2c w Q := by kernel_rfl
theorem F3.of (x0 : List Value) (x1A : Option Addr) (x1n x1c : Nat) (x2A : Option Addr) (x2n x2c : Nat) (w : World) {Q : Value → World → Prop} (h : F3.vc x0 x1A x1n x1c x2A x2n x2c w Q) : Calls Try.prog 3 #[ofL x0, Value.slice x1A x1n x1c, Value.slice x2A x2n x2c] w (fun e w' => ∃ v, e = .returned v ∧ Q v w') := vcFn_sound noCount mixed ((F3.eq x0 x1A x1n x1c x2A x2n x2c w Q).symm ▸ h)
/-! ### function 4: stillage/stillagelaw19.EntryBehind -/
def F4.vc (x0 : List Value) (x1 : List Value) (x2 : List Value) (w : World) (Q : Value → World → Prop) : Prop :=
  nw w x0 28 fun b1 w2 =>
  nw w2 x1 35 fun b3 w4 =>
  nw w4 x2 38 fun b5 w6 =>
  ldA 38 w6.drew b1 0 fun a7 =>
  ldA 39 w6.drew b5 0 fun a8 =>
  ldA 38 w6.drew b1 0 fun a9 =>
  ldA 39 w6.drew b5 0 fun a10 =>
  Calls Try.prog 9 #[ofL a7, ofL a8] w6.drew fun e12 w11 =>
  ∃ a13 : List Value, e12 = .returned (ofL a13) ∧ (
    kp w6.drew b5 0 39 w11 <|
    kp w6.drew b1 0 38 w11 <|
    Calls Try.prog 10 #[ofL a9, ofL a10] w11 fun e15 w14 =>
    ∃ a16 : List Value, e15 = .returned (ofL a16) ∧ (
      Calls Try.prog 7 #[ofL a13, ofL a16] w14 fun e18 w17 =>
      ∃ t19 : Bool, e18 = .returned (Value.bool t19) ∧ (
        vIf t19
        (ldA 38 w17 b1 0 fun a20 =>
          ldA 39 w17 b5 0 fun a21 =>
          ldA 38 w17 b1 0 fun a22 =>
          ldA 39 w17 b5 0 fun a23 =>
          Calls Try.prog 11 #[ofL a20, ofL a21] w17 fun e25 w24 =>
          ∃ a26 : List Value, e25 = .returned (ofL a26) ∧ (
            kp w17 b5 0 39 w24 <|
            kp w17 b1 0 38 w24 <|
            Calls Try.prog 12 #[ofL a22, ofL a23] w24 fun e28 w27 =>
            ∃ a29 : List Value, e28 = .returned (ofL a29) ∧ (
              Calls Try.prog 7 #[ofL a26, ofL a29] w27 fun e31 w30 =>
              ∃ t32 : Bool, e31 = .returned (Value.bool t32) ∧ (
                vIf t32
                (ldA 38 w30 b3 0 fun a33 =>
                  ldA 39 w30 b5 0 fun a34 =>
                  ldA 38 w30 b3 0 fun a35 =>
                  ldA 39 w30 b5 0 fun a36 =>
                  Calls Try.prog 14 #[ofL a33, ofL a34] w30 fun e38 w37 =>
                  ∃ a39 : List Value, e38 = .returned (ofL a39) ∧ (
                    kp w30 b5 0 39 w37 <|
                    kp w30 b3 0 38 w37 <|
                    Calls Try.prog 15 #[ofL a35, ofL a36] w37 fun e41 w40 =>
                    ∃ a42 : List Value, e41 = .returned (ofL a42) ∧ (
                      Calls Try.prog 13 #[ofL a39, ofL a42] w40 fun e44 w43 =>
                      ∃ t45 : Bool, e44 = .returned (Value.bool t45) ∧ (
                        vIf t45
                        (ldA 38 w43 b3 0 fun a46 =>
                          ldA 39 w43 b5 0 fun a47 =>
                          ldA 38 w43 b3 0 fun a48 =>
                          ldA 39 w43 b5 0 fun a49 =>
                          Calls Try.prog 16 #[ofL a46, ofL a47] w43 fun e51 w50 =>
                          ∃ a52 : List Value, e51 = .returned (ofL a52) ∧ (
                            kp w43 b5 0 39 w50 <|
                            kp w43 b3 0 38 w50 <|
                            Calls Try.prog 17 #[ofL a48, ofL a49] w50 fun e54 w53 =>
                            ∃ a55 : List Value, e54 = .returned (ofL a55) ∧ (
                              Calls Try.prog 13 #[ofL a52, ofL a55] w53 fun e57 w56 =>
                              ∃ t58 : Bool, e57 = .returned (Value.bool t58) ∧ (
                                vIf t58
                                (Calls Try.prog 8 #[] w56 fun e60 w59 =>
                                  ∃ t61 : Bool, e60 = .returned (Value.bool t61) ∧ (
                                    Q (Value.bool t61) w59))
                                (Q (Value.bool false) w56)))))
                        (Q (Value.bool false) w43)))))
                (Q (Value.bool false) w30)))))
        (Q (Value.bool false) w17))))
def F4.an : Ann := ⟨[], []⟩
theorem F4.eq (x0 : List Value) (x1 : List Value) (x2 : List Value) (w : World) (Q : Value → World → Prop) : vcFn Try.prog F4.an 4 [ofL x0, ofL x1, ofL x2] w Q = F4.vc x0 x1 x2 w Q := by kernel_rfl
theorem F4.of (x0 : List Value) (x1 : List Value) (x2 : List Value) (w : World) {Q : Value → World → Prop} (h : F4.vc x0 x1 x2 w Q) : Calls Try.prog 4 #[ofL x0, ofL x1, ofL x2] w (fun e w' => ∃ v, e = .returned v ∧ Q v w') := vcFn_sound noCount mixed ((F4.eq x0 x1 x2 w Q).symm ▸ h)
/-! ### function 5: stillage/stillagelaw19.EntryKeeps -/
def F5.k7c (Q : Value → World → Prop) (x7 : (Nat × Nat)) (x8 : Bool) (x9 : (Nat × Nat)) (x10 : Bool) (x11 : (Nat × Nat)) (x12 : Bool) (x13 : (Nat × Nat)) (x14 : Bool) (w : World) : Prop :=
  ldA 38 w x7.1 x7.2 fun a61 =>
  ldA 38 w x9.1 x9.2 fun a62 =>
  Calls Try.prog 7 #[ofL a61, ofL a62] w fun e64 w63 =>
  ∃ t65 : Bool, e64 = .returned (Value.bool t65) ∧ (
    vIf t65
    (vIf (x8 == x10)
      (ldA 38 w63 x11.1 x11.2 fun a66 =>
        ldA 38 w63 x13.1 x13.2 fun a67 =>
        Calls Try.prog 13 #[ofL a66, ofL a67] w63 fun e69 w68 =>
        ∃ t70 : Bool, e69 = .returned (Value.bool t70) ∧ (
          vIf t70
          (vIf (x12 == x14)
            (Calls Try.prog 8 #[] w68 fun e72 w71 =>
              ∃ t73 : Bool, e72 = .returned (Value.bool t73) ∧ (
                Q (Value.bool t73) w71))
            (Q (Value.bool false) w68))
          (Q (Value.bool false) w68)))
      (Q (Value.bool false) w63))
    (Q (Value.bool false) w63))
def F5.k7 (Q : Value → World → Prop) : ((Nat × Nat) × Bool × (Nat × Nat) × Bool × (Nat × Nat) × Bool × (Nat × Nat) × Bool × Unit) → World → Prop := fun s w => ∀ _ : Nat → Value, F5.k7c Q s.1 s.2.1 s.2.2.1 s.2.2.2.1 s.2.2.2.2.1 s.2.2.2.2.2.1 s.2.2.2.2.2.2.1 s.2.2.2.2.2.2.2.1 w
def F5.vc (x0 : List Value) (x1 : List Value) (x2A : Option Addr) (x2n x2c : Nat) (w : World) (Q : Value → World → Prop) : Prop :=
  nw w x0 28 fun b1 w2 =>
  nw w2 x1 35 fun b3 w4 =>
  ldA 38 w4 b1 0 fun a5 =>
  Calls Try.prog 6 #[ofL a5, Value.slice x2A x2n x2c] w4 fun e7 w6 =>
  ∃ a8 : List Value, ∃ t9 : Bool, e7 = .returned (Value.tuple #[ofL a8, Value.bool t9]) ∧ (
    nw w6 Z28 28 fun b10 w11 =>
    gd (a8.length == 38) <|
    st w11 b10 0 a8 fun w12 =>
    ldA 38 w12 b1 0 fun a13 =>
    Calls Try.prog 18 #[ofL a13, Value.slice x2A x2n x2c] w12 fun e15 w14 =>
    ∃ a16 : List Value, ∃ t17 : Bool, e15 = .returned (Value.tuple #[ofL a16, Value.bool t17]) ∧ (
      nw w14 Z28 28 fun b18 w19 =>
      gd (a16.length == 38) <|
      st w19 b18 0 a16 fun w20 =>
      ldA 38 w20 b3 0 fun a21 =>
      Calls Try.prog 19 #[ofL a21, Value.slice x2A x2n x2c] w20 fun e23 w22 =>
      ∃ a24 : List Value, ∃ t25 : Bool, e23 = .returned (Value.tuple #[ofL a24, Value.bool t25]) ∧ (
        nw w22 Z35 35 fun b26 w27 =>
        gd (a24.length == 38) <|
        st w27 b26 0 a24 fun w28 =>
        ldA 38 w28 b3 0 fun a29 =>
        Calls Try.prog 20 #[ofL a29, Value.slice x2A x2n x2c] w28 fun e31 w30 =>
        ∃ a32 : List Value, ∃ t33 : Bool, e31 = .returned (Value.tuple #[ofL a32, Value.bool t33]) ∧ (
          nw w30 Z35 35 fun b34 w35 =>
          gd (a32.length == 38) <|
          st w35 b34 0 a32 fun w36 =>
          ldA 38 w36.drew b1 0 fun a37 =>
          ldI .i64 w36.drew b1 (0 + 32) fun i38 =>
          ldSl w36.drew b1 (0 + 37) fun A39 n40 c41 =>
          ldI .i64 w36.drew b1 (0 + 34) fun i42 =>
          Calls Try.prog 21 #[ofL a37] w36.drew fun e44 w43 =>
          ∃ t45 : Bool, e44 = .returned (Value.bool t45) ∧ (
            kp w36.drew b1 (0 + 34) 1 w43 <|
            kp w36.drew b1 (0 + 37) 1 w43 <|
            kp w36.drew b1 (0 + 32) 1 w43 <|
            Calls Try.prog 22 #[Value.bool (i38 == 5), Value.slice A39 n40 c41, Value.int .i64 i42] w43 fun e47 w46 =>
            ∃ t48 : Bool, e47 = .returned (Value.bool t48) ∧ (
              vIf (!(t45 == t48))
              (Q (Value.bool false) w46)
              (ldA 38 w46 b3 0 fun a49 =>
                ldB w46 b3 (0 + 33) fun t50 =>
                ldSl w46 b3 (0 + 37) fun A51 n52 c53 =>
                ldI .i64 w46 b3 (0 + 34) fun i54 =>
                Calls Try.prog 23 #[ofL a49] w46 fun e56 w55 =>
                ∃ t57 : Bool, e56 = .returned (Value.bool t57) ∧ (
                  kp w46 b3 (0 + 34) 1 w55 <|
                  kp w46 b3 (0 + 37) 1 w55 <|
                  kp w46 b3 (0 + 33) 1 w55 <|
                  Calls Try.prog 22 #[Value.bool t50, Value.slice A51 n52 c53, Value.int .i64 i54] w55 fun e59 w58 =>
                  ∃ t60 : Bool, e59 = .returned (Value.bool t60) ∧ (
                    vIf (!(t57 == t60))
                    (Q (Value.bool false) w58)
                    (jnC (F5.k7 Q) ((b10, 0), t9, (b18, 0), t17, (b26, 0), t25, (b34, 0), t33, ()) w58))))))))))
def F5.an : Ann := ⟨[], [(7, [(7, .kL), (8, .kB), (9, .kL), (10, .kB), (11, .kL), (12, .kB), (13, .kL), (14, .kB)])]⟩
theorem F5.eq (x0 : List Value) (x1 : List Value) (x2A : Option Addr) (x2n x2c : Nat) (w : World) (Q : Value → World → Prop) : vcFn Try.prog F5.an 5 [ofL x0, ofL x1, Value.slice x2A x2n x2c] w Q = F5.vc x0 x1 x2A x2n x2c w Q := by kernel_rfl
theorem F5.of (x0 : List Value) (x1 : List Value) (x2A : Option Addr) (x2n x2c : Nat) (w : World) {Q : Value → World → Prop} (h : F5.vc x0 x1 x2A x2n x2c w Q) : Calls Try.prog 5 #[ofL x0, ofL x1, Value.slice x2A x2n x2c] w (fun e w' => ∃ v, e = .returned v ∧ Q v w') := vcFn_sound noCount mixed ((F5.eq x0 x1 x2A x2n x2c w Q).symm ▸ h)
/-! ### function 6: stillage/entry.Keep -/
def F6.k6c (Q : Value → World → Prop) (x2 : (Nat × Nat)) (x4 : (Nat × Nat)) (x6 : (Option Addr × Nat × Nat)) (w : World) : Prop :=
  st w x2.1 (x2.2 + 37) [Value.slice x6.1 x6.2.1 x6.2.2] fun w22 =>
  ldA 38 w22 x2.1 x2.2 fun a23 =>
  gd (a23.length == 38) <|
  st w22 x4.1 x4.2 a23 fun w24 =>
  ldA 38 w24 x4.1 x4.2 fun a25 =>
  Q (Value.tuple #[ofL a25, Value.bool true]) w24
def F6.k6 (Q : Value → World → Prop) : ((Nat × Nat) × (Nat × Nat) × (Option Addr × Nat × Nat) × Unit) → World → Prop := fun s w => ∀ _ : Nat → Value, F6.k6c Q s.1 s.2.1 s.2.2.1 w
def F6.k3c (Q : Value → World → Prop) (x2 : (Nat × Nat)) (x4 : (Nat × Nat)) (x6 : (Option Addr × Nat × Nat)) (x7 : Bool) (x17 : Bool) (w : World) : Prop :=
  vIf x17
  (gd (([Value.int .u8 0, Value.int .u8 0, Value.int .u8 0, Value.int .u8 0, Value.int .u8 0, Value.int .u8 0, Value.int .u8 0, Value.int .u8 0, Value.int .u8 0, Value.int .u8 0, Value.int .u8 0, Value.int .u8 0, Value.int .u8 0, Value.int .u8 0, Value.int .u8 0, Value.int .u8 0, Value.int .u8 0, Value.int .u8 0, Value.int .u8 0, Value.int .u8 0, Value.int .u8 0, Value.int .u8 0, Value.int .u8 0, Value.int .u8 0, Value.int .u8 0, Value.int .u8 0, Value.int .u8 0, Value.int .u8 0, Value.int .u8 0, Value.int .u8 0, Value.int .u8 0, Value.int .u8 0] ++ ([Value.int .i64 0] ++ ([Value.int .i64 0] ++ ([Value.int .i64 0, Value.int .i64 0, Value.int .i64 0] ++ ([Value.slice none 0 0] ++ []))))).length == 38) <|
    st w x4.1 x4.2 ([Value.int .u8 0, Value.int .u8 0, Value.int .u8 0, Value.int .u8 0, Value.int .u8 0, Value.int .u8 0, Value.int .u8 0, Value.int .u8 0, Value.int .u8 0, Value.int .u8 0, Value.int .u8 0, Value.int .u8 0, Value.int .u8 0, Value.int .u8 0, Value.int .u8 0, Value.int .u8 0, Value.int .u8 0, Value.int .u8 0, Value.int .u8 0, Value.int .u8 0, Value.int .u8 0, Value.int .u8 0, Value.int .u8 0, Value.int .u8 0, Value.int .u8 0, Value.int .u8 0, Value.int .u8 0, Value.int .u8 0, Value.int .u8 0, Value.int .u8 0, Value.int .u8 0, Value.int .u8 0] ++ ([Value.int .i64 0] ++ ([Value.int .i64 0] ++ ([Value.int .i64 0, Value.int .i64 0, Value.int .i64 0] ++ ([Value.slice none 0 0] ++ []))))) fun w17 =>
    ldA 38 w17 x4.1 x4.2 fun a18 =>
    Q (Value.tuple #[ofL a18, Value.bool false]) w17)
  (vIf (!x7)
    (ldA 32 w x2.1 x2.2 fun a19 =>
      gd (a19.length == 32) <|
      gd ((a19 ++ ([Value.int .i64 5] ++ ([Value.int .i64 0] ++ ([Value.int .i64 0, Value.int .i64 0, Value.int .i64 0] ++ ([Value.slice x6.1 x6.2.1 x6.2.2] ++ []))))).length == 38) <|
      st w x4.1 x4.2 (a19 ++ ([Value.int .i64 5] ++ ([Value.int .i64 0] ++ ([Value.int .i64 0, Value.int .i64 0, Value.int .i64 0] ++ ([Value.slice x6.1 x6.2.1 x6.2.2] ++ []))))) fun w20 =>
      ldA 38 w20 x4.1 x4.2 fun a21 =>
      Q (Value.tuple #[ofL a21, Value.bool true]) w20)
    (jnC (F6.k6 Q) ((x2.1, x2.2), (x4.1, x4.2), (x6.1, x6.2.1, x6.2.2), ()) w))
def F6.k3 (Q : Value → World → Prop) : ((Nat × Nat) × (Nat × Nat) × (Option Addr × Nat × Nat) × Bool × Bool × Unit) → World → Prop := fun s w => ∀ _ : Nat → Value, F6.k3c Q s.1 s.2.1 s.2.2.1 s.2.2.2.1 s.2.2.2.2.1 w
def F6.vc (x0 : List Value) (x1A : Option Addr) (x1n x1c : Nat) (w : World) (Q : Value → World → Prop) : Prop :=
  nw w x0 28 fun b1 w2 =>
  nw w2 Z28 28 fun b3 w4 =>
  ldSl w4.drew b1 (0 + 37) fun A5 n6 c7 =>
  ldI .i64 w4.drew b1 (0 + 34) fun i8 =>
  Calls Try.prog 24 #[Value.slice A5 n6 c7, Value.slice x1A x1n x1c] w4.drew fun e10 w9 =>
  ∃ (A11 : Option Addr) (n12 c13 : Nat), e10 = .returned (Value.slice A11 n12 c13) ∧ (
    kp w4.drew b1 (0 + 34) 1 w9 <|
    Calls Try.prog 25 #[Value.slice x1A x1n x1c, Value.int .i64 i8] w9 fun e15 w14 =>
    ∃ t16 : Bool, e15 = .returned (Value.bool t16) ∧ (
      vIf (((n12 : Nat) : Int) == 0)
      (vIf (!t16)
        (jnC (F6.k3 Q) ((b1, 0), (b3, 0), (A11, n12, c13), t16, true, ()) w14)
        (ldI .i64 w14 b1 (0 + 32) fun i26 =>
          jnC (F6.k3 Q) ((b1, 0), (b3, 0), (A11, n12, c13), t16, (i26 == 5), ()) w14))
      (jnC (F6.k3 Q) ((b1, 0), (b3, 0), (A11, n12, c13), t16, false, ()) w14)))
def F6.an : Ann := ⟨[], [(3, [(2, .kL), (4, .kL), (6, .kSl), (7, .kB), (17, .kB)]), (6, [(2, .kL), (4, .kL), (6, .kSl)])]⟩
theorem F6.eq (x0 : List Value) (x1A : Option Addr) (x1n x1c : Nat) (w : World) (Q : Value → World → Prop) : vcFn Try.prog F6.an 6 [ofL x0, Value.slice x1A x1n x1c] w Q = F6.vc x0 x1A x1n x1c w Q := by kernel_rfl
theorem F6.of (x0 : List Value) (x1A : Option Addr) (x1n x1c : Nat) (w : World) {Q : Value → World → Prop} (h : F6.vc x0 x1A x1n x1c w Q) : Calls Try.prog 6 #[ofL x0, Value.slice x1A x1n x1c] w (fun e w' => ∃ v, e = .returned v ∧ Q v w') := vcFn_sound noCount mixed ((F6.eq x0 x1A x1n x1c w Q).symm ▸ h)
/-! ### function 7: stillage/stillageref19.Same -/
def F7.vc (x0 : List Value) (x1 : List Value) (w : World) (Q : Value → World → Prop) : Prop :=
  nw w x0 28 fun b1 w2 =>
  nw w2 x1 28 fun b3 w4 =>
  ldA 32 w4 b1 0 fun a5 =>
  ldA 32 w4 b3 0 fun a6 =>
  eqAB 32 a5 a6 fun t7 =>
  vIf t7
  (ldI .i64 w4 b1 (0 + 32) fun i8 =>
    ldI .i64 w4 b3 (0 + 32) fun i9 =>
    vIf (i8 == i9)
    (ldI .i64 w4 b1 (0 + 33) fun i10 =>
      ldI .i64 w4 b3 (0 + 33) fun i11 =>
      vIf (i10 == i11)
      (ldA 3 w4 b1 (0 + 34) fun a12 =>
        ldA 3 w4 b3 (0 + 34) fun a13 =>
        eqI64 3 a12 a13 fun t14 =>
        vIf t14
        (ldSl w4 b1 (0 + 37) fun A15 n16 c17 =>
          ldSl w4 b3 (0 + 37) fun A18 n19 c20 =>
          Calls Try.prog 26 #[Value.slice A15 n16 c17, Value.slice A18 n19 c20] w4 fun e22 w21 =>
          ∃ t23 : Bool, e22 = .returned (Value.bool t23) ∧ (
            Q (Value.bool t23) w21))
        (Q (Value.bool false) w4))
      (Q (Value.bool false) w4))
    (Q (Value.bool false) w4))
  (Q (Value.bool false) w4)
def F7.an : Ann := ⟨[], []⟩
theorem F7.eq (x0 : List Value) (x1 : List Value) (w : World) (Q : Value → World → Prop) : vcFn Try.prog F7.an 7 [ofL x0, ofL x1] w Q = F7.vc x0 x1 w Q := by kernel_rfl
theorem F7.of (x0 : List Value) (x1 : List Value) (w : World) {Q : Value → World → Prop} (h : F7.vc x0 x1 w Q) : Calls Try.prog 7 #[ofL x0, ofL x1] w (fun e w' => ∃ v, e = .returned v ∧ Q v w') := vcFn_sound noCount mixed ((F7.eq x0 x1 w Q).symm ▸ h)
/-! ### function 8: stillage/stillagelaw19.lives -/
def F8.vc  (w : World) (Q : Value → World → Prop) : Prop :=
  gd (([Value.int .u8 1] ++ ([Value.int .u8 0] ++ ([Value.int .u8 0] ++ ([Value.int .u8 0] ++ ([Value.int .u8 0] ++ ([Value.int .u8 0] ++ ([Value.int .u8 0] ++ ([Value.int .u8 0] ++ ([Value.int .u8 0] ++ ([Value.int .u8 0] ++ ([Value.int .u8 0] ++ ([Value.int .u8 0] ++ ([Value.int .u8 0] ++ ([Value.int .u8 0] ++ ([Value.int .u8 0] ++ ([Value.int .u8 0] ++ ([Value.int .u8 0] ++ ([Value.int .u8 0] ++ ([Value.int .u8 0] ++ ([Value.int .u8 0] ++ ([Value.int .u8 0] ++ ([Value.int .u8 0] ++ ([Value.int .u8 0] ++ ([Value.int .u8 0] ++ ([Value.int .u8 0] ++ ([Value.int .u8 0] ++ ([Value.int .u8 0] ++ ([Value.int .u8 0] ++ ([Value.int .u8 0] ++ ([Value.int .u8 0] ++ ([Value.int .u8 0] ++ ([Value.int .u8 0] ++ [])))))))))))))))))))))))))))))))).length == 32) <|
  gd (([Value.int .i64 1] ++ ([Value.int .i64 0] ++ ([Value.int .i64 0] ++ []))).length == 3) <|
  Calls Try.prog 9 #[ofL ([Value.int .u8 0, Value.int .u8 0, Value.int .u8 0, Value.int .u8 0, Value.int .u8 0, Value.int .u8 0, Value.int .u8 0, Value.int .u8 0, Value.int .u8 0, Value.int .u8 0, Value.int .u8 0, Value.int .u8 0, Value.int .u8 0, Value.int .u8 0, Value.int .u8 0, Value.int .u8 0, Value.int .u8 0, Value.int .u8 0, Value.int .u8 0, Value.int .u8 0, Value.int .u8 0, Value.int .u8 0, Value.int .u8 0, Value.int .u8 0, Value.int .u8 0, Value.int .u8 0, Value.int .u8 0, Value.int .u8 0, Value.int .u8 0, Value.int .u8 0, Value.int .u8 0, Value.int .u8 0] ++ ([Value.int .i64 0] ++ ([Value.int .i64 0] ++ ([Value.int .i64 0, Value.int .i64 0, Value.int .i64 0] ++ ([Value.slice none 0 0] ++ []))))), ofL ([Value.int .i64 1] ++ ([Value.int .u64 0] ++ (([Value.int .u8 1] ++ ([Value.int .u8 0] ++ ([Value.int .u8 0] ++ ([Value.int .u8 0] ++ ([Value.int .u8 0] ++ ([Value.int .u8 0] ++ ([Value.int .u8 0] ++ ([Value.int .u8 0] ++ ([Value.int .u8 0] ++ ([Value.int .u8 0] ++ ([Value.int .u8 0] ++ ([Value.int .u8 0] ++ ([Value.int .u8 0] ++ ([Value.int .u8 0] ++ ([Value.int .u8 0] ++ ([Value.int .u8 0] ++ ([Value.int .u8 0] ++ ([Value.int .u8 0] ++ ([Value.int .u8 0] ++ ([Value.int .u8 0] ++ ([Value.int .u8 0] ++ ([Value.int .u8 0] ++ ([Value.int .u8 0] ++ ([Value.int .u8 0] ++ ([Value.int .u8 0] ++ ([Value.int .u8 0] ++ ([Value.int .u8 0] ++ ([Value.int .u8 0] ++ ([Value.int .u8 0] ++ ([Value.int .u8 0] ++ ([Value.int .u8 0] ++ ([Value.int .u8 0] ++ [])))))))))))))))))))))))))))))))) ++ ([Value.string (⟨#[]⟩ : ByteArray)] ++ ([Value.int .i64 9] ++ (([Value.int .i64 1] ++ ([Value.int .i64 0] ++ ([Value.int .i64 0] ++ []))) ++ []))))))] w fun e2 w1 =>
  ∃ a3 : List Value, e2 = .returned (ofL a3) ∧ (
    nw w1 Z28 28 fun b4 w5 =>
    gd (a3.length == 38) <|
    st w5 b4 0 a3 fun w6 =>
    ldA 38 w6 b4 0 fun a7 =>
    gd (([Value.int .u8 1] ++ ([Value.int .u8 0] ++ ([Value.int .u8 0] ++ ([Value.int .u8 0] ++ ([Value.int .u8 0] ++ ([Value.int .u8 0] ++ ([Value.int .u8 0] ++ ([Value.int .u8 0] ++ ([Value.int .u8 0] ++ ([Value.int .u8 0] ++ ([Value.int .u8 0] ++ ([Value.int .u8 0] ++ ([Value.int .u8 0] ++ ([Value.int .u8 0] ++ ([Value.int .u8 0] ++ ([Value.int .u8 0] ++ ([Value.int .u8 0] ++ ([Value.int .u8 0] ++ ([Value.int .u8 0] ++ ([Value.int .u8 0] ++ ([Value.int .u8 0] ++ ([Value.int .u8 0] ++ ([Value.int .u8 0] ++ ([Value.int .u8 0] ++ ([Value.int .u8 0] ++ ([Value.int .u8 0] ++ ([Value.int .u8 0] ++ ([Value.int .u8 0] ++ ([Value.int .u8 0] ++ ([Value.int .u8 0] ++ ([Value.int .u8 0] ++ ([Value.int .u8 0] ++ [])))))))))))))))))))))))))))))))).length == 32) <|
    gd (([Value.int .i64 2] ++ ([Value.int .i64 0] ++ ([Value.int .i64 0] ++ []))).length == 3) <|
    Calls Try.prog 11 #[ofL a7, ofL ([Value.int .i64 5] ++ ([Value.int .u64 0] ++ (([Value.int .u8 1] ++ ([Value.int .u8 0] ++ ([Value.int .u8 0] ++ ([Value.int .u8 0] ++ ([Value.int .u8 0] ++ ([Value.int .u8 0] ++ ([Value.int .u8 0] ++ ([Value.int .u8 0] ++ ([Value.int .u8 0] ++ ([Value.int .u8 0] ++ ([Value.int .u8 0] ++ ([Value.int .u8 0] ++ ([Value.int .u8 0] ++ ([Value.int .u8 0] ++ ([Value.int .u8 0] ++ ([Value.int .u8 0] ++ ([Value.int .u8 0] ++ ([Value.int .u8 0] ++ ([Value.int .u8 0] ++ ([Value.int .u8 0] ++ ([Value.int .u8 0] ++ ([Value.int .u8 0] ++ ([Value.int .u8 0] ++ ([Value.int .u8 0] ++ ([Value.int .u8 0] ++ ([Value.int .u8 0] ++ ([Value.int .u8 0] ++ ([Value.int .u8 0] ++ ([Value.int .u8 0] ++ ([Value.int .u8 0] ++ ([Value.int .u8 0] ++ ([Value.int .u8 0] ++ [])))))))))))))))))))))))))))))))) ++ ([Value.string (⟨#[]⟩ : ByteArray)] ++ ([Value.int .i64 0] ++ (([Value.int .i64 2] ++ ([Value.int .i64 0] ++ ([Value.int .i64 0] ++ []))) ++ []))))))] w6 fun e9 w8 =>
    ∃ a10 : List Value, e9 = .returned (ofL a10) ∧ (
      nw w8 Z28 28 fun b11 w12 =>
      gd (a10.length == 38) <|
      st w12 b11 0 a10 fun w13 =>
      ldA 38 w13 b11 0 fun a14 =>
      nw w13 ([Value.int .i64 1] ++ ([Value.int .i64 2] ++ [])) 3 fun b15 w16 =>
      Calls Try.prog 6 #[ofL a14, Value.slice (some ⟨b15, 0, none⟩) 2 2] w16 fun e18 w17 =>
      ∃ a19 : List Value, ∃ t20 : Bool, e18 = .returned (Value.tuple #[ofL a19, Value.bool t20]) ∧ (
        nw w17 Z28 28 fun b21 w22 =>
        gd (a19.length == 38) <|
        st w22 b21 0 a19 fun w23 =>
        ldA 38 w23 b11 0 fun a24 =>
        nw w23 ([Value.int .i64 2] ++ []) 3 fun b25 w26 =>
        Calls Try.prog 6 #[ofL a24, Value.slice (some ⟨b25, 0, none⟩) 1 1] w26 fun e28 w27 =>
        ∃ a29 : List Value, ∃ t30 : Bool, e28 = .returned (Value.tuple #[ofL a29, Value.bool t30]) ∧ (
          nw w27 Z28 28 fun b31 w32 =>
          gd (a29.length == 38) <|
          st w32 b31 0 a29 fun w33 =>
          ldI .i64 w33 b4 (0 + 32) fun i34 =>
          vIf (i34 == 1)
          (ldSl w33 b4 (0 + 37) fun A35 n36 c37 =>
            vIf (((n36 : Nat) : Int) == 1)
            (ldA 38 w33 b4 0 fun a38 =>
              Calls Try.prog 21 #[ofL a38] w33 fun e40 w39 =>
              ∃ t41 : Bool, e40 = .returned (Value.bool t41) ∧ (
                vIf t41
                (ldA 38 w39 b11 0 fun a42 =>
                  Calls Try.prog 21 #[ofL a42] w39 fun e44 w43 =>
                  ∃ t45 : Bool, e44 = .returned (Value.bool t45) ∧ (
                    vIf t45
                    (vIf t20
                      (ldSl w43 b21 (0 + 37) fun A46 n47 c48 =>
                        vIf (((n47 : Nat) : Int) == 1)
                        (Q (Value.bool (!t30)) w43)
                        (Q (Value.bool false) w43))
                      (Q (Value.bool false) w43))
                    (Q (Value.bool false) w43)))
                (Q (Value.bool false) w39)))
            (Q (Value.bool false) w33))
          (Q (Value.bool false) w33)))))
def F8.an : Ann := ⟨[], []⟩
theorem F8.eq  (w : World) (Q : Value → World → Prop) : vcFn Try.prog F8.an 8 [] w Q = F8.vc  w Q := by kernel_rfl
theorem F8.of  (w : World) {Q : Value → World → Prop} (h : F8.vc  w Q) : Calls Try.prog 8 #[] w (fun e w' => ∃ v, e = .returned v ∧ Q v w') := vcFn_sound noCount mixed ((F8.eq  w Q).symm ▸ h)
/-! ### function 9: stillage/entry.Put -/
def F9.vc (x0 : List Value) (x1 : List Value) (w : World) (Q : Value → World → Prop) : Prop :=
  nw w x0 28 fun b1 w2 =>
  nw w2 x1 38 fun b3 w4 =>
  nw w4 Z28 28 fun b5 w6 =>
  ldA 32 w6.drew b3 (0 + 2) fun a7 =>
  ldI .i64 w6.drew b3 0 fun i8 =>
  ldI .i64 w6.drew b3 (0 + 35) fun i9 =>
  ldA 3 w6.drew b3 (0 + 36) fun a10 =>
  ldSl w6.drew b1 (0 + 37) fun A11 n12 c13 =>
  ldI .i64 w6.drew b3 (0 + 36) fun i14 =>
  nw w6.drew ([Value.int .i64 i14] ++ []) 3 fun b15 w16 =>
  kp w6.drew b1 (0 + 37) 1 w16 <|
  kp w6.drew b3 (0 + 36) 3 w16 <|
  kp w6.drew b3 (0 + 35) 1 w16 <|
  kp w6.drew b3 0 1 w16 <|
  kp w6.drew b3 (0 + 2) 32 w16 <|
  nw w16 ([Value.slice A11 n12 c13] ++ ([Value.slice (some ⟨b15, 0, none⟩) 1 1] ++ [])) 26 fun b17 w18 =>
  kp w6.drew b3 (0 + 36) 3 w18 <|
  kp w6.drew b3 (0 + 35) 1 w18 <|
  kp w6.drew b3 0 1 w18 <|
  kp w6.drew b3 (0 + 2) 32 w18 <|
  Calls Try.prog 27 #[Value.slice (some ⟨b17, 0, none⟩) 2 2] w18 fun e20 w19 =>
  ∃ (A21 : Option Addr) (n22 c23 : Nat), e20 = .returned (Value.slice A21 n22 c23) ∧ (
    kp w6.drew b3 (0 + 36) 3 w19 <|
    kp w6.drew b3 (0 + 35) 1 w19 <|
    kp w6.drew b3 0 1 w19 <|
    kp w6.drew b3 (0 + 2) 32 w19 <|
    gd (a7.length == 32) <|
    gd (a10.length == 3) <|
    gd ((a7 ++ ([Value.int .i64 i8] ++ ([Value.int .i64 i9] ++ (a10 ++ ([Value.slice A21 n22 c23] ++ []))))).length == 38) <|
    st w19 b5 0 (a7 ++ ([Value.int .i64 i8] ++ ([Value.int .i64 i9] ++ (a10 ++ ([Value.slice A21 n22 c23] ++ []))))) fun w24 =>
    ldA 38 w24 b5 0 fun a25 =>
    Q (ofL a25) w24)
def F9.an : Ann := ⟨[], []⟩
theorem F9.eq (x0 : List Value) (x1 : List Value) (w : World) (Q : Value → World → Prop) : vcFn Try.prog F9.an 9 [ofL x0, ofL x1] w Q = F9.vc x0 x1 w Q := by kernel_rfl
theorem F9.of (x0 : List Value) (x1 : List Value) (w : World) {Q : Value → World → Prop} (h : F9.vc x0 x1 w Q) : Calls Try.prog 9 #[ofL x0, ofL x1] w (fun e w' => ∃ v, e = .returned v ∧ Q v w') := vcFn_sound noCount mixed ((F9.eq x0 x1 w Q).symm ▸ h)
/-! ### function 10: stillage/stillageref19.Put -/
def F10.vc (x0 : List Value) (x1 : List Value) (w : World) (Q : Value → World → Prop) : Prop :=
  nw w x0 28 fun b1 w2 =>
  nw w2 x1 38 fun b3 w4 =>
  nw w4 Z28 28 fun b5 w6 =>
  ldA 32 w6.drew b3 (0 + 2) fun a7 =>
  ldI .i64 w6.drew b3 0 fun i8 =>
  ldI .i64 w6.drew b3 (0 + 35) fun i9 =>
  ldA 3 w6.drew b3 (0 + 36) fun a10 =>
  ldSl w6.drew b1 (0 + 37) fun A11 n12 c13 =>
  ldI .i64 w6.drew b3 (0 + 36) fun i14 =>
  Calls Try.prog 29 #[Value.slice A11 n12 c13] w6.drew fun e16 w15 =>
  ∃ (A17 : Option Addr) (n18 c19 : Nat), e16 = .returned (Value.slice A17 n18 c19) ∧ (
    kp w6.drew b3 (0 + 36) 1 w15 <|
    kp w6.drew b3 (0 + 36) 3 w15 <|
    kp w6.drew b3 (0 + 35) 1 w15 <|
    kp w6.drew b3 0 1 w15 <|
    kp w6.drew b3 (0 + 2) 32 w15 <|
    Calls Try.prog 28 #[Value.slice A17 n18 c19, Value.int .i64 i14] w15 fun e21 w20 =>
    ∃ (A22 : Option Addr) (n23 c24 : Nat), e21 = .returned (Value.slice A22 n23 c24) ∧ (
      kp w6.drew b3 (0 + 36) 3 w20 <|
      kp w6.drew b3 (0 + 35) 1 w20 <|
      kp w6.drew b3 0 1 w20 <|
      kp w6.drew b3 (0 + 2) 32 w20 <|
      gd (a7.length == 32) <|
      gd (a10.length == 3) <|
      gd ((a7 ++ ([Value.int .i64 i8] ++ ([Value.int .i64 i9] ++ (a10 ++ ([Value.slice A22 n23 c24] ++ []))))).length == 38) <|
      st w20 b5 0 (a7 ++ ([Value.int .i64 i8] ++ ([Value.int .i64 i9] ++ (a10 ++ ([Value.slice A22 n23 c24] ++ []))))) fun w25 =>
      ldA 38 w25 b5 0 fun a26 =>
      Q (ofL a26) w25))
def F10.an : Ann := ⟨[], []⟩
theorem F10.eq (x0 : List Value) (x1 : List Value) (w : World) (Q : Value → World → Prop) : vcFn Try.prog F10.an 10 [ofL x0, ofL x1] w Q = F10.vc x0 x1 w Q := by kernel_rfl
theorem F10.of (x0 : List Value) (x1 : List Value) (w : World) {Q : Value → World → Prop} (h : F10.vc x0 x1 w Q) : Calls Try.prog 10 #[ofL x0, ofL x1] w (fun e w' => ∃ v, e = .returned v ∧ Q v w') := vcFn_sound noCount mixed ((F10.eq x0 x1 w Q).symm ▸ h)
/-! ### function 11: stillage/entry.Delete -/
def F11.vc (x0 : List Value) (x1 : List Value) (w : World) (Q : Value → World → Prop) : Prop :=
  nw w x0 28 fun b1 w2 =>
  nw w2 x1 38 fun b3 w4 =>
  nw w4 Z28 28 fun b5 w6 =>
  ldA 32 w6.drew b1 0 fun a7 =>
  ldA 3 w6.drew b3 (0 + 36) fun a8 =>
  ldSl w6.drew b1 (0 + 37) fun A9 n10 c11 =>
  nw w6.drew ([Value.slice A9 n10 c11] ++ []) 26 fun b12 w13 =>
  kp w6.drew b3 (0 + 36) 3 w13 <|
  kp w6.drew b1 0 32 w13 <|
  Calls Try.prog 27 #[Value.slice (some ⟨b12, 0, none⟩) 1 1] w13 fun e15 w14 =>
  ∃ (A16 : Option Addr) (n17 c18 : Nat), e15 = .returned (Value.slice A16 n17 c18) ∧ (
    kp w6.drew b3 (0 + 36) 3 w14 <|
    kp w6.drew b1 0 32 w14 <|
    gd (a7.length == 32) <|
    gd (a8.length == 3) <|
    gd ((a7 ++ ([Value.int .i64 5] ++ ([Value.int .i64 0] ++ (a8 ++ ([Value.slice A16 n17 c18] ++ []))))).length == 38) <|
    st w14 b5 0 (a7 ++ ([Value.int .i64 5] ++ ([Value.int .i64 0] ++ (a8 ++ ([Value.slice A16 n17 c18] ++ []))))) fun w19 =>
    ldA 38 w19 b5 0 fun a20 =>
    Q (ofL a20) w19)
def F11.an : Ann := ⟨[], []⟩
theorem F11.eq (x0 : List Value) (x1 : List Value) (w : World) (Q : Value → World → Prop) : vcFn Try.prog F11.an 11 [ofL x0, ofL x1] w Q = F11.vc x0 x1 w Q := by kernel_rfl
theorem F11.of (x0 : List Value) (x1 : List Value) (w : World) {Q : Value → World → Prop} (h : F11.vc x0 x1 w Q) : Calls Try.prog 11 #[ofL x0, ofL x1] w (fun e w' => ∃ v, e = .returned v ∧ Q v w') := vcFn_sound noCount mixed ((F11.eq x0 x1 w Q).symm ▸ h)
/-! ### function 12: stillage/stillageref19.Delete -/
def F12.vc (x0 : List Value) (x1 : List Value) (w : World) (Q : Value → World → Prop) : Prop :=
  nw w x0 28 fun b1 w2 =>
  nw w2 x1 38 fun b3 w4 =>
  nw w4 Z28 28 fun b5 w6 =>
  ldA 32 w6.drew b1 0 fun a7 =>
  ldA 3 w6.drew b3 (0 + 36) fun a8 =>
  ldSl w6.drew b1 (0 + 37) fun A9 n10 c11 =>
  Calls Try.prog 29 #[Value.slice A9 n10 c11] w6.drew fun e13 w12 =>
  ∃ (A14 : Option Addr) (n15 c16 : Nat), e13 = .returned (Value.slice A14 n15 c16) ∧ (
    kp w6.drew b3 (0 + 36) 3 w12 <|
    kp w6.drew b1 0 32 w12 <|
    gd (a7.length == 32) <|
    gd (a8.length == 3) <|
    gd ((a7 ++ ([Value.int .i64 5] ++ ([Value.int .i64 0] ++ (a8 ++ ([Value.slice A14 n15 c16] ++ []))))).length == 38) <|
    st w12 b5 0 (a7 ++ ([Value.int .i64 5] ++ ([Value.int .i64 0] ++ (a8 ++ ([Value.slice A14 n15 c16] ++ []))))) fun w17 =>
    ldA 38 w17 b5 0 fun a18 =>
    Q (ofL a18) w17)
def F12.an : Ann := ⟨[], []⟩
theorem F12.eq (x0 : List Value) (x1 : List Value) (w : World) (Q : Value → World → Prop) : vcFn Try.prog F12.an 12 [ofL x0, ofL x1] w Q = F12.vc x0 x1 w Q := by kernel_rfl
theorem F12.of (x0 : List Value) (x1 : List Value) (w : World) {Q : Value → World → Prop} (h : F12.vc x0 x1 w Q) : Calls Try.prog 12 #[ofL x0, ofL x1] w (fun e w' => ∃ v, e = .returned v ∧ Q v w') := vcFn_sound noCount mixed ((F12.eq x0 x1 w Q).symm ▸ h)
/-! ### function 13: stillage/stillageref19.SameTag -/
def F13.vc (x0 : List Value) (x1 : List Value) (w : World) (Q : Value → World → Prop) : Prop :=
  nw w x0 35 fun b1 w2 =>
  nw w2 x1 35 fun b3 w4 =>
  ldS w4 b1 0 fun s5 =>
  ldS w4 b3 0 fun s6 =>
  vIf (s5.toList == s6.toList)
  (ldA 32 w4 b1 (0 + 1) fun a7 =>
    ldA 32 w4 b3 (0 + 1) fun a8 =>
    eqAB 32 a7 a8 fun t9 =>
    vIf t9
    (ldB w4 b1 (0 + 33) fun t10 =>
      ldB w4 b3 (0 + 33) fun t11 =>
      vIf (t10 == t11)
      (ldA 3 w4 b1 (0 + 34) fun a12 =>
        ldA 3 w4 b3 (0 + 34) fun a13 =>
        eqI64 3 a12 a13 fun t14 =>
        vIf t14
        (ldSl w4 b1 (0 + 37) fun A15 n16 c17 =>
          ldSl w4 b3 (0 + 37) fun A18 n19 c20 =>
          Calls Try.prog 26 #[Value.slice A15 n16 c17, Value.slice A18 n19 c20] w4 fun e22 w21 =>
          ∃ t23 : Bool, e22 = .returned (Value.bool t23) ∧ (
            Q (Value.bool t23) w21))
        (Q (Value.bool false) w4))
      (Q (Value.bool false) w4))
    (Q (Value.bool false) w4))
  (Q (Value.bool false) w4)
def F13.an : Ann := ⟨[], []⟩
theorem F13.eq (x0 : List Value) (x1 : List Value) (w : World) (Q : Value → World → Prop) : vcFn Try.prog F13.an 13 [ofL x0, ofL x1] w Q = F13.vc x0 x1 w Q := by kernel_rfl
theorem F13.of (x0 : List Value) (x1 : List Value) (w : World) {Q : Value → World → Prop} (h : F13.vc x0 x1 w Q) : Calls Try.prog 13 #[ofL x0, ofL x1] w (fun e w' => ∃ v, e = .returned v ∧ Q v w') := vcFn_sound noCount mixed ((F13.eq x0 x1 w Q).symm ▸ h)
/-! ### function 14: stillage/entry.Tag -/
def F14.vc (x0 : List Value) (x1 : List Value) (w : World) (Q : Value → World → Prop) : Prop :=
  nw w x0 35 fun b1 w2 =>
  nw w2 x1 38 fun b3 w4 =>
  nw w4 Z35 35 fun b5 w6 =>
  ldS w6.drew b3 (0 + 34) fun s7 =>
  ldA 32 w6.drew b3 (0 + 2) fun a8 =>
  ldA 3 w6.drew b3 (0 + 36) fun a9 =>
  ldSl w6.drew b1 (0 + 37) fun A10 n11 c12 =>
  ldI .i64 w6.drew b3 (0 + 36) fun i13 =>
  nw w6.drew ([Value.int .i64 i13] ++ []) 3 fun b14 w15 =>
  kp w6.drew b1 (0 + 37) 1 w15 <|
  kp w6.drew b3 (0 + 36) 3 w15 <|
  kp w6.drew b3 (0 + 2) 32 w15 <|
  kp w6.drew b3 (0 + 34) 1 w15 <|
  nw w15 ([Value.slice A10 n11 c12] ++ ([Value.slice (some ⟨b14, 0, none⟩) 1 1] ++ [])) 26 fun b16 w17 =>
  kp w6.drew b3 (0 + 36) 3 w17 <|
  kp w6.drew b3 (0 + 2) 32 w17 <|
  kp w6.drew b3 (0 + 34) 1 w17 <|
  Calls Try.prog 27 #[Value.slice (some ⟨b16, 0, none⟩) 2 2] w17 fun e19 w18 =>
  ∃ (A20 : Option Addr) (n21 c22 : Nat), e19 = .returned (Value.slice A20 n21 c22) ∧ (
    kp w6.drew b3 (0 + 36) 3 w18 <|
    kp w6.drew b3 (0 + 2) 32 w18 <|
    kp w6.drew b3 (0 + 34) 1 w18 <|
    gd (a8.length == 32) <|
    gd (a9.length == 3) <|
    gd (([Value.string s7] ++ (a8 ++ ([Value.bool false] ++ (a9 ++ ([Value.slice A20 n21 c22] ++ []))))).length == 38) <|
    st w18 b5 0 ([Value.string s7] ++ (a8 ++ ([Value.bool false] ++ (a9 ++ ([Value.slice A20 n21 c22] ++ []))))) fun w23 =>
    ldA 38 w23 b5 0 fun a24 =>
    Q (ofL a24) w23)
def F14.an : Ann := ⟨[], []⟩
theorem F14.eq (x0 : List Value) (x1 : List Value) (w : World) (Q : Value → World → Prop) : vcFn Try.prog F14.an 14 [ofL x0, ofL x1] w Q = F14.vc x0 x1 w Q := by kernel_rfl
theorem F14.of (x0 : List Value) (x1 : List Value) (w : World) {Q : Value → World → Prop} (h : F14.vc x0 x1 w Q) : Calls Try.prog 14 #[ofL x0, ofL x1] w (fun e w' => ∃ v, e = .returned v ∧ Q v w') := vcFn_sound noCount mixed ((F14.eq x0 x1 w Q).symm ▸ h)
/-! ### function 15: stillage/stillageref19.Tag -/
def F15.vc (x0 : List Value) (x1 : List Value) (w : World) (Q : Value → World → Prop) : Prop :=
  nw w x0 35 fun b1 w2 =>
  nw w2 x1 38 fun b3 w4 =>
  nw w4 Z35 35 fun b5 w6 =>
  ldS w6.drew b3 (0 + 34) fun s7 =>
  ldA 32 w6.drew b3 (0 + 2) fun a8 =>
  ldA 3 w6.drew b3 (0 + 36) fun a9 =>
  ldSl w6.drew b1 (0 + 37) fun A10 n11 c12 =>
  ldI .i64 w6.drew b3 (0 + 36) fun i13 =>
  Calls Try.prog 29 #[Value.slice A10 n11 c12] w6.drew fun e15 w14 =>
  ∃ (A16 : Option Addr) (n17 c18 : Nat), e15 = .returned (Value.slice A16 n17 c18) ∧ (
    kp w6.drew b3 (0 + 36) 1 w14 <|
    kp w6.drew b3 (0 + 36) 3 w14 <|
    kp w6.drew b3 (0 + 2) 32 w14 <|
    kp w6.drew b3 (0 + 34) 1 w14 <|
    Calls Try.prog 28 #[Value.slice A16 n17 c18, Value.int .i64 i13] w14 fun e20 w19 =>
    ∃ (A21 : Option Addr) (n22 c23 : Nat), e20 = .returned (Value.slice A21 n22 c23) ∧ (
      kp w6.drew b3 (0 + 36) 3 w19 <|
      kp w6.drew b3 (0 + 2) 32 w19 <|
      kp w6.drew b3 (0 + 34) 1 w19 <|
      gd (a8.length == 32) <|
      gd (a9.length == 3) <|
      gd (([Value.string s7] ++ (a8 ++ ([Value.bool false] ++ (a9 ++ ([Value.slice A21 n22 c23] ++ []))))).length == 38) <|
      st w19 b5 0 ([Value.string s7] ++ (a8 ++ ([Value.bool false] ++ (a9 ++ ([Value.slice A21 n22 c23] ++ []))))) fun w24 =>
      ldA 38 w24 b5 0 fun a25 =>
      Q (ofL a25) w24))
def F15.an : Ann := ⟨[], []⟩
theorem F15.eq (x0 : List Value) (x1 : List Value) (w : World) (Q : Value → World → Prop) : vcFn Try.prog F15.an 15 [ofL x0, ofL x1] w Q = F15.vc x0 x1 w Q := by kernel_rfl
theorem F15.of (x0 : List Value) (x1 : List Value) (w : World) {Q : Value → World → Prop} (h : F15.vc x0 x1 w Q) : Calls Try.prog 15 #[ofL x0, ofL x1] w (fun e w' => ∃ v, e = .returned v ∧ Q v w') := vcFn_sound noCount mixed ((F15.eq x0 x1 w Q).symm ▸ h)
/-! ### function 16: stillage/entry.Untag -/
def F16.vc (x0 : List Value) (x1 : List Value) (w : World) (Q : Value → World → Prop) : Prop :=
  nw w x0 35 fun b1 w2 =>
  nw w2 x1 38 fun b3 w4 =>
  nw w4 Z35 35 fun b5 w6 =>
  ldS w6.drew b1 0 fun s7 =>
  ldA 3 w6.drew b3 (0 + 36) fun a8 =>
  ldSl w6.drew b1 (0 + 37) fun A9 n10 c11 =>
  nw w6.drew ([Value.slice A9 n10 c11] ++ []) 26 fun b12 w13 =>
  kp w6.drew b3 (0 + 36) 3 w13 <|
  kp w6.drew b1 0 1 w13 <|
  Calls Try.prog 27 #[Value.slice (some ⟨b12, 0, none⟩) 1 1] w13 fun e15 w14 =>
  ∃ (A16 : Option Addr) (n17 c18 : Nat), e15 = .returned (Value.slice A16 n17 c18) ∧ (
    kp w6.drew b3 (0 + 36) 3 w14 <|
    kp w6.drew b1 0 1 w14 <|
    gd (a8.length == 3) <|
    gd (([Value.string s7] ++ ([Value.int .u8 0, Value.int .u8 0, Value.int .u8 0, Value.int .u8 0, Value.int .u8 0, Value.int .u8 0, Value.int .u8 0, Value.int .u8 0, Value.int .u8 0, Value.int .u8 0, Value.int .u8 0, Value.int .u8 0, Value.int .u8 0, Value.int .u8 0, Value.int .u8 0, Value.int .u8 0, Value.int .u8 0, Value.int .u8 0, Value.int .u8 0, Value.int .u8 0, Value.int .u8 0, Value.int .u8 0, Value.int .u8 0, Value.int .u8 0, Value.int .u8 0, Value.int .u8 0, Value.int .u8 0, Value.int .u8 0, Value.int .u8 0, Value.int .u8 0, Value.int .u8 0, Value.int .u8 0] ++ ([Value.bool true] ++ (a8 ++ ([Value.slice A16 n17 c18] ++ []))))).length == 38) <|
    st w14 b5 0 ([Value.string s7] ++ ([Value.int .u8 0, Value.int .u8 0, Value.int .u8 0, Value.int .u8 0, Value.int .u8 0, Value.int .u8 0, Value.int .u8 0, Value.int .u8 0, Value.int .u8 0, Value.int .u8 0, Value.int .u8 0, Value.int .u8 0, Value.int .u8 0, Value.int .u8 0, Value.int .u8 0, Value.int .u8 0, Value.int .u8 0, Value.int .u8 0, Value.int .u8 0, Value.int .u8 0, Value.int .u8 0, Value.int .u8 0, Value.int .u8 0, Value.int .u8 0, Value.int .u8 0, Value.int .u8 0, Value.int .u8 0, Value.int .u8 0, Value.int .u8 0, Value.int .u8 0, Value.int .u8 0, Value.int .u8 0] ++ ([Value.bool true] ++ (a8 ++ ([Value.slice A16 n17 c18] ++ []))))) fun w19 =>
    ldA 38 w19 b5 0 fun a20 =>
    Q (ofL a20) w19)
def F16.an : Ann := ⟨[], []⟩
theorem F16.eq (x0 : List Value) (x1 : List Value) (w : World) (Q : Value → World → Prop) : vcFn Try.prog F16.an 16 [ofL x0, ofL x1] w Q = F16.vc x0 x1 w Q := by kernel_rfl
theorem F16.of (x0 : List Value) (x1 : List Value) (w : World) {Q : Value → World → Prop} (h : F16.vc x0 x1 w Q) : Calls Try.prog 16 #[ofL x0, ofL x1] w (fun e w' => ∃ v, e = .returned v ∧ Q v w') := vcFn_sound noCount mixed ((F16.eq x0 x1 w Q).symm ▸ h)
/-! ### function 17: stillage/stillageref19.Untag -/
def F17.vc (x0 : List Value) (x1 : List Value) (w : World) (Q : Value → World → Prop) : Prop :=
  nw w x0 35 fun b1 w2 =>
  nw w2 x1 38 fun b3 w4 =>
  nw w4 Z35 35 fun b5 w6 =>
  ldS w6.drew b1 0 fun s7 =>
  ldA 3 w6.drew b3 (0 + 36) fun a8 =>
  ldSl w6.drew b1 (0 + 37) fun A9 n10 c11 =>
  Calls Try.prog 29 #[Value.slice A9 n10 c11] w6.drew fun e13 w12 =>
  ∃ (A14 : Option Addr) (n15 c16 : Nat), e13 = .returned (Value.slice A14 n15 c16) ∧ (
    kp w6.drew b3 (0 + 36) 3 w12 <|
    kp w6.drew b1 0 1 w12 <|
    gd (a8.length == 3) <|
    gd (([Value.string s7] ++ ([Value.int .u8 0, Value.int .u8 0, Value.int .u8 0, Value.int .u8 0, Value.int .u8 0, Value.int .u8 0, Value.int .u8 0, Value.int .u8 0, Value.int .u8 0, Value.int .u8 0, Value.int .u8 0, Value.int .u8 0, Value.int .u8 0, Value.int .u8 0, Value.int .u8 0, Value.int .u8 0, Value.int .u8 0, Value.int .u8 0, Value.int .u8 0, Value.int .u8 0, Value.int .u8 0, Value.int .u8 0, Value.int .u8 0, Value.int .u8 0, Value.int .u8 0, Value.int .u8 0, Value.int .u8 0, Value.int .u8 0, Value.int .u8 0, Value.int .u8 0, Value.int .u8 0, Value.int .u8 0] ++ ([Value.bool true] ++ (a8 ++ ([Value.slice A14 n15 c16] ++ []))))).length == 38) <|
    st w12 b5 0 ([Value.string s7] ++ ([Value.int .u8 0, Value.int .u8 0, Value.int .u8 0, Value.int .u8 0, Value.int .u8 0, Value.int .u8 0, Value.int .u8 0, Value.int .u8 0, Value.int .u8 0, Value.int .u8 0, Value.int .u8 0, Value.int .u8 0, Value.int .u8 0, Value.int .u8 0, Value.int .u8 0, Value.int .u8 0, Value.int .u8 0, Value.int .u8 0, Value.int .u8 0, Value.int .u8 0, Value.int .u8 0, Value.int .u8 0, Value.int .u8 0, Value.int .u8 0, Value.int .u8 0, Value.int .u8 0, Value.int .u8 0, Value.int .u8 0, Value.int .u8 0, Value.int .u8 0, Value.int .u8 0, Value.int .u8 0] ++ ([Value.bool true] ++ (a8 ++ ([Value.slice A14 n15 c16] ++ []))))) fun w17 =>
    ldA 38 w17 b5 0 fun a18 =>
    Q (ofL a18) w17)
def F17.an : Ann := ⟨[], []⟩
theorem F17.eq (x0 : List Value) (x1 : List Value) (w : World) (Q : Value → World → Prop) : vcFn Try.prog F17.an 17 [ofL x0, ofL x1] w Q = F17.vc x0 x1 w Q := by kernel_rfl
theorem F17.of (x0 : List Value) (x1 : List Value) (w : World) {Q : Value → World → Prop} (h : F17.vc x0 x1 w Q) : Calls Try.prog 17 #[ofL x0, ofL x1] w (fun e w' => ∃ v, e = .returned v ∧ Q v w') := vcFn_sound noCount mixed ((F17.eq x0 x1 w Q).symm ▸ h)
/-! ### function 18: stillage/stillageref19.Keep -/
def F18.k5c (Q : Value → World → Prop) (x2 : (Nat × Nat)) (x4 : (Nat × Nat)) (x6 : (Option Addr × Nat × Nat)) (w : World) : Prop :=
  vIf (decide (((x6.2.1 : Nat) : Int) > 0))
  (ldA 32 w x2.1 x2.2 fun a22 =>
    gd (a22.length == 32) <|
    gd ((a22 ++ ([Value.int .i64 5] ++ ([Value.int .i64 0] ++ ([Value.int .i64 0, Value.int .i64 0, Value.int .i64 0] ++ ([Value.slice x6.1 x6.2.1 x6.2.2] ++ []))))).length == 38) <|
    st w x4.1 x4.2 (a22 ++ ([Value.int .i64 5] ++ ([Value.int .i64 0] ++ ([Value.int .i64 0, Value.int .i64 0, Value.int .i64 0] ++ ([Value.slice x6.1 x6.2.1 x6.2.2] ++ []))))) fun w23 =>
    ldA 38 w23 x4.1 x4.2 fun a24 =>
    Q (Value.tuple #[ofL a24, Value.bool true]) w23)
  (gd (([Value.int .u8 0, Value.int .u8 0, Value.int .u8 0, Value.int .u8 0, Value.int .u8 0, Value.int .u8 0, Value.int .u8 0, Value.int .u8 0, Value.int .u8 0, Value.int .u8 0, Value.int .u8 0, Value.int .u8 0, Value.int .u8 0, Value.int .u8 0, Value.int .u8 0, Value.int .u8 0, Value.int .u8 0, Value.int .u8 0, Value.int .u8 0, Value.int .u8 0, Value.int .u8 0, Value.int .u8 0, Value.int .u8 0, Value.int .u8 0, Value.int .u8 0, Value.int .u8 0, Value.int .u8 0, Value.int .u8 0, Value.int .u8 0, Value.int .u8 0, Value.int .u8 0, Value.int .u8 0] ++ ([Value.int .i64 0] ++ ([Value.int .i64 0] ++ ([Value.int .i64 0, Value.int .i64 0, Value.int .i64 0] ++ ([Value.slice none 0 0] ++ []))))).length == 38) <|
    st w x4.1 x4.2 ([Value.int .u8 0, Value.int .u8 0, Value.int .u8 0, Value.int .u8 0, Value.int .u8 0, Value.int .u8 0, Value.int .u8 0, Value.int .u8 0, Value.int .u8 0, Value.int .u8 0, Value.int .u8 0, Value.int .u8 0, Value.int .u8 0, Value.int .u8 0, Value.int .u8 0, Value.int .u8 0, Value.int .u8 0, Value.int .u8 0, Value.int .u8 0, Value.int .u8 0, Value.int .u8 0, Value.int .u8 0, Value.int .u8 0, Value.int .u8 0, Value.int .u8 0, Value.int .u8 0, Value.int .u8 0, Value.int .u8 0, Value.int .u8 0, Value.int .u8 0, Value.int .u8 0, Value.int .u8 0] ++ ([Value.int .i64 0] ++ ([Value.int .i64 0] ++ ([Value.int .i64 0, Value.int .i64 0, Value.int .i64 0] ++ ([Value.slice none 0 0] ++ []))))) fun w25 =>
    ldA 38 w25 x4.1 x4.2 fun a26 =>
    Q (Value.tuple #[ofL a26, Value.bool false]) w25)
def F18.k5 (Q : Value → World → Prop) : ((Nat × Nat) × (Nat × Nat) × (Option Addr × Nat × Nat) × Unit) → World → Prop := fun s w => ∀ _ : Nat → Value, F18.k5c Q s.1 s.2.1 s.2.2.1 w
def F18.k3c (Q : Value → World → Prop) (x2 : (Nat × Nat)) (x4 : (Nat × Nat)) (x6 : (Option Addr × Nat × Nat)) (x25 : Bool) (w : World) : Prop :=
  vIf x25
  (st w x2.1 (x2.2 + 37) [Value.slice x6.1 x6.2.1 x6.2.2] fun w18 =>
    ldA 38 w18 x2.1 x2.2 fun a19 =>
    gd (a19.length == 38) <|
    st w18 x4.1 x4.2 a19 fun w20 =>
    ldA 38 w20 x4.1 x4.2 fun a21 =>
    Q (Value.tuple #[ofL a21, Value.bool true]) w20)
  (jnC (F18.k5 Q) ((x2.1, x2.2), (x4.1, x4.2), (x6.1, x6.2.1, x6.2.2), ()) w)
def F18.k3 (Q : Value → World → Prop) : ((Nat × Nat) × (Nat × Nat) × (Option Addr × Nat × Nat) × Bool × Unit) → World → Prop := fun s w => ∀ _ : Nat → Value, F18.k3c Q s.1 s.2.1 s.2.2.1 s.2.2.2.1 w
def F18.vc (x0 : List Value) (x1A : Option Addr) (x1n x1c : Nat) (w : World) (Q : Value → World → Prop) : Prop :=
  nw w x0 28 fun b1 w2 =>
  nw w2 Z28 28 fun b3 w4 =>
  ldSl w4 b1 (0 + 37) fun A5 n6 c7 =>
  Calls Try.prog 30 #[Value.slice A5 n6 c7, Value.slice x1A x1n x1c] w4 fun e9 w8 =>
  ∃ (A10 : Option Addr) (n11 c12 : Nat), e9 = .returned (Value.slice A10 n11 c12) ∧ (
    ldI .i64 w8 b1 (0 + 34) fun i13 =>
    Calls Try.prog 31 #[Value.slice x1A x1n x1c, Value.int .i64 i13] w8 fun e15 w14 =>
    ∃ t16 : Bool, e15 = .returned (Value.bool t16) ∧ (
      vIf t16
      (ldI .i64 w14 b1 (0 + 32) fun i17 =>
        vIf (i17 != 5)
        (jnC (F18.k3 Q) ((b1, 0), (b3, 0), (A10, n11, c12), true, ()) w14)
        (jnC (F18.k3 Q) ((b1, 0), (b3, 0), (A10, n11, c12), (decide (((n11 : Nat) : Int) > 0)), ()) w14))
      (jnC (F18.k3 Q) ((b1, 0), (b3, 0), (A10, n11, c12), false, ()) w14)))
def F18.an : Ann := ⟨[], [(3, [(2, .kL), (4, .kL), (6, .kSl), (25, .kB)]), (5, [(2, .kL), (4, .kL), (6, .kSl)])]⟩
theorem F18.eq (x0 : List Value) (x1A : Option Addr) (x1n x1c : Nat) (w : World) (Q : Value → World → Prop) : vcFn Try.prog F18.an 18 [ofL x0, Value.slice x1A x1n x1c] w Q = F18.vc x0 x1A x1n x1c w Q := by kernel_rfl
theorem F18.of (x0 : List Value) (x1A : Option Addr) (x1n x1c : Nat) (w : World) {Q : Value → World → Prop} (h : F18.vc x0 x1A x1n x1c w Q) : Calls Try.prog 18 #[ofL x0, Value.slice x1A x1n x1c] w (fun e w' => ∃ v, e = .returned v ∧ Q v w') := vcFn_sound noCount mixed ((F18.eq x0 x1A x1n x1c w Q).symm ▸ h)
/-! ### function 19: stillage/entry.KeepTag -/
def F19.k6c (Q : Value → World → Prop) (x2 : (Nat × Nat)) (x4 : (Nat × Nat)) (x6 : (Option Addr × Nat × Nat)) (w : World) : Prop :=
  st w x2.1 (x2.2 + 37) [Value.slice x6.1 x6.2.1 x6.2.2] fun w22 =>
  ldA 38 w22 x2.1 x2.2 fun a23 =>
  gd (a23.length == 38) <|
  st w22 x4.1 x4.2 a23 fun w24 =>
  ldA 38 w24 x4.1 x4.2 fun a25 =>
  Q (Value.tuple #[ofL a25, Value.bool true]) w24
def F19.k6 (Q : Value → World → Prop) : ((Nat × Nat) × (Nat × Nat) × (Option Addr × Nat × Nat) × Unit) → World → Prop := fun s w => ∀ _ : Nat → Value, F19.k6c Q s.1 s.2.1 s.2.2.1 w
def F19.k3c (Q : Value → World → Prop) (x2 : (Nat × Nat)) (x4 : (Nat × Nat)) (x6 : (Option Addr × Nat × Nat)) (x7 : Bool) (x17 : Bool) (w : World) : Prop :=
  vIf x17
  (gd (([Value.string (⟨#[]⟩ : ByteArray)] ++ ([Value.int .u8 0, Value.int .u8 0, Value.int .u8 0, Value.int .u8 0, Value.int .u8 0, Value.int .u8 0, Value.int .u8 0, Value.int .u8 0, Value.int .u8 0, Value.int .u8 0, Value.int .u8 0, Value.int .u8 0, Value.int .u8 0, Value.int .u8 0, Value.int .u8 0, Value.int .u8 0, Value.int .u8 0, Value.int .u8 0, Value.int .u8 0, Value.int .u8 0, Value.int .u8 0, Value.int .u8 0, Value.int .u8 0, Value.int .u8 0, Value.int .u8 0, Value.int .u8 0, Value.int .u8 0, Value.int .u8 0, Value.int .u8 0, Value.int .u8 0, Value.int .u8 0, Value.int .u8 0] ++ ([Value.bool false] ++ ([Value.int .i64 0, Value.int .i64 0, Value.int .i64 0] ++ ([Value.slice none 0 0] ++ []))))).length == 38) <|
    st w x4.1 x4.2 ([Value.string (⟨#[]⟩ : ByteArray)] ++ ([Value.int .u8 0, Value.int .u8 0, Value.int .u8 0, Value.int .u8 0, Value.int .u8 0, Value.int .u8 0, Value.int .u8 0, Value.int .u8 0, Value.int .u8 0, Value.int .u8 0, Value.int .u8 0, Value.int .u8 0, Value.int .u8 0, Value.int .u8 0, Value.int .u8 0, Value.int .u8 0, Value.int .u8 0, Value.int .u8 0, Value.int .u8 0, Value.int .u8 0, Value.int .u8 0, Value.int .u8 0, Value.int .u8 0, Value.int .u8 0, Value.int .u8 0, Value.int .u8 0, Value.int .u8 0, Value.int .u8 0, Value.int .u8 0, Value.int .u8 0, Value.int .u8 0, Value.int .u8 0] ++ ([Value.bool false] ++ ([Value.int .i64 0, Value.int .i64 0, Value.int .i64 0] ++ ([Value.slice none 0 0] ++ []))))) fun w17 =>
    ldA 38 w17 x4.1 x4.2 fun a18 =>
    Q (Value.tuple #[ofL a18, Value.bool false]) w17)
  (vIf (!x7)
    (ldS w x2.1 x2.2 fun s19 =>
      gd (([Value.string s19] ++ ([Value.int .u8 0, Value.int .u8 0, Value.int .u8 0, Value.int .u8 0, Value.int .u8 0, Value.int .u8 0, Value.int .u8 0, Value.int .u8 0, Value.int .u8 0, Value.int .u8 0, Value.int .u8 0, Value.int .u8 0, Value.int .u8 0, Value.int .u8 0, Value.int .u8 0, Value.int .u8 0, Value.int .u8 0, Value.int .u8 0, Value.int .u8 0, Value.int .u8 0, Value.int .u8 0, Value.int .u8 0, Value.int .u8 0, Value.int .u8 0, Value.int .u8 0, Value.int .u8 0, Value.int .u8 0, Value.int .u8 0, Value.int .u8 0, Value.int .u8 0, Value.int .u8 0, Value.int .u8 0] ++ ([Value.bool true] ++ ([Value.int .i64 0, Value.int .i64 0, Value.int .i64 0] ++ ([Value.slice x6.1 x6.2.1 x6.2.2] ++ []))))).length == 38) <|
      st w x4.1 x4.2 ([Value.string s19] ++ ([Value.int .u8 0, Value.int .u8 0, Value.int .u8 0, Value.int .u8 0, Value.int .u8 0, Value.int .u8 0, Value.int .u8 0, Value.int .u8 0, Value.int .u8 0, Value.int .u8 0, Value.int .u8 0, Value.int .u8 0, Value.int .u8 0, Value.int .u8 0, Value.int .u8 0, Value.int .u8 0, Value.int .u8 0, Value.int .u8 0, Value.int .u8 0, Value.int .u8 0, Value.int .u8 0, Value.int .u8 0, Value.int .u8 0, Value.int .u8 0, Value.int .u8 0, Value.int .u8 0, Value.int .u8 0, Value.int .u8 0, Value.int .u8 0, Value.int .u8 0, Value.int .u8 0, Value.int .u8 0] ++ ([Value.bool true] ++ ([Value.int .i64 0, Value.int .i64 0, Value.int .i64 0] ++ ([Value.slice x6.1 x6.2.1 x6.2.2] ++ []))))) fun w20 =>
      ldA 38 w20 x4.1 x4.2 fun a21 =>
      Q (Value.tuple #[ofL a21, Value.bool true]) w20)
    (jnC (F19.k6 Q) ((x2.1, x2.2), (x4.1, x4.2), (x6.1, x6.2.1, x6.2.2), ()) w))
def F19.k3 (Q : Value → World → Prop) : ((Nat × Nat) × (Nat × Nat) × (Option Addr × Nat × Nat) × Bool × Bool × Unit) → World → Prop := fun s w => ∀ _ : Nat → Value, F19.k3c Q s.1 s.2.1 s.2.2.1 s.2.2.2.1 s.2.2.2.2.1 w
def F19.vc (x0 : List Value) (x1A : Option Addr) (x1n x1c : Nat) (w : World) (Q : Value → World → Prop) : Prop :=
  nw w x0 35 fun b1 w2 =>
  nw w2 Z35 35 fun b3 w4 =>
  ldSl w4.drew b1 (0 + 37) fun A5 n6 c7 =>
  ldI .i64 w4.drew b1 (0 + 34) fun i8 =>
  Calls Try.prog 24 #[Value.slice A5 n6 c7, Value.slice x1A x1n x1c] w4.drew fun e10 w9 =>
  ∃ (A11 : Option Addr) (n12 c13 : Nat), e10 = .returned (Value.slice A11 n12 c13) ∧ (
    kp w4.drew b1 (0 + 34) 1 w9 <|
    Calls Try.prog 25 #[Value.slice x1A x1n x1c, Value.int .i64 i8] w9 fun e15 w14 =>
    ∃ t16 : Bool, e15 = .returned (Value.bool t16) ∧ (
      vIf (((n12 : Nat) : Int) == 0)
      (vIf (!t16)
        (jnC (F19.k3 Q) ((b1, 0), (b3, 0), (A11, n12, c13), t16, true, ()) w14)
        (ldB w14 b1 (0 + 33) fun t26 =>
          jnC (F19.k3 Q) ((b1, 0), (b3, 0), (A11, n12, c13), t16, t26, ()) w14))
      (jnC (F19.k3 Q) ((b1, 0), (b3, 0), (A11, n12, c13), t16, false, ()) w14)))
def F19.an : Ann := ⟨[], [(3, [(2, .kL), (4, .kL), (6, .kSl), (7, .kB), (17, .kB)]), (6, [(2, .kL), (4, .kL), (6, .kSl)])]⟩
theorem F19.eq (x0 : List Value) (x1A : Option Addr) (x1n x1c : Nat) (w : World) (Q : Value → World → Prop) : vcFn Try.prog F19.an 19 [ofL x0, Value.slice x1A x1n x1c] w Q = F19.vc x0 x1A x1n x1c w Q := by kernel_rfl
theorem F19.of (x0 : List Value) (x1A : Option Addr) (x1n x1c : Nat) (w : World) {Q : Value → World → Prop} (h : F19.vc x0 x1A x1n x1c w Q) : Calls Try.prog 19 #[ofL x0, Value.slice x1A x1n x1c] w (fun e w' => ∃ v, e = .returned v ∧ Q v w') := vcFn_sound noCount mixed ((F19.eq x0 x1A x1n x1c w Q).symm ▸ h)
/-! ### function 20: stillage/stillageref19.KeepTag -/
def F20.k5c (Q : Value → World → Prop) (x2 : (Nat × Nat)) (x4 : (Nat × Nat)) (x6 : (Option Addr × Nat × Nat)) (w : World) : Prop :=
  vIf (decide (((x6.2.1 : Nat) : Int) > 0))
  (ldS w x2.1 x2.2 fun s22 =>
    gd (([Value.string s22] ++ ([Value.int .u8 0, Value.int .u8 0, Value.int .u8 0, Value.int .u8 0, Value.int .u8 0, Value.int .u8 0, Value.int .u8 0, Value.int .u8 0, Value.int .u8 0, Value.int .u8 0, Value.int .u8 0, Value.int .u8 0, Value.int .u8 0, Value.int .u8 0, Value.int .u8 0, Value.int .u8 0, Value.int .u8 0, Value.int .u8 0, Value.int .u8 0, Value.int .u8 0, Value.int .u8 0, Value.int .u8 0, Value.int .u8 0, Value.int .u8 0, Value.int .u8 0, Value.int .u8 0, Value.int .u8 0, Value.int .u8 0, Value.int .u8 0, Value.int .u8 0, Value.int .u8 0, Value.int .u8 0] ++ ([Value.bool true] ++ ([Value.int .i64 0, Value.int .i64 0, Value.int .i64 0] ++ ([Value.slice x6.1 x6.2.1 x6.2.2] ++ []))))).length == 38) <|
    st w x4.1 x4.2 ([Value.string s22] ++ ([Value.int .u8 0, Value.int .u8 0, Value.int .u8 0, Value.int .u8 0, Value.int .u8 0, Value.int .u8 0, Value.int .u8 0, Value.int .u8 0, Value.int .u8 0, Value.int .u8 0, Value.int .u8 0, Value.int .u8 0, Value.int .u8 0, Value.int .u8 0, Value.int .u8 0, Value.int .u8 0, Value.int .u8 0, Value.int .u8 0, Value.int .u8 0, Value.int .u8 0, Value.int .u8 0, Value.int .u8 0, Value.int .u8 0, Value.int .u8 0, Value.int .u8 0, Value.int .u8 0, Value.int .u8 0, Value.int .u8 0, Value.int .u8 0, Value.int .u8 0, Value.int .u8 0, Value.int .u8 0] ++ ([Value.bool true] ++ ([Value.int .i64 0, Value.int .i64 0, Value.int .i64 0] ++ ([Value.slice x6.1 x6.2.1 x6.2.2] ++ []))))) fun w23 =>
    ldA 38 w23 x4.1 x4.2 fun a24 =>
    Q (Value.tuple #[ofL a24, Value.bool true]) w23)
  (gd (([Value.string (⟨#[]⟩ : ByteArray)] ++ ([Value.int .u8 0, Value.int .u8 0, Value.int .u8 0, Value.int .u8 0, Value.int .u8 0, Value.int .u8 0, Value.int .u8 0, Value.int .u8 0, Value.int .u8 0, Value.int .u8 0, Value.int .u8 0, Value.int .u8 0, Value.int .u8 0, Value.int .u8 0, Value.int .u8 0, Value.int .u8 0, Value.int .u8 0, Value.int .u8 0, Value.int .u8 0, Value.int .u8 0, Value.int .u8 0, Value.int .u8 0, Value.int .u8 0, Value.int .u8 0, Value.int .u8 0, Value.int .u8 0, Value.int .u8 0, Value.int .u8 0, Value.int .u8 0, Value.int .u8 0, Value.int .u8 0, Value.int .u8 0] ++ ([Value.bool false] ++ ([Value.int .i64 0, Value.int .i64 0, Value.int .i64 0] ++ ([Value.slice none 0 0] ++ []))))).length == 38) <|
    st w x4.1 x4.2 ([Value.string (⟨#[]⟩ : ByteArray)] ++ ([Value.int .u8 0, Value.int .u8 0, Value.int .u8 0, Value.int .u8 0, Value.int .u8 0, Value.int .u8 0, Value.int .u8 0, Value.int .u8 0, Value.int .u8 0, Value.int .u8 0, Value.int .u8 0, Value.int .u8 0, Value.int .u8 0, Value.int .u8 0, Value.int .u8 0, Value.int .u8 0, Value.int .u8 0, Value.int .u8 0, Value.int .u8 0, Value.int .u8 0, Value.int .u8 0, Value.int .u8 0, Value.int .u8 0, Value.int .u8 0, Value.int .u8 0, Value.int .u8 0, Value.int .u8 0, Value.int .u8 0, Value.int .u8 0, Value.int .u8 0, Value.int .u8 0, Value.int .u8 0] ++ ([Value.bool false] ++ ([Value.int .i64 0, Value.int .i64 0, Value.int .i64 0] ++ ([Value.slice none 0 0] ++ []))))) fun w25 =>
    ldA 38 w25 x4.1 x4.2 fun a26 =>
    Q (Value.tuple #[ofL a26, Value.bool false]) w25)
def F20.k5 (Q : Value → World → Prop) : ((Nat × Nat) × (Nat × Nat) × (Option Addr × Nat × Nat) × Unit) → World → Prop := fun s w => ∀ _ : Nat → Value, F20.k5c Q s.1 s.2.1 s.2.2.1 w
def F20.k3c (Q : Value → World → Prop) (x2 : (Nat × Nat)) (x4 : (Nat × Nat)) (x6 : (Option Addr × Nat × Nat)) (x25 : Bool) (w : World) : Prop :=
  vIf x25
  (st w x2.1 (x2.2 + 37) [Value.slice x6.1 x6.2.1 x6.2.2] fun w18 =>
    ldA 38 w18 x2.1 x2.2 fun a19 =>
    gd (a19.length == 38) <|
    st w18 x4.1 x4.2 a19 fun w20 =>
    ldA 38 w20 x4.1 x4.2 fun a21 =>
    Q (Value.tuple #[ofL a21, Value.bool true]) w20)
  (jnC (F20.k5 Q) ((x2.1, x2.2), (x4.1, x4.2), (x6.1, x6.2.1, x6.2.2), ()) w)
def F20.k3 (Q : Value → World → Prop) : ((Nat × Nat) × (Nat × Nat) × (Option Addr × Nat × Nat) × Bool × Unit) → World → Prop := fun s w => ∀ _ : Nat → Value, F20.k3c Q s.1 s.2.1 s.2.2.1 s.2.2.2.1 w
def F20.vc (x0 : List Value) (x1A : Option Addr) (x1n x1c : Nat) (w : World) (Q : Value → World → Prop) : Prop :=
  nw w x0 35 fun b1 w2 =>
  nw w2 Z35 35 fun b3 w4 =>
  ldSl w4 b1 (0 + 37) fun A5 n6 c7 =>
  Calls Try.prog 30 #[Value.slice A5 n6 c7, Value.slice x1A x1n x1c] w4 fun e9 w8 =>
  ∃ (A10 : Option Addr) (n11 c12 : Nat), e9 = .returned (Value.slice A10 n11 c12) ∧ (
    ldI .i64 w8 b1 (0 + 34) fun i13 =>
    Calls Try.prog 31 #[Value.slice x1A x1n x1c, Value.int .i64 i13] w8 fun e15 w14 =>
    ∃ t16 : Bool, e15 = .returned (Value.bool t16) ∧ (
      vIf t16
      (ldB w14 b1 (0 + 33) fun t17 =>
        vIf (!t17)
        (jnC (F20.k3 Q) ((b1, 0), (b3, 0), (A10, n11, c12), true, ()) w14)
        (jnC (F20.k3 Q) ((b1, 0), (b3, 0), (A10, n11, c12), (decide (((n11 : Nat) : Int) > 0)), ()) w14))
      (jnC (F20.k3 Q) ((b1, 0), (b3, 0), (A10, n11, c12), false, ()) w14)))
def F20.an : Ann := ⟨[], [(3, [(2, .kL), (4, .kL), (6, .kSl), (25, .kB)]), (5, [(2, .kL), (4, .kL), (6, .kSl)])]⟩
theorem F20.eq (x0 : List Value) (x1A : Option Addr) (x1n x1c : Nat) (w : World) (Q : Value → World → Prop) : vcFn Try.prog F20.an 20 [ofL x0, Value.slice x1A x1n x1c] w Q = F20.vc x0 x1A x1n x1c w Q := by kernel_rfl
theorem F20.of (x0 : List Value) (x1A : Option Addr) (x1n x1c : Nat) (w : World) {Q : Value → World → Prop} (h : F20.vc x0 x1A x1n x1c w Q) : Calls Try.prog 20 #[ofL x0, Value.slice x1A x1n x1c] w (fun e w' => ∃ v, e = .returned v ∧ Q v w') := vcFn_sound noCount mixed ((F20.eq x0 x1A x1n x1c w Q).symm ▸ h)
/-! ### function 21: stillage/entry.Alive -/
def F21.vc (x0 : List Value) (w : World) (Q : Value → World → Prop) : Prop :=
  nw w x0 28 fun b1 w2 =>
  ldI .i64 w2 b1 (0 + 32) fun i3 =>
  vIf (i3 != 5)
  (Q (Value.bool true) w2)
  (ldSl w2 b1 (0 + 37) fun A4 n5 c6 =>
    ldI .i64 w2 b1 (0 + 34) fun i7 =>
    Calls Try.prog 32 #[Value.slice A4 n5 c6, Value.int .i64 i7] w2 fun e9 w8 =>
    ∃ t10 : Bool, e9 = .returned (Value.bool t10) ∧ (
      Q (Value.bool t10) w8))
def F21.an : Ann := ⟨[], []⟩
theorem F21.eq (x0 : List Value) (w : World) (Q : Value → World → Prop) : vcFn Try.prog F21.an 21 [ofL x0] w Q = F21.vc x0 w Q := by kernel_rfl
theorem F21.of (x0 : List Value) (w : World) {Q : Value → World → Prop} (h : F21.vc x0 w Q) : Calls Try.prog 21 #[ofL x0] w (fun e w' => ∃ v, e = .returned v ∧ Q v w') := vcFn_sound noCount mixed ((F21.eq x0 w Q).symm ▸ h)
/-! ### function 22: stillage/stillageref19.Alive -/
def F22.vc (x0 : Bool) (x1A : Option Addr) (x1n x1c : Nat) (x2 : Int) (w : World) (Q : Value → World → Prop) : Prop :=
  vIf (!x0)
  (Q (Value.bool true) w)
  (Calls Try.prog 33 #[Value.slice x1A x1n x1c, Value.int .i64 x2] w fun e2 w1 =>
    ∃ i3 : Int, e2 = .returned (Value.int .i64 i3) ∧ (
      Q (Value.bool (decide (i3 > 0))) w1))
def F22.an : Ann := ⟨[], []⟩
theorem F22.eq (x0 : Bool) (x1A : Option Addr) (x1n x1c : Nat) (x2 : Int) (w : World) (Q : Value → World → Prop) : vcFn Try.prog F22.an 22 [Value.bool x0, Value.slice x1A x1n x1c, Value.int .i64 x2] w Q = F22.vc x0 x1A x1n x1c x2 w Q := by kernel_rfl
theorem F22.of (x0 : Bool) (x1A : Option Addr) (x1n x1c : Nat) (x2 : Int) (w : World) {Q : Value → World → Prop} (h : F22.vc x0 x1A x1n x1c x2 w Q) : Calls Try.prog 22 #[Value.bool x0, Value.slice x1A x1n x1c, Value.int .i64 x2] w (fun e w' => ∃ v, e = .returned v ∧ Q v w') := vcFn_sound noCount mixed ((F22.eq x0 x1A x1n x1c x2 w Q).symm ▸ h)
/-! ### function 23: stillage/entry.AliveTag -/
def F23.vc (x0 : List Value) (w : World) (Q : Value → World → Prop) : Prop :=
  nw w x0 35 fun b1 w2 =>
  ldB w2 b1 (0 + 33) fun t3 =>
  vIf (!t3)
  (Q (Value.bool true) w2)
  (ldSl w2 b1 (0 + 37) fun A4 n5 c6 =>
    ldI .i64 w2 b1 (0 + 34) fun i7 =>
    Calls Try.prog 32 #[Value.slice A4 n5 c6, Value.int .i64 i7] w2 fun e9 w8 =>
    ∃ t10 : Bool, e9 = .returned (Value.bool t10) ∧ (
      Q (Value.bool t10) w8))
def F23.an : Ann := ⟨[], []⟩
theorem F23.eq (x0 : List Value) (w : World) (Q : Value → World → Prop) : vcFn Try.prog F23.an 23 [ofL x0] w Q = F23.vc x0 w Q := by kernel_rfl
theorem F23.of (x0 : List Value) (w : World) {Q : Value → World → Prop} (h : F23.vc x0 w Q) : Calls Try.prog 23 #[ofL x0] w (fun e w' => ∃ v, e = .returned v ∧ Q v w') := vcFn_sound noCount mixed ((F23.eq x0 w Q).symm ▸ h)
/-! ### function 24: stillage/entry.left -/
def F24.vc (x0A : Option Addr) (x0n x0c : Nat) (x1A : Option Addr) (x1n x1c : Nat) (w : World) (Q : Value → World → Prop) : Prop :=
  nw w [Value.slice x1A x1n x1c] 26 fun b1 w2 =>
  nw w2 ([Value.slice x0A x0n x0c] ++ []) 26 fun b3 w4 =>
  Calls Try.prog 27 #[Value.slice (some ⟨b3, 0, none⟩) 1 1] w4 fun e6 w5 =>
  ∃ (A7 : Option Addr) (n8 c9 : Nat), e6 = .returned (Value.slice A7 n8 c9) ∧ (
    Calls Try.prog 34 #[Value.slice A7 n8 c9, Value.func (.func 35) #[] #[Value.pointer (some ⟨b1, 0, none⟩)]] w5 fun e11 w10 =>
    ∃ (A12 : Option Addr) (n13 c14 : Nat), e11 = .returned (Value.slice A12 n13 c14) ∧ (
      Q (Value.slice A12 n13 c14) w10))
def F24.an : Ann := ⟨[], []⟩
theorem F24.eq (x0A : Option Addr) (x0n x0c : Nat) (x1A : Option Addr) (x1n x1c : Nat) (w : World) (Q : Value → World → Prop) : vcFn Try.prog F24.an 24 [Value.slice x0A x0n x0c, Value.slice x1A x1n x1c] w Q = F24.vc x0A x0n x0c x1A x1n x1c w Q := by kernel_rfl
theorem F24.of (x0A : Option Addr) (x0n x0c : Nat) (x1A : Option Addr) (x1n x1c : Nat) (w : World) {Q : Value → World → Prop} (h : F24.vc x0A x0n x0c x1A x1n x1c w Q) : Calls Try.prog 24 #[Value.slice x0A x0n x0c, Value.slice x1A x1n x1c] w (fun e w' => ∃ v, e = .returned v ∧ Q v w') := vcFn_sound noCount mixed ((F24.eq x0A x0n x0c x1A x1n x1c w Q).symm ▸ h)
/-! ### function 25: slices.Contains[[]int,int] -/
def F25.vc (x0A : Option Addr) (x0n x0c : Nat) (x1 : Int) (w : World) (Q : Value → World → Prop) : Prop :=
  Calls Try.prog 36 #[Value.slice x0A x0n x0c, Value.int .i64 x1] w fun e2 w1 =>
  ∃ i3 : Int, e2 = .returned (Value.int .i64 i3) ∧ (
    Q (Value.bool (decide (i3 ≥ 0))) w1)
def F25.an : Ann := ⟨[], []⟩
theorem F25.eq (x0A : Option Addr) (x0n x0c : Nat) (x1 : Int) (w : World) (Q : Value → World → Prop) : vcFn Try.prog F25.an 25 [Value.slice x0A x0n x0c, Value.int .i64 x1] w Q = F25.vc x0A x0n x0c x1 w Q := by kernel_rfl
theorem F25.of (x0A : Option Addr) (x0n x0c : Nat) (x1 : Int) (w : World) {Q : Value → World → Prop} (h : F25.vc x0A x0n x0c x1 w Q) : Calls Try.prog 25 #[Value.slice x0A x0n x0c, Value.int .i64 x1] w (fun e w' => ∃ v, e = .returned v ∧ Q v w') := vcFn_sound noCount mixed ((F25.eq x0A x0n x0c x1 w Q).symm ▸ h)
/-! ### function 26: stillage/stillageref11.Ints -/
def F26.b4c (Q : Value → World → Prop) (C4 : ((Option Addr × Nat × Nat) × (Option Addr × Nat × Nat) × Int × Unit) → World → Prop) (x0 : (Option Addr × Nat × Nat)) (x1 : (Option Addr × Nat × Nat)) (x5 : Int) (w : World) : Prop :=
  vIf (decide (x5 < ((x0.2.1 : Nat) : Int)))
  (dr x0.1 fun b1 o2 =>
    gd (decide (0 ≤ x5)) <|
    gd (decide (x5 < ((x0.2.1 : Nat) : Int))) <|
    ldI .i64 w.drew b1 (o2 + (x5).toNat * 1) fun i3 =>
    dr x1.1 fun b4 o5 =>
    gd (decide (0 ≤ x5)) <|
    gd (decide (x5 < ((x1.2.1 : Nat) : Int))) <|
    ldI .i64 w.drew b4 (o5 + (x5).toNat * 1) fun i6 =>
    vIf (i3 != i6)
    (Q (Value.bool false) w.drew)
    (jnC C4 ((x0.1, x0.2.1, x0.2.2), (x1.1, x1.2.1, x1.2.2), ((IntKind.wrap .i64 (x5 + 1))), ()) w.drew))
  (Q (Value.bool true) w)
def F26.b4 (Q : Value → World → Prop) : ((Option Addr × Nat × Nat) × (Option Addr × Nat × Nat) × Int × Unit) → World → (((Option Addr × Nat × Nat) × (Option Addr × Nat × Nat) × Int × Unit) → World → Prop) → Prop := fun s w C4 => ∀ _ : Nat → Value, F26.b4c Q C4 s.1 s.2.1 s.2.2.1 w
def F26.l4 (Q : Value → World → Prop) : ((Option Addr × Nat × Nat) × (Option Addr × Nat × Nat) × Int × Unit) → World → Prop := fun s w => ∃ n, loopC (F26.b4 Q) n s w
def F26.vc (x0A : Option Addr) (x0n x0c : Nat) (x1A : Option Addr) (x1n x1c : Nat) (w : World) (Q : Value → World → Prop) : Prop :=
  vIf (((x0n : Nat) : Int) != ((x1n : Nat) : Int))
  (Q (Value.bool false) w)
  (jnC (F26.l4 Q) ((x0A, x0n, x0c), (x1A, x1n, x1c), (0), ()) w)
def F26.an : Ann := ⟨[(4, [(0, .kSl), (1, .kSl), (5, .kI .i64)])], []⟩
theorem F26.eq (x0A : Option Addr) (x0n x0c : Nat) (x1A : Option Addr) (x1n x1c : Nat) (w : World) (Q : Value → World → Prop) : vcFn Try.prog F26.an 26 [Value.slice x0A x0n x0c, Value.slice x1A x1n x1c] w Q = F26.vc x0A x0n x0c x1A x1n x1c w Q := by kernel_rfl
theorem F26.of (x0A : Option Addr) (x0n x0c : Nat) (x1A : Option Addr) (x1n x1c : Nat) (w : World) {Q : Value → World → Prop} (h : F26.vc x0A x0n x0c x1A x1n x1c w Q) : Calls Try.prog 26 #[Value.slice x0A x0n x0c, Value.slice x1A x1n x1c] w (fun e w' => ∃ v, e = .returned v ∧ Q v w') := vcFn_sound noCount mixed ((F26.eq x0A x0n x0c x1A x1n x1c w Q).symm ▸ h)
/-! ### function 27: stillage/entry.row -/
def F27.vc (x0A : Option Addr) (x0n x0c : Nat) (w : World) (Q : Value → World → Prop) : Prop :=
  Calls Try.prog 37 #[Value.slice x0A x0n x0c] w fun e2 w1 =>
  ∃ (A3 : Option Addr) (n4 c5 : Nat), e2 = .returned (Value.slice A3 n4 c5) ∧ (
    Calls Try.prog 38 #[Value.slice A3 n4 c5] w1 fun e7 w6 =>
    e7 = .returned (Value.tuple #[]) ∧ (
      Calls Try.prog 39 #[Value.slice A3 n4 c5] w6 fun e9 w8 =>
      ∃ (A10 : Option Addr) (n11 c12 : Nat), e9 = .returned (Value.slice A10 n11 c12) ∧ (
        Q (Value.slice A10 n11 c12) w8)))
def F27.an : Ann := ⟨[], []⟩
theorem F27.eq (x0A : Option Addr) (x0n x0c : Nat) (w : World) (Q : Value → World → Prop) : vcFn Try.prog F27.an 27 [Value.slice x0A x0n x0c] w Q = F27.vc x0A x0n x0c w Q := by kernel_rfl
theorem F27.of (x0A : Option Addr) (x0n x0c : Nat) (w : World) {Q : Value → World → Prop} (h : F27.vc x0A x0n x0c w Q) : Calls Try.prog 27 #[Value.slice x0A x0n x0c] w (fun e w' => ∃ v, e = .returned v ∧ Q v w') := vcFn_sound noCount mixed ((F27.eq x0A x0n x0c w Q).symm ▸ h)
/-! ### function 28: stillage/stillageref19.Add -/
def F28.k10c (Q : Value → World → Prop) (C4 : ((Option Addr × Nat × Nat) × Int × (Option Addr × Nat × Nat) × Bool × Int × Unit) → World → Prop) (x0 : (Option Addr × Nat × Nat)) (x1 : Int) (x5 : (Option Addr × Nat × Nat)) (x6 : Bool) (x7 : Int) (w : World) : Prop :=
  dr x0.1 fun b13 o14 =>
  gd (decide (0 ≤ x7)) <|
  gd (decide (x7 < ((x0.2.1 : Nat) : Int))) <|
  ldI .i64 w b13 (o14 + (x7).toNat * 1) fun i15 =>
  nw w ([Value.int .i64 i15] ++ []) 3 fun b16 w17 =>
  app w17 1 8 [Value.int .i64 0] 3 x5.1 x5.2.1 x5.2.2 (Value.slice (some ⟨b16, 0, none⟩) 1 1) fun A18 n19 c20 w21 =>
  jnC C4 ((x0.1, x0.2.1, x0.2.2), (x1), (A18, n19, c20), x6, ((IntKind.wrap .i64 (x7 + 1))), ()) w21
def F28.k10 (Q : Value → World → Prop) (C4 : ((Option Addr × Nat × Nat) × Int × (Option Addr × Nat × Nat) × Bool × Int × Unit) → World → Prop) : ((Option Addr × Nat × Nat) × Int × (Option Addr × Nat × Nat) × Bool × Int × Unit) → World → Prop := fun s w => ∀ _ : Nat → Value, F28.k10c Q C4 s.1 s.2.1 s.2.2.1 s.2.2.2.1 s.2.2.2.2.1 w
def F28.k7c (Q : Value → World → Prop) (C4 : ((Option Addr × Nat × Nat) × Int × (Option Addr × Nat × Nat) × Bool × Int × Unit) → World → Prop) (x0 : (Option Addr × Nat × Nat)) (x1 : Int) (x5 : (Option Addr × Nat × Nat)) (x6 : Bool) (x7 : Int) (x23 : Bool) (w : World) : Prop :=
  vIf x23
  (dr x0.1 fun b4 o5 =>
    gd (decide (0 ≤ x7)) <|
    gd (decide (x7 < ((x0.2.1 : Nat) : Int))) <|
    ldI .i64 w b4 (o5 + (x7).toNat * 1) fun i6 =>
    vIf (decide (x1 < i6))
    (nw w ([Value.int .i64 x1] ++ []) 3 fun b7 w8 =>
      app w8 1 8 [Value.int .i64 0] 3 x5.1 x5.2.1 x5.2.2 (Value.slice (some ⟨b7, 0, none⟩) 1 1) fun A9 n10 c11 w12 =>
      jnC (F28.k10 Q C4) ((x0.1, x0.2.1, x0.2.2), (x1), (A9, n10, c11), true, (x7), ()) w12)
    (jnC (F28.k10 Q C4) ((x0.1, x0.2.1, x0.2.2), (x1), (x5.1, x5.2.1, x5.2.2), true, (x7), ()) w))
  (jnC (F28.k10 Q C4) ((x0.1, x0.2.1, x0.2.2), (x1), (x5.1, x5.2.1, x5.2.2), x6, (x7), ()) w)
def F28.k7 (Q : Value → World → Prop) (C4 : ((Option Addr × Nat × Nat) × Int × (Option Addr × Nat × Nat) × Bool × Int × Unit) → World → Prop) : ((Option Addr × Nat × Nat) × Int × (Option Addr × Nat × Nat) × Bool × Int × Bool × Unit) → World → Prop := fun s w => ∀ _ : Nat → Value, F28.k7c Q C4 s.1 s.2.1 s.2.2.1 s.2.2.2.1 s.2.2.2.2.1 s.2.2.2.2.2.1 w
def F28.b4c (Q : Value → World → Prop) (C4 : ((Option Addr × Nat × Nat) × Int × (Option Addr × Nat × Nat) × Bool × Int × Unit) → World → Prop) (x0 : (Option Addr × Nat × Nat)) (x1 : Int) (x5 : (Option Addr × Nat × Nat)) (x6 : Bool) (x7 : Int) (w : World) : Prop :=
  vIf (decide (x7 < ((x0.2.1 : Nat) : Int)))
  (vIf (!x6)
    (dr x0.1 fun b1 o2 =>
      gd (decide (0 ≤ x7)) <|
      gd (decide (x7 < ((x0.2.1 : Nat) : Int))) <|
      ldI .i64 w b1 (o2 + (x7).toNat * 1) fun i3 =>
      jnC (F28.k7 Q C4) ((x0.1, x0.2.1, x0.2.2), (x1), (x5.1, x5.2.1, x5.2.2), x6, (x7), (decide (x1 ≤ i3)), ()) w)
    (jnC (F28.k7 Q C4) ((x0.1, x0.2.1, x0.2.2), (x1), (x5.1, x5.2.1, x5.2.2), x6, (x7), false, ()) w))
  (vIf (!x6)
    (nw w ([Value.int .i64 x1] ++ []) 3 fun b22 w23 =>
      app w23 1 8 [Value.int .i64 0] 3 x5.1 x5.2.1 x5.2.2 (Value.slice (some ⟨b22, 0, none⟩) 1 1) fun A24 n25 c26 w27 =>
      Q (Value.slice A24 n25 c26) w27)
    (Q (Value.slice x5.1 x5.2.1 x5.2.2) w))
def F28.b4 (Q : Value → World → Prop) : ((Option Addr × Nat × Nat) × Int × (Option Addr × Nat × Nat) × Bool × Int × Unit) → World → (((Option Addr × Nat × Nat) × Int × (Option Addr × Nat × Nat) × Bool × Int × Unit) → World → Prop) → Prop := fun s w C4 => ∀ _ : Nat → Value, F28.b4c Q C4 s.1 s.2.1 s.2.2.1 s.2.2.2.1 s.2.2.2.2.1 w
def F28.l4 (Q : Value → World → Prop) : ((Option Addr × Nat × Nat) × Int × (Option Addr × Nat × Nat) × Bool × Int × Unit) → World → Prop := fun s w => ∃ n, loopC (F28.b4 Q) n s w
def F28.vc (x0A : Option Addr) (x0n x0c : Nat) (x1 : Int) (w : World) (Q : Value → World → Prop) : Prop :=
  jnC (F28.l4 Q) ((x0A, x0n, x0c), (x1), (none, 0, 0), false, (0), ()) w
def F28.an : Ann := ⟨[(4, [(0, .kSl), (1, .kI .i64), (5, .kSl), (6, .kB), (7, .kI .i64)])], [(7, [(0, .kSl), (1, .kI .i64), (5, .kSl), (6, .kB), (7, .kI .i64), (23, .kB)]), (10, [(0, .kSl), (1, .kI .i64), (5, .kSl), (6, .kB), (7, .kI .i64)])]⟩
theorem F28.eq (x0A : Option Addr) (x0n x0c : Nat) (x1 : Int) (w : World) (Q : Value → World → Prop) : vcFn Try.prog F28.an 28 [Value.slice x0A x0n x0c, Value.int .i64 x1] w Q = F28.vc x0A x0n x0c x1 w Q := by kernel_rfl
theorem F28.of (x0A : Option Addr) (x0n x0c : Nat) (x1 : Int) (w : World) {Q : Value → World → Prop} (h : F28.vc x0A x0n x0c x1 w Q) : Calls Try.prog 28 #[Value.slice x0A x0n x0c, Value.int .i64 x1] w (fun e w' => ∃ v, e = .returned v ∧ Q v w') := vcFn_sound noCount mixed ((F28.eq x0A x0n x0c x1 w Q).symm ▸ h)
/-! ### function 29: stillage/stillageref19.Row -/
def F29.b3c (Q : Value → World → Prop) (C3 : ((Option Addr × Nat × Nat) × (Option Addr × Nat × Nat) × Int × Unit) → World → Prop) (x0 : (Option Addr × Nat × Nat)) (x3 : (Option Addr × Nat × Nat)) (x4 : Int) (w : World) : Prop :=
  vIf (decide (x4 < ((x0.2.1 : Nat) : Int)))
  (dr x0.1 fun b1 o2 =>
    gd (decide (0 ≤ x4)) <|
    gd (decide (x4 < ((x0.2.1 : Nat) : Int))) <|
    ldI .i64 w b1 (o2 + (x4).toNat * 1) fun i3 =>
    Calls Try.prog 28 #[Value.slice x3.1 x3.2.1 x3.2.2, Value.int .i64 i3] w fun e5 w4 =>
    ∃ (A6 : Option Addr) (n7 c8 : Nat), e5 = .returned (Value.slice A6 n7 c8) ∧ (
      jnC C3 ((x0.1, x0.2.1, x0.2.2), (A6, n7, c8), ((IntKind.wrap .i64 (x4 + 1))), ()) w4))
  (Q (Value.slice x3.1 x3.2.1 x3.2.2) w)
def F29.b3 (Q : Value → World → Prop) : ((Option Addr × Nat × Nat) × (Option Addr × Nat × Nat) × Int × Unit) → World → (((Option Addr × Nat × Nat) × (Option Addr × Nat × Nat) × Int × Unit) → World → Prop) → Prop := fun s w C3 => ∀ _ : Nat → Value, F29.b3c Q C3 s.1 s.2.1 s.2.2.1 w
def F29.l3 (Q : Value → World → Prop) : ((Option Addr × Nat × Nat) × (Option Addr × Nat × Nat) × Int × Unit) → World → Prop := fun s w => ∃ n, loopC (F29.b3 Q) n s w
def F29.vc (x0A : Option Addr) (x0n x0c : Nat) (w : World) (Q : Value → World → Prop) : Prop :=
  jnC (F29.l3 Q) ((x0A, x0n, x0c), (none, 0, 0), (0), ()) w
def F29.an : Ann := ⟨[(3, [(0, .kSl), (3, .kSl), (4, .kI .i64)])], []⟩
theorem F29.eq (x0A : Option Addr) (x0n x0c : Nat) (w : World) (Q : Value → World → Prop) : vcFn Try.prog F29.an 29 [Value.slice x0A x0n x0c] w Q = F29.vc x0A x0n x0c w Q := by kernel_rfl
theorem F29.of (x0A : Option Addr) (x0n x0c : Nat) (w : World) {Q : Value → World → Prop} (h : F29.vc x0A x0n x0c w Q) : Calls Try.prog 29 #[Value.slice x0A x0n x0c] w (fun e w' => ∃ v, e = .returned v ∧ Q v w') := vcFn_sound noCount mixed ((F29.eq x0A x0n x0c w Q).symm ▸ h)
/-! ### function 30: stillage/stillageref19.both -/
def F30.b3c (Q : Value → World → Prop) (C3 : ((Option Addr × Nat × Nat) × (Option Addr × Nat × Nat) × (Option Addr × Nat × Nat) × Int × Unit) → World → Prop) (x0 : (Option Addr × Nat × Nat)) (x1 : (Option Addr × Nat × Nat)) (x5 : (Option Addr × Nat × Nat)) (x6 : Int) (w : World) : Prop :=
  vIf (decide (x6 < ((x0.2.1 : Nat) : Int)))
  (dr x0.1 fun b1 o2 =>
    gd (decide (0 ≤ x6)) <|
    gd (decide (x6 < ((x0.2.1 : Nat) : Int))) <|
    ldI .i64 w b1 (o2 + (x6).toNat * 1) fun i3 =>
    Calls Try.prog 31 #[Value.slice x1.1 x1.2.1 x1.2.2, Value.int .i64 i3] w fun e5 w4 =>
    ∃ t6 : Bool, e5 = .returned (Value.bool t6) ∧ (
      vIf t6
      (dr x0.1 fun b7 o8 =>
        gd (decide (0 ≤ x6)) <|
        gd (decide (x6 < ((x0.2.1 : Nat) : Int))) <|
        ldI .i64 w4 b7 (o8 + (x6).toNat * 1) fun i9 =>
        Calls Try.prog 28 #[Value.slice x5.1 x5.2.1 x5.2.2, Value.int .i64 i9] w4 fun e11 w10 =>
        ∃ (A12 : Option Addr) (n13 c14 : Nat), e11 = .returned (Value.slice A12 n13 c14) ∧ (
          jnC C3 ((x0.1, x0.2.1, x0.2.2), (x1.1, x1.2.1, x1.2.2), (A12, n13, c14), ((IntKind.wrap .i64 (x6 + 1))), ()) w10))
      (jnC C3 ((x0.1, x0.2.1, x0.2.2), (x1.1, x1.2.1, x1.2.2), (x5.1, x5.2.1, x5.2.2), ((IntKind.wrap .i64 (x6 + 1))), ()) w4)))
  (Q (Value.slice x5.1 x5.2.1 x5.2.2) w)
def F30.b3 (Q : Value → World → Prop) : ((Option Addr × Nat × Nat) × (Option Addr × Nat × Nat) × (Option Addr × Nat × Nat) × Int × Unit) → World → (((Option Addr × Nat × Nat) × (Option Addr × Nat × Nat) × (Option Addr × Nat × Nat) × Int × Unit) → World → Prop) → Prop := fun s w C3 => ∀ _ : Nat → Value, F30.b3c Q C3 s.1 s.2.1 s.2.2.1 s.2.2.2.1 w
def F30.l3 (Q : Value → World → Prop) : ((Option Addr × Nat × Nat) × (Option Addr × Nat × Nat) × (Option Addr × Nat × Nat) × Int × Unit) → World → Prop := fun s w => ∃ n, loopC (F30.b3 Q) n s w
def F30.vc (x0A : Option Addr) (x0n x0c : Nat) (x1A : Option Addr) (x1n x1c : Nat) (w : World) (Q : Value → World → Prop) : Prop :=
  jnC (F30.l3 Q) ((x0A, x0n, x0c), (x1A, x1n, x1c), (none, 0, 0), (0), ()) w
def F30.an : Ann := ⟨[(3, [(0, .kSl), (1, .kSl), (5, .kSl), (6, .kI .i64)])], []⟩
theorem F30.eq (x0A : Option Addr) (x0n x0c : Nat) (x1A : Option Addr) (x1n x1c : Nat) (w : World) (Q : Value → World → Prop) : vcFn Try.prog F30.an 30 [Value.slice x0A x0n x0c, Value.slice x1A x1n x1c] w Q = F30.vc x0A x0n x0c x1A x1n x1c w Q := by kernel_rfl
theorem F30.of (x0A : Option Addr) (x0n x0c : Nat) (x1A : Option Addr) (x1n x1c : Nat) (w : World) {Q : Value → World → Prop} (h : F30.vc x0A x0n x0c x1A x1n x1c w Q) : Calls Try.prog 30 #[Value.slice x0A x0n x0c, Value.slice x1A x1n x1c] w (fun e w' => ∃ v, e = .returned v ∧ Q v w') := vcFn_sound noCount mixed ((F30.eq x0A x0n x0c x1A x1n x1c w Q).symm ▸ h)
/-! ### function 31: stillage/stillageref19.in -/
def F31.b2c (Q : Value → World → Prop) (C2 : ((Option Addr × Nat × Nat) × Int × Int × Unit) → World → Prop) (x0 : (Option Addr × Nat × Nat)) (x1 : Int) (x5 : Int) (w : World) : Prop :=
  vIf (decide (x5 < ((x0.2.1 : Nat) : Int)))
  (dr x0.1 fun b1 o2 =>
    gd (decide (0 ≤ x5)) <|
    gd (decide (x5 < ((x0.2.1 : Nat) : Int))) <|
    ldI .i64 w b1 (o2 + (x5).toNat * 1) fun i3 =>
    vIf (i3 == x1)
    (Q (Value.bool true) w)
    (jnC C2 ((x0.1, x0.2.1, x0.2.2), (x1), ((IntKind.wrap .i64 (x5 + 1))), ()) w))
  (Q (Value.bool false) w)
def F31.b2 (Q : Value → World → Prop) : ((Option Addr × Nat × Nat) × Int × Int × Unit) → World → (((Option Addr × Nat × Nat) × Int × Int × Unit) → World → Prop) → Prop := fun s w C2 => ∀ _ : Nat → Value, F31.b2c Q C2 s.1 s.2.1 s.2.2.1 w
def F31.l2 (Q : Value → World → Prop) : ((Option Addr × Nat × Nat) × Int × Int × Unit) → World → Prop := fun s w => ∃ n, loopC (F31.b2 Q) n s w
def F31.vc (x0A : Option Addr) (x0n x0c : Nat) (x1 : Int) (w : World) (Q : Value → World → Prop) : Prop :=
  jnC (F31.l2 Q) ((x0A, x0n, x0c), (x1), (0), ()) w
def F31.an : Ann := ⟨[(2, [(0, .kSl), (1, .kI .i64), (5, .kI .i64)])], []⟩
theorem F31.eq (x0A : Option Addr) (x0n x0c : Nat) (x1 : Int) (w : World) (Q : Value → World → Prop) : vcFn Try.prog F31.an 31 [Value.slice x0A x0n x0c, Value.int .i64 x1] w Q = F31.vc x0A x0n x0c x1 w Q := by kernel_rfl
theorem F31.of (x0A : Option Addr) (x0n x0c : Nat) (x1 : Int) (w : World) {Q : Value → World → Prop} (h : F31.vc x0A x0n x0c x1 w Q) : Calls Try.prog 31 #[Value.slice x0A x0n x0c, Value.int .i64 x1] w (fun e w' => ∃ v, e = .returned v ∧ Q v w') := vcFn_sound noCount mixed ((F31.eq x0A x0n x0c x1 w Q).symm ▸ h)
/-! ### function 32: stillage/entry.other -/
def F32.vc (x0A : Option Addr) (x0n x0c : Nat) (x1 : Int) (w : World) (Q : Value → World → Prop) : Prop :=
  nw w [Value.int .i64 x1] 3 fun b1 w2 =>
  Calls Try.prog 40 #[Value.slice x0A x0n x0c, Value.func (.func 41) #[] #[Value.pointer (some ⟨b1, 0, none⟩)]] w2 fun e4 w3 =>
  ∃ t5 : Bool, e4 = .returned (Value.bool t5) ∧ (
    Q (Value.bool t5) w3)
def F32.an : Ann := ⟨[], []⟩
theorem F32.eq (x0A : Option Addr) (x0n x0c : Nat) (x1 : Int) (w : World) (Q : Value → World → Prop) : vcFn Try.prog F32.an 32 [Value.slice x0A x0n x0c, Value.int .i64 x1] w Q = F32.vc x0A x0n x0c x1 w Q := by kernel_rfl
theorem F32.of (x0A : Option Addr) (x0n x0c : Nat) (x1 : Int) (w : World) {Q : Value → World → Prop} (h : F32.vc x0A x0n x0c x1 w Q) : Calls Try.prog 32 #[Value.slice x0A x0n x0c, Value.int .i64 x1] w (fun e w' => ∃ v, e = .returned v ∧ Q v w') := vcFn_sound noCount mixed ((F32.eq x0A x0n x0c x1 w Q).symm ▸ h)
/-! ### function 33: stillage/stillageref19.Others -/
def F33.b3c (Q : Value → World → Prop) (C3 : ((Option Addr × Nat × Nat) × Int × Int × Int × Unit) → World → Prop) (x0 : (Option Addr × Nat × Nat)) (x1 : Int) (x5 : Int) (x6 : Int) (w : World) : Prop :=
  vIf (decide (x6 < ((x0.2.1 : Nat) : Int)))
  (dr x0.1 fun b1 o2 =>
    gd (decide (0 ≤ x6)) <|
    gd (decide (x6 < ((x0.2.1 : Nat) : Int))) <|
    ldI .i64 w b1 (o2 + (x6).toNat * 1) fun i3 =>
    vIf (i3 != x1)
    (jnC C3 ((x0.1, x0.2.1, x0.2.2), (x1), ((IntKind.wrap .i64 (x5 + 1))), ((IntKind.wrap .i64 (x6 + 1))), ()) w)
    (jnC C3 ((x0.1, x0.2.1, x0.2.2), (x1), (x5), ((IntKind.wrap .i64 (x6 + 1))), ()) w))
  (Q (Value.int .i64 x5) w)
def F33.b3 (Q : Value → World → Prop) : ((Option Addr × Nat × Nat) × Int × Int × Int × Unit) → World → (((Option Addr × Nat × Nat) × Int × Int × Int × Unit) → World → Prop) → Prop := fun s w C3 => ∀ _ : Nat → Value, F33.b3c Q C3 s.1 s.2.1 s.2.2.1 s.2.2.2.1 w
def F33.l3 (Q : Value → World → Prop) : ((Option Addr × Nat × Nat) × Int × Int × Int × Unit) → World → Prop := fun s w => ∃ n, loopC (F33.b3 Q) n s w
def F33.vc (x0A : Option Addr) (x0n x0c : Nat) (x1 : Int) (w : World) (Q : Value → World → Prop) : Prop :=
  jnC (F33.l3 Q) ((x0A, x0n, x0c), (x1), (0), (0), ()) w
def F33.an : Ann := ⟨[(3, [(0, .kSl), (1, .kI .i64), (5, .kI .i64), (6, .kI .i64)])], []⟩
theorem F33.eq (x0A : Option Addr) (x0n x0c : Nat) (x1 : Int) (w : World) (Q : Value → World → Prop) : vcFn Try.prog F33.an 33 [Value.slice x0A x0n x0c, Value.int .i64 x1] w Q = F33.vc x0A x0n x0c x1 w Q := by kernel_rfl
theorem F33.of (x0A : Option Addr) (x0n x0c : Nat) (x1 : Int) (w : World) {Q : Value → World → Prop} (h : F33.vc x0A x0n x0c x1 w Q) : Calls Try.prog 33 #[Value.slice x0A x0n x0c, Value.int .i64 x1] w (fun e w' => ∃ v, e = .returned v ∧ Q v w') := vcFn_sound noCount mixed ((F33.eq x0A x0n x0c x1 w Q).symm ▸ h)
/-! ### function 34: slices.DeleteFunc[[]int,int] -/
def F34s.k12c (Q : Value → World → Prop) (x0 : (Option Addr × Nat × Nat)) (x5 : Int) (w : World) : Prop :=
  gd (decide (0 ≤ x5)) <|
  gd (decide (x5 ≤ ((x0.2.2 : Nat) : Int))) <|
  Q (Value.slice (slA x0.1 x0.2.2 0 1) (x5).toNat x0.2.2) w
def F34s.k12 (Q : Value → World → Prop) : ((Option Addr × Nat × Nat) × Int × Unit) → World → Prop := fun s w => ∀ _ : Nat → Value, F34s.k12c Q s.1 s.2.1 w
def F34s.b5c (Q : Value → World → Prop) (C5 : ((Option Addr × Nat × Nat) × (Nat × Nat) × Int × Int × Unit) → World → Prop) (x0 : (Option Addr × Nat × Nat)) (x1 : (Nat × Nat)) (x5 : Int) (x6 : Int) (w : World) : Prop :=
  vIf (decide (x6 < ((x0.2.1 : Nat) : Int)))
  (dr x0.1 fun b4 o5 =>
    gd (decide (0 ≤ x6)) <|
    gd (decide (x6 < ((x0.2.1 : Nat) : Int))) <|
    ldI .i64 w b4 (o5 + (x6).toNat * 1) fun i6 =>
    Calls Try.prog 35 #[Value.int .i64 i6, Value.pointer (some ⟨x1.1, x1.2, none⟩)] w fun e8 w7 =>
    ∃ t9 : Bool, e8 = .returned (Value.bool t9) ∧ (
      vIf (!t9)
      (dr x0.1 fun b10 o11 =>
        gd (decide (0 ≤ x5)) <|
        gd (decide (x5 < ((x0.2.1 : Nat) : Int))) <|
        st w7 b10 (o11 + (x5).toNat * 1) [Value.int .i64 i6] fun w12 =>
        jnC C5 ((x0.1, x0.2.1, x0.2.2), (x1.1, x1.2), ((IntKind.wrap .i64 (x5 + 1))), ((IntKind.wrap .i64 (x6 + 1))), ()) w12)
      (jnC C5 ((x0.1, x0.2.1, x0.2.2), (x1.1, x1.2), (x5), ((IntKind.wrap .i64 (x6 + 1))), ()) w7)))
  (gd (decide (0 ≤ x5)) <|
    gd (decide (x5 ≤ ((x0.2.1 : Nat) : Int))) <|
    vIf ((x0.2.1 - (x5).toNat) == 0)
    (jnC (F34s.k12 Q) ((x0.1, x0.2.1, x0.2.2), (x5), ()) w)
    (dr (slA x0.1 x0.2.2 (x5).toNat 1) fun b14 o15 =>
      st w b14 o15 (zeros (x0.2.1 - (x5).toNat) [Value.int .i64 0]) fun w13 =>
      jnC (F34s.k12 Q) ((x0.1, x0.2.1, x0.2.2), (x5), ()) w13))
def F34s.b5 (Q : Value → World → Prop) : ((Option Addr × Nat × Nat) × (Nat × Nat) × Int × Int × Unit) → World → (((Option Addr × Nat × Nat) × (Nat × Nat) × Int × Int × Unit) → World → Prop) → Prop := fun s w C5 => ∀ _ : Nat → Value, F34s.b5c Q C5 s.1 s.2.1 s.2.2.1 s.2.2.2.1 w
def F34s.l5 (Q : Value → World → Prop) : ((Option Addr × Nat × Nat) × (Nat × Nat) × Int × Int × Unit) → World → Prop := fun s w => ∃ n, loopC (F34s.b5 Q) n s w
def F34s.vc (x0A : Option Addr) (x0n x0c : Nat) (x1 : Nat × Nat) (w : World) (Q : Value → World → Prop) : Prop :=
  Calls Try.prog 42 #[Value.slice x0A x0n x0c, Value.func (.func 35) #[] #[Value.pointer (some ⟨x1.1, x1.2, none⟩)]] w fun e2 w1 =>
  ∃ i3 : Int, e2 = .returned (Value.int .i64 i3) ∧ (
    vIf (i3 == (-1))
    (Q (Value.slice x0A x0n x0c) w1)
    (jnC (F34s.l5 Q) ((x0A, x0n, x0c), (x1.1, x1.2), (i3), ((IntKind.wrap .i64 (i3 + 1))), ()) w1))
def F34s.an : Ann := ⟨[(5, [(0, .kSl), (1, .kG 35), (5, .kI .i64), (6, .kI .i64)])], [(12, [(0, .kSl), (5, .kI .i64)])]⟩
theorem F34s.eq (x0A : Option Addr) (x0n x0c : Nat) (x1 : Nat × Nat) (w : World) (Q : Value → World → Prop) : vcFn Try.prog F34s.an 34 [Value.slice x0A x0n x0c, Value.func (.func 35) #[] #[Value.pointer (some ⟨x1.1, x1.2, none⟩)]] w Q = F34s.vc x0A x0n x0c x1 w Q := by kernel_rfl
theorem F34s.of (x0A : Option Addr) (x0n x0c : Nat) (x1 : Nat × Nat) (w : World) {Q : Value → World → Prop} (h : F34s.vc x0A x0n x0c x1 w Q) : Calls Try.prog 34 #[Value.slice x0A x0n x0c, Value.func (.func 35) #[] #[Value.pointer (some ⟨x1.1, x1.2, none⟩)]] w (fun e w' => ∃ v, e = .returned v ∧ Q v w') := vcFn_sound noCount mixed ((F34s.eq x0A x0n x0c x1 w Q).symm ▸ h)
/-! ### function 35: stillage/entry.left$1 -/
def F35.vc (x0 : Int) (x1 : Nat × Nat) (w : World) (Q : Value → World → Prop) : Prop :=
  ldSl w x1.1 x1.2 fun A1 n2 c3 =>
  Calls Try.prog 25 #[Value.slice A1 n2 c3, Value.int .i64 x0] w fun e5 w4 =>
  ∃ t6 : Bool, e5 = .returned (Value.bool t6) ∧ (
    Q (Value.bool (!t6)) w4)
def F35.an : Ann := ⟨[], []⟩
theorem F35.eq (x0 : Int) (x1 : Nat × Nat) (w : World) (Q : Value → World → Prop) : vcFn Try.prog F35.an 35 [Value.int .i64 x0, Value.pointer (some ⟨x1.1, x1.2, none⟩)] w Q = F35.vc x0 x1 w Q := by kernel_rfl
theorem F35.of (x0 : Int) (x1 : Nat × Nat) (w : World) {Q : Value → World → Prop} (h : F35.vc x0 x1 w Q) : Calls Try.prog 35 #[Value.int .i64 x0, Value.pointer (some ⟨x1.1, x1.2, none⟩)] w (fun e w' => ∃ v, e = .returned v ∧ Q v w') := vcFn_sound noCount mixed ((F35.eq x0 x1 w Q).symm ▸ h)
/-! ### function 36: slices.Index[[]int,int] -/
def F36.b2c (Q : Value → World → Prop) (C2 : ((Option Addr × Nat × Nat) × Int × Int × Int × Unit) → World → Prop) (x0 : (Option Addr × Nat × Nat)) (x1 : Int) (x7 : Int) (x8 : Int) (w : World) : Prop :=
  vIf (decide (x8 < x7))
  (dr x0.1 fun b1 o2 =>
    gd (decide (0 ≤ x8)) <|
    gd (decide (x8 < ((x0.2.1 : Nat) : Int))) <|
    ldI .i64 w b1 (o2 + (x8).toNat * 1) fun i3 =>
    vIf (x1 == i3)
    (Q (Value.int .i64 x8) w)
    (jnC C2 ((x0.1, x0.2.1, x0.2.2), (x1), (x7), ((IntKind.wrap .i64 (x8 + 1))), ()) w))
  (Q (Value.int .i64 (-1)) w)
def F36.b2 (Q : Value → World → Prop) : ((Option Addr × Nat × Nat) × Int × Int × Int × Unit) → World → (((Option Addr × Nat × Nat) × Int × Int × Int × Unit) → World → Prop) → Prop := fun s w C2 => ∀ _ : Nat → Value, F36.b2c Q C2 s.1 s.2.1 s.2.2.1 s.2.2.2.1 w
def F36.l2 (Q : Value → World → Prop) : ((Option Addr × Nat × Nat) × Int × Int × Int × Unit) → World → Prop := fun s w => ∃ n, loopC (F36.b2 Q) n s w
def F36.vc (x0A : Option Addr) (x0n x0c : Nat) (x1 : Int) (w : World) (Q : Value → World → Prop) : Prop :=
  jnC (F36.l2 Q) ((x0A, x0n, x0c), (x1), (((x0n : Nat) : Int)), (0), ()) w
def F36.an : Ann := ⟨[(2, [(0, .kSl), (1, .kI .i64), (7, .kI .i64), (8, .kI .i64)])], []⟩
theorem F36.eq (x0A : Option Addr) (x0n x0c : Nat) (x1 : Int) (w : World) (Q : Value → World → Prop) : vcFn Try.prog F36.an 36 [Value.slice x0A x0n x0c, Value.int .i64 x1] w Q = F36.vc x0A x0n x0c x1 w Q := by kernel_rfl
theorem F36.of (x0A : Option Addr) (x0n x0c : Nat) (x1 : Int) (w : World) {Q : Value → World → Prop} (h : F36.vc x0A x0n x0c x1 w Q) : Calls Try.prog 36 #[Value.slice x0A x0n x0c, Value.int .i64 x1] w (fun e w' => ∃ v, e = .returned v ∧ Q v w') := vcFn_sound noCount mixed ((F36.eq x0A x0n x0c x1 w Q).symm ▸ h)
/-! ### function 37: slices.Concat[[]int,int] -/
def F37.b11c (Q : Value → World → Prop) (C11 : ((Option Addr × Nat × Nat) × (Option Addr × Nat × Nat) × Int × Int × Unit) → World → Prop) (x6 : (Option Addr × Nat × Nat)) (x25 : (Option Addr × Nat × Nat)) (x26 : Int) (x27 : Int) (w : World) : Prop :=
  vIf (decide (x27 < x26))
  (dr x25.1 fun b11 o12 =>
    gd (decide (0 ≤ x27)) <|
    gd (decide (x27 < ((x25.2.1 : Nat) : Int))) <|
    ldSl w b11 (o12 + (x27).toNat * 1) fun A13 n14 c15 =>
    app w 1 8 [Value.int .i64 0] 3 x6.1 x6.2.1 x6.2.2 (Value.slice A13 n14 c15) fun A16 n17 c18 w19 =>
    jnC C11 ((A16, n17, c18), (x25.1, x25.2.1, x25.2.2), (x26), ((IntKind.wrap .i64 (x27 + 1))), ()) w19)
  (Q (Value.slice x6.1 x6.2.1 x6.2.2) w)
def F37.b11 (Q : Value → World → Prop) : ((Option Addr × Nat × Nat) × (Option Addr × Nat × Nat) × Int × Int × Unit) → World → (((Option Addr × Nat × Nat) × (Option Addr × Nat × Nat) × Int × Int × Unit) → World → Prop) → Prop := fun s w C11 => ∀ _ : Nat → Value, F37.b11c Q C11 s.1 s.2.1 s.2.2.1 s.2.2.2.1 w
def F37.l11 (Q : Value → World → Prop) : ((Option Addr × Nat × Nat) × (Option Addr × Nat × Nat) × Int × Int × Unit) → World → Prop := fun s w => ∃ n, loopC (F37.b11 Q) n s w
def F37.b3c (Q : Value → World → Prop) (C3 : ((Option Addr × Nat × Nat) × Int × (Option Addr × Nat × Nat) × Int × Int × Unit) → World → Prop) (x0 : (Option Addr × Nat × Nat)) (x3 : Int) (x9 : (Option Addr × Nat × Nat)) (x10 : Int) (x11 : Int) (w : World) : Prop :=
  vIf (decide (x11 < x10))
  (dr x9.1 fun b1 o2 =>
    gd (decide (0 ≤ x11)) <|
    gd (decide (x11 < ((x9.2.1 : Nat) : Int))) <|
    ldSl w b1 (o2 + (x11).toNat * 1) fun A3 n4 c5 =>
    vIf (decide ((IntKind.wrap .i64 (x3 + ((n4 : Nat) : Int))) < 0))
    (False)
    (jnC C3 ((x0.1, x0.2.1, x0.2.2), ((IntKind.wrap .i64 (x3 + ((n4 : Nat) : Int)))), (x9.1, x9.2.1, x9.2.2), (x10), ((IntKind.wrap .i64 (x11 + 1))), ()) w))
  (Calls Try.prog 43 #[Value.slice none 0 0, Value.int .i64 x3] w fun e7 w6 =>
    ∃ (A8 : Option Addr) (n9 c10 : Nat), e7 = .returned (Value.slice A8 n9 c10) ∧ (
      jnC (F37.l11 Q) ((A8, n9, c10), (x0.1, x0.2.1, x0.2.2), (((x0.2.1 : Nat) : Int)), (0), ()) w6))
def F37.b3 (Q : Value → World → Prop) : ((Option Addr × Nat × Nat) × Int × (Option Addr × Nat × Nat) × Int × Int × Unit) → World → (((Option Addr × Nat × Nat) × Int × (Option Addr × Nat × Nat) × Int × Int × Unit) → World → Prop) → Prop := fun s w C3 => ∀ _ : Nat → Value, F37.b3c Q C3 s.1 s.2.1 s.2.2.1 s.2.2.2.1 s.2.2.2.2.1 w
def F37.l3 (Q : Value → World → Prop) : ((Option Addr × Nat × Nat) × Int × (Option Addr × Nat × Nat) × Int × Int × Unit) → World → Prop := fun s w => ∃ n, loopC (F37.b3 Q) n s w
def F37.vc (x0A : Option Addr) (x0n x0c : Nat) (w : World) (Q : Value → World → Prop) : Prop :=
  jnC (F37.l3 Q) ((x0A, x0n, x0c), (0), (x0A, x0n, x0c), (((x0n : Nat) : Int)), (0), ()) w
def F37.an : Ann := ⟨[(3, [(0, .kSl), (3, .kI .i64), (9, .kSl), (10, .kI .i64), (11, .kI .i64)]), (11, [(6, .kSl), (25, .kSl), (26, .kI .i64), (27, .kI .i64)])], []⟩
theorem F37.eq (x0A : Option Addr) (x0n x0c : Nat) (w : World) (Q : Value → World → Prop) : vcFn Try.prog F37.an 37 [Value.slice x0A x0n x0c] w Q = F37.vc x0A x0n x0c w Q := by kernel_rfl
theorem F37.of (x0A : Option Addr) (x0n x0c : Nat) (w : World) {Q : Value → World → Prop} (h : F37.vc x0A x0n x0c w Q) : Calls Try.prog 37 #[Value.slice x0A x0n x0c] w (fun e w' => ∃ v, e = .returned v ∧ Q v w') := vcFn_sound noCount mixed ((F37.eq x0A x0n x0c w Q).symm ▸ h)
/-! ### function 39: slices.Compact[[]int,int] -/
def F39.k15c (Q : Value → World → Prop) (C4 : ((Option Addr × Nat × Nat) × Int × Unit) → World → Prop) (x0 : (Option Addr × Nat × Nat)) (x3 : Int) (w : World) : Prop :=
  gd (decide (0 ≤ x3)) <|
  gd (decide (x3 ≤ ((x0.2.2 : Nat) : Int))) <|
  Q (Value.slice (slA x0.1 x0.2.2 0 1) (x3).toNat x0.2.2) w
def F39.k15 (Q : Value → World → Prop) (C4 : ((Option Addr × Nat × Nat) × Int × Unit) → World → Prop) : ((Option Addr × Nat × Nat) × Int × Unit) → World → Prop := fun s w => ∀ _ : Nat → Value, F39.k15c Q C4 s.1 s.2.1 w
def F39.b9c (Q : Value → World → Prop) (C4 : ((Option Addr × Nat × Nat) × Int × Unit) → World → Prop) (C9 : ((Option Addr × Nat × Nat) × Int × (Option Addr × Nat × Nat) × Int × Unit) → World → Prop) (x0 : (Option Addr × Nat × Nat)) (x3 : Int) (x4 : (Option Addr × Nat × Nat)) (x5 : Int) (w : World) : Prop :=
  vIf (decide (x5 < ((x4.2.1 : Nat) : Int)))
  (dr x4.1 fun b7 o8 =>
    gd (decide (0 ≤ x5)) <|
    gd (decide (x5 < ((x4.2.1 : Nat) : Int))) <|
    ldI .i64 w.drew b7 (o8 + (x5).toNat * 1) fun i9 =>
    dr x4.1 fun b10 o11 =>
    gd (decide (0 ≤ (IntKind.wrap .i64 (x5 - 1)))) <|
    gd (decide ((IntKind.wrap .i64 (x5 - 1)) < ((x4.2.1 : Nat) : Int))) <|
    ldI .i64 w.drew b10 (o11 + ((IntKind.wrap .i64 (x5 - 1))).toNat * 1) fun i12 =>
    vIf (i9 != i12)
    (dr x4.1 fun b13 o14 =>
      gd (decide (0 ≤ x5)) <|
      gd (decide (x5 < ((x4.2.1 : Nat) : Int))) <|
      ldI .i64 w.drew b13 (o14 + (x5).toNat * 1) fun i15 =>
      dr x0.1 fun b16 o17 =>
      gd (decide (0 ≤ x3)) <|
      gd (decide (x3 < ((x0.2.1 : Nat) : Int))) <|
      st w.drew b16 (o17 + (x3).toNat * 1) [Value.int .i64 i15] fun w18 =>
      jnC C9 ((x0.1, x0.2.1, x0.2.2), ((IntKind.wrap .i64 (x3 + 1))), (x4.1, x4.2.1, x4.2.2), ((IntKind.wrap .i64 (x5 + 1))), ()) w18)
    (jnC C9 ((x0.1, x0.2.1, x0.2.2), (x3), (x4.1, x4.2.1, x4.2.2), ((IntKind.wrap .i64 (x5 + 1))), ()) w.drew))
  (gd (decide (0 ≤ x3)) <|
    gd (decide (x3 ≤ ((x0.2.1 : Nat) : Int))) <|
    vIf ((x0.2.1 - (x3).toNat) == 0)
    (jnC (F39.k15 Q C4) ((x0.1, x0.2.1, x0.2.2), (x3), ()) w)
    (dr (slA x0.1 x0.2.2 (x3).toNat 1) fun b20 o21 =>
      st w b20 o21 (zeros (x0.2.1 - (x3).toNat) [Value.int .i64 0]) fun w19 =>
      jnC (F39.k15 Q C4) ((x0.1, x0.2.1, x0.2.2), (x3), ()) w19))
def F39.b9 (Q : Value → World → Prop) (C4 : ((Option Addr × Nat × Nat) × Int × Unit) → World → Prop) : ((Option Addr × Nat × Nat) × Int × (Option Addr × Nat × Nat) × Int × Unit) → World → (((Option Addr × Nat × Nat) × Int × (Option Addr × Nat × Nat) × Int × Unit) → World → Prop) → Prop := fun s w C9 => ∀ _ : Nat → Value, F39.b9c Q C4 C9 s.1 s.2.1 s.2.2.1 s.2.2.2.1 w
def F39.l9 (Q : Value → World → Prop) (C4 : ((Option Addr × Nat × Nat) × Int × Unit) → World → Prop) : ((Option Addr × Nat × Nat) × Int × (Option Addr × Nat × Nat) × Int × Unit) → World → Prop := fun s w => ∃ n, loopC (F39.b9 Q C4) n s w
def F39.b4c (Q : Value → World → Prop) (C4 : ((Option Addr × Nat × Nat) × Int × Unit) → World → Prop) (x0 : (Option Addr × Nat × Nat)) (x3 : Int) (w : World) : Prop :=
  vIf (decide (x3 < ((x0.2.1 : Nat) : Int)))
  (dr x0.1 fun b1 o2 =>
    gd (decide (0 ≤ x3)) <|
    gd (decide (x3 < ((x0.2.1 : Nat) : Int))) <|
    ldI .i64 w.drew b1 (o2 + (x3).toNat * 1) fun i3 =>
    dr x0.1 fun b4 o5 =>
    gd (decide (0 ≤ (IntKind.wrap .i64 (x3 - 1)))) <|
    gd (decide ((IntKind.wrap .i64 (x3 - 1)) < ((x0.2.1 : Nat) : Int))) <|
    ldI .i64 w.drew b4 (o5 + ((IntKind.wrap .i64 (x3 - 1))).toNat * 1) fun i6 =>
    vIf (i3 == i6)
    (gd (decide (0 ≤ x3)) <|
      gd (decide (x3 ≤ ((x0.2.1 : Nat) : Int))) <|
      jnC (F39.l9 Q C4) ((x0.1, x0.2.1, x0.2.2), (x3), ((slA x0.1 x0.2.2 (x3).toNat 1), (x0.2.1 - (x3).toNat), (x0.2.2 - (x3).toNat)), (1), ()) w.drew)
    (jnC C4 ((x0.1, x0.2.1, x0.2.2), ((IntKind.wrap .i64 (x3 + 1))), ()) w.drew))
  (Q (Value.slice x0.1 x0.2.1 x0.2.2) w)
def F39.b4 (Q : Value → World → Prop) : ((Option Addr × Nat × Nat) × Int × Unit) → World → (((Option Addr × Nat × Nat) × Int × Unit) → World → Prop) → Prop := fun s w C4 => ∀ _ : Nat → Value, F39.b4c Q C4 s.1 s.2.1 w
def F39.l4 (Q : Value → World → Prop) : ((Option Addr × Nat × Nat) × Int × Unit) → World → Prop := fun s w => ∃ n, loopC (F39.b4 Q) n s w
def F39.vc (x0A : Option Addr) (x0n x0c : Nat) (w : World) (Q : Value → World → Prop) : Prop :=
  vIf (decide (((x0n : Nat) : Int) < 2))
  (Q (Value.slice x0A x0n x0c) w)
  (jnC (F39.l4 Q) ((x0A, x0n, x0c), (1), ()) w)
def F39.an : Ann := ⟨[(4, [(0, .kSl), (3, .kI .i64)]), (9, [(0, .kSl), (3, .kI .i64), (4, .kSl), (5, .kI .i64)])], [(15, [(0, .kSl), (3, .kI .i64)])]⟩
theorem F39.eq (x0A : Option Addr) (x0n x0c : Nat) (w : World) (Q : Value → World → Prop) : vcFn Try.prog F39.an 39 [Value.slice x0A x0n x0c] w Q = F39.vc x0A x0n x0c w Q := by kernel_rfl
theorem F39.of (x0A : Option Addr) (x0n x0c : Nat) (w : World) {Q : Value → World → Prop} (h : F39.vc x0A x0n x0c w Q) : Calls Try.prog 39 #[Value.slice x0A x0n x0c] w (fun e w' => ∃ v, e = .returned v ∧ Q v w') := vcFn_sound noCount mixed ((F39.eq x0A x0n x0c w Q).symm ▸ h)
/-! ### function 40: slices.ContainsFunc[[]int,int] -/
def F40s.vc (x0A : Option Addr) (x0n x0c : Nat) (x1 : Nat × Nat) (w : World) (Q : Value → World → Prop) : Prop :=
  Calls Try.prog 42 #[Value.slice x0A x0n x0c, Value.func (.func 41) #[] #[Value.pointer (some ⟨x1.1, x1.2, none⟩)]] w fun e2 w1 =>
  ∃ i3 : Int, e2 = .returned (Value.int .i64 i3) ∧ (
    Q (Value.bool (decide (i3 ≥ 0))) w1)
def F40s.an : Ann := ⟨[], []⟩
theorem F40s.eq (x0A : Option Addr) (x0n x0c : Nat) (x1 : Nat × Nat) (w : World) (Q : Value → World → Prop) : vcFn Try.prog F40s.an 40 [Value.slice x0A x0n x0c, Value.func (.func 41) #[] #[Value.pointer (some ⟨x1.1, x1.2, none⟩)]] w Q = F40s.vc x0A x0n x0c x1 w Q := by kernel_rfl
theorem F40s.of (x0A : Option Addr) (x0n x0c : Nat) (x1 : Nat × Nat) (w : World) {Q : Value → World → Prop} (h : F40s.vc x0A x0n x0c x1 w Q) : Calls Try.prog 40 #[Value.slice x0A x0n x0c, Value.func (.func 41) #[] #[Value.pointer (some ⟨x1.1, x1.2, none⟩)]] w (fun e w' => ∃ v, e = .returned v ∧ Q v w') := vcFn_sound noCount mixed ((F40s.eq x0A x0n x0c x1 w Q).symm ▸ h)
/-! ### function 41: stillage/entry.other$1 -/
def F41.vc (x0 : Int) (x1 : Nat × Nat) (w : World) (Q : Value → World → Prop) : Prop :=
  ldI .i64 w x1.1 x1.2 fun i1 =>
  Q (Value.bool (x0 != i1)) w
def F41.an : Ann := ⟨[], []⟩
theorem F41.eq (x0 : Int) (x1 : Nat × Nat) (w : World) (Q : Value → World → Prop) : vcFn Try.prog F41.an 41 [Value.int .i64 x0, Value.pointer (some ⟨x1.1, x1.2, none⟩)] w Q = F41.vc x0 x1 w Q := by kernel_rfl
theorem F41.of (x0 : Int) (x1 : Nat × Nat) (w : World) {Q : Value → World → Prop} (h : F41.vc x0 x1 w Q) : Calls Try.prog 41 #[Value.int .i64 x0, Value.pointer (some ⟨x1.1, x1.2, none⟩)] w (fun e w' => ∃ v, e = .returned v ∧ Q v w') := vcFn_sound noCount mixed ((F41.eq x0 x1 w Q).symm ▸ h)
/-! ### function 42: slices.IndexFunc[[]int,int] -/
def F42s.b2c (Q : Value → World → Prop) (C2 : ((Option Addr × Nat × Nat) × (Nat × Nat) × Int × Int × Unit) → World → Prop) (x0 : (Option Addr × Nat × Nat)) (x1 : (Nat × Nat)) (x7 : Int) (x8 : Int) (w : World) : Prop :=
  vIf (decide (x8 < x7))
  (dr x0.1 fun b1 o2 =>
    gd (decide (0 ≤ x8)) <|
    gd (decide (x8 < ((x0.2.1 : Nat) : Int))) <|
    ldI .i64 w b1 (o2 + (x8).toNat * 1) fun i3 =>
    Calls Try.prog 41 #[Value.int .i64 i3, Value.pointer (some ⟨x1.1, x1.2, none⟩)] w fun e5 w4 =>
    ∃ t6 : Bool, e5 = .returned (Value.bool t6) ∧ (
      vIf t6
      (Q (Value.int .i64 x8) w4)
      (jnC C2 ((x0.1, x0.2.1, x0.2.2), (x1.1, x1.2), (x7), ((IntKind.wrap .i64 (x8 + 1))), ()) w4)))
  (Q (Value.int .i64 (-1)) w)
def F42s.b2 (Q : Value → World → Prop) : ((Option Addr × Nat × Nat) × (Nat × Nat) × Int × Int × Unit) → World → (((Option Addr × Nat × Nat) × (Nat × Nat) × Int × Int × Unit) → World → Prop) → Prop := fun s w C2 => ∀ _ : Nat → Value, F42s.b2c Q C2 s.1 s.2.1 s.2.2.1 s.2.2.2.1 w
def F42s.l2 (Q : Value → World → Prop) : ((Option Addr × Nat × Nat) × (Nat × Nat) × Int × Int × Unit) → World → Prop := fun s w => ∃ n, loopC (F42s.b2 Q) n s w
def F42s.vc (x0A : Option Addr) (x0n x0c : Nat) (x1 : Nat × Nat) (w : World) (Q : Value → World → Prop) : Prop :=
  jnC (F42s.l2 Q) ((x0A, x0n, x0c), (x1.1, x1.2), (((x0n : Nat) : Int)), (0), ()) w
def F42s.an : Ann := ⟨[(2, [(0, .kSl), (1, .kG 41), (7, .kI .i64), (8, .kI .i64)])], []⟩
theorem F42s.eq (x0A : Option Addr) (x0n x0c : Nat) (x1 : Nat × Nat) (w : World) (Q : Value → World → Prop) : vcFn Try.prog F42s.an 42 [Value.slice x0A x0n x0c, Value.func (.func 41) #[] #[Value.pointer (some ⟨x1.1, x1.2, none⟩)]] w Q = F42s.vc x0A x0n x0c x1 w Q := by kernel_rfl
theorem F42s.of (x0A : Option Addr) (x0n x0c : Nat) (x1 : Nat × Nat) (w : World) {Q : Value → World → Prop} (h : F42s.vc x0A x0n x0c x1 w Q) : Calls Try.prog 42 #[Value.slice x0A x0n x0c, Value.func (.func 41) #[] #[Value.pointer (some ⟨x1.1, x1.2, none⟩)]] w (fun e w' => ∃ v, e = .returned v ∧ Q v w') := vcFn_sound noCount mixed ((F42s.eq x0A x0n x0c x1 w Q).symm ▸ h)
/-! ### function 43: slices.Grow[[]int,int] -/
def F43.k3c (Q : Value → World → Prop) (x0 : (Option Addr × Nat × Nat)) (x1 : Int) (w : World) : Prop :=
  vIf (decide ((IntKind.wrap .i64 (x1 - (IntKind.wrap .i64 (((x0.2.2 : Nat) : Int) - ((x0.2.1 : Nat) : Int))))) > 0))
  (gd (decide (0 ≤ ((x0.2.2 : Nat) : Int))) <|
    gd (decide (((x0.2.2 : Nat) : Int) ≤ ((x0.2.2 : Nat) : Int))) <|
    appZ w 1 8 [Value.int .i64 0] 3 (slA x0.1 x0.2.2 0 1) ((((x0.2.2 : Nat) : Int)).toNat) x0.2.2 (IntKind.wrap .i64 (x1 - (IntKind.wrap .i64 (((x0.2.2 : Nat) : Int) - ((x0.2.1 : Nat) : Int))))) fun A1 n2 c3 w4 =>
    gd (decide (0 ≤ ((x0.2.1 : Nat) : Int))) <|
    gd (decide (((x0.2.1 : Nat) : Int) ≤ ((c3 : Nat) : Int))) <|
    Q (Value.slice (slA A1 c3 0 1) (((x0.2.1 : Nat) : Int)).toNat c3) w4)
  (Q (Value.slice x0.1 x0.2.1 x0.2.2) w)
def F43.k3 (Q : Value → World → Prop) : ((Option Addr × Nat × Nat) × Int × Unit) → World → Prop := fun s w => ∀ _ : Nat → Value, F43.k3c Q s.1 s.2.1 w
def F43.vc (x0A : Option Addr) (x0n x0c : Nat) (x1 : Int) (w : World) (Q : Value → World → Prop) : Prop :=
  vIf (decide (x1 < 0))
  (False)
  (jnC (F43.k3 Q) ((x0A, x0n, x0c), (x1), ()) w)
def F43.an : Ann := ⟨[], [(3, [(0, .kSl), (1, .kI .i64)])]⟩
theorem F43.eq (x0A : Option Addr) (x0n x0c : Nat) (x1 : Int) (w : World) (Q : Value → World → Prop) : vcFn Try.prog F43.an 43 [Value.slice x0A x0n x0c, Value.int .i64 x1] w Q = F43.vc x0A x0n x0c x1 w Q := by kernel_rfl
theorem F43.of (x0A : Option Addr) (x0n x0c : Nat) (x1 : Int) (w : World) {Q : Value → World → Prop} (h : F43.vc x0A x0n x0c x1 w Q) : Calls Try.prog 43 #[Value.slice x0A x0n x0c, Value.int .i64 x1] w (fun e w' => ∃ v, e = .returned v ∧ Q v w') := vcFn_sound noCount mixed ((F43.eq x0A x0n x0c x1 w Q).symm ▸ h)
/-! ### function 42: slices.IndexFunc[[]int,int] -/
def F42t.b2c (Q : Value → World → Prop) (C2 : ((Option Addr × Nat × Nat) × (Nat × Nat) × Int × Int × Unit) → World → Prop) (x0 : (Option Addr × Nat × Nat)) (x1 : (Nat × Nat)) (x7 : Int) (x8 : Int) (w : World) : Prop :=
  vIf (decide (x8 < x7))
  (dr x0.1 fun b1 o2 =>
    gd (decide (0 ≤ x8)) <|
    gd (decide (x8 < ((x0.2.1 : Nat) : Int))) <|
    ldI .i64 w b1 (o2 + (x8).toNat * 1) fun i3 =>
    Calls Try.prog 35 #[Value.int .i64 i3, Value.pointer (some ⟨x1.1, x1.2, none⟩)] w fun e5 w4 =>
    ∃ t6 : Bool, e5 = .returned (Value.bool t6) ∧ (
      vIf t6
      (Q (Value.int .i64 x8) w4)
      (jnC C2 ((x0.1, x0.2.1, x0.2.2), (x1.1, x1.2), (x7), ((IntKind.wrap .i64 (x8 + 1))), ()) w4)))
  (Q (Value.int .i64 (-1)) w)
def F42t.b2 (Q : Value → World → Prop) : ((Option Addr × Nat × Nat) × (Nat × Nat) × Int × Int × Unit) → World → (((Option Addr × Nat × Nat) × (Nat × Nat) × Int × Int × Unit) → World → Prop) → Prop := fun s w C2 => ∀ _ : Nat → Value, F42t.b2c Q C2 s.1 s.2.1 s.2.2.1 s.2.2.2.1 w
def F42t.l2 (Q : Value → World → Prop) : ((Option Addr × Nat × Nat) × (Nat × Nat) × Int × Int × Unit) → World → Prop := fun s w => ∃ n, loopC (F42t.b2 Q) n s w
def F42t.vc (x0A : Option Addr) (x0n x0c : Nat) (x1 : Nat × Nat) (w : World) (Q : Value → World → Prop) : Prop :=
  jnC (F42t.l2 Q) ((x0A, x0n, x0c), (x1.1, x1.2), (((x0n : Nat) : Int)), (0), ()) w
def F42t.an : Ann := ⟨[(2, [(0, .kSl), (1, .kG 35), (7, .kI .i64), (8, .kI .i64)])], []⟩
theorem F42t.eq (x0A : Option Addr) (x0n x0c : Nat) (x1 : Nat × Nat) (w : World) (Q : Value → World → Prop) : vcFn Try.prog F42t.an 42 [Value.slice x0A x0n x0c, Value.func (.func 35) #[] #[Value.pointer (some ⟨x1.1, x1.2, none⟩)]] w Q = F42t.vc x0A x0n x0c x1 w Q := by kernel_rfl
theorem F42t.of (x0A : Option Addr) (x0n x0c : Nat) (x1 : Nat × Nat) (w : World) {Q : Value → World → Prop} (h : F42t.vc x0A x0n x0c x1 w Q) : Calls Try.prog 42 #[Value.slice x0A x0n x0c, Value.func (.func 35) #[] #[Value.pointer (some ⟨x1.1, x1.2, none⟩)]] w (fun e w' => ∃ v, e = .returned v ∧ Q v w') := vcFn_sound noCount mixed ((F42t.eq x0A x0n x0c x1 w Q).symm ▸ h)
end Go.Proofs.Ytiiabhgcmgfgfaa
